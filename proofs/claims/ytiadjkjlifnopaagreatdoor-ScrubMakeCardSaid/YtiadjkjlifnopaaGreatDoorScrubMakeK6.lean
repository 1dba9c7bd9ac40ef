/- The walk of one law and the row that it ends in: whatever the arguments that can be read as data, the call returns true and leaves what was there as it was. No condition. -/
import Derived.Test.YtiadjkjlifnopaaGreatDoorScrubMakeK5
import Derived.Test.YtiadjkjlifnopaaGreatDoorScrubMakeK1
import Derived.Test.YtiadjkjlifnopaaGreatDoorScrubMakeK3
import Derived.Test.YtiadjkjlifnopaaGreatDoorScrubMakeK2
import Derived.Test.YtiadjkjlifnopaaGreatDoorScrubMakeK4
import Derived.Test.YtiadjkjlifnopaaGreatDoorRows
import Derived.ProofKit
import Derived.OpenShut
import Derived.ChangeOld
import Derived.ChangeCalls
import Derived.Deep.Slices
import Derived.LaidMore
import Derived.LaidLaws
import Derived.LaidHandle
import Derived.Stop.Joined
import Derived.Handed
import Derived.Test.YtiadjkjlifnopaaGreatDoorCards
import Derived.Test.YtiadjkjlifnopaaGreatDoorTie
import Derived.SevenTiedAt
set_option linter.unusedVariables false
set_option linter.unusedSimpArgs false
/-! Scrub: make's edit is good, and what it says. -/
namespace Go.Proofs.YtiadjkjlifnopaaGreatDoor.Tryz
open Go Go.Vc
structure GrpOk (q : PSt) (I : List GItem) : Prop where
 mem : ∀ it ∈ I, it.seg ∈ q.segs
 nodup : (gNums I).Nodup
 three : I.length = 3
 sealed : ∀ it ∈ I, it.seg.sealed = true
 bytes : ∀ it ∈ I, it.b.length ≤ 4194304
section
variable {q : PSt} {I : List GItem} {num : Nat}
theorem gPar_len (G : GrpOk q I) : (gPar I).length ≤ 4194304 := by
 show (parity _).length ≤ _
 rw [parity_length]
 exact maxOf_le _ _ (fun r hr => by obtain ⟨it, h1, rfl⟩ := List.mem_map.1 hr; exact G.bytes it h1)
theorem gAdds_mem {y : SegM} (h : y ∈ gAdds (num : Int) I) : ∃ i it, I[i]? = some it ∧ y = mkS (num : Int) i it.seg := by
 obtain ⟨i, hi⟩ := List.getElem?_of_mem h
 unfold gAdds at hi
 rw [List.getElem?_mapIdx] at hi
 cases hx : I[i]? with
 | none => rw [hx] at hi; cases hi
 | some it => rw [hx] at hi; injection hi with hi; exact ⟨i, it, hx, hi.symm⟩
theorem gNums_mem {n : Int} (G : GrpOk q I) (h : n ∈ gNums I) : ∃ it ∈ I, n = it.seg.num ∧ it.seg ∈ q.segs := by
 obtain ⟨it, h1, rfl⟩ := List.mem_map.1 h
 exact ⟨it, h1, rfl, G.mem it h1⟩
theorem mkE_ok (hok : POk q) (G : GrpOk q I) (h1 : 1 ≤ num) (h2 : num < 1000) : EditOk (mkE (num : Int) I) := by
 have h3 := G.three
 have hnl : (gNums I).length = 3 := by unfold gNums; rw [List.length_map]; exact h3
 refine ⟨⟨?_, ?_⟩, ⟨?_, ?_⟩, ?_, ?_, ?_, ?_, fun n hn => ?_, fun n hn => ?_, fun y hy => ?_, fun p hp => ?_⟩
 ·show (0 : Int) ≤ (num : Int) + 1; omega
 ·show (num : Int) + 1 ≤ 1125899906842624; omega
 ·show (0 : Int) ≤ 0; omega
 ·show (0 : Int) ≤ 1125899906842624; omega
 ·show (gAdds (num : Int) I).length ≤ 60; unfold gAdds; rw [List.length_mapIdx]; omega
 ·show (gNums I).length ≤ 60; omega
 ·show 1 ≤ 60; omega
 ·show 0 ≤ 60; omega
 ·obtain ⟨it, _, rfl, hm⟩ := gNums_mem G hn
  exact (hok.segs _ hm).1.num
 ·cases hn
 ·obtain ⟨i, it, hi, rfl⟩ := gAdds_mem hy
  have hil := (List.getElem?_eq_some_iff.1 hi).1
  have hs := (hok.segs _ (G.mem it (List.mem_of_getElem? hi))).1
  refine ⟨hs.num, ⟨?_, ?_⟩, ⟨?_, ?_⟩, hs.size⟩
  ·show (0 : Int) ≤ (num : Int); omega
  ·show (num : Int) ≤ 1125899906842624; omega
  ·show (0 : Int) ≤ (i : Int); omega
  ·show (i : Int) ≤ 3; omega
 ·have hp : p = mkP (num : Int) I := List.mem_singleton.1 hp
  subst hp
  have hpl := gPar_len G
  refine ⟨?_, ?_, ?_, fun n hn => ?_, ⟨?_, ?_⟩, ⟨?_, ?_⟩, fun n hn => ?_, G.nodup⟩
  ·show 1 ≤ (gNums I).length; omega
  ·show (gNums I).length ≤ 3; omega
  ·show (I.map (fun it : GItem => it.seg.size)).length = (gNums I).length; rw [List.length_map]; omega
  ·obtain ⟨it, _, rfl, hm⟩ := gNums_mem G hn
   exact (hok.segs _ hm).1.num
  ·show (1 : Int) ≤ (num : Int); omega
  ·show (num : Int) ≤ 1125899906842624; omega
  ·show (0 : Int) ≤ ((gPar I).length : Int); omega
  ·show ((gPar I).length : Int) ≤ 4194304; omega
  ·obtain ⟨it, h1, rfl⟩ := List.mem_map.1 hn
   exact (hok.segs _ (G.mem it h1)).1.size
theorem mkE_sums (hok : POk q) (G : GrpOk q I) : Sums (mkE (num : Int) I) := by
 refine ⟨fun y hy => ?_, fun p hp => ?_⟩
 ·obtain ⟨i, it, hi, rfl⟩ := gAdds_mem hy
  exact (hok.segs _ (G.mem it (List.mem_of_getElem? hi))).2
 ·have hp : p = mkP (num : Int) I := List.mem_singleton.1 hp
  subst hp
  exact crcN_lt _
theorem mkE_good (hok : POk q) (G : GrpOk q I) (h1 : 1 ≤ num) (h2 : num < 1000) : EdGood (mkE (num : Int) I) := edGood (mkE_ok hok G h1 h2) (mkE_sums hok G)
theorem mkE_I (hok : POk q) (G : GrpOk q I) (h1 : 1 ≤ num) (h2 : num < 1000) : EdI (mkE (num : Int) I) := by
 have h := mkE_ok hok G h1 h2
 have hs := mkE_sums (num := num) hok G
 refine ⟨⟨?_, ?_⟩, ⟨?_, ?_⟩, fun y hy => ?_, fun p hp => ?_⟩
 ·have := h.next; omega
 ·have := h.next; omega
 ·have := h.seq; omega
 ·have := h.seq; omega
 ·have h3 := h.adds1 y hy
  have h4 := hs.1 y hy
  obtain ⟨a, b, c, d⟩ := h3
  exact ⟨⟨by omega, by omega⟩, ⟨by omega, by omega⟩, ⟨by omega, by omega⟩, ⟨by omega, by omega⟩, h4⟩
 ·have h3 := h.pars1 p hp
  have h4 := hs.2 p hp
  have h5 := h3.group
  have h6 := h3.size
  exact ⟨⟨by omega, by omega⟩, ⟨by omega, by omega⟩, h4⟩
theorem applyP_of {q : PSt} {e : EditM} {first : Bool} {S1 S2 : List SegM} {Q1 Q2 : List ParM} {nx sq : Int} (hB : editB e = true) (h1 : takeK numK e.dels q.segs = some S1) (h2 : putK numK e.adds S1 = some S2) (h3 : takeK gKey e.drops q.pars = some Q1) (h4 : putK gKey e.pars Q1 = some Q2) (l1 : laterM q.next e.next = (nx, true)) (l2 : laterM q.seq e.seq = (sq, true)) (hf : finePM (sortK numK S2) (sortK gKey Q2) nx (if first then [] else e.pars) = true) : applyP q e first = some ⟨sortK numK S2, sortK gKey Q2, nx, sq⟩ := by
 unfold applyP
 simp only [hB, h1, Option.getD_some, h2, h3, h4, l1, l2, Option.map_some, Option.isSome_some, hf, Bool.and_self, if_true]
theorem mkE_apply (hok : POk q) (G : GrpOk q I) (h1 : 1 ≤ num) (h2 : num < 1000) (hq : q.next = (num : Int)) (hp : q.pars.length < 60) : applyP q (mkE (num : Int) I) false = some ⟨q.segs.map (updS (num : Int) (gNums I)), q.pars ++ [mkP (num : Int) I], (num : Int) + 1, q.seq⟩ := by
 obtain ⟨L', t1, t2, t3⟩ := segs_upd (num := (num : Int)) hok.ns hok.ss G.mem G.nodup
 have hB : editB (mkE (num : Int) I) = true := editB_ok.2 (mkE_ok hok G h1 h2)
 have hpn : ((q.pars ++ [mkP (num : Int) I]).map gKey).Nodup := by
  rw [List.map_append, List.nodup_append]
  refine ⟨hok.np, by simp, fun a ha b hb => ?_⟩
  obtain ⟨p, hp, rfl⟩ := List.mem_map.1 ha
  have := hok.belowP p hp
  have hb : b = (num : Int) := by simpa [gKey, mkP] using hb
  have h3 : gKey p = p.group := rfl
  omega
 have hps : (q.pars ++ [mkP (num : Int) I]).Pairwise fun x y => gKey x ≤ gKey y := by
  rw [List.pairwise_append]
  refine ⟨hok.sp, List.pairwise_singleton _ _, fun a ha b hb => ?_⟩
  have := hok.belowP a ha
  rw [List.mem_singleton.1 hb]
  show a.group ≤ (num : Int)
  omega
 have p1 : putK gKey [mkP (num : Int) I] q.pars = some (q.pars ++ [mkP (num : Int) I]) := putK_all hpn
 have l1 : laterM q.next ((num : Int) + 1) = ((num : Int) + 1, true) := by unfold laterM; rw [if_neg (by omega), decide_eq_true (by omega)]
 have l2 : laterM q.seq 0 = (q.seq, true) := rfl
 have hf : finePM (q.segs.map (updS (num : Int) (gNums I))) (q.pars ++ [mkP (num : Int) I]) ((num : Int) + 1) [mkP (num : Int) I] = true := by
  unfold finePM
  rw [Bool.and_eq_true, Bool.and_eq_true, Bool.and_eq_true]
  refine ⟨?_, ?_, ?_, ?_⟩
  ·rw [List.all_eq_true]
   intro p hp
   rw [List.mem_singleton.1 hp, List.all_eq_true]
   intro n hn
   obtain ⟨it, hi, rfl, hm⟩ := gNums_mem G hn
   rw [List.any_eq_true]
   refine ⟨updS (num : Int) (gNums I) it.seg, List.mem_map.2 ⟨_, hm, rfl⟩, ?_⟩
   unfold sealedAt
   rw [(updS_num _ _ it.seg).1, (updS_num _ _ it.seg).2.1, G.sealed it hi]
   simp
  ·have := hok.ls
   rw [decide_eq_true_eq, List.length_map, List.length_append, List.length_singleton]; omega
  ·rw [Bool.not_eq_true', List.any_eq_false]
   intro y hy
   obtain ⟨z, hz, rfl⟩ := List.mem_map.1 hy
   have := hok.below z hz
   rw [(updS_num _ _ z).1]
   simp; omega
  ·rw [Bool.not_eq_true', List.any_eq_false]
   intro p hp
   rcases List.mem_append.1 hp with hp | hp
   ·have := hok.belowP p hp; simp; omega
   ·rw [List.mem_singleton.1 hp]
    have : (mkP (num : Int) I).group = (num : Int) := rfl
    simp; omega
 have h := applyP_of (first := false) hB t1 t2 (show takeK gKey (mkE (num : Int) I).drops q.pars = some q.pars from rfl) p1 l1 l2 (by rw [t3, sortK_id hpn hps]; exact hf)
 rw [t3, sortK_id hpn hps] at h
 exact h
end
end Go.Proofs.YtiadjkjlifnopaaGreatDoor.Tryz
/-! Scrub: Make of files that are whole. -/
namespace Go.Proofs.YtiadjkjlifnopaaGreatDoor.Tryz
open Go Go.Vc
def goQ (itm : Int → GItem) : List (List Int) → Nat → PSt → PSt
 | [], _, q => q
 | ns :: r, num, q => goQ itm r (num + 1) ⟨q.segs.map (updS (num : Int) ns), q.pars ++ [mkP (num : Int) (ns.map itm)], (num : Int) + 1, q.seq⟩
def goF (itm : Int → GItem) : List (List Int) → Nat → List (Nm × List UInt8)
 | [], _ => []
 | ns :: r, num => (dig2 num ++ endPar, gPar (ns.map itm)) :: goF itm r (num + 1)
structure ItOk (L : List SegM) (F : List (Nm × List UInt8)) (q : PSt) (itm : Int → GItem) (k : Int) : Prop where
 ok : (itm k).ok = true
 seg : (itm k).seg = findM L k
 num : (itm k).seg.num = k
 sealed : (itm k).seg.sealed = true
 file : (fileNm (itm k).seg, (itm k).b) ∈ F
 size : (itm k).seg.size = (itm k).b.length
 sum : (itm k).seg.sum = crcN (itm k).b
 len : (itm k).b.length ≤ 300
 mem : (itm k).seg ∈ q.segs
theorem itemM_whole {s : FsM} {calls : Int} {u n : Nat} {mb : List UInt8} {q : PSt} {F : List (Nm × List UInt8)} (h : Full s calls u n mb q F) {L : List SegM} {itm : Int → GItem} {k : Int} (hi : ItOk L F q itm k) : itemM s L k = itm k := by
 have hr := h.read hi.file
 unfold itemM
 rw [← hi.seg]
 unfold readOk bytesOf
 rw [hr, hi.size, hi.sum]
 have h1 := hi.ok
 cases hit : itm k with
 | mk a b c =>
  rw [hit] at h1
  dsimp only at h1 ⊢
  simp [h1]
theorem makeAll_full (L : List SegM) (itm : Int → GItem) : ∀ (r : List (List Int)) (s : FsM) (calls : Int) (u n m : Nat) (mb : List UInt8) (q : PSt) (F : List (Nm × List UInt8)) (num : Nat) (n0 last : Int),
  Full s calls u n mb q F → q.next = (num : Int) → (∀ ns ∈ r, ns.length = 3 ∧ ∀ k ∈ ns, ItOk L F q itm k) → r.flatten.Nodup → 1 ≤ num → num + r.length ≤ 100 → q.pars.length + r.length ≤ 60 → (∀ k, num ≤ k → k < 100 → dig2 k ++ endPar ∉ F.map (·.1)) → manNm ∉ F.map (·.1) →
  u + r.length * 100400 ≤ 1048576 → n + r.length ≤ 150 → mb.length ≤ m → m + r.length * 100400 ≤ 4194304 → (∀ p ∈ F, p.2.length ≤ 4194304) → calls + 6 * r.length < 1000000000 - 100 →
  MkOk L r s q ∧ ∃ s' u' mb', mkAll L r s q n0 last = (s', goQ itm r num q, n0 + r.length, last) ∧ Full s' (calls + 6 * r.length) u' (n + r.length) mb' (goQ itm r num q) (F ++ goF itm r num) ∧ u' ≤ u + r.length * 100400 ∧ mb'.length ≤ m + r.length * 100400
 | [], s, calls, u, n, m, mb, q, F, num, n0, last, h, _, _, _, _, _, _, _, _, _, _, hm, _, _, _ => by
  refine ⟨trivial, s, u, mb, ?_, ?_, by simp, by simpa using hm⟩
  ·show (s, q, n0, last) = (s, q, n0 + ((0 : Nat) : Int), last)
   simp
  ·show Full s (calls + 6 * ((0 : Nat) : Int)) u (n + 0) mb q (F ++ [])
   simpa using h
 | ns :: r, s, calls, u, n, m, mb, q, F, num, n0, last, h, hq, hits, hnd, h1, h2, hp, hnew, hman, hu, hn, hm, hm2, hF, hc => by
  rw [List.length_cons] at h2 hp hu hn hm2 hc
  have hns := hits ns (by simp)
  have hI : ns.map (itemM s L) = ns.map itm := List.map_congr_left fun k hk => itemM_whole h (hns.2 k hk)
  rw [List.flatten_cons, List.nodup_append] at hnd
  have hgn : gNums (ns.map itm) = ns := by
   unfold gNums
   rw [List.map_map]
   have : ∀ k ∈ ns, ((fun it : GItem => it.seg.num) ∘ itm) k = id k := fun k hk => (hns.2 k hk).num
   rw [List.map_congr_left this, List.map_id]
  have G : GrpOk q (ns.map itm) := ⟨fun it hit => by obtain ⟨k, hk, rfl⟩ := List.mem_map.1 hit; exact (hns.2 k hk).mem, by rw [hgn]; exact hnd.1, by rw [List.length_map]; exact hns.1, fun it hit => by obtain ⟨k, hk, rfl⟩ := List.mem_map.1 hit; exact (hns.2 k hk).sealed, fun it hit => by obtain ⟨k, hk, rfl⟩ := List.mem_map.1 hit; have := (hns.2 k hk).len; omega⟩
  have hgl : (gPar (ns.map itm)).length ≤ 300 := by
   show (parity _).length ≤ _
   rw [parity_length]
   exact maxOf_le _ _ (fun r hr => by obtain ⟨it, h1, rfl⟩ := List.mem_map.1 hr; obtain ⟨k, hk, rfl⟩ := List.mem_map.1 h1; exact (hns.2 k hk).len)
  have hbad : badM (ns.map itm) = 0 := by
   unfold badM
   rw [List.length_eq_zero_iff, List.filter_eq_nil_iff]
   intro it hit
   obtain ⟨k, hk, rfl⟩ := List.mem_map.1 hit
   rw [(hns.2 k hk).ok]; simp
  have hg := mkE_good h.ok G h1 (show num < 1000 by omega)
  have hel := encE_len hg.ok hg.sums
  have ha := mkE_apply h.ok G h1 (show num < 1000 by omega) hq (by omega)
  have hEI := mkE_I h.ok G h1 (show num < 1000 by omega)
  obtain ⟨e1, hf⟩ := makeF_full h (num := num) (by omega) (I := ns.map itm) (hnew num (Nat.le_refl _) (by omega)) hman (by omega) hg ha (by omega)
  have hmp := parName_may num (by omega)
  rw [hgn] at ha hf
  obtain ⟨hmk, s', u', mb', k1, k2, k3, k4⟩ := makeAll_full L itm r (makeF s (num : Int) (ns.map itm)).1 (calls + 6) (u + (gPar (ns.map itm)).length + (encE (mkE (num : Int) (ns.map itm))).1.length) (n + 1) (m + 100400) _ _ _ (num + 1) (n0 + 1) last hf (by show (num : Int) + 1 = _; omega) (fun ns' hn' => ⟨(hits ns' (by simp [hn'])).1, fun k hk => by
    have hi := (hits ns' (by simp [hn'])).2 k hk
    refine ⟨hi.ok, hi.seg, hi.num, hi.sealed, List.mem_append.2 (.inl hi.file), hi.size, hi.sum, hi.len, ?_⟩
    refine List.mem_map.2 ⟨_, hi.mem, updS_out fun hm => ?_⟩
    rw [hi.num] at hm
    exact hnd.2.2 k hm k (List.mem_flatten.2 ⟨ns', hn', hk⟩) rfl⟩) hnd.2.1 (by omega) (by omega) (by show (q.pars ++ [_]).length + r.length ≤ 60; rw [List.length_append, List.length_singleton]; omega) (fun k hk hk2 hm => by
    rw [List.map_append, List.mem_append] at hm
    rcases hm with hm | hm
    ·exact hnew k (by omega) hk2 hm
    ·have hm : dig2 k ++ endPar = dig2 num ++ endPar := by simpa using hm
     have := dig2_inj (by omega) (by omega) (List.append_cancel_right hm)
     omega) (fun hm => by
    rw [List.map_append, List.mem_append] at hm
    rcases hm with hm | hm
    ·exact hman hm
    ·have hm : manNm = dig2 num ++ endPar := by simpa using hm
     exact hmp.2 hm.symm) (by omega) (by omega) (by rw [List.length_append]; omega) (by omega) (fun p hp => by
    rcases List.mem_append.1 hp with hp | hp
    ·exact hF p hp
    ·rw [List.mem_singleton.1 hp]; show (gPar (ns.map itm)).length ≤ _; omega) (by omega)
  refine ⟨⟨h.bytes (by omega) hF, by have := h.mul.calls; omega, h.ok, by omega, fun hb => ?_, fun _ => ?_⟩, s', u', mb', ?_, ?_, by rw [List.length_cons]; omega, by rw [List.length_cons]; omega⟩
  ·rw [hI] at hb; exact absurd hbad hb
  ·rw [hI, hq]
   exact ⟨hEI, _, ha, fun _ => hmk⟩
  ·rw [mkAll_cons, hI, hq, if_neg (by simpa using hbad), if_neg (by simpa using e1), ha]
   show mkAll L r _ _ (n0 + 1) last = _
   rw [Option.getD_some, k1, List.length_cons]
   show (s', _, _, last) = (s', _, _, last)
   rw [show n0 + ((r.length + 1 : Nat) : Int) = n0 + 1 + r.length from by omega]
   rfl
  ·rw [List.length_cons, show calls + 6 * ((r.length + 1 : Nat) : Int) = calls + 6 + 6 * r.length from by omega, show n + (r.length + 1) = n + 1 + r.length from by omega]
   have h9 := k2
   rw [List.append_assoc] at h9
   exact h9
end Go.Proofs.YtiadjkjlifnopaaGreatDoor.Tryz
/-! Scrub: Make of what Made has made. -/
namespace Go.Proofs.YtiadjkjlifnopaaGreatDoor.Tryz
open Go Go.Vc
theorem findM_get {L : List SegM} (hn : (L.map numK).Nodup) {y : SegM} (h : y ∈ L) : findM L y.num = y := by
 unfold findM
 cases hf : L.find? fun s => decide (s.num = y.num) with
 | none => have := List.find?_eq_none.1 hf y h; simp at this
 | some z =>
  have h1 := List.mem_of_find?_eq_some hf
  have h2 : z.num = y.num := by simpa using List.find?_some hf
  show z = y
  have hp := List.pairwise_map.1 hn
  obtain ⟨i, hi⟩ := List.getElem?_of_mem h1
  obtain ⟨j, hj⟩ := List.getElem?_of_mem h
  have hij : i = j := by
   have a1 := (List.getElem?_eq_some_iff.1 hi).1
   have a2 := (List.getElem?_eq_some_iff.1 hj).1
   refine (List.getElem_inj (h₀ := by rw [List.length_map]; exact a1) (h₁ := by rw [List.length_map]; exact a2) hn).1 ?_
   rw [List.getElem_map, List.getElem_map, (List.getElem?_eq_some_iff.1 hi).2, (List.getElem?_eq_some_iff.1 hj).2]
   exact h2
  subst hij
  rw [hi] at hj; injection hj
theorem chunk3_flat : ∀ (n : Nat) (l : List Int), l.length ≤ n → (chunk3 l).flatten.Sublist l
 | 0, l, h => by
  rw [chunk3_end (by omega)]; exact List.nil_sublist _
 | n + 1, l, h => by
  by_cases hl : 3 ≤ l.length
  ·rw [chunk3_step hl, List.flatten_cons]
   have h1 := chunk3_flat n (l.drop 3) (by rw [List.length_drop]; omega)
   have h2 := List.Sublist.append (List.Sublist.refl (l.take 3)) h1
   rwa [List.take_append_drop] at h2
  ·rw [chunk3_end hl]; exact List.nil_sublist _
theorem freeN_nodup {L : List SegM} (hn : (L.map numK).Nodup) : (freeN L).Nodup := by
 unfold freeN
 exact ((List.filter_sublist (p := fun s => s.sealed && decide (s.group = 0)) (l := L)).map numK).nodup hn
theorem groups_flat {L : List SegM} (hn : (L.map numK).Nodup) : (groupsM L).flatten.Nodup := by
 have hp : (sortI (freeN L)).Perm (freeN L) := List.mergeSort_perm _ _
 exact (chunk3_flat _ _ (Nat.le_refl _)).nodup (hp.nodup_iff.2 (freeN_nodup hn))
theorem groups_mem {L : List SegM} {ns : List Int} {k : Int} (h : ns ∈ groupsM L) (hk : k ∈ ns) : ∃ y ∈ L, y.num = k ∧ y.sealed = true ∧ y.group = 0 := by
 have h1 := (chunk3_flat _ (sortI (freeN L)) (Nat.le_refl _)).mem (List.mem_flatten.2 ⟨ns, h, hk⟩)
 have hp : (sortI (freeN L)).Perm (freeN L) := List.mergeSort_perm _ _
 have h2 := hp.mem_iff.1 h1
 obtain ⟨y, hy, rfl⟩ := List.mem_map.1 h2
 rw [List.mem_filter, Bool.and_eq_true, decide_eq_true_eq] at hy
 exact ⟨y, hy.1, rfl, hy.2.1, hy.2.2⟩
theorem groups_len (L : List SegM) : 3 * (groupsM L).length ≤ L.length := by
 have h1 := chunk3_len _ (sortI (freeN L)) (Nat.le_refl _)
 have h2 : (sortI (freeN L)).length = (freeN L).length := List.length_mergeSort _
 have h3 : (freeN L).length ≤ L.length := by unfold freeN; rw [List.length_map]; exact List.length_filter_le _ _
 unfold groupsM
 omega
theorem par_other (i k : Nat) (sl : Bool) (hi : i < 12) (hk : k < 100) : dig2 (i + 1) ++ (if sl = true then endSeg else endRaw) ≠ dig2 k ++ endPar := by
 have key : ∀ (i : Fin 12) (sl : Bool) (k : Fin 100), dig2 (i.val + 1) ++ (if sl = true then endSeg else endRaw) ≠ dig2 k.val ++ endPar := by decide +kernel
 exact key ⟨i, hi⟩ sl ⟨k, hk⟩
def madeI (B : List (List UInt8)) (G : List Bool) (k : Int) : GItem := ⟨findM (scSegs B G) k, (B[(k - 1).toNat]?).getD [], true⟩
theorem made_item {B : List (List UInt8)} {G : List Bool} (hl : B.length ≤ 12) (hb : ∀ b ∈ B, b.length ≤ 300) {ns : List Int} {k : Int} (h : ns ∈ groupsM (scSegs B G)) (hk : k ∈ ns) : ItOk (scSegs B G) (scF B G) ⟨scSegs B G, [], 50, 1⟩ (madeI B G) k := by
 obtain ⟨y, hy, hyk, hys, hyg⟩ := groups_mem h hk
 have hnd : ((scSegs B G).map numK).Nodup := by rw [scSegs_num]; exact range_nodup _
 have hf := findM_get hnd hy
 rw [hyk] at hf
 obtain ⟨i, hi⟩ := List.getElem?_of_mem hy
 obtain ⟨b, hB, rfl⟩ := scSegs_get hi
 have hki : (k - 1).toNat = i := by rw [← hyk]; show ((i : Int) + 1 - 1).toNat = i; omega
 have e : madeI B G k = ⟨scSeg i b (slOf G i), b, true⟩ := by unfold madeI; rw [hf, hki, hB]; rfl
 refine ⟨by rw [e], rfl, ?_, ?_, ?_, ?_, ?_, ?_, ?_⟩ <;> rw [e]
 ·exact hyk
 ·exact hys
 ·exact List.mem_of_getElem? (show (scF B G)[i]? = _ by unfold scF; rw [List.getElem?_mapIdx, hB]; rfl)
 ·rfl
 ·rfl
 ·exact hb b (List.mem_of_getElem? hB)
 ·exact hy
theorem made_make {B : List (List UInt8)} {G : List Bool} (hl : B.length ≤ 12) (hb : ∀ b ∈ B, b.length ≤ 300) {s : FsM} {u : Nat} {mb : List UInt8} (h : Full s (8 + 3 * (B.length : Int)) u (1 + B.length) mb ⟨scSegs B G, [], 50, 1⟩ (scF B G)) (hu : u ≤ 110000) (hm : mb.length ≤ 110000) :
  MkOk (scSegs B G) (groupsM (scSegs B G)) s ⟨scSegs B G, [], 50, 1⟩ ∧ ∃ s' u' mb', mkAll (scSegs B G) (groupsM (scSegs B G)) s ⟨scSegs B G, [], 50, 1⟩ 0 0 = (s', goQ (madeI B G) (groupsM (scSegs B G)) 50 ⟨scSegs B G, [], 50, 1⟩, ((groupsM (scSegs B G)).length : Int), 0) ∧ Full s' (8 + 3 * (B.length : Int) + 6 * (groupsM (scSegs B G)).length) u' (1 + B.length + (groupsM (scSegs B G)).length) mb' (goQ (madeI B G) (groupsM (scSegs B G)) 50 ⟨scSegs B G, [], 50, 1⟩) (scF B G ++ goF (madeI B G) (groupsM (scSegs B G)) 50) ∧ u' ≤ 550000 ∧ mb'.length ≤ 550000 := by
 have hgl := groups_len (scSegs B G)
 rw [scSegs_len] at hgl
 have hnd : ((scSegs B G).map numK).Nodup := by rw [scSegs_num]; exact range_nodup _
 obtain ⟨h1, s', u', mb', h2, h3, h4, h5⟩ := makeAll_full (scSegs B G) (madeI B G) (groupsM (scSegs B G)) s _ u _ 110000 mb _ _ 50 0 0 h rfl (fun ns hns => ⟨chunk3_three _ _ (Nat.le_refl _) ns hns, fun k hk => made_item hl hb hns hk⟩) (groups_flat hnd) (by omega) (by omega) (by show 0 + _ ≤ 60; omega) (fun k hk1 hk2 hm => by
   obtain ⟨p, hp, he⟩ := List.mem_map.1 hm
   obtain ⟨j, hj⟩ := List.getElem?_of_mem hp
   have hji := (List.getElem?_eq_some_iff.1 hj).1
   rw [scF_len] at hji
   obtain ⟨b', _, rfl⟩ := scF_get hj
   dsimp only at he
   rw [scNm] at he
   exact par_other j k _ (by omega) hk2 he) (scF_man hl) (by omega) (by omega) hm (by omega) (fun p hp => by
   obtain ⟨j, hj⟩ := List.getElem?_of_mem hp
   obtain ⟨b', hb', rfl⟩ := scF_get hj
   have := hb b' (List.mem_of_getElem? hb')
   show b'.length ≤ _; omega) (by omega)
 refine ⟨h1, s', u', mb', ?_, h3, by omega, by omega⟩
 rw [h2, Int.zero_add]
end Go.Proofs.YtiadjkjlifnopaaGreatDoor.Tryz
/-! Scrub: where nothing is spoilt; no groups are left. -/
namespace Go.Proofs.YtiadjkjlifnopaaGreatDoor.Tryz
open Go Go.Vc
def WholeS (F : List (Nm × List UInt8)) (S : List SegM) : Prop := ∀ y ∈ S, ∃ b, (fileNm y, b) ∈ F ∧ y.size = b.length ∧ y.sum = crcN b
def WholeP (F : List (Nm × List UInt8)) (Q : List ParM) : Prop := ∀ y ∈ Q, ∃ b, (parNm y, b) ∈ F ∧ y.size = b.length ∧ y.sum = crcN b
theorem updS_file (num : Int) (ns : List Int) (y : SegM) : fileNm (updS num ns y) = fileNm y := by
 unfold fileNm
 rw [(updS_num num ns y).1, (updS_num num ns y).2.1]
theorem goQ_segs (itm : Int → GItem) {F : List (Nm × List UInt8)} : ∀ (r : List (List Int)) (num : Nat) (q : PSt), WholeS F q.segs → WholeS F (goQ itm r num q).segs
 | [], _, q, h => h
 | ns :: r, num, q, h => goQ_segs itm r (num + 1) _ (fun y hy => by
  obtain ⟨z, hz, rfl⟩ := List.mem_map.1 hy
  obtain ⟨b, h1, h2, h3⟩ := h z hz
  exact ⟨b, by rw [updS_file]; exact h1, by rw [(updS_num _ _ z).2.2.1]; exact h2, by rw [(updS_num _ _ z).2.2.2]; exact h3⟩)
theorem goQ_pars (itm : Int → GItem) {F : List (Nm × List UInt8)} : ∀ (r : List (List Int)) (num : Nat) (q : PSt), WholeP F q.pars → (∀ p ∈ goF itm r num, p ∈ F) → WholeP F (goQ itm r num q).pars
 | [], _, q, h, _ => h
 | ns :: r, num, q, h, hF => goQ_pars itm r (num + 1) _ (fun y hy => by
  rcases List.mem_append.1 hy with hy | hy
  ·exact h y hy
  ·rw [List.mem_singleton.1 hy]
   exact ⟨gPar (ns.map itm), hF _ (by show (dig2 ((num : Int)).toNat ++ endPar, _) ∈ (dig2 num ++ endPar, gPar (ns.map itm)) :: _; rw [Int.toNat_natCast]; simp), rfl, rfl⟩) (fun p hp => hF p (by show p ∈ _ :: _; simp [hp]))
theorem goQ_pars_len (itm : Int → GItem) : ∀ (r : List (List Int)) (num : Nat) (q : PSt), (goQ itm r num q).pars.length = q.pars.length + r.length
 | [], _, q => rfl
 | ns :: r, num, q => by
  rw [goQ, goQ_pars_len itm r, List.length_append, List.length_singleton, List.length_cons]; omega
theorem look_none {s : FsM} {calls : Int} {u n : Nat} {mb : List UInt8} {q : PSt} {F : List (Nm × List UInt8)} (h : Full s calls u n mb q F) (hS : WholeS F q.segs) (hP : WholeP F q.pars) : lookS s q.segs = [] ∧ lookP s q.pars = [] := by
 refine ⟨?_, ?_⟩
 ·unfold lookS
  rw [List.map_eq_nil_iff, List.filter_eq_nil_iff]
  intro y hy
  obtain ⟨b, h1, h2, h3⟩ := hS y hy
  unfold readOk
  rw [show readM s (fileNm y) = some b from h.read h1, h2, h3]
  simp
 ·unfold lookP
  rw [List.map_eq_nil_iff, List.filter_eq_nil_iff]
  intro y hy
  obtain ⟨b, h1, h2, h3⟩ := hP y hy
  unfold readOk
  rw [show readM s (parNm y) = some b from h.read h1, h2, h3]
  simp
theorem scSegs_whole (B : List (List UInt8)) (G : List Bool) : WholeS (scF B G) (scSegs B G) := fun y hy => by
 obtain ⟨i, hi⟩ := List.getElem?_of_mem hy
 obtain ⟨b, hB, rfl⟩ := scSegs_get hi
 exact ⟨b, List.mem_of_getElem? (show (scF B G)[i]? = _ by unfold scF; rw [List.getElem?_mapIdx, hB]; rfl), rfl, rfl⟩
theorem free_upd {S : List SegM} {num : Nat} (h1 : 1 ≤ num) (ns : List Int) : freeN (S.map (updS (num : Int) ns)) = (freeN S).filter fun k => !decide (k ∈ ns) := by
 unfold freeN
 induction S with
 | nil => rfl
 | cons y S ih =>
  rw [List.map_cons, List.filter_cons, List.filter_cons]
  by_cases hy : y.num ∈ ns
  ·have hz : (updS (num : Int) ns y).group = (num : Int) := by
    unfold updS
    cases hf : ns.findIdx? (fun n => decide (n = y.num)) with
    | none => have := List.findIdx?_eq_none_iff.1 hf _ hy; simp at this
    | some i => rfl
   rw [if_neg (by rw [hz, Bool.and_eq_true, decide_eq_true_eq]; omega), ih]
   split
   ·rw [List.map_cons, List.filter_cons, if_neg (by simp [hy])]
   ·rfl
  ·rw [updS_out hy]
   split
   ·rw [List.map_cons, List.map_cons, List.filter_cons, if_pos (by simp [hy]), ih]
   ·exact ih
theorem goQ_free (itm : Int → GItem) : ∀ (r : List (List Int)) (num : Nat) (q : PSt), 1 ≤ num → freeN (goQ itm r num q).segs = (freeN q.segs).filter fun k => !decide (k ∈ r.flatten)
 | [], _, q, _ => by
  show freeN q.segs = _
  rw [List.filter_eq_self.2 (fun k _ => by simp)]
 | ns :: r, num, q, h => by
  rw [goQ, goQ_free itm r (num + 1) _ (by omega)]
  show (freeN (q.segs.map _)).filter _ = _
  rw [free_upd h, List.filter_filter]
  congr 1
  funext k
  rw [List.flatten_cons]
  by_cases h1 : k ∈ ns <;> by_cases h2 : k ∈ r.flatten <;> simp [h1, h2, List.mem_append]
theorem chunk3_rest : ∀ (n : Nat) (l : List Int), l.length ≤ n → ∃ t, l = (chunk3 l).flatten ++ t ∧ t.length < 3
 | 0, l, h => ⟨l, by rw [chunk3_end (by omega)]; rfl, by omega⟩
 | n + 1, l, h => by
  by_cases hl : 3 ≤ l.length
  ·obtain ⟨t, h1, h2⟩ := chunk3_rest n (l.drop 3) (by rw [List.length_drop]; omega)
   refine ⟨t, ?_, h2⟩
   rw [chunk3_step hl, List.flatten_cons, List.append_assoc, ← h1, List.take_append_drop]
  ·exact ⟨l, by rw [chunk3_end hl]; rfl, by omega⟩
theorem groups_done (itm : Int → GItem) {q : PSt} (hn : (q.segs.map numK).Nodup) {num : Nat} (h : 1 ≤ num) : groupsM (goQ itm (groupsM q.segs) num q).segs = [] := by
 have hp : (sortI (freeN q.segs)).Perm (freeN q.segs) := List.mergeSort_perm _ _
 obtain ⟨t, h1, h2⟩ := chunk3_rest _ (sortI (freeN q.segs)) (Nat.le_refl _)
 have hf := goQ_free itm (groupsM q.segs) num q h
 have hnd : (sortI (freeN q.segs)).Nodup := hp.nodup_iff.2 (freeN_nodup hn)
 have h3 : ((freeN q.segs).filter fun k => !decide (k ∈ (groupsM q.segs).flatten)).length = t.length := by
  rw [← (hp.filter _).length_eq]
  show ((sortI (freeN q.segs)).filter fun k => !decide (k ∈ (chunk3 (sortI (freeN q.segs))).flatten)).length = _
  generalize (chunk3 (sortI (freeN q.segs))).flatten = f at h1 ⊢
  rw [h1] at hnd ⊢
  rw [List.nodup_append] at hnd
  rw [List.filter_append, List.length_append, List.filter_eq_nil_iff.2 (fun k hk => by simp [hk]), List.filter_eq_self.2 (fun k hk => by
   have : k ∉ f := fun hm => hnd.2.2 k hm k hk rfl
   simp [this])]
  simp
 unfold groupsM
 refine chunk3_end ?_
 have h4 : (sortI (freeN (goQ itm (groupsM q.segs) num q).segs)).length = (freeN (goQ itm (groupsM q.segs) num q).segs).length := List.length_mergeSort _
 unfold groupsM at h4 hf h3
 rw [h4, hf, h3]
 omega
end Go.Proofs.YtiadjkjlifnopaaGreatDoor.Tryz
/-! Scrub: begun. -/
namespace Go.Proofs.YtiadjkjlifnopaaGreatDoor.Tryz
open Go Go.Vc
theorem pok_pars {st : StM} (h : POk st.plain) : ∀ q ∈ st.pars, q.1.p.nums.length ≤ 1000000 ∧ q.1.p.sizes.length ≤ 1000000 := fun q hq => by
 have h1 := (h.pars q.1.p (List.mem_map.2 ⟨q, hq, rfl⟩)).1
 have h2 := h1.len3
 have h3 := h1.lens
 omega
theorem goQ_next (itm : Int → GItem) : ∀ (r : List (List Int)) (num : Nat) (q : PSt), q.next = (num : Int) → (goQ itm r num q).next = (num : Int) + r.length
 | [], num, q, h => by show q.next = _; rw [h]; simp
 | ns :: r, num, q, h => by
  rw [goQ, goQ_next itm r (num + 1) _ (by show (num : Int) + 1 = _; omega), List.length_cons]; omega
theorem goF_len (itm : Int → GItem) : ∀ (r : List (List Int)) (num : Nat), (∀ ns ∈ r, ∀ k ∈ ns, (itm k).b.length ≤ 300) → ∀ p ∈ goF itm r num, p.2.length ≤ 300
 | [], _, _, p, hp => by cases hp
 | ns :: r, num, h, p, hp => by
  rcases List.mem_cons.1 (show p ∈ _ :: _ from hp) with hp | hp
  ·rw [hp]
   show (parity _).length ≤ _
   rw [parity_length]
   exact maxOf_le _ _ (fun b hb => by obtain ⟨it, h1, rfl⟩ := List.mem_map.1 hb; obtain ⟨k, hk, rfl⟩ := List.mem_map.1 h1; exact h ns (by simp) k hk)
  ·exact goF_len itm r (num + 1) (fun ns' hn => h ns' (by simp [hn])) p hp
theorem madeI_len {B : List (List UInt8)} {G : List Bool} (hb : ∀ b ∈ B, b.length ≤ 300) (k : Int) : (madeI B G k).b.length ≤ 300 := by
 show ((B[(k - 1).toNat]?).getD []).length ≤ 300
 cases h : B[(k - 1).toNat]? with
 | none => exact Nat.zero_le _
 | some b => exact hb b (List.mem_of_getElem? h)
theorem made_bytes {B : List (List UInt8)} {G : List Bool} (hb : ∀ b ∈ B, b.length ≤ 300) (r : List (List Int)) (num : Nat) : ∀ p ∈ scF B G ++ goF (madeI B G) r num, p.2.length ≤ 4194304 := fun p hp => by
 rcases List.mem_append.1 hp with hp | hp
 ·obtain ⟨j, hj⟩ := List.getElem?_of_mem hp
  obtain ⟨b', hb', rfl⟩ := scF_get hj
  have := hb b' (List.mem_of_getElem? hb')
  show b'.length ≤ _; omega
 ·have := goF_len _ r num (fun _ _ k _ => madeI_len hb k) p hp; omega
def B23 : List (List UInt8) := [[1], [2, 3], [4]]
theorem grp23 : (groupsM (scSegs B23 [])).length = 1 := by
 have h : (sortI (freeN (scSegs B23 []))).length = 3 := (List.length_mergeSort _).trans rfl
 unfold groupsM
 generalize sortI (freeN (scSegs B23 [])) = l at *
 rw [chunk3_step (by omega), chunk3_end (by rw [List.length_drop]; omega)]
 rfl
set_option maxHeartbeats 4000000 in
theorem begun23_has (w : World) : Has Tryz.prog 10 #[] w (fun v w' => Chg [] w w' ∧ v = .bool true) := by
 refine enter Tryz.func10 rfl rfl (by decide) rfl (e := []) trivial ?_
 refine run ?_
 refine go T 7 rfl ?_
 refine o1 rfl ?_
 refine op_buildSlice T rfl rfl rfl rfl rfl rfl rfl (fun g1 w1 hs1 hc1 h1 => ?_)
 have h1 : Blk w1 g1 5 (u8s [1]) := h1
 refine o1 rfl ?_
 refine op_buildSlice T rfl rfl rfl rfl rfl rfl rfl (fun g2 w2 hs2 hc2 h2 => ?_)
 have h2 : Blk w2 g2 5 (u8s [2, 3]) := h2
 refine o1 rfl ?_
 refine op_buildSlice T rfl rfl rfl rfl rfl rfl rfl (fun g3 w3 hs3 hc3 h3 => ?_)
 have h3 : Blk w3 g3 5 (u8s [4]) := h3
 refine o1 rfl ?_
 refine op_buildSlice T rfl rfl rfl rfl rfl rfl rfl (fun g4 w4 hs4 hc4 h4 => ?_)
 have h4 : Blk w4 g4 51 [.slice (some ⟨g1, 0, none⟩) 1 1, .slice (some ⟨g2, 0, none⟩) 2 2, .slice (some ⟨g3, 0, none⟩) 1 1] := h4
 have r1 : SliceOf Ru8 w4 (.slice (some ⟨g1, 0, none⟩) 1 1) [1] := (Own.mk (((h1.keep0 hc2).keep0 hc3).keep0 hc4) (Nat.le_refl _) (by decide) rfl rfl : Own w4 5 1 _ [(1 : UInt8)].length (u8s [1])).bytes
 have r2 : SliceOf Ru8 w4 (.slice (some ⟨g2, 0, none⟩) 2 2) [2, 3] := (Own.mk ((h2.keep0 hc3).keep0 hc4) (Nat.le_refl _) (by decide) rfl rfl : Own w4 5 1 _ [(2 : UInt8), 3].length (u8s [2, 3])).bytes
 have r3 : SliceOf Ru8 w4 (.slice (some ⟨g3, 0, none⟩) 1 1) [4] := (Own.mk (h3.keep0 hc4) (Nat.le_refl _) (by decide) rfl rfl : Own w4 5 1 _ [(4 : UInt8)].length (u8s [4])).bytes
 have hf : SliceOf (SliceOf Ru8) w4 (.slice (some ⟨g4, 0, none⟩) 3 3) B23 := (Own.mk h4 (Nat.le_refl _) (by decide) rfl rfl : Own w4 51 1 (.slice (some ⟨g4, 0, none⟩) 3 3) 3 [.slice (some ⟨g1, 0, none⟩) 1 1, .slice (some ⟨g2, 0, none⟩) 2 2, .slice (some ⟨g3, 0, none⟩) 1 1]).reads rfl (fun i x u hx hu => by
  match i, hx, hu with
  | 0, hx, hu => injection hx with hx; injection hu with hu; subst hx; subst hu; exact r1
  | 1, hx, hu => injection hx with hx; injection hu with hu; subst hx; subst hu; exact r2
  | 2, hx, hu => injection hx with hx; injection hu with hu; subst hx; subst hu; exact r3
  | i + 3, hx, hu => simp [B23] at hx)
 have hc04 := ((hc1.trans' hc2).trans' hc3).trans' hc4
 refine o1 rfl ?_
 refine op_call rfl rfl rfl (made_has _ 3 3 B23 none 0 0 [] w4 hf (SliceOf.nil _ _)) ?_
 rintro _ w5 ⟨g, gm, vo, s, p, st, u, mb, rfl, x, hst, hF, hu, hmb, _⟩
 rw [show filesB B23 = B23 from rfl] at hst hF
 have hc05 := hc04.trans' x.fs.chg
 obtain ⟨hmk, s', u', mb', hall, hF', hu', hmb'⟩ := made_make (B := B23) (by decide) (by decide) hF hu hmb
 have hseg : st.segs = scSegs B23 [] := congrArg PSt.segs hst
 have hnx : st.next = 50 := congrArg PSt.next hst
 have hfb : ∀ p ∈ scF B23 [], p.2.length ≤ 4194304 := fun p hp => by
  obtain ⟨j, hj⟩ := List.getElem?_of_mem hp
  obtain ⟨b', hb', rfl⟩ := scF_get hj
  have : ∀ b ∈ B23, b.length ≤ 4194304 := by decide
  exact this _ (List.mem_of_getElem? hb')
 unfold ptrV
 refine go T 23 rfl ?_
 refine o1 rfl ?_
 refine op_call rfl rfl rfl (makeAll_has x (by rw [hst]; exact hF.ok) (by omega) (by rw [hst, hseg]; exact hmk) (hF.bytes (by omega) hfb) (fun y hy => ?_)) ?_
 ·rw [hseg] at hy
  obtain ⟨h1, h2, h3, h4, h5⟩ := scSeg_mem (B := B23) (by decide) (by decide) hy
  exact ⟨by omega, by omega, by omega, by omega⟩
 rintro _ w6 ⟨hc6, s6, q6, n6, e6, p6, st6, cl6, hall6, rfl, hg6, hst6, hcl6, x6⟩
 rw [hst, hseg, hall] at hall6
 injection hall6 with a1 a2
 injection a2 with a2 a3
 injection a3 with a3 a4
 subst a1; subst a2; subst a3; subst a4
 obtain rfl := hcl6 rfl
 have hok6 : POk st6.plain := by rw [hst6]; exact hF'.ok
 have hsg6 : st6.segs = (goQ (madeI B23 []) (groupsM (scSegs B23 [])) 50 ⟨scSegs B23 [], [], 50, 1⟩).segs := congrArg PSt.segs hst6
 have hwS := goQ_segs (madeI B23 []) (F := scF B23 [] ++ goF (madeI B23 []) (groupsM (scSegs B23 [])) 50) (groupsM (scSegs B23 [])) 50 ⟨scSegs B23 [], [], 50, 1⟩ (fun y hy => by obtain ⟨b, h1, h2⟩ := scSegs_whole B23 [] y hy; exact ⟨b, List.mem_append.2 (.inl h1), h2⟩)
 have hwP := goQ_pars (madeI B23 []) (F := scF B23 [] ++ goF (madeI B23 []) (groupsM (scSegs B23 [])) 50) (groupsM (scSegs B23 [])) 50 ⟨scSegs B23 [], [], 50, 1⟩ (fun y hy => by cases hy) (fun p hp => List.mem_append.2 (.inr hp))
 obtain ⟨hl1, hl2⟩ := look_none hF' hwS hwP
 have hnd : ((scSegs B23 []).map numK).Nodup := by rw [scSegs_num]; exact range_nodup _
 have hgd := groups_done (madeI B23 []) (q := ⟨scSegs B23 [], [], 50, 1⟩) hnd (num := 50) (by decide)
 have hpl := goQ_pars_len (madeI B23 []) (groupsM (scSegs B23 [])) 50 ⟨scSegs B23 [], [], 50, 1⟩
 rw [grp23] at hpl
 have hnx6 : st6.next ≤ 100 := by
  have h7 := congrArg PSt.next hst6
  rw [goQ_next _ _ _ _ rfl, grp23] at h7
  have h8 : st6.plain.next = st6.next := rfl
  omega
 have hby := hF'.bytes (by omega) (made_bytes (by decide) _ _)
 have hc06 : Chg [] w w6 := hc05.trans hc6 (fun k hk hlt => by
  have hz := hc04.size
  rcases List.mem_cons.1 hk with hk | hk
  ·have := x.fresh; omega
  ·have := x.fs.fresh k hk; omega)
 rw [grp23]
 rw [← hst6] at hl2 hpl
 rw [← hsg6] at hl1
 have hgd6 : groupsM st6.segs = [] := by rw [hsg6]; exact hgd
 clear hgd hwS hwP hall hmk hF
 refine go T 11 rfl ?_
 refine o1 rfl ?_
 refine op_call rfl rfl rfl (look_has x6 hok6 hnx6 hby (pok_pars hok6)) ?_
 rintro _ w7 ⟨hc7, us, up, rfl, hus, hup, _, _⟩
 rw [hl1] at hus
 rw [hl2] at hup
 change Own w7 2 1 us 0 [] at hus
 change Own w7 2 1 up 0 [] at hup
 obtain ⟨Au, cu, rfl, _, _⟩ := hus.form
 obtain ⟨Ap, cp, rfl, _, _⟩ := hup.form
 have x7 := x6.keep0 hc7
 have hlen6 := hok6.ls
 have hlen7 := hok6.lp
 have hplen : st6.pars.length = 1 := by
  have h8 : st6.plain.pars.length = st6.pars.length := List.length_map _
  rw [← h8]; exact hpl
 refine go T 10 rfl ?_
 refine eqT rfl rfl rfl rfl (by omega) ?_
 refine go T 2 rfl ?_
 refine eqT rfl rfl rfl rfl (by omega) ?_
 refine go T 4 rfl ?_
 refine eqT rfl rfl rfl rfl (by omega) ?_
 refine go T 4 rfl ?_
 refine eqT rfl rfl rfl rfl (by omega) ?_
 refine go T 3 rfl ?_
 refine o1 rfl ?_
 refine op_call rfl rfl rfl (parsO_has x7 (by omega) (pok_pars hok6)) ?_
 rintro v8 w8 ⟨hc8, _, X, hX, hO, _⟩
 have hXl : X.length = 1 := by
  have h9 := congrArg List.length hX
  rw [List.length_map] at h9
  rw [h9]; exact hpl
 rw [hXl] at hO
 obtain ⟨Aq, cq, rfl, _, _⟩ := hO.form
 have x8 := x7.keep0 hc8
 refine go T 1 rfl ?_
 refine eqT rfl rfl rfl rfl (by omega) ?_
 refine go T 3 rfl ?_
 refine o1 rfl ?_
 refine op_call rfl rfl rfl (segsO_has x8 (Nat.le_trans (show st6.segs.length ≤ 60 from hlen6) (by decide))) ?_
 rintro v9 w9 ⟨hc9, hO9, _⟩
 have hS9 := hO9.readsK segL_len
 obtain ⟨As, cs, rfl, _, _⟩ := hS9.form
 refine o1 rfl ?_
 refine op_call rfl rfl rfl (groups_has As _ cs st6.segs w9 hS9 (Nat.le_trans (show st6.segs.length ≤ 60 from hlen6) (by decide)) (fun y hy => by have := (hok6.segs y hy).1.num; omega)) ?_
 rintro v10 w10 ⟨hc10, hG, _⟩
 rw [hgd6] at hG
 obtain ⟨Ag, cg, hv10, _, _⟩ := hG.reads.form
 have hv10 : v10 = .slice Ag 0 cg := hv10
 subst hv10
 refine go T 1 rfl ?_
 refine eqT rfl rfl rfl rfl (by omega) ?_
 refine go T 5 rfl ?_
 exact post1 (.inl rfl) rfl rfl ⟨(((hc06.trans' hc7).trans' hc8).trans' hc9).trans' hc10, rfl⟩
end Go.Proofs.YtiadjkjlifnopaaGreatDoor.Tryz
/-! Scrub: Repair where nothing is spoilt. -/
namespace Go.Proofs.YtiadjkjlifnopaaGreatDoor.Tryz
open Go Go.Vc
end Go.Proofs.YtiadjkjlifnopaaGreatDoor.Tryz
/-! Scrub: groups by threes, in plain words. -/
namespace Go.Vc
open Go
end Go.Vc
/-! Scrub: the law ScrubClean. -/
namespace Go.Vc
open Go
end Go.Vc
namespace Go.Proofs.YtiadjkjlifnopaaGreatDoor.Tryz
open Go Go.Vc
end Go.Proofs.YtiadjkjlifnopaaGreatDoor.Tryz
/-! What lasts behind a crash, in plain words. -/
namespace Go.Vc
open Go
theorem looks_doM {d : Dir} (hr : Rising d) (c : ChM) {k : Nm} (h1 : c.name ≠ k) (h2 : c.to ≠ k) : looks (doM d c) k = looks d k ∧ Rising (doM d c) := by
 unfold doM
 split
 ·split
  ·exact ⟨by rw [looks_ins hr, if_neg (Ne.symm h1)], ins_rising hr _ _⟩
  ·exact ⟨rfl, hr⟩
 ·split
  ·split
   ·exact ⟨by rw [looks_ins (del_rising hr _), if_neg (Ne.symm h2), looks_del, if_neg (Ne.symm h1)], ins_rising (del_rising hr _) _ _⟩
   ·exact ⟨by rw [looks_del, if_neg (Ne.symm h1)], del_rising hr _⟩
  ·exact ⟨by rw [looks_del, if_neg (Ne.symm h1)], del_rising hr _⟩
theorem looks_foldM {k : Nm} : ∀ (cs : List ChM) {d : Dir}, Rising d → (∀ c ∈ cs, c.name ≠ k ∧ c.to ≠ k) → looks (cs.foldl doM d) k = looks d k ∧ Rising (cs.foldl doM d)
 | [], d, hr, _ => ⟨rfl, hr⟩
 | c :: cs, d, hr, h => by
  have h1 := looks_doM hr c (h c (by simp)).1 (h c (by simp)).2
  have h2 := looks_foldM cs h1.2 (fun c' hc => h c' (by simp [hc]))
  exact ⟨h2.1.trans h1.1, h2.2⟩
theorem looks_mapIdx (f : Nat → Nm × Nat → Nat) : ∀ (d : Dir) (n : Nat) {k : Nm} {i : Nat}, looks d k = some i → ∃ j, d[j]? = some (k, i) ∧ looks (d.mapIdx fun a p => (p.1, f (n + a) p)) k = some (f (n + j) (k, i))
 | [], n, k, i, h => by cases h
 | (k', i') :: d, n, k, i, h => by
  unfold looks at h
  rw [List.mapIdx_cons]
  unfold looks
  by_cases hk : k' = k
  ·rw [if_pos hk] at h
   injection h with h
   subst hk; subst h
   exact ⟨0, rfl, by simp⟩
  ·rw [if_neg hk] at h
   obtain ⟨j, h1, h2⟩ := looks_mapIdx f d (n + 1) h
   refine ⟨j + 1, by simpa using h1, ?_⟩
   dsimp only
   rw [if_neg hk]
   rw [show n + (j + 1) = n + 1 + j from by omega, ← h2]
   congr 2
   funext a p
   rw [show n + 1 + a = n + (a + 1) from by omega]
theorem crash_keep {s : FsM} {nm : Nm} {b : List UInt8} {sy : Nat} (h : Keep s nm b sy) (hr : Rising s.lasts) (n : Int) (tails : List Int) : ∃ t, readM (crashM s n tails) nm = some (b.take (sy + t)) := by
 obtain ⟨i, h1, h2, h3, h4⟩ := h
 have hd : looks (crashDir s n) nm = some i := by
  unfold crashDir
  rw [(looks_foldM _ hr (fun c hc => h3 c (List.mem_of_mem_take hc))).1]
  exact h2
 obtain ⟨j, h5, h6⟩ := looks_mapIdx (fun a _ => a) (crashDir s n) 0 hd
 simp only [Nat.zero_add] at h6
 refine ⟨(match tails[j]? with | some t => min (max t 0).toNat (b.length - sy) | none => 0), ?_⟩
 unfold readM
 show (looks ((crashDir s n).mapIdx fun j p => (p.1, j)) nm).bind (fun i => ((crashFiles s (crashDir s n) tails)[i]?).map (·.b)) = _
 rw [h6]
 show ((crashFiles s (crashDir s n) tails)[j]?).map (·.b) = _
 unfold crashFiles
 rw [List.getElem?_mapIdx, h5]
 show some (cutM ((s.files[i]?).getD ⟨[], 0⟩) tails j).b = _
 rw [h4]
 rfl
theorem crash_whole {s : FsM} {nm : Nm} {b : List UInt8} (h : Keep s nm b b.length) (hr : Rising s.lasts) (n : Int) (tails : List Int) : readM (crashM s n tails) nm = some b := by
 obtain ⟨t, ht⟩ := crash_keep h hr n tails
 rw [ht, List.take_of_length_le (by omega)]
end Go.Vc
/-! Scrub: what Make leaves, in plain words. -/
namespace Go.Proofs.YtiadjkjlifnopaaGreatDoor.Tryz
open Go Go.Vc
theorem goQ_pars_eq (itm : Int → GItem) : ∀ (r : List (List Int)) (num : Nat) (q : PSt), (goQ itm r num q).pars = q.pars ++ r.mapIdx fun i ns => mkP ((num + i : Nat) : Int) (ns.map itm)
 | [], num, q => by simp [goQ]
 | ns :: r, num, q => by
  rw [goQ, goQ_pars_eq itm r (num + 1) _, List.mapIdx_cons, List.append_assoc]
  congr 1
  show _ :: _ = _
  congr 1
  show List.mapIdx _ r = _
  apply List.ext_getElem?
  intro i
  rw [List.getElem?_mapIdx, List.getElem?_mapIdx, show num + 1 + i = num + (i + 1) from by omega]
theorem goF_get (itm : Int → GItem) : ∀ (r : List (List Int)) (num : Nat) {i : Nat} {ns : List Int}, r[i]? = some ns → (dig2 (num + i) ++ endPar, gPar (ns.map itm)) ∈ goF itm r num
 | [], num, i, ns, h => by simp at h
 | ms :: r, num, 0, ns, h => by
  injection h with h; subst h
  exact List.mem_cons_self
 | ms :: r, num, i + 1, ns, h => by
  have h1 := goF_get itm r (num + 1) (show r[i]? = some ns from h)
  rw [show num + 1 + i = num + (i + 1) from by omega] at h1
  exact List.mem_cons_of_mem _ h1
def GrpFit (n : Nat) (y : SegM) : Prop := y.group = 0 ∨ (0 < n ∧ 50 ≤ y.group ∧ 0 ≤ y.member ∧ y.member ≤ 2)
theorem goQ_fit (itm : Int → GItem) : ∀ (r : List (List Int)) (num n : Nat) (q : PSt), 50 ≤ num → (∀ ns ∈ r, ns.length = 3) → (r ≠ [] → 0 < n) → (∀ y ∈ q.segs, GrpFit n y) → ∀ y ∈ (goQ itm r num q).segs, GrpFit n y
 | [], num, n, q, _, _, _, h => h
 | ns :: r, num, n, q, hnum, h3, hn, h => by
  rw [goQ]
  refine goQ_fit itm r (num + 1) n _ (by omega) (fun ms hm => h3 ms (by simp [hm])) (fun _ => hn (by simp)) (fun y hy => ?_)
  obtain ⟨z, hz, rfl⟩ := List.mem_map.1 hy
  unfold updS
  cases hf : ns.findIdx? (fun n => decide (n = z.num)) with
  | none => exact h z hz
  | some i =>
   obtain ⟨hi, _⟩ := List.findIdx?_eq_some_iff_getElem.1 hf
   have := h3 ns (by simp)
   exact .inr ⟨hn (by simp), by show (50 : Int) ≤ (num : Int); omega, by show (0 : Int) ≤ (i : Int); omega, by show (i : Int) ≤ 2; omega⟩
theorem made_nums {B : List (List UInt8)} {G : List Bool} (hl : B.length ≤ 12) (hb : ∀ b ∈ B, b.length ≤ 300) {ns : List Int} (h : ns ∈ groupsM (scSegs B G)) : gNums (ns.map (madeI B G)) = ns := by
 unfold gNums
 rw [List.map_map]
 have : ∀ (l : List Int), (∀ k ∈ l, k ∈ ns) → l.map ((·.seg.num) ∘ madeI B G) = l := fun l => by
  induction l with
  | nil => intro _; rfl
  | cons a l ih =>
   intro hm
   rw [List.map_cons, ih (fun k hk => hm k (by simp [hk]))]
   congr 1
   exact (made_item hl hb h (hm a (by simp))).num
 exact this ns (fun k hk => hk)
theorem made_at {B : List (List UInt8)} {G : List Bool} {ns : List Int} {k : Int} (h : ns ∈ groupsM (scSegs B G)) (hk : k ∈ ns) : 1 ≤ k ∧ (k - 1).toNat < B.length ∧ ∀ b, B[(k - 1).toNat]? = some b → (madeI B G k).b = b := by
 obtain ⟨y, hy, rfl, _, _⟩ := groups_mem h hk
 obtain ⟨i, hi⟩ := List.getElem?_of_mem hy
 obtain ⟨b, hB, rfl⟩ := scSegs_get hi
 have hki : (((i : Int) + 1) - 1).toNat = i := by omega
 refine ⟨by show (1 : Int) ≤ (i : Int) + 1; omega, ?_, fun b' hb' => ?_⟩
 ·show (((i : Int) + 1) - 1).toNat < _
  rw [hki]; exact (List.getElem?_eq_some_iff.1 hB).1
 ·show (B[(((i : Int) + 1) - 1).toNat]?).getD [] = b'
  have hb'' : B[(((i : Int) + 1) - 1).toNat]? = some b' := hb'
  rw [hb'']; rfl
end Go.Proofs.YtiadjkjlifnopaaGreatDoor.Tryz
/-! The references' comparisons, of rows that read alike. -/
namespace Go.Proofs.YtiadjkjlifnopaaGreatDoor.Tryz
open Go Go.Vc
set_option maxHeartbeats 4000000 in
theorem eqNums_has (A : Option Addr) (n c : Nat) (B : Option Addr) (m d : Nat) (L : List Int) (w : World) (hl : SliceOf Ri64 w (.slice A n c) L) (hm : SliceOf Ri64 w (.slice B m d) L) :
  Has Tryz.prog 73 #[.slice A n c, .slice B m d] w (fun v w' => Chg [] w w' ∧ v = .bool true) := by
 obtain ⟨rfl, hl1, hl2⟩ := hl.len
 obtain ⟨rfl, hm1, hm2⟩ := hm.len
 unfold maxLen at hl2
 refine enter Tryz.func73 rfl rfl (by decide) rfl (e := [(0, .slice A L.length c), (1, .slice B L.length d)]) ⟨rfl, rfl, trivial⟩ ?_
 refine run ?_
 refine go T 12 rfl ?_
 refine neF rfl rfl rfl rfl (by omega) ?_
 refine go T 12 rfl ?_
 refine W_loop (σ := Nat) (fun i => [(0, .slice A L.length c), (1, .slice B L.length d), (5, .int .i64 (i : Int))])
  (fun i w' => i ≤ L.length ∧ Chg [] w w') (fun i => L.length - i) 0 ⟨rfl, rfl, rfl, trivial⟩ ⟨Nat.zero_le _, Chg.refl _ _⟩ ?_
 rintro i w1 ⟨hi, hc1⟩
 refine run ?_
 refine go T 6 rfl ?_
 refine ltS rfl rfl rfl rfl (fun hcmp => ?_) (fun hcmp => ?_)
 ·have hlt : i < L.length := by omega
  have hx := List.getElem?_eq_getElem hlt
  obtain ⟨ad, u, rfl, hu, hr, _⟩ := (SliceOf.kept Ri64.kept _ _ _ _ hc1 hl).get hx
  obtain ⟨ad2, u2, rfl, hu2, hr2, _⟩ := (SliceOf.kept Ri64.kept _ _ _ _ hc1 hm).get hx
  generalize L[i] = z at *
  subst hr
  subst hr2
  refine go T 8 rfl ?_
  refine W_walk 8 [] fol (by kernel_rfl) (by kernel_rfl) ?_
  refine Walk.plain rfl (by intro val w_ hR hp; exact op_move rfl rfl ⟨Chg.refl _ _, rfl⟩) ?_; dsimp only [na1, na2]
  refine Walk.plain rfl (by intro val w_ hR hp; exact op_move rfl rfl ⟨Chg.refl _ _, rfl⟩) ?_; dsimp only [na1, na2]
  refine Walk.plain rfl (by intro val w_ hR hp; exact op_index_nat T rfl rfl rfl rfl rfl rfl (by omega) ⟨Chg.refl _ _, rfl⟩) ?_; dsimp only [na1, na2]
  refine Walk.plain rfl (by intro val w_ hR hp; exact op_load T rfl rfl rfl rfl (hR.cell0 (by assumption)) ⟨Chg.refl _ _, rfl⟩) ?_; dsimp only [na1, na2]
  refine Walk.plain rfl (by intro val w_ hR hp; exact op_move rfl rfl ⟨Chg.refl _ _, rfl⟩) ?_; dsimp only [na1, na2]
  refine Walk.plain rfl (by intro val w_ hR hp; exact op_move rfl rfl ⟨Chg.refl _ _, rfl⟩) ?_; dsimp only [na1, na2]
  refine Walk.plain rfl (by intro val w_ hR hp; exact op_index_nat T rfl rfl rfl rfl rfl rfl (by omega) ⟨Chg.refl _ _, rfl⟩) ?_; dsimp only [na1, na2]
  refine Walk.plain rfl (by intro val w_ hR hp; exact op_load T rfl rfl rfl rfl (hR.cell0 (by assumption)) ⟨Chg.refl _ _, rfl⟩) ?_; dsimp only [na1, na2]
  skip
  refine Walk.fin ?_
  intro val w2 hc2 hp
  clear hp
  replace hc1 := hc1.trans' hc2
  replace hu := hc2.cell0 hu
  replace hu2 := hc2.cell0 hu2
  refine runL ?_
  refine neF rfl rfl rfl rfl (by omega) ?_
  refine go T 8 rfl ?_
  refine adI rfl rfl rfl rfl (by omega) (by omega) ?_
  refine go T 2 rfl ?_
  exact Round_n (i + 1) ⟨rfl, rfl, rfl, trivial⟩ ⟨by omega, hc1⟩ (by omega)
 ·refine go T 5 rfl ?_
  refine rndX ?_
  refine go T 8 rfl ?_
  exact post1 (.inl rfl) rfl rfl ⟨hc1, rfl⟩
set_option maxHeartbeats 4000000 in
theorem eqSegs_has (A : Option Addr) (n c : Nat) (B : Option Addr) (m d : Nat) (L : List SegM) (w : World) (hl : SliceK 6 (RdL segL) w (.slice A n c) L) (hm : SliceK 6 (RdL segL) w (.slice B m d) L) :
  Has Tryz.prog 33 #[.slice A n c, .slice B m d] w (fun v w' => Chg [] w w' ∧ v = .bool true) := by
 obtain ⟨rfl, hl1, hl2⟩ := hl.len
 obtain ⟨rfl, hm1, hm2⟩ := hm.len
 unfold maxLen at hl2
 refine enter Tryz.func33 rfl rfl (by decide) rfl (e := [(0, .slice A L.length c), (1, .slice B L.length d)]) ⟨rfl, rfl, trivial⟩ ?_
 refine run ?_
 refine go T 12 rfl ?_
 refine neF rfl rfl rfl rfl (by omega) ?_
 refine go T 12 rfl ?_
 refine W_loop (σ := Nat) (fun i => [(0, .slice A L.length c), (1, .slice B L.length d), (5, .int .i64 (i : Int))])
  (fun i w' => i ≤ L.length ∧ Chg [] w w') (fun i => L.length - i) 0 ⟨rfl, rfl, rfl, trivial⟩ ⟨Nat.zero_le _, Chg.refl _ _⟩ ?_
 rintro i w1 ⟨hi, hc1⟩
 refine run ?_
 refine go T 6 rfl ?_
 refine ltS rfl rfl rfl rfl (fun hcmp => ?_) (fun hcmp => ?_)
 ·have hlt : i < L.length := by omega
  have hx := List.getElem?_eq_getElem hlt
  obtain ⟨ad, rfl, he⟩ := (hl.keepR hc1).at hx
  obtain ⟨ad2, rfl, he2⟩ := (hm.keepR hc1).at hx
  generalize L[i] = z at *
  refine go T 8 rfl ?_
  refine H.W_walkc 12 [10, 11] (fun c => c - 2) (pairG 26 6) (fun w' => Chg [] w1 w') (pairJ 26 (segL z) (segL z)) fol (by kernel_rfl) (by kernel_rfl) (by kernel_rfl) (by kernel_rfl) (fun us a b h hc => pairJ_firm us a b h hc) (fun a b h hc => h.trans' hc) (Chg.refl _ _) trivial ?_
  refine H.Walk.plain (v := .slice (some ad) L.length c) (by rfl) rfl (by intro val us w_ hh; exact op_move rfl rfl ⟨Chg.refl _ _, rfl⟩) ?_; dsimp only [na1, na2]
  refine H.Walk.plain (v := .int .i64 (i : Int)) (by rfl) rfl (by intro val us w_ hh; exact op_move rfl rfl ⟨Chg.refl _ _, rfl⟩) ?_; dsimp only [na1, na2]
  refine H.Walk.plain (v := .pointer (some (ad.add (i * 6)))) (by rfl) rfl (by intro val us w_ hh; exact op_indexK T rfl rfl rfl rfl rfl (by omega) ⟨Chg.refl _ _, rfl⟩) ?_; dsimp only [na1, na2]
  refine H.Walk.plain (v := .agg (segL z).toArray) (by rfl) rfl (by intro val us w_ hh; exact op_loadE T (he.keep0 hh.base) rfl rfl rfl rfl rfl ⟨Chg.refl _ _, rfl⟩) ?_; dsimp only [na1, na2]
  refine H.Walk.plain (v := .slice (some ad2) L.length d) (by rfl) rfl (by intro val us w_ hh; exact op_move rfl rfl ⟨Chg.refl _ _, rfl⟩) ?_; dsimp only [na1, na2]
  refine H.Walk.plain (v := .int .i64 (i : Int)) (by rfl) rfl (by intro val us w_ hh; exact op_move rfl rfl ⟨Chg.refl _ _, rfl⟩) ?_; dsimp only [na1, na2]
  refine H.Walk.plain (v := .pointer (some (ad2.add (i * 6)))) (by rfl) rfl (by intro val us w_ hh; exact op_indexK T rfl rfl rfl rfl rfl (by omega) ⟨Chg.refl _ _, rfl⟩) ?_; dsimp only [na1, na2]
  refine H.Walk.plain (v := .agg (segL z).toArray) (by rfl) rfl (by intro val us w_ hh; exact op_loadE T (he2.keep0 hh.base) rfl rfl rfl rfl rfl ⟨Chg.refl _ _, rfl⟩) ?_; dsimp only [na1, na2]
  refine H.Walk.rel (by rfl) (pairR w1.heap.size 26 6) rfl (fun v a b h hab => pairR_steady v a b h hab) ?_ ?_
  ·intro val us w_ hh
   exact op_alloc T rfl rfl (fun g w9 hs9 hc9 hg => ⟨hc9, g, rfl, by have := hh.base.size; have hs9 : w_.heap.size ≤ g := hs9; omega, _, by rfl, hg⟩)
  dsimp only [List.nil_append, List.cons_append]
  refine H.Walk.rel (by rfl) (pairR w1.heap.size 26 6) rfl (fun v a b h hab => pairR_steady v a b h hab) ?_ ?_
  ·intro val us w_ hh
   exact op_alloc T rfl rfl (fun g w9 hs9 hc9 hg => ⟨hc9, g, rfl, by have := hh.base.size; have hs9 : w_.heap.size ≤ g := hs9; omega, _, by rfl, hg⟩)
  dsimp only [List.nil_append, List.cons_append]
  refine H.Walk.turn (k := 0) (by rfl) rfl ?_ ?_
  ·intro val us w_ hh
   have h1 := hh.self (k := 0) rfl
   obtain rfl := lst0 (show us.length = 0 by omega)
   obtain ⟨g, hg1, hg2, cs, hg3, hg4⟩ : pairR w1.heap.size 26 6 (val 8) w_ := hh.hp 8 rfl _ rfl
   refine op_store_agg T rfl (congrArg some hg1) rfl rfl rfl rfl hg4 (by rw [hg3]; exact Nat.le_of_ble_eq_true rfl) (fun w9 hc9 hn9 _ => ?_)
   replace hn9 : Blk w9 g 26 (segL z) := by
    have : (segL z) ++ cs.drop 6 = segL z := by rw [List.drop_of_length_le (by omega), List.append_nil]
    exact this ▸ hn9
   have hz := hh.base.size
   exact ⟨pairG_store rfl hc9 hn9, hh.base.trans hc9 (fun k hk hlt => by simp at hk; omega), g, hg1, hn9⟩
  dsimp only [List.nil_append, List.cons_append]
  refine H.Walk.turn (k := 1) (by rfl) rfl ?_ ?_
  ·intro val us w_ hh
   have h1 := hh.self (k := 1) rfl
   have h2 := hh.lt (k := 0) (c := 10) rfl rfl
   obtain ⟨a, rfl⟩ := lst1 (show us.length = 1 by omega)
   obtain ⟨g, hg1, hg2, cs, hg3, hg4⟩ : pairR w1.heap.size 26 6 (val 9) w_ := hh.hp 9 rfl _ rfl
   refine op_store_agg T rfl (congrArg some hg1) rfl rfl rfl rfl hg4 (by rw [hg3]; exact Nat.le_of_ble_eq_true rfl) (fun w9 hc9 hn9 _ => ?_)
   replace hn9 : Blk w9 g 26 (segL z) := by
    have : (segL z) ++ cs.drop 6 = segL z := by rw [List.drop_of_length_le (by omega), List.append_nil]
    exact this ▸ hn9
   have hz := hh.base.size
   refine ⟨pairG_store rfl hc9 hn9, hh.base.trans hc9 (fun k hk hlt => by simp at hk; omega), ?_⟩
   show pairJ _ _ _ [a, val 9] w9
   rw [hg1]
   exact pairJ_second hh.inv hc9 hn9
  dsimp only [List.nil_append, List.cons_append]
  refine H.Walk.fin (H.endC ?_)
  intro val us w2 hB2 hJ2 hl2' hv2 _
  obtain ⟨a, b, rfl⟩ := lst2 hl2'
  obtain ⟨g6, g7, rfl, rfl, h6, h7⟩ := hJ2
  have h6 : Blk w2 g6 26 (segL z) := h6.elim id id
  have hv8 : val 8 = .pointer (some ⟨g6, 0, none⟩) := hv2 0 10 _ rfl rfl
  have hv9 : val 9 = .pointer (some ⟨g7, 0, none⟩) := hv2 1 11 _ rfl rfl
  refine WL_sub (e' := [(0, .slice (some ad) L.length c), (1, .slice (some ad2) L.length d), (5, .int .i64 (i : Int)), (6, .pointer (some ⟨g6, 0, none⟩)), (7, .pointer (some ⟨g7, 0, none⟩))]) ⟨rfl, rfl, rfl, congrArg some hv8, congrArg some hv9, trivial⟩ ?_
  clear he he2
  unfold segL at h6 h7
  refine runL ?_
  refine go T 5 rfl ?_
  refine ldB T h6 rfl rfl rfl rfl rfl rfl ?_
  refine go T 1 rfl ?_
  refine ldB T h7 rfl rfl rfl rfl rfl rfl ?_
  refine neF rfl rfl rfl rfl (by omega) ?_
  refine go T 2 rfl ?_
  refine ldB T h6 rfl rfl rfl rfl rfl rfl ?_
  refine go T 1 rfl ?_
  refine ldB T h7 rfl rfl rfl rfl rfl rfl ?_
  refine o1 rfl ?_
  refine op_neq_bools (a := z.sealed) (b := z.sealed) T rfl rfl rfl rfl ?_
  rw [show (!(z.sealed == z.sealed)) = false from by cases z.sealed <;> rfl]
  refine go T 3 rfl ?_
  refine ldB T h6 rfl rfl rfl rfl rfl rfl ?_
  refine go T 1 rfl ?_
  refine ldB T h7 rfl rfl rfl rfl rfl rfl ?_
  refine neF rfl rfl rfl rfl (by omega) ?_
  refine go T 3 rfl ?_
  refine ldB T h6 rfl rfl rfl rfl rfl rfl ?_
  refine go T 1 rfl ?_
  refine ldB T h7 rfl rfl rfl rfl rfl rfl ?_
  refine neF rfl rfl rfl rfl (by omega) ?_
  refine go T 3 rfl ?_
  refine ldB T h6 rfl rfl rfl rfl rfl rfl ?_
  refine go T 1 rfl ?_
  refine ldB T h7 rfl rfl rfl rfl rfl rfl ?_
  refine neF rfl rfl rfl rfl (by omega) ?_
  refine go T 3 rfl ?_
  refine ldB T h6 rfl rfl rfl rfl rfl rfl ?_
  refine go T 1 rfl ?_
  refine ldB T h7 rfl rfl rfl rfl rfl rfl ?_
  refine neF rfl rfl rfl rfl (by omega) ?_
  refine go T 9 rfl ?_
  refine adI rfl rfl rfl rfl (by omega) (by omega) ?_
  refine go T 2 rfl ?_
  exact Round_n (i + 1) ⟨rfl, rfl, rfl, trivial⟩ ⟨by omega, hc1.trans' hB2⟩ (by omega)
 ·refine go T 5 rfl ?_
  refine rndX ?_
  refine go T 8 rfl ?_
  exact post1 (.inl rfl) rfl rfl ⟨hc1, rfl⟩
set_option maxHeartbeats 8000000 in
theorem eqPars_has (A : Option Addr) (n c : Nat) (B : Option Addr) (m d : Nat) (L M : List ParS) (w : World) (hl : SliceK 5 (RdL parSL) w (.slice A n c) L) (hm : SliceK 5 (RdL parSL) w (.slice B m d) M) (hp : L.map (·.1.p) = M.map (·.1.p)) (hlr : ∀ q ∈ L, PRd w q.1) (hmr : ∀ q ∈ M, PRd w q.1) :
  Has Tryz.prog 32 #[.slice A n c, .slice B m d] w (fun v w' => Chg [] w w' ∧ v = .bool true) := by
 obtain ⟨rfl, hl1, hl2⟩ := hl.len
 obtain ⟨rfl, hm1, hm2⟩ := hm.len
 unfold maxLen at hl2
 have hLM : L.length = M.length := by have := congrArg List.length hp; rwa [List.length_map, List.length_map] at this
 refine enter Tryz.func32 rfl rfl (by decide) rfl (e := [(0, .slice A L.length c), (1, .slice B M.length d)]) ⟨rfl, rfl, trivial⟩ ?_
 refine run ?_
 refine go T 12 rfl ?_
 refine neF rfl rfl rfl rfl (by omega) ?_
 refine go T 12 rfl ?_
 refine W_loop (σ := Nat) (fun i => [(0, .slice A L.length c), (1, .slice B M.length d), (5, .int .i64 (i : Int))])
  (fun i w' => i ≤ L.length ∧ Chg [] w w') (fun i => L.length - i) 0 ⟨rfl, rfl, rfl, trivial⟩ ⟨Nat.zero_le _, Chg.refl _ _⟩ ?_
 rintro i w1 ⟨hi, hc1⟩
 refine run ?_
 refine go T 6 rfl ?_
 refine ltS rfl rfl rfl rfl (fun hcmp => ?_) (fun hcmp => ?_)
 ·have hlt : i < L.length := by omega
  have hlt2 : i < M.length := by omega
  have hx := List.getElem?_eq_getElem hlt
  have hy := List.getElem?_eq_getElem hlt2
  have hxy : L[i].1.p = M[i].1.p := by
   have h1 := congrArg (fun l => l[i]?) hp
   rw [List.getElem?_map, List.getElem?_map, hx, hy] at h1
   injection h1
  have hxr := (hlr _ (List.getElem_mem hlt)).keep0 hc1
  have hyr := (hmr _ (List.getElem_mem hlt2)).keep0 hc1
  obtain ⟨ad, rfl, he⟩ := (hl.keepR hc1).at hx
  obtain ⟨ad2, rfl, he2⟩ := (hm.keepR hc1).at hy
  generalize L[i] = x at *
  generalize M[i] = y at *
  have hax : ((parL x.1).all (fun u => u.oneCell')) = true := List.all_eq_true.2 (parS_one x)
  have hay : ((parL y.1).all (fun u => u.oneCell')) = true := List.all_eq_true.2 (parS_one y)
  refine go T 8 rfl ?_
  refine H.W_walkc 12 [10, 11] (fun c => c - 2) (pairG 70 5) (fun w' => Chg [] w1 w') (pairJ 70 (parL x.1) (parL y.1)) fol (by kernel_rfl) (by kernel_rfl) (by kernel_rfl) (by kernel_rfl) (fun us a b h hc => pairJ_firm us a b h hc) (fun a b h hc => h.trans' hc) (Chg.refl _ _) trivial ?_
  refine H.Walk.plain (v := .slice (some ad) L.length c) (by rfl) rfl (by intro val us w_ hh; exact op_move rfl rfl ⟨Chg.refl _ _, rfl⟩) ?_; dsimp only [na1, na2]
  refine H.Walk.plain (v := .int .i64 (i : Int)) (by rfl) rfl (by intro val us w_ hh; exact op_move rfl rfl ⟨Chg.refl _ _, rfl⟩) ?_; dsimp only [na1, na2]
  refine H.Walk.plain (v := .pointer (some (ad.add (i * 5)))) (by rfl) rfl (by intro val us w_ hh; exact op_indexK T rfl rfl rfl rfl rfl (by omega) ⟨Chg.refl _ _, rfl⟩) ?_; dsimp only [na1, na2]
  refine H.Walk.plain (v := .agg (parL x.1).toArray) (by rfl) rfl (by intro val us w_ hh; exact op_loadE T (he.keep0 hh.base) rfl rfl rfl rfl rfl ⟨Chg.refl _ _, rfl⟩) ?_; dsimp only [na1, na2]
  refine H.Walk.plain (v := .slice (some ad2) M.length d) (by rfl) rfl (by intro val us w_ hh; exact op_move rfl rfl ⟨Chg.refl _ _, rfl⟩) ?_; dsimp only [na1, na2]
  refine H.Walk.plain (v := .int .i64 (i : Int)) (by rfl) rfl (by intro val us w_ hh; exact op_move rfl rfl ⟨Chg.refl _ _, rfl⟩) ?_; dsimp only [na1, na2]
  refine H.Walk.plain (v := .pointer (some (ad2.add (i * 5)))) (by rfl) rfl (by intro val us w_ hh; exact op_indexK T rfl rfl rfl rfl rfl (by omega) ⟨Chg.refl _ _, rfl⟩) ?_; dsimp only [na1, na2]
  refine H.Walk.plain (v := .agg (parL y.1).toArray) (by rfl) rfl (by intro val us w_ hh; exact op_loadE T (he2.keep0 hh.base) rfl rfl rfl rfl rfl ⟨Chg.refl _ _, rfl⟩) ?_; dsimp only [na1, na2]
  refine H.Walk.rel (by rfl) (pairR w1.heap.size 70 5) rfl (fun v a b h hab => pairR_steady v a b h hab) ?_ ?_
  ·intro val us w_ hh
   exact op_alloc T rfl rfl (fun g w9 hs9 hc9 hg => ⟨hc9, g, rfl, by have := hh.base.size; have hs9 : w_.heap.size ≤ g := hs9; omega, _, by rfl, hg⟩)
  dsimp only [List.nil_append, List.cons_append]
  refine H.Walk.rel (by rfl) (pairR w1.heap.size 70 5) rfl (fun v a b h hab => pairR_steady v a b h hab) ?_ ?_
  ·intro val us w_ hh
   exact op_alloc T rfl rfl (fun g w9 hs9 hc9 hg => ⟨hc9, g, rfl, by have := hh.base.size; have hs9 : w_.heap.size ≤ g := hs9; omega, _, by rfl, hg⟩)
  dsimp only [List.nil_append, List.cons_append]
  refine H.Walk.turn (k := 0) (by rfl) rfl ?_ ?_
  ·intro val us w_ hh
   have h1 := hh.self (k := 0) rfl
   obtain rfl := lst0 (show us.length = 0 by omega)
   obtain ⟨g, hg1, hg2, cs, hg3, hg4⟩ : pairR w1.heap.size 70 5 (val 8) w_ := hh.hp 8 rfl _ rfl
   refine op_store_agg T rfl (congrArg some hg1) rfl rfl rfl hax hg4 (by rw [hg3]; exact Nat.le_of_ble_eq_true rfl) (fun w9 hc9 hn9 _ => ?_)
   replace hn9 : Blk w9 g 70 (parL x.1) := by
    have : (parL x.1) ++ cs.drop 5 = parL x.1 := by rw [List.drop_of_length_le (by omega), List.append_nil]
    exact this ▸ hn9
   have hz := hh.base.size
   exact ⟨pairG_store rfl hc9 hn9, hh.base.trans hc9 (fun k hk hlt => by simp at hk; omega), g, hg1, hn9⟩
  dsimp only [List.nil_append, List.cons_append]
  refine H.Walk.turn (k := 1) (by rfl) rfl ?_ ?_
  ·intro val us w_ hh
   have h1 := hh.self (k := 1) rfl
   have h2 := hh.lt (k := 0) (c := 10) rfl rfl
   obtain ⟨a, rfl⟩ := lst1 (show us.length = 1 by omega)
   obtain ⟨g, hg1, hg2, cs, hg3, hg4⟩ : pairR w1.heap.size 70 5 (val 9) w_ := hh.hp 9 rfl _ rfl
   refine op_store_agg T rfl (congrArg some hg1) rfl rfl rfl hay hg4 (by rw [hg3]; exact Nat.le_of_ble_eq_true rfl) (fun w9 hc9 hn9 _ => ?_)
   replace hn9 : Blk w9 g 70 (parL y.1) := by
    have : (parL y.1) ++ cs.drop 5 = parL y.1 := by rw [List.drop_of_length_le (by omega), List.append_nil]
    exact this ▸ hn9
   have hz := hh.base.size
   refine ⟨pairG_store rfl hc9 hn9, hh.base.trans hc9 (fun k hk hlt => by simp at hk; omega), ?_⟩
   show pairJ _ _ _ [a, val 9] w9
   rw [hg1]
   exact pairJ_second hh.inv hc9 hn9
  dsimp only [List.nil_append, List.cons_append]
  refine H.Walk.fin (H.endC ?_)
  intro val us w2 hB2 hJ2 hl2' hv2 _
  obtain ⟨a, b, rfl⟩ := lst2 hl2'
  obtain ⟨g6, g7, rfl, rfl, h6, h7⟩ := hJ2
  have hv8 : val 8 = .pointer (some ⟨g6, 0, none⟩) := hv2 0 10 _ rfl rfl
  have hv9 : val 9 = .pointer (some ⟨g7, 0, none⟩) := hv2 1 11 _ rfl rfl
  have hex : ∃ q : ParV, q.p = y.1.p ∧ PRd w2 q ∧ Blk w2 g6 70 (parL q) := by
   rcases h6 with h | h
   ·exact ⟨x.1, hxy, hxr.keep0 hB2, h⟩
   ·exact ⟨y.1, rfl, hyr.keep0 hB2, h⟩
  replace hyr := hyr.keep0 hB2
  refine WL_sub (e' := [(0, .slice (some ad) L.length c), (1, .slice (some ad2) M.length d), (5, .int .i64 (i : Int)), (6, .pointer (some ⟨g6, 0, none⟩)), (7, .pointer (some ⟨g7, 0, none⟩))]) ⟨rfl, rfl, rfl, congrArg some hv8, congrArg some hv9, trivial⟩ ?_
  clear he he2 h6 hxr hax hay hx hy
  obtain ⟨q, hqp, hqr, h6⟩ := hex
  generalize y.1 = y at *
  clear hxy
  obtain ⟨P, vn, vz⟩ := q
  obtain ⟨P', un, uz⟩ := y
  dsimp only at hqp
  subst hqp
  obtain ⟨gr, Ns, Zs, sz, sm⟩ := P
  obtain ⟨hqn, hqz⟩ := hqr
  obtain ⟨hyn, hyz⟩ := hyr
  dsimp only at hqn hqz hyn hyz
  obtain ⟨An, cn, rfl, _, _⟩ := hqn.form
  obtain ⟨Bn, dn, rfl, _, _⟩ := hyn.form
  obtain ⟨Az, cz, rfl, _, hmz⟩ := hqz.form
  obtain ⟨Bz, dz, rfl, _, _⟩ := hyz.form
  unfold maxLen at hmz
  unfold parL at h6 h7
  dsimp only at h6 h7
  refine runL ?_
  refine go T 6 rfl ?_
  refine ldB T h6 rfl rfl rfl rfl rfl rfl ?_
  refine go T 1 rfl ?_
  refine ldB T h7 rfl rfl rfl rfl rfl rfl ?_
  refine neF rfl rfl rfl rfl (by omega) ?_
  refine go T 2 rfl ?_
  refine ldB T h6 rfl rfl rfl rfl rfl rfl ?_
  refine go T 1 rfl ?_
  refine ldB T h7 rfl rfl rfl rfl rfl rfl ?_
  refine neF rfl rfl rfl rfl (by omega) ?_
  refine go T 3 rfl ?_
  refine ldB T h6 rfl rfl rfl rfl rfl rfl ?_
  refine go T 1 rfl ?_
  refine ldB T h7 rfl rfl rfl rfl rfl rfl ?_
  refine neF rfl rfl rfl rfl (by omega) ?_
  refine go T 3 rfl ?_
  refine ldB T h6 rfl rfl rfl rfl rfl rfl ?_
  refine go T 1 rfl ?_
  refine ldB T h7 rfl rfl rfl rfl rfl rfl ?_
  refine o1 rfl ?_
  refine op_call rfl rfl rfl (eqNums_has An _ cn Bn _ dn Ns w2 hqn hyn) ?_
  rintro _ w3 ⟨hc3, rfl⟩
  replace hB2 := hB2.trans' hc3
  replace hqn := SliceOf.kept Ri64.kept _ _ _ _ hc3 hqn
  replace hyn := SliceOf.kept Ri64.kept _ _ _ _ hc3 hyn
  replace hqz := SliceOf.kept Ri64.kept _ _ _ _ hc3 hqz
  replace h6 := h6.keep0 hc3
  replace hyz := SliceOf.kept Ri64.kept _ _ _ _ hc3 hyz
  replace h7 := h7.keep0 hc3
  refine go T 4 rfl ?_
  refine ldB T h6 rfl rfl rfl rfl rfl rfl ?_
  refine go T 2 rfl ?_
  refine ldB T h7 rfl rfl rfl rfl rfl rfl ?_
  refine go T 1 rfl ?_
  refine neF rfl rfl rfl rfl (by omega) ?_
  refine go T 12 rfl ?_
  refine W_loop (σ := Nat) (fun k => [(0, .slice (some ad) L.length c), (1, .slice (some ad2) M.length d), (5, .int .i64 (i : Int)), (6, .pointer (some ⟨g6, 0, none⟩)), (7, .pointer (some ⟨g7, 0, none⟩)), (8, .int .i64 (k : Int))])
   (fun k w' => k ≤ Zs.length ∧ Chg [] w3 w') (fun k => Zs.length - k) 0 ⟨rfl, rfl, rfl, rfl, rfl, rfl, trivial⟩ ⟨Nat.zero_le _, Chg.refl _ _⟩ ?_
  rintro k w4 ⟨hk, hc4⟩
  have h64 := h6.keep0 hc4
  have h74 := h7.keep0 hc4
  refine run ?_
  refine go T 5 rfl ?_
  refine ldB T h64 rfl rfl rfl rfl rfl rfl ?_
  refine go T 1 rfl ?_
  refine ltS rfl rfl rfl rfl (fun hcmp => ?_) (fun hcmp => ?_)
  ·have hlz : k < Zs.length := by omega
   have hz := List.getElem?_eq_getElem hlz
   obtain ⟨a1, u1, rfl, hu1, hr1, _⟩ := (SliceOf.kept Ri64.kept _ _ _ _ hc4 hqz).get hz
   obtain ⟨a2, u2, rfl, hu2, hr2, _⟩ := (SliceOf.kept Ri64.kept _ _ _ _ hc4 hyz).get hz
   generalize Zs[k] = zk at *
   subst hr1
   subst hr2
   refine go T 8 rfl ?_
   refine W_walk 10 [] fol (by kernel_rfl) (by kernel_rfl) ?_
   refine Walk.plain rfl (by intro val w_ hR hp; exact op_fieldAddr T rfl rfl rfl rfl rfl rfl rfl rfl ⟨Chg.refl _ _, rfl⟩) ?_; dsimp only [na1, na2]
   refine Walk.plain rfl (by intro val w_ hR hp; exact op_loadB T rfl rfl rfl rfl (h64.keep0 hR) (by exact rfl) ⟨Chg.refl _ _, rfl⟩) ?_; dsimp only [na1, na2]
   refine Walk.plain rfl (by intro val w_ hR hp; exact op_move rfl rfl ⟨Chg.refl _ _, rfl⟩) ?_; dsimp only [na1, na2]
   refine Walk.plain rfl (by intro val w_ hR hp; exact op_index_nat T rfl rfl rfl rfl rfl rfl (by omega) ⟨Chg.refl _ _, rfl⟩) ?_; dsimp only [na1, na2]
   refine Walk.plain rfl (by intro val w_ hR hp; exact op_load T rfl rfl rfl rfl (hR.cell0 (by assumption)) ⟨Chg.refl _ _, rfl⟩) ?_; dsimp only [na1, na2]
   refine Walk.plain rfl (by intro val w_ hR hp; exact op_fieldAddr T rfl rfl rfl rfl rfl rfl rfl rfl ⟨Chg.refl _ _, rfl⟩) ?_; dsimp only [na1, na2]
   refine Walk.plain rfl (by intro val w_ hR hp; exact op_loadB T rfl rfl rfl rfl (h74.keep0 hR) (by exact rfl) ⟨Chg.refl _ _, rfl⟩) ?_; dsimp only [na1, na2]
   refine Walk.plain rfl (by intro val w_ hR hp; exact op_move rfl rfl ⟨Chg.refl _ _, rfl⟩) ?_; dsimp only [na1, na2]
   refine Walk.plain rfl (by intro val w_ hR hp; exact op_index_nat T rfl rfl rfl rfl rfl rfl (by omega) ⟨Chg.refl _ _, rfl⟩) ?_; dsimp only [na1, na2]
   refine Walk.plain rfl (by intro val w_ hR hp; exact op_load T rfl rfl rfl rfl (hR.cell0 (by assumption)) ⟨Chg.refl _ _, rfl⟩) ?_; dsimp only [na1, na2]
   skip
   refine Walk.fin ?_
   intro val w5 hc5 hp
   clear hp
   replace hc4 := hc4.trans' hc5
   replace h64 := h64.keep0 hc5
   replace h74 := h74.keep0 hc5
   replace hu1 := hc5.cell0 hu1
   replace hu2 := hc5.cell0 hu2
   refine runL ?_
   refine neF rfl rfl rfl rfl (by omega) ?_
   refine go T 8 rfl ?_
   refine adI rfl rfl rfl rfl (by omega) (by omega) ?_
   refine go T 2 rfl ?_
   exact Round_n (k + 1) ⟨rfl, rfl, rfl, rfl, rfl, rfl, trivial⟩ ⟨by omega, hc4⟩ (by omega)
  ·refine go T 5 rfl ?_
   refine rndX ?_
   refine go T 5 rfl ?_
   refine adI rfl rfl rfl rfl (by omega) (by omega) ?_
   refine go T 2 rfl ?_
   exact Round_n (i + 1) ⟨rfl, rfl, rfl, trivial⟩ ⟨by omega, hc1.trans' (hB2.trans' hc4)⟩ (by omega)
 ·refine go T 5 rfl ?_
  refine rndX ?_
  refine go T 8 rfl ?_
  exact post1 (.inl rfl) rfl rfl ⟨hc1, rfl⟩
end Go.Proofs.YtiadjkjlifnopaaGreatDoor.Tryz
/-! The reference's parity: byte by byte. -/
namespace Go.Proofs.YtiadjkjlifnopaaGreatDoor.Tryz
open Go Go.Vc
def xorAt (L : List (List UInt8)) (k : Nat) : UInt8 := L.foldl (fun x b => x ^^^ (b[k]?.getD 0)) 0
theorem foldl_xor_get (L : List (List UInt8)) (k : Nat) : ∀ cs : List UInt8, (L.foldl xorInto cs)[k]? = cs[k]?.map fun c => L.foldl (fun x b => x ^^^ (b[k]?.getD 0)) c := by
 induction L with
 | nil => intro cs; simp
 | cons b L ih => intro cs; rw [List.foldl_cons, ih, xorInto_get]; cases cs[k]? <;> simp
theorem parity_get (L : List (List UInt8)) (k : Nat) (hk : k < maxOf L) : (parity L)[k]? = some (xorAt L k) := by
 unfold parity
 rw [foldl_xor_get, List.getElem?_replicate, if_pos hk]; rfl
theorem parity_eq (L : List (List UInt8)) : parity L = (List.range (maxOf L)).map (xorAt L) := by
 apply List.ext_getElem?
 intro k
 by_cases hk : k < maxOf L
 ·rw [parity_get L k hk]; simp [hk]
 ·rw [List.getElem?_eq_none (by rw [parity_length]; omega), List.getElem?_eq_none (by simp; omega)]
theorem refParity_has (A : Option Addr) (n c : Nat) (L : List (List UInt8)) (w : World) (hl : SliceOf (SliceOf Ru8) w (.slice A n c) L) (hb : ∀ r ∈ L, r.length ≤ 1099511627776) :
  Has Tryz.prog 35 #[.slice A n c] w (fun v w' => Chg [] w w' ∧ SliceOf Ru8 w' v (parity L)) := by
 obtain ⟨rfl, hl1, hl2⟩ := hl.len
 unfold maxLen at hl2
 refine enter Tryz.func35 rfl rfl (by decide) rfl (e := [(0, .slice A L.length c)]) ⟨rfl, trivial⟩ ?_
 repeat (first | refine W_seq ?_ | refine W_block ?_ | refine W_region ?_ | refine Then_n ?_ | refine WL_nil ?_ | refine WL_some rfl rfl rfl ?_ | refine op_assign rfl rfl ?_)
 refine W_loop (σ := Nat) (fun k => [(0, .slice A L.length c), (3, .int .i64 (maxOf (L.take k))), (4, .int .i64 k)])
  (fun k w' => k ≤ L.length ∧ w' = w) (fun k => L.length - k) 0 ⟨rfl, rfl, rfl, trivial⟩ ⟨by omega, rfl⟩ ?_
 rintro k w1 ⟨hk, rfl⟩
 repeat (first | refine W_seq ?_ | refine W_region ?_ | refine WL_some rfl rfl rfl ?_ | refine op_move rfl rfl ?_ | refine op_len_slice T rfl rfl rfl rfl ?_)
 (refine op_lss rfl rfl rfl (fun hc => ?_) (fun hc => ?_))
 ·have hlt : k < L.length := by omega
  obtain ⟨ad, u, rfl, hu, hr⟩ := hl.get (i := k) (x := L[k]) (List.getElem?_eq_getElem hlt)
  obtain ⟨B, cb, rfl, _, _⟩ := hr.form
  repeat (first | refine W_seq ?_ | refine W_block ?_ | refine W_region ?_ | refine W_skip ?_ | refine Then_n ?_ | refine InBlock_n ?_ | refine WL_nil ?_ | refine W_condT rfl ?_ | refine WL_some rfl rfl rfl ?_ | refine op_move rfl rfl ?_ | refine op_assign rfl rfl ?_ | refine op_len_slice T rfl rfl rfl rfl ?_ | refine op_add rfl rfl rfl (wrap_i64_in (by omega) (by omega)) ?_ | refine op_max rfl rfl rfl ?_ | refine op_index_nat T rfl rfl rfl rfl rfl rfl (by omega) ?_ | refine op_load T rfl rfl rfl rfl (by assumption) ?_)
  exact Round_n (k + 1) ⟨rfl, some_int (by rw [maxOf_take _ _ hlt]; omega), rfl, trivial⟩ ⟨by omega, rfl⟩ (by omega)
 ·obtain rfl : k = L.length := by omega
  rw [List.take_length]
  have hmx := maxOf_le L _ hb
  repeat (first | refine W_seq ?_ | refine W_region ?_ | refine W_exit ?_ | refine Then_n ?_ | refine Then_x ?_ | refine InBlock_hit ?_ | refine Round_x ?_ | refine WL_nil ?_ | refine W_condF rfl ?_ | refine WL_some rfl rfl rfl ?_ | refine op_move rfl rfl ?_ | refine op_len_slice T rfl rfl rfl rfl ?_)
  (refine op_eql rfl rfl rfl (fun hc => ?_) (fun hc => ?_))
  ·have hL : L = [] := List.eq_nil_of_length_eq_zero (by omega)
   subst hL
   repeat (first | refine W_seq ?_ | refine W_region ?_ | refine W_ret ?_ | refine Then_n ?_ | refine Then_r ?_ | refine WL_nil ?_ | refine W_condT rfl ?_ | refine WL_some rfl rfl rfl ?_ | refine op_assign rfl rfl ?_)
   exact post1 (.inl rfl) rfl rfl ⟨Chg.refl _ _, SliceOf.nil _ _⟩
  ·repeat (first | refine W_seq ?_ | refine W_region ?_ | refine W_skip ?_ | refine Then_n ?_ | refine WL_nil ?_ | refine W_condF rfl ?_ | refine WL_some rfl rfl rfl ?_ | refine op_move rfl rfl ?_)
   refine op_make T rfl rfl rfl rfl rfl (by omega) (by omega) (by show (1 : Int) * _ ≤ _; omega) (by omega) (fun g w2 hgs hc2 hg2 => ?_)
   simp only [Int.toNat_natCast]
   have h1 : (madeCells (Value.int .u8 0).cells ((maxOf L : Int).toNat * 1)).toList = u8s (List.replicate (maxOf L) 0) := by
    rw [show (Value.int .u8 0).cells = #[Value.int .u8 0] from rfl, made_one]; simp [u8s]
   have hg2' : Blk w2 g 5 (u8s ((List.range 0).map (xorAt L) ++ List.replicate (maxOf L - 0) 0)) := by
    simp only [List.range_zero, List.map_nil, List.nil_append, Nat.sub_zero]; rw [← h1]; exact hg2
   clear hg2
   repeat (first | refine W_seq ?_ | refine W_block ?_ | refine W_region ?_ | refine Then_n ?_ | refine WL_nil ?_ | refine WL_some rfl rfl rfl ?_ | refine op_assign rfl rfl ?_)
   refine W_loop (σ := Nat) (fun k => [(0, .slice A L.length c), (3, .int .i64 (maxOf L)), (5, .slice (some ⟨g, 0, none⟩) (maxOf L) (maxOf L)), (6, .int .i64 k)])
    (fun k w' => k ≤ maxOf L ∧ Chg [] w1 w' ∧ Blk w' g 5 (u8s ((List.range k).map (xorAt L) ++ List.replicate (maxOf L - k) 0))) (fun k => maxOf L - k) 0 ⟨rfl, rfl, rfl, rfl, trivial⟩ ⟨by omega, hc2, hg2'⟩ ?_
   rintro k w3 ⟨hk, hc3, hg3⟩
   repeat (first | refine W_seq ?_ | refine W_region ?_ | refine WL_some rfl rfl rfl ?_ | refine op_move rfl rfl ?_)
   (refine op_lss rfl rfl rfl (fun hc => ?_) (fun hc => ?_))
   ·have hkm : k < maxOf L := by omega
    repeat (first | refine W_seq ?_ | refine W_block ?_ | refine W_region ?_ | refine W_skip ?_ | refine Then_n ?_ | refine WL_nil ?_ | refine W_condT rfl ?_ | refine WL_some rfl rfl rfl ?_ | refine op_assign rfl rfl ?_)
    refine W_loop (σ := Nat) (fun i => [(0, .slice A L.length c), (3, .int .i64 (maxOf L)), (5, .slice (some ⟨g, 0, none⟩) (maxOf L) (maxOf L)), (6, .int .i64 k), (7, .int .i64 i)])
     (fun i w' => i ≤ L.length ∧ Chg [] w1 w' ∧ Blk w' g 5 (u8s ((List.range k).map (xorAt L) ++ xorAt (L.take i) k :: List.replicate (maxOf L - k - 1) 0))) (fun i => L.length - i) 0 ⟨rfl, rfl, rfl, rfl, rfl, trivial⟩ ⟨by omega, hc3, ?_⟩ ?_
    ·have h2 : maxOf L - k = (maxOf L - k - 1) + 1 := by omega
     rw [h2, List.replicate_succ] at hg3
     exact hg3
    rintro i w4 ⟨hi, hc4, hg4⟩
    repeat (first | refine W_seq ?_ | refine W_region ?_ | refine WL_some rfl rfl rfl ?_ | refine op_move rfl rfl ?_ | refine op_len_slice T rfl rfl rfl rfl ?_)
    (refine op_lss rfl rfl rfl (fun hc => ?_) (fun hc => ?_))
    ·have hlt : i < L.length := by omega
     obtain ⟨ad, u, rfl, hu, hr⟩ := hl.get (i := i) (x := L[i]) (List.getElem?_eq_getElem hlt)
     obtain ⟨B, cb, rfl, _, _⟩ := hr.form
     have hu4 := hc4.cell0 hu
     repeat (first | refine W_seq ?_ | refine W_block ?_ | refine W_region ?_ | refine W_skip ?_ | refine Then_n ?_ | refine WL_nil ?_ | refine W_condT rfl ?_ | refine WL_some rfl rfl rfl ?_ | refine op_move rfl rfl ?_ | refine op_len_slice T rfl rfl rfl rfl ?_ | refine op_index_nat T rfl rfl rfl rfl rfl rfl (by omega) ?_ | refine op_load T rfl rfl rfl rfl (by assumption) ?_)
     (refine op_lss rfl rfl rfl (fun hc => ?_) (fun hc => ?_))
     ·have hkl : k < L[i].length := by omega
      obtain ⟨ad2, u2, rfl, hu2, rfl⟩ := hr.get (i := k) (x := L[i][k]) (List.getElem?_eq_getElem hkl)
      have hu5 := hc4.cell0 hu2
      have hat : (u8s ((List.range k).map (xorAt L) ++ xorAt (L.take i) k :: List.replicate (maxOf L - k - 1) 0))[k]? = some (.int .u8 ((xorAt (L.take i) k).toNat : Int)) := by
       refine u8s_get ?_
       rw [List.getElem?_append_right (by simp)]; simp
      have hu6 := hg4.cell hat
      repeat (first | refine Then_n ?_ | refine WL_nil ?_ | refine W_condT rfl ?_)
      refine W_draw 13 [] [.c (.slice (some ⟨g, 0, none⟩) (maxOf L) (maxOf L)), .c (.int .i64 k), .c (.pointer (some ⟨g, k, none⟩)), .c (.int .u8 ((xorAt (L.take i) k).toNat : Int)), .c (.slice (some ad) L.length c), .c (.int .i64 i), .c (.pointer (some (ad.add i))),
       .c (.slice (some ad2) L[i].length cb), .c (.int .i64 k), .c (.pointer (some (ad2.add k))), .c (.int .u8 (L[i][k].toNat : Int)), .c (.int .u8 ((xorAt (L.take i) k ^^^ L[i][k]).toNat : Int)), .c (.pointer (some ⟨g, k, none⟩))] fol (by kernel_rfl) (by kernel_rfl)
       ⟨trivial, trivial, trivial, trivial, trivial, trivial, trivial, trivial, trivial, trivial, trivial, trivial, trivial, trivial⟩
       ⟨FrontOp.plain rfl ?_, FrontOp.plain rfl ?_, FrontOp.plain rfl ?_, FrontOp.plain rfl ?_, FrontOp.plain rfl ?_, FrontOp.plain rfl ?_, FrontOp.plain rfl ?_, FrontOp.plain rfl ?_, FrontOp.plain rfl ?_, FrontOp.plain rfl ?_, FrontOp.plain rfl ?_, FrontOp.plain rfl ?_, FrontOp.plain rfl ?_, trivial⟩ ?_
      ·intro val w1 hR hp; (refine op_move rfl rfl ?_); exact ⟨Chg.refl _ _, rfl⟩
      ·intro val w1 hR hp; (refine op_move rfl rfl ?_); exact ⟨Chg.refl _ _, rfl⟩
      ·intro val w1 hR hp; (refine op_index_own T rfl rfl rfl rfl rfl rfl (by omega) ?_); exact ⟨Chg.refl _ _, rfl⟩
      ·intro val w5 hR hp; exact op_load T rfl rfl rfl rfl (hR.cell0 hu6) ⟨Chg.refl _ _, rfl⟩
      ·intro val w1 hR hp; (refine op_move rfl rfl ?_); exact ⟨Chg.refl _ _, rfl⟩
      ·intro val w1 hR hp; (refine op_move rfl rfl ?_); exact ⟨Chg.refl _ _, rfl⟩
      ·intro val w1 hR hp; (refine op_index_nat T rfl rfl rfl rfl rfl rfl (by omega) ?_); exact ⟨Chg.refl _ _, rfl⟩
      ·intro val w5 hR hp; exact op_load T rfl rfl rfl rfl (hR.cell0 hu4) ⟨Chg.refl _ _, rfl⟩
      ·intro val w1 hR hp; (refine op_move rfl rfl ?_); exact ⟨Chg.refl _ _, rfl⟩
      ·intro val w1 hR hp; (refine op_index_nat T rfl rfl rfl rfl rfl rfl (by omega) ?_); exact ⟨Chg.refl _ _, rfl⟩
      ·intro val w5 hR hp; exact op_load T rfl rfl rfl rfl (hR.cell0 hu5) ⟨Chg.refl _ _, rfl⟩
      ·intro val w5 hR hp; exact op_xor_u8 rfl rfl rfl ⟨Chg.refl _ _, rfl⟩
      ·intro val w1 hR hp; (refine op_index_own T rfl rfl rfl rfl rfl rfl (by omega) ?_); exact ⟨Chg.refl _ _, rfl⟩
      ·intro val w5 hc5 hp
       refine WL_sub (e' := [(0, .slice (some ad) L.length c), (3, .int .i64 (maxOf L)), (5, .slice (some ⟨g, 0, none⟩) (maxOf L) (maxOf L)), (6, .int .i64 k), (7, .int .i64 i), (55, .int .u8 ((xorAt (L.take i) k ^^^ L[i][k]).toNat : Int)), (56, .pointer (some ⟨g, k, none⟩))]) ⟨rfl, rfl, rfl, rfl, rfl, rfl, rfl, trivial⟩ ?_
       repeat (refine WL_none rfl rfl ?_)
       refine op_store T rfl rfl rfl rfl rfl rfl (hg4.keep0 hc5) (by simp only [u8s_length, List.length_append, List.length_cons, List.length_replicate, List.length_map, List.length_range]; omega) (fun w6 hc6 hg6 _ => ?_)
       repeat (first | refine W_region ?_ | refine Then_n ?_ | refine InBlock_n ?_ | refine WL_nil ?_ | refine WL_some rfl rfl rfl ?_ | refine op_move rfl rfl ?_ | refine op_assign rfl rfl ?_ | refine op_add rfl rfl rfl (wrap_i64_in (by omega) (by omega)) ?_)
       refine Round_n (i + 1) ⟨rfl, rfl, rfl, rfl, rfl, trivial⟩ ⟨by omega, (hc4.trans' hc5).trans hc6 (by simp; omega), ?_⟩ (by omega)
       rw [u8s_set] at hg6
       have : ((List.range k).map (xorAt L) ++ xorAt (L.take i) k :: List.replicate (maxOf L - k - 1) 0).set k (xorAt (L.take i) k ^^^ L[i][k]) = (List.range k).map (xorAt L) ++ xorAt (L.take (i + 1)) k :: List.replicate (maxOf L - k - 1) 0 := by
        rw [List.set_append_right _ _ (by simp)]
        simp only [List.length_map, List.length_range, Nat.sub_self, List.set_cons_zero]
        rw [List.take_succ_eq_append_getElem hlt]
        simp only [xorAt, List.foldl_append, List.foldl_cons, List.foldl_nil]
        rw [List.getElem?_eq_getElem hkl]; rfl
       rw [this] at hg6
       exact hg6
     ·repeat (first | refine W_region ?_ | refine W_skip ?_ | refine Then_n ?_ | refine InBlock_n ?_ | refine WL_nil ?_ | refine W_condF rfl ?_ | refine WL_some rfl rfl rfl ?_ | refine op_move rfl rfl ?_ | refine op_assign rfl rfl ?_ | refine op_add rfl rfl rfl (wrap_i64_in (by omega) (by omega)) ?_)
      refine Round_n (i + 1) ⟨rfl, rfl, rfl, rfl, rfl, trivial⟩ ⟨by omega, hc4, ?_⟩ (by omega)
      have : xorAt (L.take (i + 1)) k = xorAt (L.take i) k := by
       rw [List.take_succ_eq_append_getElem hlt]
       simp only [xorAt, List.foldl_append, List.foldl_cons, List.foldl_nil]
       rw [List.getElem?_eq_none (by omega)]; simp
      rw [this]; exact hg4
    ·obtain rfl : i = L.length := by omega
     repeat (first | refine W_region ?_ | refine W_exit ?_ | refine Then_n ?_ | refine Then_x ?_ | refine InBlock_hit ?_ | refine InBlock_n ?_ | refine Round_x ?_ | refine WL_nil ?_ | refine W_condF rfl ?_ | refine WL_some rfl rfl rfl ?_ | refine op_move rfl rfl ?_ | refine op_assign rfl rfl ?_ | refine op_add rfl rfl rfl (wrap_i64_in (by omega) (by omega)) ?_)
     refine Round_n (k + 1) ⟨rfl, rfl, rfl, rfl, trivial⟩ ⟨by omega, hc4, ?_⟩ (by omega)
     rw [List.take_length] at hg4
     rw [List.range_succ, List.map_append, List.append_assoc]
     exact hg4
   ·obtain rfl : k = maxOf L := by omega
    repeat (first | refine W_seq ?_ | refine W_region ?_ | refine W_exit ?_ | refine W_ret ?_ | refine Then_n ?_ | refine Then_x ?_ | refine InBlock_hit ?_ | refine Round_x ?_ | refine WL_nil ?_ | refine W_condF rfl ?_ | refine WL_some rfl rfl rfl ?_ | refine op_move rfl rfl ?_ | refine op_assign rfl rfl ?_)
    refine post1 (.inl rfl) rfl rfl ⟨hc3, ?_⟩
    rw [Nat.sub_self, List.replicate_zero, List.append_nil, ← parity_eq] at hg3
    have hb := bytes_of_blk (c := maxOf L) (rest := []) (cs := parity L) (by rw [List.append_nil]; exact hg3) (by rw [parity_length]; exact Nat.le_refl _) (by unfold maxLen; omega)
    rw [parity_length] at hb
    exact hb
end Go.Proofs.YtiadjkjlifnopaaGreatDoor.Tryz
/-! (Walk.guardR stands in Rec3.) -/
/-! Scrub: the law ScrubMake. -/
namespace Go.Proofs.YtiadjkjlifnopaaGreatDoor.Tryz
open Go Go.Vc
set_option maxHeartbeats 80000000 in
theorem scrubMake_has (A : Option Addr) (n c : Nat) (files : List (List UInt8)) (Bg : Option Addr) (m d : Nat) (G : List Bool) (w : World) (hf : SliceOf (SliceOf Ru8) w (.slice A n c) files) (hg : SliceOf Rbool w (.slice Bg m d) G) : Has Tryz.prog 8 #[.slice A n c, .slice Bg m d] w (fun v w' => Chg [] w w' ∧ v = .bool true) := by
 obtain ⟨rfl, hl1, hl2⟩ := hf.len
 unfold maxLen at hl2
 refine enter Tryz.func8 rfl rfl (by decide) rfl (e := [(0, .slice A files.length c), (1, .slice Bg m d)]) ⟨rfl, rfl, trivial⟩ ?_
 refine run ?_
 refine go T 7 rfl ?_
 refine o1 rfl ?_
 refine op_call rfl rfl rfl (begun23_has w) ?_
 rintro _ w4 ⟨hc04, rfl⟩
 replace hf := SliceOf.kept (SliceOf.kept Ru8.kept) _ _ _ _ hc04 hf
 replace hg := SliceOf.kept Rbool.kept _ _ _ _ hc04 hg
 refine go T 17 rfl ?_
 refine o1 rfl ?_
 refine op_call rfl rfl rfl (made_has A _ c files Bg m d G w4 hf hg) ?_
 rintro _ w5 ⟨g, gm, vo, s, p, st, u, mb, rfl, x, hst, hF, hu, hmb, hvo⟩
 have hBl : (filesB files).length ≤ 12 := by rw [filesB_len]; omega
 have hBb : ∀ b ∈ filesB files, b.length ≤ 300 := fun b hb => filesB_le hb
 generalize filesB files = B at *
 have hc05 := hc04.trans' x.fs.chg
 obtain ⟨hmk, s', u', mb', hall, hF', hu', hmb'⟩ := made_make (B := B) hBl hBb hF hu hmb
 have hseg : st.segs = scSegs B G := congrArg PSt.segs hst
 have hnx : st.next = 50 := congrArg PSt.next hst
 have hgl := groups_len (scSegs B G)
 rw [scSegs_len] at hgl
 have hfb : ∀ p ∈ scF B G, p.2.length ≤ 4194304 := fun p hp => by
  obtain ⟨j, hj⟩ := List.getElem?_of_mem hp
  obtain ⟨b', hb', rfl⟩ := scF_get hj
  have := hBb b' (List.mem_of_getElem? hb')
  show b'.length ≤ _; omega
 unfold ptrV
 refine go T 22 rfl ?_
 refine o1 rfl ?_
 refine op_call rfl rfl rfl (segsO_has x (by rw [hseg, scSegs_len]; omega)) ?_
 rintro va w6 ⟨hc6, hO6, _⟩
 have hS6 := hO6.readsK segL_len
 obtain ⟨As, cs, rfl, _, _⟩ := hS6.form
 have x6 := x.keep0 hc6
 have hvo6 := hvo.step0 hc6
 refine o1 rfl ?_
 refine op_call rfl rfl rfl (groups_has As _ cs st.segs w6 hS6 (by rw [hseg, scSegs_len]; omega) (fun y hy => by
  rw [hseg] at hy
  have := (scSeg_mem (B := B) hBl hBb hy).1
  omega)) ?_
 rintro vg w7 ⟨hc7, hOG, hfg⟩
 have x7 := x6.keep0 hc7
 have hvo7 := hvo6.step0 hc7
 rw [hseg] at hOG
 have h3 : ∀ ns ∈ groupsM (scSegs B G), ns.length = 3 := fun ns hns => chunk3_three _ _ (Nat.le_refl _) ns hns
 obtain ⟨Ag, cg, hvg, _, _⟩ := hOG.reads.form
 subst hvg
 refine go T 7 rfl ?_
 refine o1 rfl ?_
 refine op_call rfl rfl rfl (makeAll_has x7 (by rw [hst]; exact hF.ok) (by omega) (by rw [hst, hseg]; exact hmk) (hF.bytes (by omega) hfb) (fun y hy => ?_)) ?_
 ·rw [hseg] at hy
  obtain ⟨h1, h2, h3, h4, h5⟩ := scSeg_mem (B := B) hBl hBb hy
  exact ⟨by omega, by omega, by omega, by omega⟩
 rintro _ w8 ⟨hc8, s8, q8, n8, e8, p8, st8, cl8, hall8, rfl, hg8, hst8, hcl8, x8⟩
 rw [hst, hseg, hall] at hall8
 injection hall8 with a1 a2
 injection a2 with a2 a3
 injection a3 with a3 a4
 subst a1; subst a2; subst a3; subst a4
 obtain rfl := hcl8 rfl
 have hok8 : POk st8.plain := by rw [hst8]; exact hF'.ok
 have hnx8 : st8.next = 50 + ((groupsM (scSegs B G)).length : Int) := by
  have h7 := congrArg PSt.next hst8
  rw [goQ_next _ _ _ _ rfl] at h7
  exact h7
 have hpq := goQ_pars_eq (madeI B G) (groupsM (scSegs B G)) 50 ⟨scSegs B G, [], 50, 1⟩
 rw [← hst8, List.nil_append] at hpq
 have hpl : st8.plain.pars.length = (groupsM (scSegs B G)).length := by rw [hpq, List.length_mapIdx]
 have hpl2 : st8.plain.pars.length = st8.pars.length := List.length_map _
 have hfit : ∀ y ∈ st8.segs, GrpFit (groupsM (scSegs B G)).length y := fun y hy => by
  refine goQ_fit (madeI B G) (groupsM (scSegs B G)) 50 _ ⟨scSegs B G, [], 50, 1⟩ (by omega) h3 (fun hne => by
   cases h : groupsM (scSegs B G) with
   | nil => exact absurd h hne
   | cons a l => simp) (fun y hy => .inl (scSeg_mem (B := B) hBl hBb hy).2.1) y ?_
  rw [← hst8]; exact hy
 have hls8 := hok8.ls
 have hlp8 := hok8.lp
 have hby := hF'.bytes (by omega) (made_bytes hBb _ _)
 have hpn := pok_pars hok8
 have hgm7 : ∀ k ∈ gm :: p.fp g, k < w6.heap.size := fun k hk => by
  rcases List.mem_cons.1 hk with rfl | hk
  ·exact x6.lt
  ·exact x6.fs.at_.lt k hk
 have hOG8 := hOG.keep hc8 (fun k hk hlt => List.mem_range.2 (hgm7 k hk)) (fun k hk hm => by have := hfg k hk; have := hgm7 k hm; omega)
 have hvo8 := (hvo7 w8 hc8)
 have hGr := hOG8.reads
 have hc08 : Chg [] w w8 := ((hc05.trans' hc6).trans' hc7).trans hc8 (fun k hk hlt => by
  have hz := hc04.size
  rcases List.mem_cons.1 hk with hk | hk
  ·have := x.fresh; omega
  ·have := x.fs.fresh k hk; omega)
 have hI : ∀ i ns, (groupsM (scSegs B G))[i]? = some ns → ns.length = 3 ∧ gNums (ns.map (madeI B G)) = ns ∧ (dig2 (50 + i) ++ endPar, gPar (ns.map (madeI B G))) ∈ scF B G ++ goF (madeI B G) (groupsM (scSegs B G)) 50 ∧ ∀ k ∈ ns, 1 ≤ k ∧ (k - 1).toNat < B.length ∧ ∀ b, B[(k - 1).toNat]? = some b → (madeI B G k).b = b := fun i ns hi =>
  have hm := List.mem_of_getElem? hi
  ⟨h3 ns hm, made_nums hBl hBb hm, List.mem_append.2 (.inr (goF_get _ _ 50 hi)), fun k hk => made_at hm hk⟩
 have hfile : FileOk mb' st8.plain := by rw [hst8]; exact hF'.file
 have hcalls := hF'.mul.calls
 have hman := crash_whole hF'.man hF'.mul.lup 0 []
 have hrd : ∀ nm b, (nm, b) ∈ scF B G ++ goF (madeI B G) (groupsM (scSegs B G)) 50 → readM s' nm = some b := fun nm b h => hF'.read h
 have hBlen := hBl
 clear hmk hall hF hF' hst8 hseg hst hOG hOG8 hO6 hS6 x x6 x7 hvo hvo6 hvo7 hf hg
 generalize hgs : groupsM (scSegs B G) = gs at *
 refine go T 11 rfl ?_
 refine neF rfl rfl rfl rfl (by omega) ?_
 refine go T 4 rfl ?_
 refine neF rfl rfl rfl rfl (by omega) ?_
 refine go T 3 rfl ?_
 refine o1 rfl ?_
 refine op_call rfl rfl rfl (parsO_has x8 (by omega) hpn) ?_
 rintro v9 w9 ⟨hc9, _, X, hX, hO9, _⟩
 have hXl : X.length = gs.length := by
  have h9 := congrArg List.length hX
  rw [List.length_map] at h9
  omega
 obtain ⟨Aq, cq, rfl, _, _⟩ := hO9.form
 have x9 := x8.keep0 hc9
 refine go T 2 rfl ?_
 refine neF rfl rfl rfl rfl (by omega) ?_
 refine go T 3 rfl ?_
 refine o1 rfl ?_
 refine op_call rfl rfl rfl (nextO_has x9) ?_
 rintro _ w9' ⟨rfl, rfl⟩
 refine go T 1 rfl ?_
 refine adI rfl rfl rfl rfl (by omega) (by omega) ?_
 refine neF rfl rfl rfl rfl (by omega) ?_
 refine go T 9 rfl ?_
 refine o1 rfl ?_
 refine op_call rfl rfl rfl (crashO_has x9.fs 0 (SliceOf.nil _ _) (by omega)) ?_
 rintro _ w10 ⟨_, hc10, gc, pc, rfl, xc⟩
 have x10 := x9.keep0 hc10
 refine o1 rfl ?_
 refine op_call rfl rfl rfl (loadOk_has xc hman hfile (by omega) (by show (0 : Int) < _; decide)) ?_
 rintro _ w11 ⟨gm2, st2, rfl, _, hst2, hc11, x2⟩
 have x11 := x10.keep0 hc11
 have hok2 : POk st2.plain := by rw [hst2]; exact hok8
 have hl2a := hok2.ls
 have hl2b : st2.plain.pars.length = st2.pars.length := List.length_map _
 have hl2c := hok2.lp
 refine go T 11 rfl ?_
 refine neF rfl rfl rfl rfl (by omega) ?_
 refine go T 2 rfl ?_
 refine o1 rfl ?_
 refine op_call rfl rfl rfl (parsO_has x2 (by omega) (pok_pars hok2)) ?_
 rintro va2 w12 ⟨hc12, _, Y, hY, hO12, hYo⟩
 refine go T 1 rfl ?_
 refine o1 rfl ?_
 refine op_call rfl rfl rfl (parsO_has (x11.keep0 hc12) (by omega) hpn) ?_
 rintro vb2 w13 ⟨hc13, _, Z, hZ, hO13, hZo⟩
 have hQY := (hO12.keep0 hc13).readsK parS_len
 have hQZ := hO13.readsK parS_len
 obtain ⟨Ay, cy, rfl, _, _⟩ := hQY.form
 obtain ⟨Az, cz, rfl, _, _⟩ := hQZ.form
 have hprd : ∀ (w : World) (q : ParV), POwn w q → PRd w q := fun w q h => ⟨own_i64 h.nums h.numsI, own_i64 h.sizes h.sizesI⟩
 refine o1 rfl ?_
 refine op_call rfl rfl rfl (eqPars_has Ay _ cy Az _ cz Y Z w13 hQY hQZ (by rw [hY, hZ, hst2]) (fun q hq => (hprd _ _ (hYo q hq).1).keep0 hc13) (fun q hq => hprd _ _ (hZo q hq).1)) ?_
 rintro _ w14 ⟨hc14, rfl⟩
 have hc1114 := (hc12.trans' hc13).trans' hc14
 refine go T 4 rfl ?_
 refine o1 rfl ?_
 refine op_call rfl rfl rfl (segsO_has (x2.keep0 hc1114) (Nat.le_trans (show st2.segs.length ≤ 60 from hl2a) (by decide))) ?_
 rintro va3 w15 ⟨hc15, hO15, _⟩
 refine go T 1 rfl ?_
 refine o1 rfl ?_
 refine op_call rfl rfl rfl (segsO_has ((x11.keep0 hc1114).keep0 hc15) (Nat.le_trans (show st8.segs.length ≤ 60 from hls8) (by decide))) ?_
 rintro vb3 w16 ⟨hc16, hO16, _⟩
 have hsg : st2.segs = st8.segs := congrArg PSt.segs hst2
 rw [hsg] at hO15
 have hSY := (hO15.keep0 hc16).readsK segL_len
 have hSZ := hO16.readsK segL_len
 obtain ⟨Ay2, cy2, rfl, _, _⟩ := hSY.form
 obtain ⟨Az2, cz2, rfl, _, _⟩ := hSZ.form
 refine o1 rfl ?_
 refine op_call rfl rfl rfl (eqSegs_has Ay2 _ cy2 Az2 _ cz2 st8.segs w16 hSY hSZ) ?_
 rintro _ w17 ⟨hc17, rfl⟩
 have hc917 := ((((hc10.trans' hc11).trans' hc1114).trans' hc15).trans' hc16).trans' hc17
 have x17 := x9.keep0 hc917
 have hGr17 := SliceOf.kept (SliceOf.kept Ri64.kept) _ _ _ _ (hc9.trans' hc917) hGr
 have hvo17 := SliceOf.kept (SliceOf.kept Ru8.kept) _ _ _ _ (hc9.trans' hc917) hvo8
 have hc017 := (hc08.trans' hc9).trans' hc917
 clear hO12 hO13 hQY hQZ hO15 hO16 hSY hSZ x2 x11 x10 xc x9 x8 hGr hvo8 hYo hZo hc12 hc13 hc14 hc15 hc16 hc17 hc1114 hO9
 refine go T 10 rfl ?_
 refine o1 rfl ?_
 refine op_call rfl rfl rfl (parsO_has x17 (by omega) hpn) ?_
 rintro vp w18 ⟨hc18, _, P, hP, hO18, hPo⟩
 have x18 := x17.keep0 hc18
 have hPl : P.length = gs.length := by
  have h9 := congrArg List.length hP
  rw [List.length_map] at h9
  omega
 have hQP := hO18.readsK parS_len
 obtain ⟨Ap, cp, rfl, _, _⟩ := hQP.form
 replace hGr17 := SliceOf.kept (SliceOf.kept Ri64.kept) _ _ _ _ hc18 hGr17
 replace hvo17 := SliceOf.kept (SliceOf.kept Ru8.kept) _ _ _ _ hc18 hvo17
 have hc018 := hc017.trans' hc18
 have hPi : ∀ i q ns, P[i]? = some q → gs[i]? = some ns → q.1.p = mkP ((50 + i : Nat) : Int) (ns.map (madeI B G)) := fun i q ns h1 h2 => by
  have h3 := congrArg (fun l => l[i]?) hP
  rw [List.getElem?_map, h1, hpq, List.getElem?_mapIdx, h2] at h3
  injection h3
 obtain ⟨Av, cv, rfl, _, _⟩ := hvo17.form
 clear x17 hO18 hP
 refine go T 10 rfl ?_
 refine W_loop (σ := Nat) (fun t => [(6, .pointer (some ⟨g, 0, none⟩)), (7, .pointer (some ⟨gm, 0, none⟩)), (8, .slice Av B.length cv), (9, .slice Ag gs.length cg), (10, .int .i64 gs.length), (13, .slice Ap P.length cp), (14, .int .i64 (t : Int))])
  (fun t w' => t ≤ gs.length ∧ Chg [] w18 w') (fun t => gs.length - t) 0 ⟨rfl, rfl, rfl, rfl, rfl, rfl, rfl, trivial⟩ ⟨Nat.zero_le _, Chg.refl _ _⟩ ?_
 rintro i w19 ⟨hi, hc19⟩
 have hGr19 := SliceOf.kept (SliceOf.kept Ri64.kept) _ _ _ _ hc19 hGr17
 have hvo19 := SliceOf.kept (SliceOf.kept Ru8.kept) _ _ _ _ hc19 hvo17
 have x19 := x18.keep0 hc19
 refine run ?_
 refine go T 5 rfl ?_
 refine ltS rfl rfl rfl rfl (fun hcmp => ?_) (fun hcmp => ?_)
 ·have hlt : i < gs.length := by omega
  have hgi := List.getElem?_eq_getElem hlt
  have hqi := List.getElem?_eq_getElem (show i < P.length by omega)
  obtain ⟨hn3, hnn, hnr, hnk⟩ := hI i _ hgi
  have hpe := hPi i _ _ hqi hgi
  have hpr := (hPo _ (List.getElem_mem (show i < P.length by omega))).1
  obtain ⟨adp, rfl, he⟩ := (hQP.keepR hc19).at hqi
  generalize P[i] = q at *
  obtain ⟨adg, u0, rfl, hug, hur⟩ := hGr19.get hgi
  generalize gs[i] = ns at *
  obtain ⟨An, cn, rfl, _, _⟩ := hur.form
  rw [hn3] at hug hur
  have hM3 : ((ns.map (madeI B G)).map (·.b)).length = 3 := by rw [List.length_map, List.length_map, hn3]
  refine go T 19 rfl ?_
  refine W_loop (σ := Nat × Value) (fun t => [(6, .pointer (some ⟨g, 0, none⟩)), (7, .pointer (some ⟨gm, 0, none⟩)), (8, .slice Av B.length cv), (9, .slice (some adg) gs.length cg), (10, .int .i64 gs.length), (13, .slice (some adp) P.length cp), (14, .int .i64 (i : Int)), (15, t.2), (16, .int .i64 (t.1 : Int))])
   (fun t w' => t.1 ≤ 3 ∧ Chg [] w19 w' ∧ OwnOf (SliceOf Ru8) 51 [] w' t.2 (((ns.map (madeI B G)).map (·.b)).take t.1) ∧ ∀ h, t.2.ownBlock = some h → w19.heap.size ≤ h) (fun t => 3 - t.1) (0, .slice none 0 0) ⟨rfl, rfl, rfl, rfl, rfl, rfl, rfl, rfl, rfl, trivial⟩ ⟨Nat.zero_le _, Chg.refl _ _, OwnOf.nil _ _ _ _, fun h hh => by simp [Value.ownBlock] at hh⟩ ?_
  rintro ⟨j, vm⟩ w20 ⟨hj, hc20, hom, hfm⟩
  dsimp only at hj hom hfm ⊢
  refine run ?_
  refine go T 4 rfl ?_
  refine ltS rfl rfl rfl rfl (fun hcmp => ?_) (fun hcmp => ?_)
  ·have hj3 : j < 3 := by omega
   have hkj := List.getElem?_eq_getElem (show j < ns.length by omega)
   obtain ⟨hk1, hk2, hk3⟩ := hnk _ (List.getElem_mem (show j < ns.length by omega))
   have hmj : ((ns.map (madeI B G)).map (·.b)).take (j + 1) = ((ns.map (madeI B G)).map (·.b)).take j ++ [(madeI B G ns[j]).b] := by
    rw [List.take_add_one, List.getElem?_map, List.getElem?_map, hkj]; rfl
   have hml : (((ns.map (madeI B G)).map (·.b)).take j).length ≤ 3 := by rw [List.length_take]; omega
   obtain ⟨adn, u1, rfl, hu1, hr1, _⟩ := hur.get hkj
   generalize ((ns.map (madeI B G)).map (·.b)).take j = Mj at *
   generalize ns[j] = k at *
   obtain ⟨kn, rfl⟩ : ∃ kn : Nat, k = (kn : Int) + 1 := ⟨(k - 1).toNat, by omega⟩
   rw [show (((kn : Int) + 1) - 1).toNat = kn from by omega] at hk2 hk3
   have hBk := List.getElem?_eq_getElem hk2
   rw [hk3 _ hBk] at hmj
   obtain ⟨adv, u2, rfl, hu2, hr2⟩ := hvo19.get hBk
   generalize B[kn] = bk at *
   subst hr1
   have hug20 := hc20.cell0 hug
   have hu120 := hc20.cell0 hu1
   have hu220 := hc20.cell0 hu2
   obtain ⟨Ab, cb, rfl, _, _⟩ := hr2.form
   refine go T 12 rfl ?_
   refine o1 rfl (op_index_nat T rfl rfl rfl rfl rfl rfl (by omega) ?_)
   refine o1 rfl (op_load T rfl rfl rfl rfl (by assumption) ?_)
   refine go T 1 rfl ?_
   refine o1 rfl (op_index_nat T rfl rfl rfl rfl rfl rfl (by omega) ?_)
   refine o1 rfl (op_load T rfl rfl rfl rfl (by assumption) ?_)
   refine sbI rfl rfl rfl rfl (by omega) (by omega) ?_
   refine o1 rfl ?_
   refine op_index_nat (i := kn) T rfl rfl (congrArg (fun u => some (Value.int .i64 u)) (Int.add_sub_cancel _ _)) rfl rfl rfl (by omega) ?_
   refine o1 rfl (op_load T rfl rfl rfl rfl (by assumption) ?_)
   refine o1 rfl ?_
   refine op_buildSlice T rfl rfl rfl rfl rfl rfl rfl (fun gb w21 hs21 hc21 h21 => ?_)
   have h21 : Blk w21 gb 51 [.slice Ab bk.length cb] := h21
   have hom21 := hom.keep0 hc21
   have hcb := hc20.trans' hc21
   have hzz := hcb.size
   refine o1 rfl ?_
   refine op_push T (xa := bk) rfl rfl rfl rfl rfl rfl rfl rfl hom21 h21 rfl ?_ (by omega) rfl (fun v22 w22 ho22 hc22 hb22 => ?_)
   ·rw [List.append_nil]
    exact Firm.old (fun _ _ => SliceOf.kept Ru8.kept _ _ _ _) hr2 hcb (fun k hk => hfm k (by simpa using hk))
   have hcc : Chg [] w19 w22 := hcb.trans hc22 (fun k hk hlt => by have := hfm k (by simpa using hk); omega)
   refine go T 6 rfl ?_
   refine adI rfl rfl rfl rfl (by omega) (by omega) ?_
   refine go T 2 rfl ?_
   refine Round_n (j + 1, v22) ⟨rfl, rfl, rfl, rfl, rfl, rfl, rfl, rfl, rfl, trivial⟩ ⟨by dsimp only; omega, hcc, by dsimp only; rw [hmj]; exact ho22, fun h hh => ?_⟩ (by dsimp only; omega)
   dsimp only at hh
   rcases hb22 with h1 | ⟨k, h1, h2⟩
   ·exact hfm h (by rw [← h1]; exact hh)
   ·rw [h1] at hh; injection hh with hh; omega
  ·obtain rfl : j = 3 := by omega
   rw [List.take_of_length_le (by omega)] at hom
   have hmr := hom.reads
   obtain ⟨Am, cm, rfl, _, _⟩ := hmr.form
   rw [hM3] at hmr ⊢
   have x20 := x19.keep0 hc20
   have hug20 := hc20.cell0 hug
   replace hpr := (hprd _ _ hpr).keep0 (hc19.trans' hc20)
   replace he := he.keep0 hc20
   have hnI := hnn
   obtain ⟨⟨p0, vn, vz⟩, ho1, ho2⟩ := q
   dsimp only at hpe hpr
   subst hpe
   obtain ⟨hprn, _⟩ := hpr
   change SliceOf Ri64 w20 vn (gNums (ns.map (madeI B G))) at hprn
   rw [hnn] at hprn
   obtain ⟨An2, cn2, rfl, _, _⟩ := hprn.form
   rw [hn3] at hprn
   have hgp : parity ((ns.map (madeI B G)).map (·.b)) = gPar (ns.map (madeI B G)) := rfl
   have hbM : ∀ r ∈ (ns.map (madeI B G)).map (·.b), r.length ≤ 300 := fun r hr => by
    obtain ⟨it, hit, rfl⟩ := List.mem_map.1 hr
    obtain ⟨k, hk, rfl⟩ := List.mem_map.1 hit
    exact madeI_len hBb k
   have hpar := parity_length ((ns.map (madeI B G)).map (·.b))
   have hpm := maxOf_le ((ns.map (madeI B G)).map (·.b)) 300 hbM
   have hpf : parSL ⟨⟨mkP ((50 + i : Nat) : Int) (ns.map (madeI B G)), .slice An2 ns.length cn2, vz⟩, ho1, ho2⟩ = [.int .i64 ((50 + i : Nat) : Int), .slice An2 ns.length cn2, vz, .int .i64 (gPar (ns.map (madeI B G))).length, .int .u32 (crcN (gPar (ns.map (madeI B G))) : Nat)] := rfl
   rw [hpf, hn3] at he
   rw [hgp] at hpar
   replace hnr := hrd _ _ hnr
   generalize gPar (ns.map (madeI B G)) = gp at *
   refine go T 5 rfl ?_
   refine rndX ?_
   refine go T 7 rfl ?_
   refine o1 rfl (op_indexK T rfl rfl rfl rfl rfl (by omega) ?_)
   refine o1 rfl (op_fieldAddr T rfl rfl rfl rfl rfl rfl rfl rfl ?_)
   refine o1 rfl (op_loadF T he rfl rfl rfl rfl rfl ?_)
   refine o1 rfl ?_
   refine op_call rfl rfl rfl (name23_has (50 + i) endPar w20 (by omega) (by decide)) ?_
   rintro _ w21 ⟨hc21, rfl⟩
   have hro := readO_has (x20.fs.keep0 hc21) (dig2 (50 + i) ++ endPar)
   rw [hnr] at hro
   refine o1 rfl ?_
   refine op_call rfl rfl rfl hro ?_
   rintro _ w22 ⟨_, hc22, ub, rfl, hub, _⟩
   have hbu := hub.bytes
   obtain ⟨Au, cu, rfl, _, hcu2⟩ := hbu.form
   unfold maxLen at hcu2
   have hc2022 := hc21.trans' hc22
   have hmr22 := SliceOf.kept (SliceOf.kept Ru8.kept) _ _ _ _ hc2022 hmr
   have he22 := he.keep0 hc2022
   have hug22 := hc2022.cell0 hug20
   have hpr22 := SliceOf.kept Ri64.kept _ _ _ _ hc2022 hprn
   have hur22 := SliceOf.kept Ri64.kept _ _ _ _ (hc20.trans' hc2022) hur
   have hk0 := List.getElem?_eq_getElem (show 0 < ns.length by omega)
   obtain ⟨ada, ua, rfl, hua, hra, _⟩ := hpr22.get hk0
   obtain ⟨adb, ub2, rfl, hub2, hrb, _⟩ := hur22.get hk0
   generalize ns[0] = k0 at *
   subst hra
   subst hrb
   have e0 : w22.cell? ((adp.add (i * 5)).add 1) = some (.slice (some ada) 3 cn2) := by rw [add_of_add]; exact he22 1 _ rfl
   have e3 : w22.cell? ((adp.add (i * 5)).add 3) = some (.int .i64 (gp.length : Int)) := by rw [add_of_add]; exact he22 3 _ rfl
   have e4 : w22.cell? ((adp.add (i * 5)).add 4) = some (.int .u32 ((crcN gp : Nat) : Int)) := by rw [add_of_add]; exact he22 4 _ rfl
   clear he he22 hug20 hpr22 hur22 hprn hom hro hub hug
   refine go T 8 rfl ?_
   refine W_walk 53 [] fol (by kernel_rfl) (by kernel_rfl) ?_
   refine Walk.plain rfl (by intro val w_ hR hp; exact op_move rfl rfl ⟨Chg.refl _ _, rfl⟩) ?_; dsimp only [na1, na2]
   refine Walk.plain rfl (by intro val w_ hR hp; exact op_neq rfl rfl rfl (fun hcmp => False.elim (by omega)) (fun hcmp => ⟨Chg.refl _ _, rfl⟩)) ?_; dsimp only [na1, na2]
   refine Walk.plain rfl (by intro val w_ hR hp; exact op_move rfl rfl ⟨Chg.refl _ _, rfl⟩) ?_; dsimp only [na1, na2]
   refine Walk.guardT rfl rfl rfl (fun _ => rfl) (by intro val w_ hR hp; exact op_move rfl rfl ⟨Chg.refl _ _, rfl⟩) ?_; dsimp only [na1, na2]
   refine Walk.guardT (v := .string (str gp)) rfl rfl rfl (fun _ => rfl) (by intro val w_ hR hp; exact op_string T rfl rfl rfl rfl rfl (SliceOf.kept Ru8.kept _ _ _ _ hR hbu) ⟨Chg.refl _ _, rfl⟩) ?_; dsimp only [na1, na2]
   refine Walk.guardT rfl rfl rfl (fun _ => rfl) (by intro val w_ hR hp; exact op_move rfl rfl ⟨Chg.refl _ _, rfl⟩) ?_; dsimp only [na1, na2]
   refine Walk.guardR (fun v w' => ∃ A c, v = .slice A gp.length c ∧ SliceOf Ru8 w' v gp) rfl rfl rfl (fun _ => rfl) (fun v w w' h hab => let ⟨A, c, h1, h2⟩ := h; ⟨A, c, h1, SliceOf.kept Ru8.kept _ _ _ _ hab h2⟩) (by intro val w_ hR hp; exact op_call rfl rfl rfl (refParity_has Am _ cm _ w_ (SliceOf.kept (SliceOf.kept Ru8.kept) _ _ _ _ hR hmr22) (fun r hr => by have := hbM r hr; omega)) (fun v w' ⟨h1, h2⟩ => ⟨h1, by rw [hgp] at h2; obtain ⟨A, c, h3, _, _⟩ := h2.form; exact ⟨A, c, h3, h2⟩⟩)) ?_; dsimp only [na1, na2]
   refine Walk.guardT (v := .string (str gp)) rfl rfl rfl (fun _ => rfl) (by intro val w_ hR hp; exact (by obtain ⟨A, c, h1, h2⟩ := hp 6 rfl _ _ rfl rfl; have h1 : val 6 = _ := h1; have h2 : SliceOf Ru8 w_ (val 6) gp := h2; rw [h1] at h2; exact op_string T rfl (show some (val 6) = _ by rw [h1]) rfl rfl rfl h2 ⟨Chg.refl _ _, rfl⟩)) ?_; dsimp only [na1, na2]
   refine Walk.guardT (v := .bool false) rfl rfl rfl (fun _ => rfl) (by intro val w_ hR hp; exact op_str_neq (a := gp) (b := gp) rfl rfl rfl (fun h => absurd rfl h) (fun h => ⟨Chg.refl _ _, rfl⟩)) ?_; dsimp only [na1, na2]
   refine Walk.plain rfl (by intro val w_ hR hp; exact op_pick rfl rfl rfl rfl ⟨Chg.refl _ _, rfl⟩) ?_; dsimp only [na1, na2]
   refine Walk.plain rfl (by intro val w_ hR hp; exact op_move rfl rfl ⟨Chg.refl _ _, rfl⟩) ?_; dsimp only [na1, na2]
   refine Walk.guardT rfl rfl rfl (fun _ => rfl) (by intro val w_ hR hp; exact op_move rfl rfl ⟨Chg.refl _ _, rfl⟩) ?_; dsimp only [na1, na2]
   refine Walk.guardT rfl rfl rfl (fun _ => rfl) (by intro val w_ hR hp; exact op_move rfl rfl ⟨Chg.refl _ _, rfl⟩) ?_; dsimp only [na1, na2]
   refine Walk.guardT rfl rfl rfl (fun _ => rfl) (by intro val w_ hR hp; exact op_indexK T rfl rfl rfl rfl rfl (by omega) ⟨Chg.refl _ _, rfl⟩) ?_; dsimp only [na1, na2]
   refine Walk.guardT rfl rfl rfl (fun _ => rfl) (by intro val w_ hR hp; exact op_fieldAddr T rfl rfl rfl rfl rfl rfl rfl rfl ⟨Chg.refl _ _, rfl⟩) ?_; dsimp only [na1, na2]
   refine Walk.guardT rfl rfl rfl (fun _ => rfl) (by intro val w_ hR hp; exact op_load T rfl rfl rfl rfl (hR.cell0 (by assumption)) ⟨Chg.refl _ _, rfl⟩) ?_; dsimp only [na1, na2]
   refine Walk.guardT rfl rfl rfl (fun _ => rfl) (by intro val w_ hR hp; exact op_move rfl rfl ⟨Chg.refl _ _, rfl⟩) ?_; dsimp only [na1, na2]
   refine Walk.guardT rfl rfl rfl (fun _ => rfl) (by intro val w_ hR hp; exact op_len_slice T rfl rfl rfl rfl ⟨Chg.refl _ _, rfl⟩) ?_; dsimp only [na1, na2]
   refine Walk.guardT rfl rfl rfl (fun _ => rfl) (by intro val w_ hR hp; exact op_neq rfl rfl rfl (fun hcmp => False.elim (by omega)) (fun hcmp => ⟨Chg.refl _ _, rfl⟩)) ?_; dsimp only [na1, na2]
   refine Walk.plain rfl (by intro val w_ hR hp; exact op_pick rfl rfl rfl rfl ⟨Chg.refl _ _, rfl⟩) ?_; dsimp only [na1, na2]
   refine Walk.plain rfl (by intro val w_ hR hp; exact op_move rfl rfl ⟨Chg.refl _ _, rfl⟩) ?_; dsimp only [na1, na2]
   refine Walk.guardT rfl rfl rfl (fun _ => rfl) (by intro val w_ hR hp; exact op_move rfl rfl ⟨Chg.refl _ _, rfl⟩) ?_; dsimp only [na1, na2]
   refine Walk.guardT rfl rfl rfl (fun _ => rfl) (by intro val w_ hR hp; exact op_move rfl rfl ⟨Chg.refl _ _, rfl⟩) ?_; dsimp only [na1, na2]
   refine Walk.guardT rfl rfl rfl (fun _ => rfl) (by intro val w_ hR hp; exact op_indexK T rfl rfl rfl rfl rfl (by omega) ⟨Chg.refl _ _, rfl⟩) ?_; dsimp only [na1, na2]
   refine Walk.guardT rfl rfl rfl (fun _ => rfl) (by intro val w_ hR hp; exact op_fieldAddr T rfl rfl rfl rfl rfl rfl rfl rfl ⟨Chg.refl _ _, rfl⟩) ?_; dsimp only [na1, na2]
   refine Walk.guardT rfl rfl rfl (fun _ => rfl) (by intro val w_ hR hp; exact op_load T rfl rfl rfl rfl (hR.cell0 (by assumption)) ⟨Chg.refl _ _, rfl⟩) ?_; dsimp only [na1, na2]
   refine Walk.guardT rfl rfl rfl (fun _ => rfl) (by intro val w_ hR hp; exact op_move rfl rfl ⟨Chg.refl _ _, rfl⟩) ?_; dsimp only [na1, na2]
   refine Walk.guardT (v := .int .u32 ((crcN gp : Nat) : Int)) rfl rfl rfl (fun _ => rfl) (by intro val w_ hR hp; exact op_call rfl rfl rfl (sumN_has Au _ cu gp w_ (SliceOf.kept Ru8.kept _ _ _ _ hR hbu)) (fun v w' h => h)) ?_; dsimp only [na1, na2]
   refine Walk.guardT rfl rfl rfl (fun _ => rfl) (by intro val w_ hR hp; exact op_neq rfl rfl rfl (fun hcmp => False.elim (by omega)) (fun hcmp => ⟨Chg.refl _ _, rfl⟩)) ?_; dsimp only [na1, na2]
   refine Walk.plain rfl (by intro val w_ hR hp; exact op_pick rfl rfl rfl rfl ⟨Chg.refl _ _, rfl⟩) ?_; dsimp only [na1, na2]
   refine Walk.plain rfl (by intro val w_ hR hp; exact op_move rfl rfl ⟨Chg.refl _ _, rfl⟩) ?_; dsimp only [na1, na2]
   refine Walk.guardT rfl rfl rfl (fun _ => rfl) (by intro val w_ hR hp; exact op_move rfl rfl ⟨Chg.refl _ _, rfl⟩) ?_; dsimp only [na1, na2]
   refine Walk.guardT rfl rfl rfl (fun _ => rfl) (by intro val w_ hR hp; exact op_move rfl rfl ⟨Chg.refl _ _, rfl⟩) ?_; dsimp only [na1, na2]
   refine Walk.guardT rfl rfl rfl (fun _ => rfl) (by intro val w_ hR hp; exact op_indexK T rfl rfl rfl rfl rfl (by omega) ⟨Chg.refl _ _, rfl⟩) ?_; dsimp only [na1, na2]
   refine Walk.guardT rfl rfl rfl (fun _ => rfl) (by intro val w_ hR hp; exact op_fieldAddr T rfl rfl rfl rfl rfl rfl rfl rfl ⟨Chg.refl _ _, rfl⟩) ?_; dsimp only [na1, na2]
   refine Walk.guardT rfl rfl rfl (fun _ => rfl) (by intro val w_ hR hp; exact op_load T rfl rfl rfl rfl (hR.cell0 (by assumption)) ⟨Chg.refl _ _, rfl⟩) ?_; dsimp only [na1, na2]
   refine Walk.guardT rfl rfl rfl (fun _ => rfl) (by intro val w_ hR hp; exact op_len_slice T rfl rfl rfl rfl ⟨Chg.refl _ _, rfl⟩) ?_; dsimp only [na1, na2]
   refine Walk.guardT rfl rfl rfl (fun _ => rfl) (by intro val w_ hR hp; exact op_neq rfl rfl rfl (fun hcmp => False.elim (by omega)) (fun hcmp => ⟨Chg.refl _ _, rfl⟩)) ?_; dsimp only [na1, na2]
   refine Walk.plain rfl (by intro val w_ hR hp; exact op_pick rfl rfl rfl rfl ⟨Chg.refl _ _, rfl⟩) ?_; dsimp only [na1, na2]
   refine Walk.plain rfl (by intro val w_ hR hp; exact op_move rfl rfl ⟨Chg.refl _ _, rfl⟩) ?_; dsimp only [na1, na2]
   refine Walk.guardT rfl rfl rfl (fun _ => rfl) (by intro val w_ hR hp; exact op_move rfl rfl ⟨Chg.refl _ _, rfl⟩) ?_; dsimp only [na1, na2]
   refine Walk.guardT rfl rfl rfl (fun _ => rfl) (by intro val w_ hR hp; exact op_move rfl rfl ⟨Chg.refl _ _, rfl⟩) ?_; dsimp only [na1, na2]
   refine Walk.guardT rfl rfl rfl (fun _ => rfl) (by intro val w_ hR hp; exact op_indexK T rfl rfl rfl rfl rfl (by omega) ⟨Chg.refl _ _, rfl⟩) ?_; dsimp only [na1, na2]
   refine Walk.guardT rfl rfl rfl (fun _ => rfl) (by intro val w_ hR hp; exact op_fieldAddr T rfl rfl rfl rfl rfl rfl rfl rfl ⟨Chg.refl _ _, rfl⟩) ?_; dsimp only [na1, na2]
   refine Walk.guardT rfl rfl rfl (fun _ => rfl) (by intro val w_ hR hp; exact op_load T rfl rfl rfl rfl (hR.cell0 (by assumption)) ⟨Chg.refl _ _, rfl⟩) ?_; dsimp only [na1, na2]
   refine Walk.guardT rfl rfl rfl (fun _ => rfl) (by intro val w_ hR hp; exact op_index_nat (i := 0) T rfl rfl rfl rfl rfl rfl (by omega) ⟨Chg.refl _ _, rfl⟩) ?_; dsimp only [na1, na2]
   refine Walk.guardT rfl rfl rfl (fun _ => rfl) (by intro val w_ hR hp; exact op_load T rfl rfl rfl rfl (hR.cell0 (by assumption)) ⟨Chg.refl _ _, rfl⟩) ?_; dsimp only [na1, na2]
   refine Walk.guardT rfl rfl rfl (fun _ => rfl) (by intro val w_ hR hp; exact op_move rfl rfl ⟨Chg.refl _ _, rfl⟩) ?_; dsimp only [na1, na2]
   refine Walk.guardT rfl rfl rfl (fun _ => rfl) (by intro val w_ hR hp; exact op_move rfl rfl ⟨Chg.refl _ _, rfl⟩) ?_; dsimp only [na1, na2]
   refine Walk.guardT rfl rfl rfl (fun _ => rfl) (by intro val w_ hR hp; exact op_index_nat T rfl rfl rfl rfl rfl rfl (by omega) ⟨Chg.refl _ _, rfl⟩) ?_; dsimp only [na1, na2]
   refine Walk.guardT rfl rfl rfl (fun _ => rfl) (by intro val w_ hR hp; exact op_load T rfl rfl rfl rfl (hR.cell0 (by assumption)) ⟨Chg.refl _ _, rfl⟩) ?_; dsimp only [na1, na2]
   refine Walk.guardT rfl rfl rfl (fun _ => rfl) (by intro val w_ hR hp; exact op_index_nat (i := 0) T rfl rfl rfl rfl rfl rfl (by omega) ⟨Chg.refl _ _, rfl⟩) ?_; dsimp only [na1, na2]
   refine Walk.guardT rfl rfl rfl (fun _ => rfl) (by intro val w_ hR hp; exact op_load T rfl rfl rfl rfl (hR.cell0 (by assumption)) ⟨Chg.refl _ _, rfl⟩) ?_; dsimp only [na1, na2]
   refine Walk.fin ?_
   intro val w23 hc23 hp
   clear hp
   refine runL ?_
   refine neF rfl rfl rfl rfl (by omega) ?_
   refine go T 9 rfl ?_
   refine adI rfl rfl rfl rfl (by omega) (by omega) ?_
   refine go T 2 rfl ?_
   exact Round_n (i + 1) ⟨rfl, rfl, rfl, rfl, rfl, rfl, rfl, trivial⟩ ⟨by omega, ((hc19.trans' hc20).trans' hc2022).trans' hc23⟩ (by omega)
 ·obtain rfl : i = gs.length := by omega
  refine go T 5 rfl ?_
  refine rndX ?_
  refine go T 5 rfl ?_
  refine o1 rfl ?_
  refine op_call rfl rfl rfl (segsO_has x19 (Nat.le_trans (show st8.segs.length ≤ 60 from hls8) (by decide))) ?_
  rintro va w20 ⟨hc20, hO20, _⟩
  have hS20 := hO20.readsK segL_len
  obtain ⟨As2, cs2, rfl, _, _⟩ := hS20.form
  have hls : st8.segs.length ≤ 60 := hls8
  have hQP20 := hQP.keepR (hc19.trans' hc20)
  clear hO20 x19 x18 hQP hGr17 hvo17 hGr19 hvo19
  refine go T 10 rfl ?_
  refine W_loop (σ := Nat) (fun t => [(13, .slice Ap P.length cp), (19, .slice As2 st8.segs.length cs2), (20, .int .i64 (t : Int))])
   (fun t w' => t ≤ st8.segs.length ∧ Chg [] w20 w') (fun t => st8.segs.length - t) 0 ⟨rfl, rfl, rfl, trivial⟩ ⟨Nat.zero_le _, Chg.refl _ _⟩ ?_
  rintro j w21 ⟨hj, hc21⟩
  refine run ?_
  refine go T 6 rfl ?_
  refine ltS rfl rfl rfl rfl (fun hcmp => ?_) (fun hcmp => ?_)
  ·have hlt : j < st8.segs.length := by omega
   have hx := List.getElem?_eq_getElem hlt
   obtain ⟨ad, rfl, he⟩ := (hS20.keepR hc21).at hx
   have hft := hfit _ (List.getElem_mem hlt)
   generalize st8.segs[j] = y at *
   obtain ⟨nm, sl, gr, me, sz, su⟩ := y
   have e2 : w21.cell? ((ad.add (j * 6)).add 2) = some (.int .i64 gr) := by rw [add_of_add]; exact he 2 _ rfl
   have e3 : w21.cell? ((ad.add (j * 6)).add 3) = some (.int .i64 me) := by rw [add_of_add]; exact he 3 _ rfl
   clear he
   by_cases hgr : gr = 0
   ·refine go T 8 rfl ?_
    refine W_walk 28 [] fol (by kernel_rfl) (by kernel_rfl) ?_
    refine Walk.plain rfl (by intro val w_ hR hp; exact op_move rfl rfl ⟨Chg.refl _ _, rfl⟩) ?_; dsimp only [na1, na2]
    refine Walk.plain rfl (by intro val w_ hR hp; exact op_move rfl rfl ⟨Chg.refl _ _, rfl⟩) ?_; dsimp only [na1, na2]
    refine Walk.plain rfl (by intro val w_ hR hp; exact op_indexK T rfl rfl rfl rfl rfl (by omega) ⟨Chg.refl _ _, rfl⟩) ?_; dsimp only [na1, na2]
    refine Walk.plain rfl (by intro val w_ hR hp; exact op_fieldAddr T rfl rfl rfl rfl rfl rfl rfl rfl ⟨Chg.refl _ _, rfl⟩) ?_; dsimp only [na1, na2]
    refine Walk.plain rfl (by intro val w_ hR hp; exact op_load T rfl rfl rfl rfl (hR.cell0 (by assumption)) ⟨Chg.refl _ _, rfl⟩) ?_; dsimp only [na1, na2]
    refine Walk.plain rfl (by intro val w_ hR hp; exact op_neq rfl rfl rfl (fun hcmp => False.elim (by omega)) (fun hcmp => ⟨Chg.refl _ _, rfl⟩)) ?_; dsimp only [na1, na2]
    refine Walk.plain rfl (by intro val w_ hR hp; exact op_move rfl rfl ⟨Chg.refl _ _, rfl⟩) ?_; dsimp only [na1, na2]
    refine Walk.guardF rfl rfl rfl (fun _ => rfl) rfl ?_; dsimp only [na1, na2]
    refine Walk.guardF rfl rfl rfl (fun _ => rfl) rfl ?_; dsimp only [na1, na2]
    refine Walk.guardF rfl rfl rfl (fun _ => rfl) rfl ?_; dsimp only [na1, na2]
    refine Walk.guardF rfl rfl rfl (fun _ => rfl) rfl ?_; dsimp only [na1, na2]
    refine Walk.guardF rfl rfl rfl (fun _ => rfl) rfl ?_; dsimp only [na1, na2]
    refine Walk.guardF rfl rfl rfl (fun _ => rfl) rfl ?_; dsimp only [na1, na2]
    refine Walk.guardF rfl rfl rfl (fun _ => rfl) rfl ?_; dsimp only [na1, na2]
    refine Walk.guardF rfl rfl rfl (fun _ => rfl) rfl ?_; dsimp only [na1, na2]
    refine Walk.guardF rfl rfl rfl (fun _ => rfl) rfl ?_; dsimp only [na1, na2]
    refine Walk.guardF rfl rfl rfl (fun _ => rfl) rfl ?_; dsimp only [na1, na2]
    refine Walk.guardF rfl rfl rfl (fun _ => rfl) rfl ?_; dsimp only [na1, na2]
    refine Walk.guardU rfl rfl rfl (fun _ => rfl) ?_; dsimp only [na1, na2]
    refine Walk.guardU rfl rfl rfl (fun _ => rfl) ?_; dsimp only [na1, na2]
    refine Walk.guardU rfl rfl rfl (fun _ => rfl) ?_; dsimp only [na1, na2]
    refine Walk.guardU rfl rfl rfl (fun _ => rfl) ?_; dsimp only [na1, na2]
    refine Walk.guardU rfl rfl rfl (fun _ => rfl) ?_; dsimp only [na1, na2]
    refine Walk.guardU rfl rfl rfl (fun _ => rfl) ?_; dsimp only [na1, na2]
    refine Walk.guardF rfl rfl rfl (fun _ => rfl) rfl ?_; dsimp only [na1, na2]
    refine Walk.guardF rfl rfl rfl (fun _ => rfl) rfl ?_; dsimp only [na1, na2]
    refine Walk.guardU rfl rfl rfl (fun _ => rfl) ?_; dsimp only [na1, na2]
    refine Walk.guardU rfl rfl rfl (fun _ => rfl) ?_; dsimp only [na1, na2]
    refine Walk.fin ?_
    intro val w23 hc23 hp
    clear hp
    replace e2 := hc23.cell0 e2
    replace e3 := hc23.cell0 e3
    refine runL ?_
    refine go T 14 rfl ?_
    refine adI rfl rfl rfl rfl (by omega) (by omega) ?_
    refine go T 2 rfl ?_
    exact Round_n (j + 1) ⟨rfl, rfl, rfl, trivial⟩ ⟨by omega, hc21.trans' hc23⟩ (by omega)
   ·rcases hft with h | ⟨hn0, h50, hm0, hm2⟩
    ·exact absurd h hgr
    dsimp only at h50 hm0 hm2
    have hq0 := List.getElem?_eq_getElem (show 0 < P.length by omega)
    have hg0 := List.getElem?_eq_getElem hn0
    have hpe := hPi 0 _ _ hq0 hg0
    obtain ⟨adp, rfl, he⟩ := (hQP20.keepR hc21).at hq0
    generalize P[0] = q at *
    obtain ⟨⟨p0, vn, vz⟩, ho1, ho2⟩ := q
    dsimp only at hpe
    subst hpe
    have e0 : w21.cell? ((adp.add (0 * 5)).add 0) = some (.int .i64 50) := by rw [add_of_add]; exact he 0 _ rfl
    refine go T 8 rfl ?_
    refine W_walk 28 [] fol (by kernel_rfl) (by kernel_rfl) ?_
    refine Walk.plain rfl (by intro val w_ hR hp; exact op_move rfl rfl ⟨Chg.refl _ _, rfl⟩) ?_; dsimp only [na1, na2]
    refine Walk.plain rfl (by intro val w_ hR hp; exact op_move rfl rfl ⟨Chg.refl _ _, rfl⟩) ?_; dsimp only [na1, na2]
    refine Walk.plain rfl (by intro val w_ hR hp; exact op_indexK T rfl rfl rfl rfl rfl (by omega) ⟨Chg.refl _ _, rfl⟩) ?_; dsimp only [na1, na2]
    refine Walk.plain rfl (by intro val w_ hR hp; exact op_fieldAddr T rfl rfl rfl rfl rfl rfl rfl rfl ⟨Chg.refl _ _, rfl⟩) ?_; dsimp only [na1, na2]
    refine Walk.plain rfl (by intro val w_ hR hp; exact op_load T rfl rfl rfl rfl (hR.cell0 (by assumption)) ⟨Chg.refl _ _, rfl⟩) ?_; dsimp only [na1, na2]
    refine Walk.plain rfl (by intro val w_ hR hp; exact op_neq rfl rfl rfl (fun hcmp => ⟨Chg.refl _ _, rfl⟩) (fun hcmp => False.elim (by omega))) ?_; dsimp only [na1, na2]
    refine Walk.plain rfl (by intro val w_ hR hp; exact op_move rfl rfl ⟨Chg.refl _ _, rfl⟩) ?_; dsimp only [na1, na2]
    refine Walk.guardT rfl rfl rfl (fun _ => rfl) (by intro val w_ hR hp; exact op_move rfl rfl ⟨Chg.refl _ _, rfl⟩) ?_; dsimp only [na1, na2]
    refine Walk.guardT rfl rfl rfl (fun _ => rfl) (by intro val w_ hR hp; exact op_indexK (i := 0) T rfl rfl rfl rfl rfl (by omega) ⟨Chg.refl _ _, rfl⟩) ?_; dsimp only [na1, na2]
    refine Walk.guardT rfl rfl rfl (fun _ => rfl) (by intro val w_ hR hp; exact op_fieldAddr T rfl rfl rfl rfl rfl rfl rfl rfl ⟨Chg.refl _ _, rfl⟩) ?_; dsimp only [na1, na2]
    refine Walk.guardT rfl rfl rfl (fun _ => rfl) (by intro val w_ hR hp; exact op_load T rfl rfl rfl rfl (hR.cell0 (by assumption)) ⟨Chg.refl _ _, rfl⟩) ?_; dsimp only [na1, na2]
    refine Walk.guardT rfl rfl rfl (fun _ => rfl) (by intro val w_ hR hp; exact op_move rfl rfl ⟨Chg.refl _ _, rfl⟩) ?_; dsimp only [na1, na2]
    refine Walk.guardT rfl rfl rfl (fun _ => rfl) (by intro val w_ hR hp; exact op_move rfl rfl ⟨Chg.refl _ _, rfl⟩) ?_; dsimp only [na1, na2]
    refine Walk.guardT rfl rfl rfl (fun _ => rfl) (by intro val w_ hR hp; exact op_indexK T rfl rfl rfl rfl rfl (by omega) ⟨Chg.refl _ _, rfl⟩) ?_; dsimp only [na1, na2]
    refine Walk.guardT rfl rfl rfl (fun _ => rfl) (by intro val w_ hR hp; exact op_fieldAddr T rfl rfl rfl rfl rfl rfl rfl rfl ⟨Chg.refl _ _, rfl⟩) ?_; dsimp only [na1, na2]
    refine Walk.guardT rfl rfl rfl (fun _ => rfl) (by intro val w_ hR hp; exact op_load T rfl rfl rfl rfl (hR.cell0 (by assumption)) ⟨Chg.refl _ _, rfl⟩) ?_; dsimp only [na1, na2]
    refine Walk.guardT rfl rfl rfl (fun _ => rfl) (by intro val w_ hR hp; exact op_gtr rfl rfl rfl (fun hcmp => False.elim (by omega)) (fun hcmp => ⟨Chg.refl _ _, rfl⟩)) ?_; dsimp only [na1, na2]
    refine Walk.guardT rfl rfl rfl (fun _ => rfl) (by intro val w_ hR hp; exact op_move rfl rfl ⟨Chg.refl _ _, rfl⟩) ?_; dsimp only [na1, na2]
    refine Walk.guardT rfl rfl rfl (fun _ => rfl) (by intro val w_ hR hp; exact op_move rfl rfl ⟨Chg.refl _ _, rfl⟩) ?_; dsimp only [na1, na2]
    refine Walk.guardT rfl rfl rfl (fun _ => rfl) (by intro val w_ hR hp; exact op_move rfl rfl ⟨Chg.refl _ _, rfl⟩) ?_; dsimp only [na1, na2]
    refine Walk.guardT rfl rfl rfl (fun _ => rfl) (by intro val w_ hR hp; exact op_indexK T rfl rfl rfl rfl rfl (by omega) ⟨Chg.refl _ _, rfl⟩) ?_; dsimp only [na1, na2]
    refine Walk.guardT rfl rfl rfl (fun _ => rfl) (by intro val w_ hR hp; exact op_fieldAddr T rfl rfl rfl rfl rfl rfl rfl rfl ⟨Chg.refl _ _, rfl⟩) ?_; dsimp only [na1, na2]
    refine Walk.guardT rfl rfl rfl (fun _ => rfl) (by intro val w_ hR hp; exact op_load T rfl rfl rfl rfl (hR.cell0 (by assumption)) ⟨Chg.refl _ _, rfl⟩) ?_; dsimp only [na1, na2]
    refine Walk.guardT rfl rfl rfl (fun _ => rfl) (by intro val w_ hR hp; exact op_lss rfl rfl rfl (fun hcmp => False.elim (by omega)) (fun hcmp => ⟨Chg.refl _ _, rfl⟩)) ?_; dsimp only [na1, na2]
    refine Walk.guardT rfl rfl rfl (fun _ => rfl) (by intro val w_ hR hp; exact op_pick rfl rfl rfl rfl ⟨Chg.refl _ _, rfl⟩) ?_; dsimp only [na1, na2]
    refine Walk.guardT rfl rfl rfl (fun _ => rfl) (by intro val w_ hR hp; exact op_move rfl rfl ⟨Chg.refl _ _, rfl⟩) ?_; dsimp only [na1, na2]
    refine Walk.guardT rfl rfl rfl (fun _ => rfl) (by intro val w_ hR hp; exact op_move rfl rfl ⟨Chg.refl _ _, rfl⟩) ?_; dsimp only [na1, na2]
    refine Walk.guardT rfl rfl rfl (fun _ => rfl) (by intro val w_ hR hp; exact op_move rfl rfl ⟨Chg.refl _ _, rfl⟩) ?_; dsimp only [na1, na2]
    refine Walk.fin ?_
    intro val w23 hc23 hp
    clear hp
    replace e2 := hc23.cell0 e2
    replace e3 := hc23.cell0 e3
    refine runL ?_
    refine o1 rfl (op_indexK T rfl rfl rfl rfl rfl (by omega) ?_)
    refine o1 rfl (op_fieldAddr T rfl rfl rfl rfl rfl rfl rfl rfl ?_)
    refine o1 rfl (op_load T rfl rfl rfl rfl (by assumption) ?_)
    refine gtF rfl rfl rfl rfl (by omega) ?_
    refine go T 10 rfl ?_
    refine adI rfl rfl rfl rfl (by omega) (by omega) ?_
    refine go T 2 rfl ?_
    exact Round_n (j + 1) ⟨rfl, rfl, rfl, trivial⟩ ⟨by omega, hc21.trans' hc23⟩ (by omega)
  ·refine go T 5 rfl ?_
   refine rndX ?_
   refine go T 8 rfl ?_
   exact post1 (.inl rfl) rfl rfl ⟨hc018.trans' ((hc19.trans' hc20).trans' hc21), rfl⟩
end Go.Proofs.YtiadjkjlifnopaaGreatDoor.Tryz
/-! From a law's walk to its row: arguments opened by their types' shape; arguments stay; the contract. -/
namespace Go.Vc
open Go Go.RowKit Go.ChangeShapes Go.WideShapes Go.ChangeAt
def Opens (P : Program) (t : TypeId) {α : Type} (R : World → Value → α → Prop) : Prop :=
 ∀ {H : Type} (enc : TypeId × Value → H) (w : World) (base : Nat) (spare : Nat → Bool) (held : Bool) (fuel : Nat) (cs : List Value) (x : DataW H × List MemPlace),
  DataW.trod enc P w base spare held fuel t cs = some x → ∃ u a, cs = [u] ∧ R w u a
theorem list_of {α : Type} {p : Nat → α → Prop} : ∀ n, (∀ i, i < n → ∃ a, p i a) → ∃ L : List α, L.length = n ∧ ∀ i a, L[i]? = some a → p i a
 | 0, _ => ⟨[], rfl, fun i a h => by simp at h⟩
 | n + 1, h => by
  obtain ⟨L, hl, hp⟩ := list_of n (fun i hi => h i (by omega))
  obtain ⟨a, ha⟩ := h n (by omega)
  refine ⟨L ++ [a], by simp [hl], fun i b hb => ?_⟩
  by_cases hi : i < L.length
  ·rw [List.getElem?_append_left hi] at hb; exact hp i b hb
  ·have : i = L.length := by have := (List.getElem?_eq_some_iff.1 hb).1; simp at this; omega
   subst this
   rw [List.getElem?_append_right (Nat.le_refl _)] at hb
   simp at hb; subst hb; rw [hl]; exact ha
theorem Opens.slice {P : Program} {t e : TypeId} {α : Type} {R : World → Value → α → Prop} (ht : P.underlying t = some (.slice e)) (hc : P.cellsOf e = 1) (hR : Opens P e R) : Opens P t (SliceOf R) := by
 intro H enc w base spare held fuel cs x h
 rcases Go.Deep.open_slice1 ht hc h with ⟨rfl, _⟩ | ⟨a, len, cap, m, n, V, D, Pl, rfl, hb, hl, hm, hmm, _, hx⟩
 ·exact ⟨_, [], rfl, SliceOf.nil _ _⟩
 ·have hlm : len ≤ m := by rw [hmm]; split <;> omega
  obtain ⟨L, hlen, hL⟩ := list_of (p := fun i a' => R w (V i) a') len (fun i hi => by
   obtain ⟨_, htr⟩ := hx i (by omega)
   obtain ⟨u, a', hu, hr⟩ := hR enc w base spare held n _ _ htr
   injection hu with hu _
   subst hu
   exact ⟨a', hr⟩)
  refine ⟨_, L, rfl, SliceOf.mk hlen.symm (by omega) hm fun i a' ha => ?_⟩
  have hi : i < len := by have := (List.getElem?_eq_some_iff.1 ha).1; omega
  exact ⟨a, V i, rfl, (hx i (by omega)).1, hL i a' ha⟩
theorem Opens.u8 {P : Program} {t : TypeId} (ht : P.underlying t = some (.int .u8)) : Opens P t Ru8 := by
 intro H enc w base spare held fuel cs x h
 obtain ⟨n, rfl, _, hw⟩ := DataW.trod_int ht h
 have hb : 0 ≤ n ∧ n ≤ 255 := by simp [Lit.wf, IntKind.min, IntKind.max, IntKind.signed, IntKind.bits] at hw; omega
 refine ⟨_, UInt8.ofNat n.toNat, rfl, ?_⟩
 unfold Ru8
 have : ((UInt8.ofNat n.toNat).toNat : Int) = n := by
  rw [UInt8.toNat_ofNat']; omega
 rw [this]
theorem Opens.i64 {P : Program} {t : TypeId} (ht : P.underlying t = some (.int .i64)) : Opens P t Ri64 := by
 intro H enc w base spare held fuel cs x h
 obtain ⟨n, rfl, _, hw⟩ := DataW.trod_int ht h
 have hb : -9223372036854775808 ≤ n ∧ n ≤ 9223372036854775807 := by simp [Lit.wf, IntKind.min, IntKind.max, IntKind.signed, IntKind.bits] at hw; omega
 exact ⟨_, n, rfl, rfl, hb.1, hb.2⟩
theorem Opens.bool {P : Program} {t : TypeId} (ht : P.underlying t = some .bool) : Opens P t Rbool := by
 intro H enc w base spare held fuel cs x h
 obtain ⟨b, rfl, _⟩ := DataW.trod_bool ht h
 exact ⟨_, b, rfl, rfl⟩
theorem Opens.str {P : Program} {t : TypeId} (ht : P.underlying t = some .string) : Opens P t Rstr := by
 intro H enc w base spare held fuel cs x h
 obtain ⟨s, rfl, _, hs⟩ := DataW.trod_string ht h
 exact ⟨_, s, rfl, rfl, hs⟩
theorem Opens.arg {P : Program} {t : TypeId} {α : Type} {R : World → Value → α → Prop} (h : Opens P t R) {w : World} {r : Reach} {base : Nat} {v : Value} {H : Type} {enc : TypeId × Value → H} {sp : Nat → Bool} {held : Bool} {d : DataW H} {ps : List MemPlace} {b0 : Nat}
  (hd : P.underlying t = some .bool ∨ P.underlying t = some .string ∨ (∃ k, P.underlying t = some (.int k)) ∨ ∃ e, P.underlying t = some (.slice e))
  (hval : Value.okWide P w r base t v) (ht : DataW.Trod enc P w b0 sp held t v d ps) : ∃ a, R w v a := by
 obtain ⟨fuel, hf⟩ := ht
 obtain ⟨u, a, hu, hr⟩ := h enc w b0 sp held fuel _ _ hf
 have hv : v.cells = #[v] := by
  rcases hd with hd | hd | ⟨k, hd⟩ | ⟨e, hd⟩
  ·obtain ⟨b, rfl⟩ := okWide_bool hd hval; rfl
  ·obtain ⟨b, rfl⟩ := okWide_string hd hval; rfl
  ·obtain ⟨b, rfl⟩ := okWide_int hd hval; rfl
  ·obtain ⟨a, l, c, rfl⟩ := okWide_slice hd hval; rfl
 rw [hv] at hu
 simp at hu
 subst hu
 exact ⟨a, hr⟩
theorem args_stay {H : Type} {enc : TypeId × Value → H} {P : Program} (hl : laidOutB P = true) {W W' : World} (hb : Below W.heap.size W W') :
  ∀ (ts : List TypeId) (vs : List Value) (ds : List (DataW H)) (ps : List MemPlace), (∀ t ∈ ts, P.readableRec t = true ∧ t < P.types.size) → DataW.TrodAll enc P W 0 (fun _ => true) true ts vs ds ps → (∀ x ∈ ps, x.block < W.heap.size) →
   DataW.TrodAll enc P W' 0 (fun b => decide (b < W.heap.size)) true ts vs ds ps
 | [], vs, ds, ps, _, h, _ => by
  obtain ⟨rfl, rfl, rfl⟩ := trodAll_nil h
  exact trodAll_mk0
 | t :: ts, vs, ds, ps, ht, h, hlt => by
  obtain ⟨v, vs', d, ds', p, q, rfl, rfl, rfl, h0, r0⟩ := trodAll_cons h
  exact trodAll_cons_mk (Below.trod hl (ht t (by simp)).1 (ht t (by simp)).2 h0 hb (fun x hx => hlt x (by simp [hx])))
   (args_stay hl hb ts vs' ds' q (fun t' h' => ht t' (by simp [h'])) r0 (fun x hx => hlt x (by simp [hx])))
end Go.Vc
/-! From a walk to a row whose list of laid variables is not empty. -/
namespace Go.Vc
open Go Go.ChangeShapes Go.WideShapes Go.ChangeAt Go.RowKit
theorem law_laid {C : Checked} {os : Os} {f : FuncId} {fn : Func} {s : ChangeSpec} {H : Type} {enc : TypeId × Value → H} {tb : TypeId} {L : List (String × DataW Unit)}
  (own : ownKnob C.prog.godebug = none) (laid : laidOutB C.prog = true) (started : os.Started) (noInit : C.prog.inits.idxOf? f = none) (hfn : C.prog.funcs[f]? = some fn)
  (hvars : s.vars = []) (hres : fn.resultTypes = #[tb]) (htb : C.prog.underlying tb = some .bool)
  (hparams : ∀ t ∈ fn.params.toList, C.prog.readableRec t = true ∧ t < C.prog.types.size)
  (hspec : ∀ ds : List (DataW H), ds.length = fn.params.size → s.fn H ds = { results := [.lit (.bool true)], args := ds })
  (witness : ∃ (w : World) (tape : Tape) (i : Input), w.os = os ∧ (w.forCall tape i).Shaped C.prog ∧ i.vars = [] ∧ Input.okWide C.prog (w.forCall tape i) .any w.heap.size f i ∧
   ((s.pre enc C.prog fn [] false (w.forCall tape i).memory i.args ∧ laidMetH C.prog L (w.forCall tape i).memory) ∧ sizedMet enc C.prog fn (OpenSpec.ofChange s) false (w.forCall tape i).memory i.args) ∧ ({} : Assume).holds C.prog (lone (Frame.enter C.prog f i.args .normal) [] (w.forCall tape i)))
  (walk : ∀ (W : World) (base : Nat) (args : Array Value) (ds : List (DataW H)) (ps : List MemPlace), (∀ (j : Nat) t v, fn.params[j]? = some t → args[j]? = some v → Value.okWide C.prog W .any base t v) →
   DataW.TrodAll enc C.prog W 0 (fun _ => true) true fn.params.toList args.toList ds ps → Calls C.prog f args W fun e W' => e = .returned (.bool true) ∧ Chg [] W W') :
  ReturnsInHanded {} C os f .any (fun w args => (s.pre enc C.prog fn [] false w args ∧ laidMetH C.prog L w) ∧ sizedMet enc C.prog fn (OpenSpec.ofChange s) false w args) (s.post enc C.prog fn false true false false) := by
 refine returnsInHanded_of_change_and (X := fun w _ => laidMetH C.prog L w) (fun _ _ _ hh h => h.of_heap hh) own started noInit hfn witness ?_
 intro W base args ds gs before hval hW _ _ _ _
 have hW' := hW
 obtain ⟨p, q, hA, hV, rfl, hfz, hnd⟩ := hW
 rw [hvars] at hV
 obtain ⟨rfl, rfl⟩ := trodVars_none hV
 refine (walk W base args ds p hval hA).mono fun e W' ⟨he, hc⟩ => ?_
 subst he
 have bel := hc.below
 have hlen : ds.length = fn.params.size := by
  have := trodAll_length hA
  have h2 := this.1; have h3 := this.2
  simp at h2 h3 ⊢
  omega
 have hsp := hspec ds hlen
 refine ⟨_, rfl, ds, [], p ++ [], [], p, [], hW', ?_, ?_, ?_, bel.frame _, fun h => by cases h⟩
 ·rw [List.append_nil, hsp, hres]
  exact trodAll_mk1 (shut_bool htb _)
 ·rw [List.append_nil, hsp]
  exact args_stay laid bel _ _ _ _ hparams hA (fun x hx => hW'.lt x (by simp [hx]))
 ·rw [hvars, List.append_nil, hsp]; exact rfl
end Go.Vc
/- ScrubMake: whatever the arguments that can be read as data, in whatever memory, the call returns true and leaves what was there as it was. No condition. -/
namespace Go.Proofs.YtiadjkjlifnopaaGreatDoor
open Go Go.Vc Go.ChangeShapes Go.WideShapes Go.ChangeAt Go.RowKit
theorem scrubMake_own : ownKnob Tryz.prog.godebug = none := by kernel_rfl
theorem scrubMake_laid : laidOutB Tryz.prog = true := by kernel_rfl
set_option maxRecDepth 100000 in
theorem scrubMake_walk (W : World) (base : Nat) (args : Array Value) {H : Type} {enc : TypeId × Value → H} (ds : List (DataW H)) (ps : List MemPlace) (hval0 : ∀ (j : Nat) t v, Tryz.f8.params[j]? = some t → args[j]? = some v → Value.okWide Tryz.prog W .any base t v)
  (hA : DataW.TrodAll enc Tryz.prog W 0 (fun _ => true) true Tryz.f8.params.toList args.toList ds ps) : Calls Tryz.prog 8 args W fun e W' => e = .returned (.bool true) ∧ Chg [] W W' := by
 have hval := hval0
 rw [Tryz.params8] at hA hval
 obtain ⟨v0, vs0, d0, ds0, p0, q0, hargs, rfl, rfl, h0, r0⟩ := trodAll_cons hA
 obtain ⟨v1, vs1, d1, ds1, p1, q1, rfl, rfl, rfl, h1, r1⟩ := trodAll_cons r0
 obtain ⟨rfl, rfl, rfl⟩ := trodAll_nil r1
 obtain rfl : args = #[v0, v1] := by cases args; simp_all
 obtain ⟨a0, x0⟩ := Opens.arg (Opens.slice Tryz.underlying31 (by kernel_rfl : Tryz.prog.cellsOf 51 = 1) (Opens.slice Tryz.underlying51 (by kernel_rfl : Tryz.prog.cellsOf 5 = 1) (Opens.u8 Tryz.underlying5))) (.inr (.inr (.inr ⟨_, Tryz.underlying31⟩))) (hval 0 _ v0 rfl rfl) h0
 obtain ⟨a1, x1⟩ := Opens.arg (Opens.slice Tryz.underlying43 (by kernel_rfl : Tryz.prog.cellsOf 4 = 1) (Opens.bool Tryz.underlying4)) (.inr (.inr (.inr ⟨_, Tryz.underlying43⟩))) (hval 1 _ v1 rfl rfl) h1
 obtain ⟨A0, c0, rfl, _, _⟩ := x0.form; obtain ⟨A1, c1, rfl, _, _⟩ := x1.form
 refine (Tryz.scrubMake_has A0 _ c0 a0 A1 _ c1 a1 W x0 x1).2.mono ?_
 rintro e W' ⟨v, rfl, hc, rfl⟩
 exact ⟨rfl, hc⟩
theorem scrubMake_door (os : Os) (args : Array Value) : laidMetH Tryz.prog Rows.scrubMakeRow.laid ((World.doorLaid Tryz.prog 400 os).forCall (fun _ _ => 0) ⟨#[], args, []⟩).memory :=
 laidMetH_of_parts3 (fuel := 8) (laidMet_of_run' 8 (by kernel_rfl) (by kernel_rfl)) (by kernel_rfl) (by kernel_rfl)
set_option maxRecDepth 100000 in
theorem scrubMake_lifted (os : Os) (started : os.Started) (H : Type) (enc : TypeId × Value → H) :
  ReturnsInHanded {} Tryz.checked os 8 .any (fun w args => (Rows.scrubMakeSpec.pre enc Tryz.prog Tryz.f8 [] false w args ∧ laidMetH Tryz.prog Rows.scrubMakeRow.laid w) ∧ sizedMet enc Tryz.prog Tryz.f8 (OpenSpec.ofChange Rows.scrubMakeSpec) false w args) (Rows.scrubMakeSpec.post enc Tryz.prog Tryz.f8 false true false false) := by
 refine law_laid (C := Tryz.checked) (tb := 4) (L := Rows.scrubMakeRow.laid) scrubMake_own scrubMake_laid started (by kernel_rfl) Tryz.func8 rfl rfl Tryz.underlying4 ?_ ?_
  (ChangeSpec.witness_shaped (enc := enc) (C := Tryz.checked) (os := os) (X := fun w _ => laidMetH Tryz.prog Rows.scrubMakeRow.laid w) false (World.doorLaid Tryz.prog 400 os) #[.slice none 0 0, .slice none 0 0] 8 rfl (World.shaped_of_RefB (by kernel_rfl) (by kernel_rfl)) (by kernel_rfl) (by kernel_rfl) (by kernel_rfl) (scrubMake_door os _)) (fun W base args ds ps hval hA => scrubMake_walk W base args ds ps hval hA)
 ·intro t ht
  rw [Tryz.params8] at ht
  simp only [List.mem_cons, List.not_mem_nil, or_false] at ht
  rcases ht with rfl | rfl
  all_goals exact ⟨by kernel_rfl, of_decide_eq_true (by kernel_rfl)⟩
 ·intro ds hd
  rw [Tryz.params8] at hd
  match ds, hd with
  | [d0, d1], _ => rfl
theorem scrubMake_holds : Rows.ScrubMakeSaid :=
 OpenClaim.holds_of_wide 8 Tryz.f8 rfl rfl rfl rfl rfl rfl rfl ⟨rfl, rfl, rfl, rfl, rfl⟩ rfl rfl rfl rfl rfl (by kernel_rfl) Tryz.func8 (by kernel_rfl)
  (of_decide_eq_true (by kernel_rfl)) (by unfold Func.isWrapper; first | (rw [if_pos (by decide +kernel)]; kernel_rfl) | (rw [if_neg (by decide +kernel)]; exact ⟨rfl, rfl⟩))
  (fun os started H enc _ => scrubMake_lifted os started H enc)
theorem scrubMake_card : Rows.ScrubMakeCardSaid :=
 Claim7.holds_tied_plain_at .later [] [.data, .data, .data] true (true, "02b64a9935b2fbb4c7b399fd1a7305423e9169164337d0f06e6b342f00c016f9") true
  scrubMake_holds (fun _ h => by cases h) (by kernel_rfl) (fun _ h => by cases h) scrubMake_row_tie rfl ⟨rfl, rfl⟩ (by kernel_rfl) rfl
  (fun f fn hf hfn => by
   obtain rfl : f = 8 := Option.some.inj ((show Tryz.prog.funcNamed Rows.scrubMakeRow.func = some 8 by kernel_rfl).symm.trans hf) |>.symm
   obtain rfl : fn = Tryz.f8 := (Option.some.inj (Tryz.func8.symm.trans hfn)).symm
   exact ⟨by kernel_rfl, fun j t ht => by
    rw [Tryz.params8] at ht
    have hall : (Tryz.f8.params.toList.all fun u => !Tryz.prog.wantsStandIn u) = true := by kernel_rfl
    have hm : t ∈ Tryz.f8.params.toList := by rw [Tryz.params8]; exact List.mem_of_getElem? (by simpa using ht)
    exact (show Tryz.prog.wantsStandIn t = false by simpa using List.all_eq_true.1 hall t hm)⟩)
  (by kernel_rfl)
#print axioms scrubMake_card
end Go.Proofs.YtiadjkjlifnopaaGreatDoor
