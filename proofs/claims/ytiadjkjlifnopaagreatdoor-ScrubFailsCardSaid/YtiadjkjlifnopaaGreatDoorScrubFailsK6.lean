/- The walk of one law and the row that it ends in: whatever the arguments that can be read as data, the call returns true and leaves what was there as it was. No condition. -/
import Derived.Test.YtiadjkjlifnopaaGreatDoorScrubFailsK5
import Derived.Test.YtiadjkjlifnopaaGreatDoorScrubFailsK1
import Derived.Test.YtiadjkjlifnopaaGreatDoorScrubFailsK2
import Derived.Test.YtiadjkjlifnopaaGreatDoorRows
import Derived.ProofKit
import Derived.OpenShut
import Derived.ChangeOld
import Derived.ChangeCalls
import Derived.Deep.Slices
import Derived.LaidMore
import Derived.LaidLaws
import Derived.LaidHandle
import Derived.Stop.Joined
import Derived.Handed
import Derived.Test.YtiadjkjlifnopaaGreatDoorCards
import Derived.Test.YtiadjkjlifnopaaGreatDoorTie
import Derived.SevenTiedAt
set_option linter.unusedVariables false
set_option linter.unusedSimpArgs false
/-! Scrub: make's edit is good, and what it says. -/
namespace Go.Proofs.YtiadjkjlifnopaaGreatDoor.Tryz
open Go Go.Vc
structure GrpOk (q : PSt) (I : List GItem) : Prop where
 mem : ∀ it ∈ I, it.seg ∈ q.segs
 nodup : (gNums I).Nodup
 three : I.length = 3
 sealed : ∀ it ∈ I, it.seg.sealed = true
 bytes : ∀ it ∈ I, it.b.length ≤ 4194304
section
variable {q : PSt} {I : List GItem} {num : Nat}
theorem gPar_len (G : GrpOk q I) : (gPar I).length ≤ 4194304 := by
 show (parity _).length ≤ _
 rw [parity_length]
 exact maxOf_le _ _ (fun r hr => by obtain ⟨it, h1, rfl⟩ := List.mem_map.1 hr; exact G.bytes it h1)
theorem gAdds_mem {y : SegM} (h : y ∈ gAdds (num : Int) I) : ∃ i it, I[i]? = some it ∧ y = mkS (num : Int) i it.seg := by
 obtain ⟨i, hi⟩ := List.getElem?_of_mem h
 unfold gAdds at hi
 rw [List.getElem?_mapIdx] at hi
 cases hx : I[i]? with
 | none => rw [hx] at hi; cases hi
 | some it => rw [hx] at hi; injection hi with hi; exact ⟨i, it, hx, hi.symm⟩
theorem gNums_mem {n : Int} (G : GrpOk q I) (h : n ∈ gNums I) : ∃ it ∈ I, n = it.seg.num ∧ it.seg ∈ q.segs := by
 obtain ⟨it, h1, rfl⟩ := List.mem_map.1 h
 exact ⟨it, h1, rfl, G.mem it h1⟩
theorem mkE_ok (hok : POk q) (G : GrpOk q I) (h1 : 1 ≤ num) (h2 : num < 1000) : EditOk (mkE (num : Int) I) := by
 have h3 := G.three
 have hnl : (gNums I).length = 3 := by unfold gNums; rw [List.length_map]; exact h3
 refine ⟨⟨?_, ?_⟩, ⟨?_, ?_⟩, ?_, ?_, ?_, ?_, fun n hn => ?_, fun n hn => ?_, fun y hy => ?_, fun p hp => ?_⟩
 ·show (0 : Int) ≤ (num : Int) + 1; omega
 ·show (num : Int) + 1 ≤ 1125899906842624; omega
 ·show (0 : Int) ≤ 0; omega
 ·show (0 : Int) ≤ 1125899906842624; omega
 ·show (gAdds (num : Int) I).length ≤ 60; unfold gAdds; rw [List.length_mapIdx]; omega
 ·show (gNums I).length ≤ 60; omega
 ·show 1 ≤ 60; omega
 ·show 0 ≤ 60; omega
 ·obtain ⟨it, _, rfl, hm⟩ := gNums_mem G hn
  exact (hok.segs _ hm).1.num
 ·cases hn
 ·obtain ⟨i, it, hi, rfl⟩ := gAdds_mem hy
  have hil := (List.getElem?_eq_some_iff.1 hi).1
  have hs := (hok.segs _ (G.mem it (List.mem_of_getElem? hi))).1
  refine ⟨hs.num, ⟨?_, ?_⟩, ⟨?_, ?_⟩, hs.size⟩
  ·show (0 : Int) ≤ (num : Int); omega
  ·show (num : Int) ≤ 1125899906842624; omega
  ·show (0 : Int) ≤ (i : Int); omega
  ·show (i : Int) ≤ 3; omega
 ·have hp : p = mkP (num : Int) I := List.mem_singleton.1 hp
  subst hp
  have hpl := gPar_len G
  refine ⟨?_, ?_, ?_, fun n hn => ?_, ⟨?_, ?_⟩, ⟨?_, ?_⟩, fun n hn => ?_, G.nodup⟩
  ·show 1 ≤ (gNums I).length; omega
  ·show (gNums I).length ≤ 3; omega
  ·show (I.map (fun it : GItem => it.seg.size)).length = (gNums I).length; rw [List.length_map]; omega
  ·obtain ⟨it, _, rfl, hm⟩ := gNums_mem G hn
   exact (hok.segs _ hm).1.num
  ·show (1 : Int) ≤ (num : Int); omega
  ·show (num : Int) ≤ 1125899906842624; omega
  ·show (0 : Int) ≤ ((gPar I).length : Int); omega
  ·show ((gPar I).length : Int) ≤ 4194304; omega
  ·obtain ⟨it, h1, rfl⟩ := List.mem_map.1 hn
   exact (hok.segs _ (G.mem it h1)).1.size
theorem mkE_sums (hok : POk q) (G : GrpOk q I) : Sums (mkE (num : Int) I) := by
 refine ⟨fun y hy => ?_, fun p hp => ?_⟩
 ·obtain ⟨i, it, hi, rfl⟩ := gAdds_mem hy
  exact (hok.segs _ (G.mem it (List.mem_of_getElem? hi))).2
 ·have hp : p = mkP (num : Int) I := List.mem_singleton.1 hp
  subst hp
  exact crcN_lt _
theorem mkE_good (hok : POk q) (G : GrpOk q I) (h1 : 1 ≤ num) (h2 : num < 1000) : EdGood (mkE (num : Int) I) := edGood (mkE_ok hok G h1 h2) (mkE_sums hok G)
theorem mkE_I (hok : POk q) (G : GrpOk q I) (h1 : 1 ≤ num) (h2 : num < 1000) : EdI (mkE (num : Int) I) := by
 have h := mkE_ok hok G h1 h2
 have hs := mkE_sums (num := num) hok G
 refine ⟨⟨?_, ?_⟩, ⟨?_, ?_⟩, fun y hy => ?_, fun p hp => ?_⟩
 ·have := h.next; omega
 ·have := h.next; omega
 ·have := h.seq; omega
 ·have := h.seq; omega
 ·have h3 := h.adds1 y hy
  have h4 := hs.1 y hy
  obtain ⟨a, b, c, d⟩ := h3
  exact ⟨⟨by omega, by omega⟩, ⟨by omega, by omega⟩, ⟨by omega, by omega⟩, ⟨by omega, by omega⟩, h4⟩
 ·have h3 := h.pars1 p hp
  have h4 := hs.2 p hp
  have h5 := h3.group
  have h6 := h3.size
  exact ⟨⟨by omega, by omega⟩, ⟨by omega, by omega⟩, h4⟩
theorem applyP_of {q : PSt} {e : EditM} {first : Bool} {S1 S2 : List SegM} {Q1 Q2 : List ParM} {nx sq : Int} (hB : editB e = true) (h1 : takeK numK e.dels q.segs = some S1) (h2 : putK numK e.adds S1 = some S2) (h3 : takeK gKey e.drops q.pars = some Q1) (h4 : putK gKey e.pars Q1 = some Q2) (l1 : laterM q.next e.next = (nx, true)) (l2 : laterM q.seq e.seq = (sq, true)) (hf : finePM (sortK numK S2) (sortK gKey Q2) nx (if first then [] else e.pars) = true) : applyP q e first = some ⟨sortK numK S2, sortK gKey Q2, nx, sq⟩ := by
 unfold applyP
 simp only [hB, h1, Option.getD_some, h2, h3, h4, l1, l2, Option.map_some, Option.isSome_some, hf, Bool.and_self, if_true]
theorem mkE_apply (hok : POk q) (G : GrpOk q I) (h1 : 1 ≤ num) (h2 : num < 1000) (hq : q.next = (num : Int)) (hp : q.pars.length < 60) : applyP q (mkE (num : Int) I) false = some ⟨q.segs.map (updS (num : Int) (gNums I)), q.pars ++ [mkP (num : Int) I], (num : Int) + 1, q.seq⟩ := by
 obtain ⟨L', t1, t2, t3⟩ := segs_upd (num := (num : Int)) hok.ns hok.ss G.mem G.nodup
 have hB : editB (mkE (num : Int) I) = true := editB_ok.2 (mkE_ok hok G h1 h2)
 have hpn : ((q.pars ++ [mkP (num : Int) I]).map gKey).Nodup := by
  rw [List.map_append, List.nodup_append]
  refine ⟨hok.np, by simp, fun a ha b hb => ?_⟩
  obtain ⟨p, hp, rfl⟩ := List.mem_map.1 ha
  have := hok.belowP p hp
  have hb : b = (num : Int) := by simpa [gKey, mkP] using hb
  have h3 : gKey p = p.group := rfl
  omega
 have hps : (q.pars ++ [mkP (num : Int) I]).Pairwise fun x y => gKey x ≤ gKey y := by
  rw [List.pairwise_append]
  refine ⟨hok.sp, List.pairwise_singleton _ _, fun a ha b hb => ?_⟩
  have := hok.belowP a ha
  rw [List.mem_singleton.1 hb]
  show a.group ≤ (num : Int)
  omega
 have p1 : putK gKey [mkP (num : Int) I] q.pars = some (q.pars ++ [mkP (num : Int) I]) := putK_all hpn
 have l1 : laterM q.next ((num : Int) + 1) = ((num : Int) + 1, true) := by unfold laterM; rw [if_neg (by omega), decide_eq_true (by omega)]
 have l2 : laterM q.seq 0 = (q.seq, true) := rfl
 have hf : finePM (q.segs.map (updS (num : Int) (gNums I))) (q.pars ++ [mkP (num : Int) I]) ((num : Int) + 1) [mkP (num : Int) I] = true := by
  unfold finePM
  rw [Bool.and_eq_true, Bool.and_eq_true, Bool.and_eq_true]
  refine ⟨?_, ?_, ?_, ?_⟩
  ·rw [List.all_eq_true]
   intro p hp
   rw [List.mem_singleton.1 hp, List.all_eq_true]
   intro n hn
   obtain ⟨it, hi, rfl, hm⟩ := gNums_mem G hn
   rw [List.any_eq_true]
   refine ⟨updS (num : Int) (gNums I) it.seg, List.mem_map.2 ⟨_, hm, rfl⟩, ?_⟩
   unfold sealedAt
   rw [(updS_num _ _ it.seg).1, (updS_num _ _ it.seg).2.1, G.sealed it hi]
   simp
  ·have := hok.ls
   rw [decide_eq_true_eq, List.length_map, List.length_append, List.length_singleton]; omega
  ·rw [Bool.not_eq_true', List.any_eq_false]
   intro y hy
   obtain ⟨z, hz, rfl⟩ := List.mem_map.1 hy
   have := hok.below z hz
   rw [(updS_num _ _ z).1]
   simp; omega
  ·rw [Bool.not_eq_true', List.any_eq_false]
   intro p hp
   rcases List.mem_append.1 hp with hp | hp
   ·have := hok.belowP p hp; simp; omega
   ·rw [List.mem_singleton.1 hp]
    have : (mkP (num : Int) I).group = (num : Int) := rfl
    simp; omega
 have h := applyP_of (first := false) hB t1 t2 (show takeK gKey (mkE (num : Int) I).drops q.pars = some q.pars from rfl) p1 l1 l2 (by rw [t3, sortK_id hpn hps]; exact hf)
 rw [t3, sortK_id hpn hps] at h
 exact h
end
end Go.Proofs.YtiadjkjlifnopaaGreatDoor.Tryz
/-! Scrub: Make of files that are whole. -/
namespace Go.Proofs.YtiadjkjlifnopaaGreatDoor.Tryz
open Go Go.Vc
def goQ (itm : Int → GItem) : List (List Int) → Nat → PSt → PSt
 | [], _, q => q
 | ns :: r, num, q => goQ itm r (num + 1) ⟨q.segs.map (updS (num : Int) ns), q.pars ++ [mkP (num : Int) (ns.map itm)], (num : Int) + 1, q.seq⟩
def goF (itm : Int → GItem) : List (List Int) → Nat → List (Nm × List UInt8)
 | [], _ => []
 | ns :: r, num => (dig2 num ++ endPar, gPar (ns.map itm)) :: goF itm r (num + 1)
structure ItOk (L : List SegM) (F : List (Nm × List UInt8)) (q : PSt) (itm : Int → GItem) (k : Int) : Prop where
 ok : (itm k).ok = true
 seg : (itm k).seg = findM L k
 num : (itm k).seg.num = k
 sealed : (itm k).seg.sealed = true
 file : (fileNm (itm k).seg, (itm k).b) ∈ F
 size : (itm k).seg.size = (itm k).b.length
 sum : (itm k).seg.sum = crcN (itm k).b
 len : (itm k).b.length ≤ 300
 mem : (itm k).seg ∈ q.segs
theorem itemM_whole {s : FsM} {calls : Int} {u n : Nat} {mb : List UInt8} {q : PSt} {F : List (Nm × List UInt8)} (h : Full s calls u n mb q F) {L : List SegM} {itm : Int → GItem} {k : Int} (hi : ItOk L F q itm k) : itemM s L k = itm k := by
 have hr := h.read hi.file
 unfold itemM
 rw [← hi.seg]
 unfold readOk bytesOf
 rw [hr, hi.size, hi.sum]
 have h1 := hi.ok
 cases hit : itm k with
 | mk a b c =>
  rw [hit] at h1
  dsimp only at h1 ⊢
  simp [h1]
theorem makeAll_full (L : List SegM) (itm : Int → GItem) : ∀ (r : List (List Int)) (s : FsM) (calls : Int) (u n m : Nat) (mb : List UInt8) (q : PSt) (F : List (Nm × List UInt8)) (num : Nat) (n0 last : Int),
  Full s calls u n mb q F → q.next = (num : Int) → (∀ ns ∈ r, ns.length = 3 ∧ ∀ k ∈ ns, ItOk L F q itm k) → r.flatten.Nodup → 1 ≤ num → num + r.length ≤ 100 → q.pars.length + r.length ≤ 60 → (∀ k, num ≤ k → k < 100 → dig2 k ++ endPar ∉ F.map (·.1)) → manNm ∉ F.map (·.1) →
  u + r.length * 100400 ≤ 1048576 → n + r.length ≤ 150 → mb.length ≤ m → m + r.length * 100400 ≤ 4194304 → (∀ p ∈ F, p.2.length ≤ 4194304) → calls + 6 * r.length < 1000000000 - 100 →
  MkOk L r s q ∧ ∃ s' u' mb', mkAll L r s q n0 last = (s', goQ itm r num q, n0 + r.length, last) ∧ Full s' (calls + 6 * r.length) u' (n + r.length) mb' (goQ itm r num q) (F ++ goF itm r num) ∧ u' ≤ u + r.length * 100400 ∧ mb'.length ≤ m + r.length * 100400
 | [], s, calls, u, n, m, mb, q, F, num, n0, last, h, _, _, _, _, _, _, _, _, _, _, hm, _, _, _ => by
  refine ⟨trivial, s, u, mb, ?_, ?_, by simp, by simpa using hm⟩
  ·show (s, q, n0, last) = (s, q, n0 + ((0 : Nat) : Int), last)
   simp
  ·show Full s (calls + 6 * ((0 : Nat) : Int)) u (n + 0) mb q (F ++ [])
   simpa using h
 | ns :: r, s, calls, u, n, m, mb, q, F, num, n0, last, h, hq, hits, hnd, h1, h2, hp, hnew, hman, hu, hn, hm, hm2, hF, hc => by
  rw [List.length_cons] at h2 hp hu hn hm2 hc
  have hns := hits ns (by simp)
  have hI : ns.map (itemM s L) = ns.map itm := List.map_congr_left fun k hk => itemM_whole h (hns.2 k hk)
  rw [List.flatten_cons, List.nodup_append] at hnd
  have hgn : gNums (ns.map itm) = ns := by
   unfold gNums
   rw [List.map_map]
   have : ∀ k ∈ ns, ((fun it : GItem => it.seg.num) ∘ itm) k = id k := fun k hk => (hns.2 k hk).num
   rw [List.map_congr_left this, List.map_id]
  have G : GrpOk q (ns.map itm) := ⟨fun it hit => by obtain ⟨k, hk, rfl⟩ := List.mem_map.1 hit; exact (hns.2 k hk).mem, by rw [hgn]; exact hnd.1, by rw [List.length_map]; exact hns.1, fun it hit => by obtain ⟨k, hk, rfl⟩ := List.mem_map.1 hit; exact (hns.2 k hk).sealed, fun it hit => by obtain ⟨k, hk, rfl⟩ := List.mem_map.1 hit; have := (hns.2 k hk).len; omega⟩
  have hgl : (gPar (ns.map itm)).length ≤ 300 := by
   show (parity _).length ≤ _
   rw [parity_length]
   exact maxOf_le _ _ (fun r hr => by obtain ⟨it, h1, rfl⟩ := List.mem_map.1 hr; obtain ⟨k, hk, rfl⟩ := List.mem_map.1 h1; exact (hns.2 k hk).len)
  have hbad : badM (ns.map itm) = 0 := by
   unfold badM
   rw [List.length_eq_zero_iff, List.filter_eq_nil_iff]
   intro it hit
   obtain ⟨k, hk, rfl⟩ := List.mem_map.1 hit
   rw [(hns.2 k hk).ok]; simp
  have hg := mkE_good h.ok G h1 (show num < 1000 by omega)
  have hel := encE_len hg.ok hg.sums
  have ha := mkE_apply h.ok G h1 (show num < 1000 by omega) hq (by omega)
  have hEI := mkE_I h.ok G h1 (show num < 1000 by omega)
  obtain ⟨e1, hf⟩ := makeF_full h (num := num) (by omega) (I := ns.map itm) (hnew num (Nat.le_refl _) (by omega)) hman (by omega) hg ha (by omega)
  have hmp := parName_may num (by omega)
  rw [hgn] at ha hf
  obtain ⟨hmk, s', u', mb', k1, k2, k3, k4⟩ := makeAll_full L itm r (makeF s (num : Int) (ns.map itm)).1 (calls + 6) (u + (gPar (ns.map itm)).length + (encE (mkE (num : Int) (ns.map itm))).1.length) (n + 1) (m + 100400) _ _ _ (num + 1) (n0 + 1) last hf (by show (num : Int) + 1 = _; omega) (fun ns' hn' => ⟨(hits ns' (by simp [hn'])).1, fun k hk => by
    have hi := (hits ns' (by simp [hn'])).2 k hk
    refine ⟨hi.ok, hi.seg, hi.num, hi.sealed, List.mem_append.2 (.inl hi.file), hi.size, hi.sum, hi.len, ?_⟩
    refine List.mem_map.2 ⟨_, hi.mem, updS_out fun hm => ?_⟩
    rw [hi.num] at hm
    exact hnd.2.2 k hm k (List.mem_flatten.2 ⟨ns', hn', hk⟩) rfl⟩) hnd.2.1 (by omega) (by omega) (by show (q.pars ++ [_]).length + r.length ≤ 60; rw [List.length_append, List.length_singleton]; omega) (fun k hk hk2 hm => by
    rw [List.map_append, List.mem_append] at hm
    rcases hm with hm | hm
    ·exact hnew k (by omega) hk2 hm
    ·have hm : dig2 k ++ endPar = dig2 num ++ endPar := by simpa using hm
     have := dig2_inj (by omega) (by omega) (List.append_cancel_right hm)
     omega) (fun hm => by
    rw [List.map_append, List.mem_append] at hm
    rcases hm with hm | hm
    ·exact hman hm
    ·have hm : manNm = dig2 num ++ endPar := by simpa using hm
     exact hmp.2 hm.symm) (by omega) (by omega) (by rw [List.length_append]; omega) (by omega) (fun p hp => by
    rcases List.mem_append.1 hp with hp | hp
    ·exact hF p hp
    ·rw [List.mem_singleton.1 hp]; show (gPar (ns.map itm)).length ≤ _; omega) (by omega)
  refine ⟨⟨h.bytes (by omega) hF, by have := h.mul.calls; omega, h.ok, by omega, fun hb => ?_, fun _ => ?_⟩, s', u', mb', ?_, ?_, by rw [List.length_cons]; omega, by rw [List.length_cons]; omega⟩
  ·rw [hI] at hb; exact absurd hbad hb
  ·rw [hI, hq]
   exact ⟨hEI, _, ha, fun _ => hmk⟩
  ·rw [mkAll_cons, hI, hq, if_neg (by simpa using hbad), if_neg (by simpa using e1), ha]
   show mkAll L r _ _ (n0 + 1) last = _
   rw [Option.getD_some, k1, List.length_cons]
   show (s', _, _, last) = (s', _, _, last)
   rw [show n0 + ((r.length + 1 : Nat) : Int) = n0 + 1 + r.length from by omega]
   rfl
  ·rw [List.length_cons, show calls + 6 * ((r.length + 1 : Nat) : Int) = calls + 6 + 6 * r.length from by omega, show n + (r.length + 1) = n + 1 + r.length from by omega]
   have h9 := k2
   rw [List.append_assoc] at h9
   exact h9
end Go.Proofs.YtiadjkjlifnopaaGreatDoor.Tryz
/-! Scrub: Make of what Made has made. -/
namespace Go.Proofs.YtiadjkjlifnopaaGreatDoor.Tryz
open Go Go.Vc
theorem findM_get {L : List SegM} (hn : (L.map numK).Nodup) {y : SegM} (h : y ∈ L) : findM L y.num = y := by
 unfold findM
 cases hf : L.find? fun s => decide (s.num = y.num) with
 | none => have := List.find?_eq_none.1 hf y h; simp at this
 | some z =>
  have h1 := List.mem_of_find?_eq_some hf
  have h2 : z.num = y.num := by simpa using List.find?_some hf
  show z = y
  have hp := List.pairwise_map.1 hn
  obtain ⟨i, hi⟩ := List.getElem?_of_mem h1
  obtain ⟨j, hj⟩ := List.getElem?_of_mem h
  have hij : i = j := by
   have a1 := (List.getElem?_eq_some_iff.1 hi).1
   have a2 := (List.getElem?_eq_some_iff.1 hj).1
   refine (List.getElem_inj (h₀ := by rw [List.length_map]; exact a1) (h₁ := by rw [List.length_map]; exact a2) hn).1 ?_
   rw [List.getElem_map, List.getElem_map, (List.getElem?_eq_some_iff.1 hi).2, (List.getElem?_eq_some_iff.1 hj).2]
   exact h2
  subst hij
  rw [hi] at hj; injection hj
theorem chunk3_flat : ∀ (n : Nat) (l : List Int), l.length ≤ n → (chunk3 l).flatten.Sublist l
 | 0, l, h => by
  rw [chunk3_end (by omega)]; exact List.nil_sublist _
 | n + 1, l, h => by
  by_cases hl : 3 ≤ l.length
  ·rw [chunk3_step hl, List.flatten_cons]
   have h1 := chunk3_flat n (l.drop 3) (by rw [List.length_drop]; omega)
   have h2 := List.Sublist.append (List.Sublist.refl (l.take 3)) h1
   rwa [List.take_append_drop] at h2
  ·rw [chunk3_end hl]; exact List.nil_sublist _
theorem freeN_nodup {L : List SegM} (hn : (L.map numK).Nodup) : (freeN L).Nodup := by
 unfold freeN
 exact ((List.filter_sublist (p := fun s => s.sealed && decide (s.group = 0)) (l := L)).map numK).nodup hn
theorem groups_flat {L : List SegM} (hn : (L.map numK).Nodup) : (groupsM L).flatten.Nodup := by
 have hp : (sortI (freeN L)).Perm (freeN L) := List.mergeSort_perm _ _
 exact (chunk3_flat _ _ (Nat.le_refl _)).nodup (hp.nodup_iff.2 (freeN_nodup hn))
theorem groups_mem {L : List SegM} {ns : List Int} {k : Int} (h : ns ∈ groupsM L) (hk : k ∈ ns) : ∃ y ∈ L, y.num = k ∧ y.sealed = true ∧ y.group = 0 := by
 have h1 := (chunk3_flat _ (sortI (freeN L)) (Nat.le_refl _)).mem (List.mem_flatten.2 ⟨ns, h, hk⟩)
 have hp : (sortI (freeN L)).Perm (freeN L) := List.mergeSort_perm _ _
 have h2 := hp.mem_iff.1 h1
 obtain ⟨y, hy, rfl⟩ := List.mem_map.1 h2
 rw [List.mem_filter, Bool.and_eq_true, decide_eq_true_eq] at hy
 exact ⟨y, hy.1, rfl, hy.2.1, hy.2.2⟩
theorem groups_len (L : List SegM) : 3 * (groupsM L).length ≤ L.length := by
 have h1 := chunk3_len _ (sortI (freeN L)) (Nat.le_refl _)
 have h2 : (sortI (freeN L)).length = (freeN L).length := List.length_mergeSort _
 have h3 : (freeN L).length ≤ L.length := by unfold freeN; rw [List.length_map]; exact List.length_filter_le _ _
 unfold groupsM
 omega
theorem par_other (i k : Nat) (sl : Bool) (hi : i < 12) (hk : k < 100) : dig2 (i + 1) ++ (if sl = true then endSeg else endRaw) ≠ dig2 k ++ endPar := by
 have key : ∀ (i : Fin 12) (sl : Bool) (k : Fin 100), dig2 (i.val + 1) ++ (if sl = true then endSeg else endRaw) ≠ dig2 k.val ++ endPar := by decide +kernel
 exact key ⟨i, hi⟩ sl ⟨k, hk⟩
def madeI (B : List (List UInt8)) (G : List Bool) (k : Int) : GItem := ⟨findM (scSegs B G) k, (B[(k - 1).toNat]?).getD [], true⟩
theorem made_item {B : List (List UInt8)} {G : List Bool} (hl : B.length ≤ 12) (hb : ∀ b ∈ B, b.length ≤ 300) {ns : List Int} {k : Int} (h : ns ∈ groupsM (scSegs B G)) (hk : k ∈ ns) : ItOk (scSegs B G) (scF B G) ⟨scSegs B G, [], 50, 1⟩ (madeI B G) k := by
 obtain ⟨y, hy, hyk, hys, hyg⟩ := groups_mem h hk
 have hnd : ((scSegs B G).map numK).Nodup := by rw [scSegs_num]; exact range_nodup _
 have hf := findM_get hnd hy
 rw [hyk] at hf
 obtain ⟨i, hi⟩ := List.getElem?_of_mem hy
 obtain ⟨b, hB, rfl⟩ := scSegs_get hi
 have hki : (k - 1).toNat = i := by rw [← hyk]; show ((i : Int) + 1 - 1).toNat = i; omega
 have e : madeI B G k = ⟨scSeg i b (slOf G i), b, true⟩ := by unfold madeI; rw [hf, hki, hB]; rfl
 refine ⟨by rw [e], rfl, ?_, ?_, ?_, ?_, ?_, ?_, ?_⟩ <;> rw [e]
 ·exact hyk
 ·exact hys
 ·exact List.mem_of_getElem? (show (scF B G)[i]? = _ by unfold scF; rw [List.getElem?_mapIdx, hB]; rfl)
 ·rfl
 ·rfl
 ·exact hb b (List.mem_of_getElem? hB)
 ·exact hy
theorem made_make {B : List (List UInt8)} {G : List Bool} (hl : B.length ≤ 12) (hb : ∀ b ∈ B, b.length ≤ 300) {s : FsM} {u : Nat} {mb : List UInt8} (h : Full s (8 + 3 * (B.length : Int)) u (1 + B.length) mb ⟨scSegs B G, [], 50, 1⟩ (scF B G)) (hu : u ≤ 110000) (hm : mb.length ≤ 110000) :
  MkOk (scSegs B G) (groupsM (scSegs B G)) s ⟨scSegs B G, [], 50, 1⟩ ∧ ∃ s' u' mb', mkAll (scSegs B G) (groupsM (scSegs B G)) s ⟨scSegs B G, [], 50, 1⟩ 0 0 = (s', goQ (madeI B G) (groupsM (scSegs B G)) 50 ⟨scSegs B G, [], 50, 1⟩, ((groupsM (scSegs B G)).length : Int), 0) ∧ Full s' (8 + 3 * (B.length : Int) + 6 * (groupsM (scSegs B G)).length) u' (1 + B.length + (groupsM (scSegs B G)).length) mb' (goQ (madeI B G) (groupsM (scSegs B G)) 50 ⟨scSegs B G, [], 50, 1⟩) (scF B G ++ goF (madeI B G) (groupsM (scSegs B G)) 50) ∧ u' ≤ 550000 ∧ mb'.length ≤ 550000 := by
 have hgl := groups_len (scSegs B G)
 rw [scSegs_len] at hgl
 have hnd : ((scSegs B G).map numK).Nodup := by rw [scSegs_num]; exact range_nodup _
 obtain ⟨h1, s', u', mb', h2, h3, h4, h5⟩ := makeAll_full (scSegs B G) (madeI B G) (groupsM (scSegs B G)) s _ u _ 110000 mb _ _ 50 0 0 h rfl (fun ns hns => ⟨chunk3_three _ _ (Nat.le_refl _) ns hns, fun k hk => made_item hl hb hns hk⟩) (groups_flat hnd) (by omega) (by omega) (by show 0 + _ ≤ 60; omega) (fun k hk1 hk2 hm => by
   obtain ⟨p, hp, he⟩ := List.mem_map.1 hm
   obtain ⟨j, hj⟩ := List.getElem?_of_mem hp
   have hji := (List.getElem?_eq_some_iff.1 hj).1
   rw [scF_len] at hji
   obtain ⟨b', _, rfl⟩ := scF_get hj
   dsimp only at he
   rw [scNm] at he
   exact par_other j k _ (by omega) hk2 he) (scF_man hl) (by omega) (by omega) hm (by omega) (fun p hp => by
   obtain ⟨j, hj⟩ := List.getElem?_of_mem hp
   obtain ⟨b', hb', rfl⟩ := scF_get hj
   have := hb b' (List.mem_of_getElem? hb')
   show b'.length ≤ _; omega) (by omega)
 refine ⟨h1, s', u', mb', ?_, h3, by omega, by omega⟩
 rw [h2, Int.zero_add]
end Go.Proofs.YtiadjkjlifnopaaGreatDoor.Tryz
/-! Scrub: where nothing is spoilt; no groups are left. -/
namespace Go.Proofs.YtiadjkjlifnopaaGreatDoor.Tryz
open Go Go.Vc
def WholeS (F : List (Nm × List UInt8)) (S : List SegM) : Prop := ∀ y ∈ S, ∃ b, (fileNm y, b) ∈ F ∧ y.size = b.length ∧ y.sum = crcN b
def WholeP (F : List (Nm × List UInt8)) (Q : List ParM) : Prop := ∀ y ∈ Q, ∃ b, (parNm y, b) ∈ F ∧ y.size = b.length ∧ y.sum = crcN b
theorem updS_file (num : Int) (ns : List Int) (y : SegM) : fileNm (updS num ns y) = fileNm y := by
 unfold fileNm
 rw [(updS_num num ns y).1, (updS_num num ns y).2.1]
theorem goQ_segs (itm : Int → GItem) {F : List (Nm × List UInt8)} : ∀ (r : List (List Int)) (num : Nat) (q : PSt), WholeS F q.segs → WholeS F (goQ itm r num q).segs
 | [], _, q, h => h
 | ns :: r, num, q, h => goQ_segs itm r (num + 1) _ (fun y hy => by
  obtain ⟨z, hz, rfl⟩ := List.mem_map.1 hy
  obtain ⟨b, h1, h2, h3⟩ := h z hz
  exact ⟨b, by rw [updS_file]; exact h1, by rw [(updS_num _ _ z).2.2.1]; exact h2, by rw [(updS_num _ _ z).2.2.2]; exact h3⟩)
theorem goQ_pars (itm : Int → GItem) {F : List (Nm × List UInt8)} : ∀ (r : List (List Int)) (num : Nat) (q : PSt), WholeP F q.pars → (∀ p ∈ goF itm r num, p ∈ F) → WholeP F (goQ itm r num q).pars
 | [], _, q, h, _ => h
 | ns :: r, num, q, h, hF => goQ_pars itm r (num + 1) _ (fun y hy => by
  rcases List.mem_append.1 hy with hy | hy
  ·exact h y hy
  ·rw [List.mem_singleton.1 hy]
   exact ⟨gPar (ns.map itm), hF _ (by show (dig2 ((num : Int)).toNat ++ endPar, _) ∈ (dig2 num ++ endPar, gPar (ns.map itm)) :: _; rw [Int.toNat_natCast]; simp), rfl, rfl⟩) (fun p hp => hF p (by show p ∈ _ :: _; simp [hp]))
theorem goQ_pars_len (itm : Int → GItem) : ∀ (r : List (List Int)) (num : Nat) (q : PSt), (goQ itm r num q).pars.length = q.pars.length + r.length
 | [], _, q => rfl
 | ns :: r, num, q => by
  rw [goQ, goQ_pars_len itm r, List.length_append, List.length_singleton, List.length_cons]; omega
theorem look_none {s : FsM} {calls : Int} {u n : Nat} {mb : List UInt8} {q : PSt} {F : List (Nm × List UInt8)} (h : Full s calls u n mb q F) (hS : WholeS F q.segs) (hP : WholeP F q.pars) : lookS s q.segs = [] ∧ lookP s q.pars = [] := by
 refine ⟨?_, ?_⟩
 ·unfold lookS
  rw [List.map_eq_nil_iff, List.filter_eq_nil_iff]
  intro y hy
  obtain ⟨b, h1, h2, h3⟩ := hS y hy
  unfold readOk
  rw [show readM s (fileNm y) = some b from h.read h1, h2, h3]
  simp
 ·unfold lookP
  rw [List.map_eq_nil_iff, List.filter_eq_nil_iff]
  intro y hy
  obtain ⟨b, h1, h2, h3⟩ := hP y hy
  unfold readOk
  rw [show readM s (parNm y) = some b from h.read h1, h2, h3]
  simp
theorem scSegs_whole (B : List (List UInt8)) (G : List Bool) : WholeS (scF B G) (scSegs B G) := fun y hy => by
 obtain ⟨i, hi⟩ := List.getElem?_of_mem hy
 obtain ⟨b, hB, rfl⟩ := scSegs_get hi
 exact ⟨b, List.mem_of_getElem? (show (scF B G)[i]? = _ by unfold scF; rw [List.getElem?_mapIdx, hB]; rfl), rfl, rfl⟩
theorem free_upd {S : List SegM} {num : Nat} (h1 : 1 ≤ num) (ns : List Int) : freeN (S.map (updS (num : Int) ns)) = (freeN S).filter fun k => !decide (k ∈ ns) := by
 unfold freeN
 induction S with
 | nil => rfl
 | cons y S ih =>
  rw [List.map_cons, List.filter_cons, List.filter_cons]
  by_cases hy : y.num ∈ ns
  ·have hz : (updS (num : Int) ns y).group = (num : Int) := by
    unfold updS
    cases hf : ns.findIdx? (fun n => decide (n = y.num)) with
    | none => have := List.findIdx?_eq_none_iff.1 hf _ hy; simp at this
    | some i => rfl
   rw [if_neg (by rw [hz, Bool.and_eq_true, decide_eq_true_eq]; omega), ih]
   split
   ·rw [List.map_cons, List.filter_cons, if_neg (by simp [hy])]
   ·rfl
  ·rw [updS_out hy]
   split
   ·rw [List.map_cons, List.map_cons, List.filter_cons, if_pos (by simp [hy]), ih]
   ·exact ih
theorem goQ_free (itm : Int → GItem) : ∀ (r : List (List Int)) (num : Nat) (q : PSt), 1 ≤ num → freeN (goQ itm r num q).segs = (freeN q.segs).filter fun k => !decide (k ∈ r.flatten)
 | [], _, q, _ => by
  show freeN q.segs = _
  rw [List.filter_eq_self.2 (fun k _ => by simp)]
 | ns :: r, num, q, h => by
  rw [goQ, goQ_free itm r (num + 1) _ (by omega)]
  show (freeN (q.segs.map _)).filter _ = _
  rw [free_upd h, List.filter_filter]
  congr 1
  funext k
  rw [List.flatten_cons]
  by_cases h1 : k ∈ ns <;> by_cases h2 : k ∈ r.flatten <;> simp [h1, h2, List.mem_append]
theorem chunk3_rest : ∀ (n : Nat) (l : List Int), l.length ≤ n → ∃ t, l = (chunk3 l).flatten ++ t ∧ t.length < 3
 | 0, l, h => ⟨l, by rw [chunk3_end (by omega)]; rfl, by omega⟩
 | n + 1, l, h => by
  by_cases hl : 3 ≤ l.length
  ·obtain ⟨t, h1, h2⟩ := chunk3_rest n (l.drop 3) (by rw [List.length_drop]; omega)
   refine ⟨t, ?_, h2⟩
   rw [chunk3_step hl, List.flatten_cons, List.append_assoc, ← h1, List.take_append_drop]
  ·exact ⟨l, by rw [chunk3_end hl]; rfl, by omega⟩
theorem groups_done (itm : Int → GItem) {q : PSt} (hn : (q.segs.map numK).Nodup) {num : Nat} (h : 1 ≤ num) : groupsM (goQ itm (groupsM q.segs) num q).segs = [] := by
 have hp : (sortI (freeN q.segs)).Perm (freeN q.segs) := List.mergeSort_perm _ _
 obtain ⟨t, h1, h2⟩ := chunk3_rest _ (sortI (freeN q.segs)) (Nat.le_refl _)
 have hf := goQ_free itm (groupsM q.segs) num q h
 have hnd : (sortI (freeN q.segs)).Nodup := hp.nodup_iff.2 (freeN_nodup hn)
 have h3 : ((freeN q.segs).filter fun k => !decide (k ∈ (groupsM q.segs).flatten)).length = t.length := by
  rw [← (hp.filter _).length_eq]
  show ((sortI (freeN q.segs)).filter fun k => !decide (k ∈ (chunk3 (sortI (freeN q.segs))).flatten)).length = _
  generalize (chunk3 (sortI (freeN q.segs))).flatten = f at h1 ⊢
  rw [h1] at hnd ⊢
  rw [List.nodup_append] at hnd
  rw [List.filter_append, List.length_append, List.filter_eq_nil_iff.2 (fun k hk => by simp [hk]), List.filter_eq_self.2 (fun k hk => by
   have : k ∉ f := fun hm => hnd.2.2 k hm k hk rfl
   simp [this])]
  simp
 unfold groupsM
 refine chunk3_end ?_
 have h4 : (sortI (freeN (goQ itm (groupsM q.segs) num q).segs)).length = (freeN (goQ itm (groupsM q.segs) num q).segs).length := List.length_mergeSort _
 unfold groupsM at h4 hf h3
 rw [h4, hf, h3]
 omega
end Go.Proofs.YtiadjkjlifnopaaGreatDoor.Tryz
/-! Scrub: begun. -/
namespace Go.Proofs.YtiadjkjlifnopaaGreatDoor.Tryz
open Go Go.Vc
theorem pok_pars {st : StM} (h : POk st.plain) : ∀ q ∈ st.pars, q.1.p.nums.length ≤ 1000000 ∧ q.1.p.sizes.length ≤ 1000000 := fun q hq => by
 have h1 := (h.pars q.1.p (List.mem_map.2 ⟨q, hq, rfl⟩)).1
 have h2 := h1.len3
 have h3 := h1.lens
 omega
theorem goQ_next (itm : Int → GItem) : ∀ (r : List (List Int)) (num : Nat) (q : PSt), q.next = (num : Int) → (goQ itm r num q).next = (num : Int) + r.length
 | [], num, q, h => by show q.next = _; rw [h]; simp
 | ns :: r, num, q, h => by
  rw [goQ, goQ_next itm r (num + 1) _ (by show (num : Int) + 1 = _; omega), List.length_cons]; omega
theorem goF_len (itm : Int → GItem) : ∀ (r : List (List Int)) (num : Nat), (∀ ns ∈ r, ∀ k ∈ ns, (itm k).b.length ≤ 300) → ∀ p ∈ goF itm r num, p.2.length ≤ 300
 | [], _, _, p, hp => by cases hp
 | ns :: r, num, h, p, hp => by
  rcases List.mem_cons.1 (show p ∈ _ :: _ from hp) with hp | hp
  ·rw [hp]
   show (parity _).length ≤ _
   rw [parity_length]
   exact maxOf_le _ _ (fun b hb => by obtain ⟨it, h1, rfl⟩ := List.mem_map.1 hb; obtain ⟨k, hk, rfl⟩ := List.mem_map.1 h1; exact h ns (by simp) k hk)
  ·exact goF_len itm r (num + 1) (fun ns' hn => h ns' (by simp [hn])) p hp
theorem madeI_len {B : List (List UInt8)} {G : List Bool} (hb : ∀ b ∈ B, b.length ≤ 300) (k : Int) : (madeI B G k).b.length ≤ 300 := by
 show ((B[(k - 1).toNat]?).getD []).length ≤ 300
 cases h : B[(k - 1).toNat]? with
 | none => exact Nat.zero_le _
 | some b => exact hb b (List.mem_of_getElem? h)
theorem made_bytes {B : List (List UInt8)} {G : List Bool} (hb : ∀ b ∈ B, b.length ≤ 300) (r : List (List Int)) (num : Nat) : ∀ p ∈ scF B G ++ goF (madeI B G) r num, p.2.length ≤ 4194304 := fun p hp => by
 rcases List.mem_append.1 hp with hp | hp
 ·obtain ⟨j, hj⟩ := List.getElem?_of_mem hp
  obtain ⟨b', hb', rfl⟩ := scF_get hj
  have := hb b' (List.mem_of_getElem? hb')
  show b'.length ≤ _; omega
 ·have := goF_len _ r num (fun _ _ k _ => madeI_len hb k) p hp; omega
def B23 : List (List UInt8) := [[1], [2, 3], [4]]
theorem grp23 : (groupsM (scSegs B23 [])).length = 1 := by
 have h : (sortI (freeN (scSegs B23 []))).length = 3 := (List.length_mergeSort _).trans rfl
 unfold groupsM
 generalize sortI (freeN (scSegs B23 [])) = l at *
 rw [chunk3_step (by omega), chunk3_end (by rw [List.length_drop]; omega)]
 rfl
set_option maxHeartbeats 4000000 in
theorem begun23_has (w : World) : Has Tryz.prog 10 #[] w (fun v w' => Chg [] w w' ∧ v = .bool true) := by
 refine enter Tryz.func10 rfl rfl (by decide) rfl (e := []) trivial ?_
 refine run ?_
 refine go T 7 rfl ?_
 refine o1 rfl ?_
 refine op_buildSlice T rfl rfl rfl rfl rfl rfl rfl (fun g1 w1 hs1 hc1 h1 => ?_)
 have h1 : Blk w1 g1 5 (u8s [1]) := h1
 refine o1 rfl ?_
 refine op_buildSlice T rfl rfl rfl rfl rfl rfl rfl (fun g2 w2 hs2 hc2 h2 => ?_)
 have h2 : Blk w2 g2 5 (u8s [2, 3]) := h2
 refine o1 rfl ?_
 refine op_buildSlice T rfl rfl rfl rfl rfl rfl rfl (fun g3 w3 hs3 hc3 h3 => ?_)
 have h3 : Blk w3 g3 5 (u8s [4]) := h3
 refine o1 rfl ?_
 refine op_buildSlice T rfl rfl rfl rfl rfl rfl rfl (fun g4 w4 hs4 hc4 h4 => ?_)
 have h4 : Blk w4 g4 51 [.slice (some ⟨g1, 0, none⟩) 1 1, .slice (some ⟨g2, 0, none⟩) 2 2, .slice (some ⟨g3, 0, none⟩) 1 1] := h4
 have r1 : SliceOf Ru8 w4 (.slice (some ⟨g1, 0, none⟩) 1 1) [1] := (Own.mk (((h1.keep0 hc2).keep0 hc3).keep0 hc4) (Nat.le_refl _) (by decide) rfl rfl : Own w4 5 1 _ [(1 : UInt8)].length (u8s [1])).bytes
 have r2 : SliceOf Ru8 w4 (.slice (some ⟨g2, 0, none⟩) 2 2) [2, 3] := (Own.mk ((h2.keep0 hc3).keep0 hc4) (Nat.le_refl _) (by decide) rfl rfl : Own w4 5 1 _ [(2 : UInt8), 3].length (u8s [2, 3])).bytes
 have r3 : SliceOf Ru8 w4 (.slice (some ⟨g3, 0, none⟩) 1 1) [4] := (Own.mk (h3.keep0 hc4) (Nat.le_refl _) (by decide) rfl rfl : Own w4 5 1 _ [(4 : UInt8)].length (u8s [4])).bytes
 have hf : SliceOf (SliceOf Ru8) w4 (.slice (some ⟨g4, 0, none⟩) 3 3) B23 := (Own.mk h4 (Nat.le_refl _) (by decide) rfl rfl : Own w4 51 1 (.slice (some ⟨g4, 0, none⟩) 3 3) 3 [.slice (some ⟨g1, 0, none⟩) 1 1, .slice (some ⟨g2, 0, none⟩) 2 2, .slice (some ⟨g3, 0, none⟩) 1 1]).reads rfl (fun i x u hx hu => by
  match i, hx, hu with
  | 0, hx, hu => injection hx with hx; injection hu with hu; subst hx; subst hu; exact r1
  | 1, hx, hu => injection hx with hx; injection hu with hu; subst hx; subst hu; exact r2
  | 2, hx, hu => injection hx with hx; injection hu with hu; subst hx; subst hu; exact r3
  | i + 3, hx, hu => simp [B23] at hx)
 have hc04 := ((hc1.trans' hc2).trans' hc3).trans' hc4
 refine o1 rfl ?_
 refine op_call rfl rfl rfl (made_has _ 3 3 B23 none 0 0 [] w4 hf (SliceOf.nil _ _)) ?_
 rintro _ w5 ⟨g, gm, vo, s, p, st, u, mb, rfl, x, hst, hF, hu, hmb, _⟩
 rw [show filesB B23 = B23 from rfl] at hst hF
 have hc05 := hc04.trans' x.fs.chg
 obtain ⟨hmk, s', u', mb', hall, hF', hu', hmb'⟩ := made_make (B := B23) (by decide) (by decide) hF hu hmb
 have hseg : st.segs = scSegs B23 [] := congrArg PSt.segs hst
 have hnx : st.next = 50 := congrArg PSt.next hst
 have hfb : ∀ p ∈ scF B23 [], p.2.length ≤ 4194304 := fun p hp => by
  obtain ⟨j, hj⟩ := List.getElem?_of_mem hp
  obtain ⟨b', hb', rfl⟩ := scF_get hj
  have : ∀ b ∈ B23, b.length ≤ 4194304 := by decide
  exact this _ (List.mem_of_getElem? hb')
 unfold ptrV
 refine go T 23 rfl ?_
 refine o1 rfl ?_
 refine op_call rfl rfl rfl (makeAll_has x (by rw [hst]; exact hF.ok) (by omega) (by rw [hst, hseg]; exact hmk) (hF.bytes (by omega) hfb) (fun y hy => ?_)) ?_
 ·rw [hseg] at hy
  obtain ⟨h1, h2, h3, h4, h5⟩ := scSeg_mem (B := B23) (by decide) (by decide) hy
  exact ⟨by omega, by omega, by omega, by omega⟩
 rintro _ w6 ⟨hc6, s6, q6, n6, e6, p6, st6, cl6, hall6, rfl, hg6, hst6, hcl6, x6⟩
 rw [hst, hseg, hall] at hall6
 injection hall6 with a1 a2
 injection a2 with a2 a3
 injection a3 with a3 a4
 subst a1; subst a2; subst a3; subst a4
 obtain rfl := hcl6 rfl
 have hok6 : POk st6.plain := by rw [hst6]; exact hF'.ok
 have hsg6 : st6.segs = (goQ (madeI B23 []) (groupsM (scSegs B23 [])) 50 ⟨scSegs B23 [], [], 50, 1⟩).segs := congrArg PSt.segs hst6
 have hwS := goQ_segs (madeI B23 []) (F := scF B23 [] ++ goF (madeI B23 []) (groupsM (scSegs B23 [])) 50) (groupsM (scSegs B23 [])) 50 ⟨scSegs B23 [], [], 50, 1⟩ (fun y hy => by obtain ⟨b, h1, h2⟩ := scSegs_whole B23 [] y hy; exact ⟨b, List.mem_append.2 (.inl h1), h2⟩)
 have hwP := goQ_pars (madeI B23 []) (F := scF B23 [] ++ goF (madeI B23 []) (groupsM (scSegs B23 [])) 50) (groupsM (scSegs B23 [])) 50 ⟨scSegs B23 [], [], 50, 1⟩ (fun y hy => by cases hy) (fun p hp => List.mem_append.2 (.inr hp))
 obtain ⟨hl1, hl2⟩ := look_none hF' hwS hwP
 have hnd : ((scSegs B23 []).map numK).Nodup := by rw [scSegs_num]; exact range_nodup _
 have hgd := groups_done (madeI B23 []) (q := ⟨scSegs B23 [], [], 50, 1⟩) hnd (num := 50) (by decide)
 have hpl := goQ_pars_len (madeI B23 []) (groupsM (scSegs B23 [])) 50 ⟨scSegs B23 [], [], 50, 1⟩
 rw [grp23] at hpl
 have hnx6 : st6.next ≤ 100 := by
  have h7 := congrArg PSt.next hst6
  rw [goQ_next _ _ _ _ rfl, grp23] at h7
  have h8 : st6.plain.next = st6.next := rfl
  omega
 have hby := hF'.bytes (by omega) (made_bytes (by decide) _ _)
 have hc06 : Chg [] w w6 := hc05.trans hc6 (fun k hk hlt => by
  have hz := hc04.size
  rcases List.mem_cons.1 hk with hk | hk
  ·have := x.fresh; omega
  ·have := x.fs.fresh k hk; omega)
 rw [grp23]
 rw [← hst6] at hl2 hpl
 rw [← hsg6] at hl1
 have hgd6 : groupsM st6.segs = [] := by rw [hsg6]; exact hgd
 clear hgd hwS hwP hall hmk hF
 refine go T 11 rfl ?_
 refine o1 rfl ?_
 refine op_call rfl rfl rfl (look_has x6 hok6 hnx6 hby (pok_pars hok6)) ?_
 rintro _ w7 ⟨hc7, us, up, rfl, hus, hup, _, _⟩
 rw [hl1] at hus
 rw [hl2] at hup
 change Own w7 2 1 us 0 [] at hus
 change Own w7 2 1 up 0 [] at hup
 obtain ⟨Au, cu, rfl, _, _⟩ := hus.form
 obtain ⟨Ap, cp, rfl, _, _⟩ := hup.form
 have x7 := x6.keep0 hc7
 have hlen6 := hok6.ls
 have hlen7 := hok6.lp
 have hplen : st6.pars.length = 1 := by
  have h8 : st6.plain.pars.length = st6.pars.length := List.length_map _
  rw [← h8]; exact hpl
 refine go T 10 rfl ?_
 refine eqT rfl rfl rfl rfl (by omega) ?_
 refine go T 2 rfl ?_
 refine eqT rfl rfl rfl rfl (by omega) ?_
 refine go T 4 rfl ?_
 refine eqT rfl rfl rfl rfl (by omega) ?_
 refine go T 4 rfl ?_
 refine eqT rfl rfl rfl rfl (by omega) ?_
 refine go T 3 rfl ?_
 refine o1 rfl ?_
 refine op_call rfl rfl rfl (parsO_has x7 (by omega) (pok_pars hok6)) ?_
 rintro v8 w8 ⟨hc8, _, X, hX, hO, _⟩
 have hXl : X.length = 1 := by
  have h9 := congrArg List.length hX
  rw [List.length_map] at h9
  rw [h9]; exact hpl
 rw [hXl] at hO
 obtain ⟨Aq, cq, rfl, _, _⟩ := hO.form
 have x8 := x7.keep0 hc8
 refine go T 1 rfl ?_
 refine eqT rfl rfl rfl rfl (by omega) ?_
 refine go T 3 rfl ?_
 refine o1 rfl ?_
 refine op_call rfl rfl rfl (segsO_has x8 (Nat.le_trans (show st6.segs.length ≤ 60 from hlen6) (by decide))) ?_
 rintro v9 w9 ⟨hc9, hO9, _⟩
 have hS9 := hO9.readsK segL_len
 obtain ⟨As, cs, rfl, _, _⟩ := hS9.form
 refine o1 rfl ?_
 refine op_call rfl rfl rfl (groups_has As _ cs st6.segs w9 hS9 (Nat.le_trans (show st6.segs.length ≤ 60 from hlen6) (by decide)) (fun y hy => by have := (hok6.segs y hy).1.num; omega)) ?_
 rintro v10 w10 ⟨hc10, hG, _⟩
 rw [hgd6] at hG
 obtain ⟨Ag, cg, hv10, _, _⟩ := hG.reads.form
 have hv10 : v10 = .slice Ag 0 cg := hv10
 subst hv10
 refine go T 1 rfl ?_
 refine eqT rfl rfl rfl rfl (by omega) ?_
 refine go T 5 rfl ?_
 exact post1 (.inl rfl) rfl rfl ⟨(((hc06.trans' hc7).trans' hc8).trans' hc9).trans' hc10, rfl⟩
end Go.Proofs.YtiadjkjlifnopaaGreatDoor.Tryz
/-! Scrub: Repair where nothing is spoilt. -/
namespace Go.Proofs.YtiadjkjlifnopaaGreatDoor.Tryz
open Go Go.Vc
end Go.Proofs.YtiadjkjlifnopaaGreatDoor.Tryz
/-! Scrub: groups by threes, in plain words. -/
namespace Go.Vc
open Go
theorem chunk3_count : ∀ (n : Nat) (l : List Int), l.length ≤ n → (chunk3 l).length = l.length / 3
 | 0, l, h => by rw [chunk3_end (by omega), List.length_nil]; omega
 | n + 1, l, h => by
  by_cases hl : 3 ≤ l.length
  ·rw [chunk3_step hl, List.length_cons, chunk3_count n (l.drop 3) (by rw [List.length_drop]; omega), List.length_drop]; omega
  ·rw [chunk3_end hl, List.length_nil]; omega
end Go.Vc
/-! Scrub: the law ScrubClean. -/
namespace Go.Vc
open Go
theorem filter_true {α : Type} {p : α → Bool} : ∀ {l : List α}, (∀ x ∈ l, p x = true) → l.filter p = l
 | [], _ => rfl
 | a :: l, h => by rw [List.filter_cons, if_pos (h a (by simp)), filter_true fun x hx => h x (by simp [hx])]
theorem sc_groups (B : List (List UInt8)) : (groupsM (scSegs B [])).length = B.length / 3 := by
 have h1 : (freeN (scSegs B [])).length = B.length := by
  unfold freeN
  rw [List.length_map, filter_true (fun y hy => by
   obtain ⟨i, hi⟩ := List.getElem?_of_mem hy
   obtain ⟨b, _, rfl⟩ := scSegs_get hi
   rfl)]
  exact scSegs_len B []
 unfold groupsM
 rw [chunk3_count _ _ (Nat.le_refl _)]
 unfold sortI
 rw [List.length_mergeSort, h1]
end Go.Vc
namespace Go.Proofs.YtiadjkjlifnopaaGreatDoor.Tryz
open Go Go.Vc
end Go.Proofs.YtiadjkjlifnopaaGreatDoor.Tryz
/-! What lasts behind a crash, in plain words. -/
namespace Go.Vc
open Go
theorem looks_doM {d : Dir} (hr : Rising d) (c : ChM) {k : Nm} (h1 : c.name ≠ k) (h2 : c.to ≠ k) : looks (doM d c) k = looks d k ∧ Rising (doM d c) := by
 unfold doM
 split
 ·split
  ·exact ⟨by rw [looks_ins hr, if_neg (Ne.symm h1)], ins_rising hr _ _⟩
  ·exact ⟨rfl, hr⟩
 ·split
  ·split
   ·exact ⟨by rw [looks_ins (del_rising hr _), if_neg (Ne.symm h2), looks_del, if_neg (Ne.symm h1)], ins_rising (del_rising hr _) _ _⟩
   ·exact ⟨by rw [looks_del, if_neg (Ne.symm h1)], del_rising hr _⟩
  ·exact ⟨by rw [looks_del, if_neg (Ne.symm h1)], del_rising hr _⟩
theorem looks_foldM {k : Nm} : ∀ (cs : List ChM) {d : Dir}, Rising d → (∀ c ∈ cs, c.name ≠ k ∧ c.to ≠ k) → looks (cs.foldl doM d) k = looks d k ∧ Rising (cs.foldl doM d)
 | [], d, hr, _ => ⟨rfl, hr⟩
 | c :: cs, d, hr, h => by
  have h1 := looks_doM hr c (h c (by simp)).1 (h c (by simp)).2
  have h2 := looks_foldM cs h1.2 (fun c' hc => h c' (by simp [hc]))
  exact ⟨h2.1.trans h1.1, h2.2⟩
theorem looks_mapIdx (f : Nat → Nm × Nat → Nat) : ∀ (d : Dir) (n : Nat) {k : Nm} {i : Nat}, looks d k = some i → ∃ j, d[j]? = some (k, i) ∧ looks (d.mapIdx fun a p => (p.1, f (n + a) p)) k = some (f (n + j) (k, i))
 | [], n, k, i, h => by cases h
 | (k', i') :: d, n, k, i, h => by
  unfold looks at h
  rw [List.mapIdx_cons]
  unfold looks
  by_cases hk : k' = k
  ·rw [if_pos hk] at h
   injection h with h
   subst hk; subst h
   exact ⟨0, rfl, by simp⟩
  ·rw [if_neg hk] at h
   obtain ⟨j, h1, h2⟩ := looks_mapIdx f d (n + 1) h
   refine ⟨j + 1, by simpa using h1, ?_⟩
   dsimp only
   rw [if_neg hk]
   rw [show n + (j + 1) = n + 1 + j from by omega, ← h2]
   congr 2
   funext a p
   rw [show n + 1 + a = n + (a + 1) from by omega]
theorem crash_keep {s : FsM} {nm : Nm} {b : List UInt8} {sy : Nat} (h : Keep s nm b sy) (hr : Rising s.lasts) (n : Int) (tails : List Int) : ∃ t, readM (crashM s n tails) nm = some (b.take (sy + t)) := by
 obtain ⟨i, h1, h2, h3, h4⟩ := h
 have hd : looks (crashDir s n) nm = some i := by
  unfold crashDir
  rw [(looks_foldM _ hr (fun c hc => h3 c (List.mem_of_mem_take hc))).1]
  exact h2
 obtain ⟨j, h5, h6⟩ := looks_mapIdx (fun a _ => a) (crashDir s n) 0 hd
 simp only [Nat.zero_add] at h6
 refine ⟨(match tails[j]? with | some t => min (max t 0).toNat (b.length - sy) | none => 0), ?_⟩
 unfold readM
 show (looks ((crashDir s n).mapIdx fun j p => (p.1, j)) nm).bind (fun i => ((crashFiles s (crashDir s n) tails)[i]?).map (·.b)) = _
 rw [h6]
 show ((crashFiles s (crashDir s n) tails)[j]?).map (·.b) = _
 unfold crashFiles
 rw [List.getElem?_mapIdx, h5]
 show some (cutM ((s.files[i]?).getD ⟨[], 0⟩) tails j).b = _
 rw [h4]
 rfl
theorem crash_whole {s : FsM} {nm : Nm} {b : List UInt8} (h : Keep s nm b b.length) (hr : Rising s.lasts) (n : Int) (tails : List Int) : readM (crashM s n tails) nm = some b := by
 obtain ⟨t, ht⟩ := crash_keep h hr n tails
 rw [ht, List.take_of_length_le (by omega)]
end Go.Vc
/-! Scrub: what Make leaves, in plain words. -/
namespace Go.Proofs.YtiadjkjlifnopaaGreatDoor.Tryz
open Go Go.Vc
end Go.Proofs.YtiadjkjlifnopaaGreatDoor.Tryz
/-! Scrub: calls of the files that fail, in plain words. -/
namespace Go.Vc
open Go
def zS (s : FsM) : FsM := { s with calls := 0, fail := -1 }
theorem zS_crash (s : FsM) (n : Int) (tails : List Int) : crashM (zS s) n tails = crashM s n tails := rfl
def ZOp (op : FsM → FsM × Int) : Prop := ∀ s, (op s = (callM s, 5)) ∨ ((op s).2 = (op (zS s)).2 ∧ zS (op s).1 = zS (op (zS s)).1)
theorem z_create (k : Nm) : ZOp (createM · k) := fun s => by
 cases hf : failsM s with
 | true => left; unfold createM; dsimp only; rw [hf, if_pos rfl]
 | false =>
  right
  have h0 : failsM (zS s) = false := rfl
  unfold createM
  dsimp only
  rw [hf, h0]
  show _ ∧ zS (ite _ _ _ : FsM × Int).1 = _
  by_cases h1 : (!mayM k) = true
  ·simp only [h1, if_true, Bool.false_eq_true, if_false]; exact ⟨trivial, rfl⟩
  ·simp only [h1, if_false, Bool.false_eq_true]
   by_cases h2 : ((looks s.dir k).isNone && decide (150 ≤ s.dir.length)) = true
   ·have h3 : ((looks (callM s).dir k).isNone && decide (150 ≤ (callM s).dir.length)) = true := h2
    have h4 : ((looks (callM (zS s)).dir k).isNone && decide (150 ≤ (callM (zS s)).dir.length)) = true := h2
    rw [if_pos h3, if_pos h4]; exact ⟨rfl, rfl⟩
   ·have h3 : ¬ ((looks (callM s).dir k).isNone && decide (150 ≤ (callM s).dir.length)) = true := h2
    have h4 : ¬ ((looks (callM (zS s)).dir k).isNone && decide (150 ≤ (callM (zS s)).dir.length)) = true := h2
    rw [if_neg h3, if_neg h4]; exact ⟨rfl, rfl⟩
theorem z_append (k : Nm) (b : List UInt8) : ZOp (appendM · k b) := fun s => by
 cases hf : failsM s with
 | true => left; unfold appendM; dsimp only; rw [hf, if_pos rfl]
 | false =>
  right
  have h0 : failsM (zS s) = false := rfl
  unfold appendM
  dsimp only
  rw [hf, h0]
  simp only [Bool.false_eq_true, if_false]
  have e : (callM (zS s)).dir = (callM s).dir := rfl
  rw [e]
  cases looks (callM s).dir k with
  | none => exact ⟨rfl, rfl⟩
  | some i =>
   dsimp only
   have e2 : usedM (callM (zS s)) = usedM (callM s) := rfl
   have e3 : (callM (zS s)).room = (callM s).room := rfl
   rw [e2, e3]
   split <;> exact ⟨rfl, rfl⟩
theorem z_sync (k : Nm) : ZOp (syncM · k) := fun s => by
 cases hf : failsM s with
 | true => left; unfold syncM; dsimp only; rw [hf, if_pos rfl]
 | false =>
  right
  have h0 : failsM (zS s) = false := rfl
  unfold syncM
  dsimp only
  rw [hf, h0]
  simp only [Bool.false_eq_true, if_false]
  have e : (callM (zS s)).dir = (callM s).dir := rfl
  rw [e]
  cases looks (callM s).dir k <;> exact ⟨rfl, rfl⟩
theorem z_syncDir : ZOp syncDirM := fun s => by
 cases hf : failsM s with
 | true => left; unfold syncDirM; dsimp only; rw [hf, if_pos rfl]
 | false =>
  right
  have h0 : failsM (zS s) = false := rfl
  unfold syncDirM
  dsimp only
  rw [hf, h0]
  simp only [Bool.false_eq_true, if_false]
  exact ⟨trivial, rfl⟩
theorem ins_sub {k : Nm} (i : Nat) : ∀ {d : Dir}, looks d k = none → d.Sublist (ins d k i)
 | [], _ => List.nil_sublist _
 | (k', i') :: d, h => by
  unfold looks at h
  unfold ins
  split at h
  ·cases h
  ·rename_i hk
   split
   ·exact List.sublist_cons_self _ _
   ·exact (ins_sub i h).cons_cons _
structure Near (s : FsM) : Prop where
 sub : s.lasts.Sublist s.dir
 crash : ∀ k, crashDir s k = s.lasts ∨ crashDir s k = s.dir
theorem near_flat {s : FsM} (h1 : s.waits = []) (h2 : s.lasts = s.dir) : Near s := ⟨by rw [h2]; exact List.Sublist.refl _, fun k => .inl (by unfold crashDir; rw [h1, List.take_nil]; rfl)⟩
theorem near_one {s : FsM} {c : ChM} (h1 : s.waits = [c]) (h2 : s.dir = doM s.lasts c) (h3 : s.lasts.Sublist s.dir) : Near s := ⟨h3, fun k => by
 unfold crashDir
 rw [h1]
 cases k.toNat with
 | zero => exact .inl rfl
 | succ j =>
  refine .inr ?_
  rw [List.take_succ_cons, List.take_nil, List.foldl_cons, List.foldl_nil, h2]⟩
theorem lens_le {s : FsM} {d : Dir} (hd : d.Sublist s.dir) : (d.map fun p => lenOf s p.2).sum ≤ usedM s := sum_sub _ hd
theorem cut_len (f : FileM) (tails : List Int) (j : Nat) : (cutM f tails j).b.length ≤ f.b.length := by
 unfold cutM
 rw [List.length_take]
 omega
theorem crash_used (s : FsM) (tails : List Int) : ∀ (d d0 : Dir) (m : Nat), (∀ j p, d[j]? = some p → d0[m + j]? = some p) →
  ((d.mapIdx fun j p => (p.1, m + j)).map fun p => (((crashFiles s d0 tails)[p.2]?).map (·.b.length)).getD 0).sum ≤ (d.map fun p => lenOf s p.2).sum
 | [], _, _, _ => by simp
 | p :: d, d0, m, h => by
  rw [List.mapIdx_cons, List.map_cons, List.sum_cons, List.map_cons, List.sum_cons]
  have ih := crash_used s tails d d0 (m + 1) (fun j q hq => by rw [show m + 1 + j = m + (j + 1) from by omega]; exact h (j + 1) q (by simpa using hq))
  have h0 := h 0 p rfl
  rw [Nat.add_zero] at h0
  have h1 : (((crashFiles s d0 tails)[m]?).map (·.b.length)).getD 0 ≤ lenOf s p.2 := by
   unfold crashFiles
   rw [List.getElem?_mapIdx, h0]
   show (cutM ((s.files[p.2]?).getD ⟨[], 0⟩) tails m).b.length ≤ _
   refine Nat.le_trans (cut_len _ _ _) ?_
   unfold lenOf
   cases s.files[p.2]? <;> simp
  have e : (d.mapIdx fun j q => (q.1, m + (j + 1))) = (d.mapIdx fun j q => (q.1, m + 1 + j)) := by
   congr 1
   funext j q
   rw [show m + (j + 1) = m + 1 + j from by omega]
  rw [e]
  exact Nat.add_le_add h1 ih
theorem mul_crash {s : FsM} {u n : Nat} (h : Mul (zS s) 0 u n) (hn : Near s) (k : Int) (tails : List Int) : Mul (crashM s k tails) 0 u n := by
 have hd : (crashDir s k).Sublist s.dir := by
  rcases hn.crash k with e | e
  ·rw [e]; exact hn.sub
  ·rw [e]; exact List.Sublist.refl _
 have hup : Rising (crashDir s k) := by
  rcases hn.crash k with e | e
  ·rw [e]; exact h.lup
  ·rw [e]; exact h.up
 have hr : Rising ((crashDir s k).mapIdx fun j p => (p.1, j)) := by
  unfold Rising at *
  have : ((crashDir s k).mapIdx fun j p => (p.1, j)).map (·.1) = (crashDir s k).map (·.1) := by
   apply List.ext_getElem?
   intro i
   rw [List.getElem?_map, List.getElem?_mapIdx, List.getElem?_map]
   cases (crashDir s k)[i]? <;> rfl
  rw [this]
  exact hup
 have hids : ((crashDir s k).mapIdx fun j p => (p.1, j)).map (·.2) = List.range (crashDir s k).length := by
  apply List.ext_getElem?
  intro i
  rw [List.getElem?_map, List.getElem?_mapIdx]
  by_cases hi : i < (crashDir s k).length
  ·rw [List.getElem?_eq_getElem hi, List.getElem?_range hi]; rfl
  ·rw [List.getElem?_eq_none (by omega), List.getElem?_eq_none (by rw [List.length_range]; omega)]; rfl
 refine ⟨h.room, rfl, rfl, ?_, ?_, hr, hr, ?_, ?_⟩
 ·have h1 := crash_used s tails (crashDir s k) (crashDir s k) 0 (fun j p hp => by rw [Nat.zero_add]; exact hp)
  simp only [Nat.zero_add] at h1
  exact Nat.le_trans h1 (Nat.le_trans (lens_le hd) h.used)
 ·show ((crashDir s k).mapIdx fun j p => (p.1, j)).length ≤ n
  rw [List.length_mapIdx]
  exact Nat.le_trans hd.length_le h.few
 ·show (((crashDir s k).mapIdx fun j p => (p.1, j)).map (·.2)).Nodup
  rw [hids]; exact List.nodup_range
 ·intro p hp
  show p.2 < (crashFiles s (crashDir s k) tails).length
  unfold crashFiles
  rw [List.length_mapIdx]
  have : p.2 ∈ ((crashDir s k).mapIdx fun j p => (p.1, j)).map (·.2) := List.mem_map.2 ⟨p, hp, rfl⟩
  rw [hids] at this
  exact List.mem_range.1 this
end Go.Vc
/-! Scrub: Make where a call fails, in plain words: what is there behind it, and behind a crash. -/
namespace Go.Vc
open Go
structure SafeF (s : FsM) (mb c : List UInt8) (F : List (Nm × List UInt8)) (u n : Nat) : Prop where
 mul : Mul (zS s) 0 u n
 near : Near (zS s)
 man : Keep (zS s) manNm (mb ++ c) mb.length
 has : ∀ p ∈ F, Keep (zS s) p.1 p.2 p.2.length
theorem SafeF.z {s t : FsM} {mb c : List UInt8} {F : List (Nm × List UInt8)} {u n : Nat} (h : SafeF t mb c F u n) (e : zS s = zS t) : SafeF s mb c F u n := by
 obtain ⟨h1, h2, h3, h4⟩ := h
 rw [← e] at h1 h2 h3 h4
 exact ⟨h1, h2, h3, h4⟩
theorem Mul.more {s : FsM} {calls : Int} {u u' n n' : Nat} (h : Mul s calls u n) (hu : u ≤ u') (hn : n ≤ n') : Mul s calls u' n' := ⟨h.room, h.calls, h.fail, Nat.le_trans h.used hu, Nat.le_trans h.few hn, h.up, h.lup, h.inj, h.bnd⟩
theorem SafeF.more {s : FsM} {mb c : List UInt8} {F : List (Nm × List UInt8)} {u u' n n' : Nat} (h : SafeF s mb c F u n) (hu : u ≤ u') (hn : n ≤ n') : SafeF s mb c F u' n' := ⟨h.mul.more hu hn, h.near, h.man, h.has⟩
theorem mul_z {s : FsM} {calls : Int} {u n : Nat} (h : Mul s calls u n) : Mul (zS s) 0 u n := ⟨h.room, rfl, rfl, h.used, h.few, h.up, h.lup, h.inj, h.bnd⟩
theorem create_dirs {s : FsM} {calls : Int} {u n : Nat} {nm : Nm} (h : Mul s calls u n) (hm : mayM nm = true) (hn : n < 150) : (createM s nm).1.waits = s.waits ++ [⟨0, nm, [], some s.files.length⟩] ∧ (createM s nm).1.lasts = s.lasts ∧ (createM s nm).1.dir = ins s.dir nm s.files.length := by
 have hf := h.few
 have e : createM s nm = (changeM { callM s with files := (callM s).files ++ [⟨[], 0⟩] } ⟨0, nm, [], some (callM s).files.length⟩, 0) := by
  unfold createM
  dsimp only
  rw [h.nofail, if_neg (by simp), hm, if_neg (by simp), if_neg (by
   have : ¬ 150 ≤ (callM s).dir.length := by show ¬ 150 ≤ s.dir.length; omega
   simp [this])]
 rw [e]
 exact ⟨rfl, rfl, rfl⟩
theorem putG_fail {s : FsM} {nm : Nm} {b : List UInt8} {n k : Nat} (h : putK4 s nm b k = (callM s, 5)) : putG nm b (n + 1) k s = (callM s, 5) := by
 rw [putG, if_pos (by rw [h]; show (5 : Int) ≠ 0; decide), h]
section
variable {s : FsM} {u n : Nat} {mb b : List UInt8} {q q' : PSt} {F : List (Nm × List UInt8)} {nm : Nm} {e : EditM}
theorem Full.safe (h : Full (zS s) 0 u n mb q F) (hf : Flat s) : SafeF s mb [] F u n := ⟨h.mul, near_flat hf.1 hf.2, by rw [List.append_nil]; exact h.man, h.has⟩
theorem put_z (h : Full (zS s) 0 u n mb q F) (hfl : Flat s) (hm : mayM nm = true) (hne : nm ≠ manNm) (hnew : nm ∉ F.map (·.1)) (hne0 : ∀ p ∈ F, p.1 ≠ []) (hn : n < 150) (hr : u + b.length ≤ 1048576) :
  ((putF s nm b).2 = 0 ∧ Full (zS (putF s nm b).1) 0 (u + b.length) (n + 1) mb q (F ++ [(nm, b)]) ∧ Flat (putF s nm b).1) ∨ ((putF s nm b).2 = 5 ∧ SafeF (putF s nm b).1 mb [] F (u + b.length) (n + 1)) := by
 have hpn : ∀ p ∈ F, p.1 ≠ nm := fun p hp e => hnew (List.mem_map.2 ⟨p, hp, e⟩)
 have hfr : looks (zS s).dir nm = none := h.names nm hne hnew
 have hmn : manNm ≠ [] := by decide
 obtain ⟨r, hpr⟩ : ∃ r, putF s nm b = r := ⟨_, rfl⟩
 rw [hpr]
 unfold putF at hpr
 rcases z_create nm s with e1 | ⟨e1, z1⟩
 ·right
  rw [putG_fail (n := 3) (k := 0) e1] at hpr
  subst hpr
  exact ⟨rfl, ((h.safe hfl).more (by omega) (by omega)).z rfl⟩
 obtain ⟨o1, m1, a1, d1, k1, p1⟩ := mul_create h.mul hm hn
 obtain ⟨w1, l1, i1⟩ := create_dirs h.mul hm hn
 rw [o1] at e1
 rw [putG_ok (n := 3) (k := 0) e1] at hpr
 change putG nm b 3 1 (createM s nm).1 = r at hpr
 have hw1 : (createM (zS s) nm).1.waits = [⟨0, nm, [], some s.files.length⟩] := by rw [w1]; show s.waits ++ _ = _; rw [hfl.1]; rfl
 have hl1 : (createM (zS s) nm).1.lasts = s.dir := by rw [l1]; exact hfl.2
 have hi1 : (createM (zS s) nm).1.dir = ins s.dir nm s.files.length := i1
 have m1 := mul_z m1
 have man1 := p1 _ _ _ hne.symm hmn h.man
 have has1 : ∀ p ∈ F, Keep (createM (zS s) nm).1 p.1 p.2 p.2.length := fun p hp => p1 _ _ _ (hpn p hp) (hne0 p hp) (h.has p hp)
 generalize hT1 : (createM (zS s) nm).1 = t1 at *
 generalize hS1 : (createM s nm).1 = s1 at *
 have nr : ∀ t : FsM, t.waits = [⟨0, nm, [], some s.files.length⟩] → t.lasts = s.dir → t.dir = ins s.dir nm s.files.length → Near t := fun t a b c => near_one a (by rw [b, c]; rfl) (by rw [b, c]; exact ins_sub _ hfr)
 have sf1 : SafeF s1 mb [] F (u + b.length) (n + 1) := (show SafeF t1 mb [] F (u + b.length) (n + 1) from ⟨m1.more (by omega) (Nat.le_refl _), nr _ hw1 hl1 hi1, by rw [List.append_nil]; exact man1, has1⟩).z z1
 rcases z_append nm b s1 with e2 | ⟨e2, z2⟩
 ·right
  rw [putG_fail (n := 2) (k := 1) e2] at hpr
  subst hpr
  exact ⟨rfl, sf1.z rfl⟩
 obtain ⟨o2, m2, a2, d2, k2, p2, _⟩ := mul_append (c := b) m1 (show Has1 (zS t1) nm [] 0 from a1) hr
 obtain ⟨w2, l2, i2⟩ := append_dirs (zS t1) nm b
 rw [z1] at e2 z2
 rw [o2] at e2
 rw [putG_ok (n := 2) (k := 1) e2] at hpr
 change putG nm b 2 2 (appendM s1 nm b).1 = r at hpr
 have m2 := mul_z m2
 have man2 := p2 _ _ _ hne.symm man1
 have has2 : ∀ p ∈ F, Keep (appendM (zS t1) nm b).1 p.1 p.2 p.2.length := fun p hp => p2 _ _ _ (hpn p hp) (has1 p hp)
 have hw2 := w2.trans hw1
 have hl2 := l2.trans hl1
 have hi2 := i2.trans hi1
 generalize hT2 : (appendM (zS t1) nm b).1 = t2 at *
 generalize hS2 : (appendM s1 nm b).1 = s2 at *
 have sf2 : SafeF s2 mb [] F (u + b.length) (n + 1) := (show SafeF t2 mb [] F (u + b.length) (n + 1) from ⟨m2, nr _ hw2 hl2 hi2, by rw [List.append_nil]; exact man2, has2⟩).z z2
 rcases z_sync nm s2 with e3 | ⟨e3, z3⟩
 ·right
  rw [putG_fail (n := 1) (k := 2) e3] at hpr
  subst hpr
  exact ⟨rfl, sf2.z rfl⟩
 obtain ⟨o3, m3, a3, d3, k3, p3, _⟩ := mul_sync m2 (show Has1 (zS t2) nm ([] ++ b) 0 from a2)
 obtain ⟨w3, l3, i3⟩ := sync_dirs (zS t2) nm
 rw [z2] at e3 z3
 rw [o3] at e3
 rw [putG_ok (n := 1) (k := 2) e3] at hpr
 change putG nm b 1 3 (syncM s2 nm).1 = r at hpr
 have m3 := mul_z m3
 have man3 := p3 _ _ _ hne.symm man2
 have has3 : ∀ p ∈ F, Keep (syncM (zS t2) nm).1 p.1 p.2 p.2.length := fun p hp => p3 _ _ _ (hpn p hp) (has2 p hp)
 have hw3 := w3.trans hw2
 have hl3 := l3.trans hl2
 have hi3 := i3.trans hi2
 rw [List.nil_append] at a3
 have nm3 : ∀ k, k ≠ manNm → k ∉ (F ++ [(nm, b)]).map (·.1) → looks (syncM (zS t2) nm).1.dir k = none := fun k hk hF => by
  rw [List.map_append, List.mem_append, not_or] at hF
  have hkn : k ≠ nm := fun e => hF.2 (by simp [e])
  rw [d3]
  show looks t2.dir k = none
  rw [d2]
  show looks t1.dir k = none
  rw [d1 k hkn]
  exact h.names k hk hF.1
 generalize hT3 : (syncM (zS t2) nm).1 = t3 at *
 generalize hS3 : (syncM s2 nm).1 = s3 at *
 have sf3 : SafeF s3 mb [] F (u + b.length) (n + 1) := (show SafeF t3 mb [] F (u + b.length) (n + 1) from ⟨m3, nr _ hw3 hl3 hi3, by rw [List.append_nil]; exact man3, has3⟩).z z3
 rcases z_syncDir s3 with e4 | ⟨e4, z4⟩
 ·right
  rw [putG_fail (n := 0) (k := 3) e4] at hpr
  subst hpr
  exact ⟨rfl, sf3.z rfl⟩
 left
 have hh : Half (zS t3) 0 (u + b.length) (n + 1) mb (F ++ [(nm, b)]) := ⟨m3, man3.has, fun p hp => by
  rcases List.mem_append.1 hp with hp | hp
  ·exact (has3 p hp).has
  ·rw [List.mem_singleton.1 hp]; exact a3, nm3⟩
 obtain ⟨o4, h4⟩ := half_dir hh h.file h.ok
 rw [z3] at e4 z4
 rw [o4] at e4
 rw [putG_ok (n := 0) (k := 3) e4] at hpr
 change ((syncDirM s3).1, (0 : Int)) = r at hpr
 subst hpr
 have hF4 : Full (zS (syncDirM (zS t3)).1) 0 (u + b.length) (n + 1) mb q (F ++ [(nm, b)]) := ⟨mul_z h4.mul, h4.man, h4.file, h4.ok, h4.has, h4.names, h4.flat⟩
 have hfl4 := syncDir_flat m3
 refine ⟨rfl, ?_, ?_⟩
 ·show Full (zS (syncDirM s3).1) 0 _ _ mb q _
  rw [z4]; exact hF4
 ·have e5 : (syncDirM s3).1.waits = (zS (syncDirM s3).1).waits ∧ (syncDirM s3).1.lasts = (zS (syncDirM s3).1).lasts ∧ (syncDirM s3).1.dir = (zS (syncDirM s3).1).dir := ⟨rfl, rfl, rfl⟩
  show (syncDirM s3).1.waits = [] ∧ (syncDirM s3).1.lasts = (syncDirM s3).1.dir
  rw [e5.1, e5.2.1, e5.2.2, z4]
  exact hfl4
theorem commit_z (h : Full (zS s) 0 u n mb q F) (hfl : Flat s) (hF : manNm ∉ F.map (·.1)) (hg : EdGood e) (ha : applyP q e false = some q') (hr : u + (encE e).1.length ≤ 1048576) :
  ((commitF s (encE e).1).2 = 0 ∧ Full (zS (commitF s (encE e).1).1) 0 (u + (encE e).1.length) n (mb ++ (encE e).1) q' F ∧ Flat (commitF s (encE e).1).1) ∨
  ((commitF s (encE e).1).2 = 5 ∧ (SafeF (commitF s (encE e).1).1 mb [] F (u + (encE e).1.length) n ∨ SafeF (commitF s (encE e).1).1 mb (encE e).1 F (u + (encE e).1.length) n)) := by
 have hpn : ∀ p ∈ F, p.1 ≠ manNm := fun p hp e => hF (List.mem_map.2 ⟨p, hp, e⟩)
 unfold commitF
 rcases z_append manNm (encE e).1 s with e1 | ⟨e1, z1⟩
 ·right
  have e1 : appendM s manNm (encE e).1 = (callM s, 5) := e1
  rw [e1, if_neg (show ¬ (5 : Int) = 0 by decide)]
  exact ⟨rfl, .inl (((h.safe hfl).more (by omega) (Nat.le_refl _)).z rfl)⟩
 obtain ⟨o1, m1, a1, d1, k1, p1, q1⟩ := mul_append (c := (encE e).1) h.mul h.man.has hr
 obtain ⟨w1, l1, i1⟩ := append_dirs (zS s) manNm (encE e).1
 rw [o1] at e1
 rw [if_pos e1]
 have m1 := mul_z m1
 have man1 := q1 h.man
 have has1 : ∀ p ∈ F, Keep (appendM (zS s) manNm (encE e).1).1 p.1 p.2 p.2.length := fun p hp => p1 _ _ _ (hpn p hp) (h.has p hp)
 have hw1 := w1.trans (show (zS s).waits = [] from hfl.1)
 have hl1 : (appendM (zS s) manNm (encE e).1).1.lasts = (appendM (zS s) manNm (encE e).1).1.dir := l1.trans ((show (zS s).lasts = (zS s).dir from hfl.2).trans i1.symm)
 have nm1 : ∀ k, k ≠ manNm → k ∉ F.map (·.1) → looks (appendM (zS s) manNm (encE e).1).1.dir k = none := fun k hk hk2 => by rw [d1]; exact h.names k hk hk2
 generalize hT1 : (appendM (zS s) manNm (encE e).1).1 = t1 at *
 generalize hS1 : (appendM s manNm (encE e).1).1 = s1 at *
 have sf1 : SafeF s1 mb (encE e).1 F (u + (encE e).1.length) n := (show SafeF t1 mb (encE e).1 F (u + (encE e).1.length) n from ⟨m1, near_flat hw1 hl1, man1, has1⟩).z z1
 rcases z_sync manNm s1 with e2 | ⟨e2, z2⟩
 ·right
  have e2 : syncM s1 manNm = (callM s1, 5) := e2
  rw [e2]
  exact ⟨rfl, .inr (sf1.z rfl)⟩
 left
 obtain ⟨o2, m2, a2, d2, k2, p2, q2⟩ := mul_sync m1 (show Has1 (zS t1) manNm (mb ++ (encE e).1) mb.length from man1.has)
 obtain ⟨w2, l2, i2⟩ := sync_dirs (zS t1) manNm
 rw [z1] at e2 z2
 rw [o2] at e2
 have hF2 : Full (zS (syncM (zS t1) manNm).1) 0 (u + (encE e).1.length) n (mb ++ (encE e).1) q' F := ⟨mul_z m2, q2 man1, h.file.commit hg ha, applyP_ok h.ok hg.sums ha, fun p hp => p2 _ _ _ (hpn p hp) (has1 p hp), fun k hk hk' => by
  show looks (syncM (zS t1) manNm).1.dir k = none
  rw [d2]; exact nm1 k hk hk', ⟨w2.trans hw1, l2.trans (hl1.trans i2.symm)⟩⟩
 refine ⟨e2, by rw [z2]; exact hF2, ?_⟩
 have e5 : (syncM s1 manNm).1.waits = (zS (syncM s1 manNm).1).waits ∧ (syncM s1 manNm).1.lasts = (zS (syncM s1 manNm).1).lasts ∧ (syncM s1 manNm).1.dir = (zS (syncM s1 manNm).1).dir := ⟨rfl, rfl, rfl⟩
 show (syncM s1 manNm).1.waits = [] ∧ (syncM s1 manNm).1.lasts = (syncM s1 manNm).1.dir
 rw [e5.1, e5.2.1, e5.2.2, z2]
 exact ⟨w2.trans hw1, l2.trans (hl1.trans i2.symm)⟩
end
end Go.Vc
/-! Scrub: Make of files that are whole, whichever call fails. -/
namespace Go.Proofs.YtiadjkjlifnopaaGreatDoor.Tryz
open Go Go.Vc
theorem commitF_calls (s : FsM) (b : List UInt8) : (commitF s b).1.calls ≤ s.calls + 2 := by
 have h1 : (appendM s manNm b).1.calls = s.calls + 1 := putK4_calls s manNm b 1
 have h2 : (syncM (appendM s manNm b).1 manNm).1.calls = (appendM s manNm b).1.calls + 1 := putK4_calls _ manNm b 2
 unfold commitF
 split <;> omega
theorem undoF_calls (s : FsM) (nm : Nm) (e : Int) : (undoF s nm e).calls ≤ s.calls + 1 := by
 have h : (removeM s nm).1.calls = s.calls + 1 := by unfold removeM; dsimp only; (repeat' split) <;> rfl
 unfold undoF
 split <;> omega
theorem makeF_calls (s : FsM) (num : Int) (I : List GItem) : (makeF s num I).1.calls ≤ s.calls + 7 := by
 have h1 := putG_calls (dig2 num.toNat ++ endPar) (gPar I) 4 0 s
 change (putF s (dig2 num.toNat ++ endPar) (gPar I)).1.calls ≤ s.calls + 4 at h1
 have h2 := commitF_calls (putF s (dig2 num.toNat ++ endPar) (gPar I)).1 (encE (mkE num I)).1
 unfold makeF
 dsimp only
 split
 ·have := undoF_calls (putF s (dig2 num.toNat ++ endPar) (gPar I)).1 (dig2 num.toNat ++ endPar) (putF s (dig2 num.toNat ++ endPar) (gPar I)).2
  show (undoF _ _ _).calls ≤ _
  omega
 ·have := undoF_calls (commitF (putF s (dig2 num.toNat ++ endPar) (gPar I)).1 (encE (mkE num I)).1).1 (dig2 num.toNat ++ endPar) (commitF (putF s (dig2 num.toNat ++ endPar) (gPar I)).1 (encE (mkE num I)).1).2
  show (undoF _ _ _).calls ≤ _
  omega
theorem mkAll_calls (L : List SegM) : ∀ (r : List (List Int)) (s : FsM) (q : PSt) (n last : Int), (mkAll L r s q n last).1.calls ≤ s.calls + 7 * r.length
 | [], s, q, n, last => by rw [mkAll_nil]; simp
 | ns :: r, s, q, n, last => by
  have h := makeF_calls s q.next (ns.map (itemM s L))
  rw [mkAll_cons, List.length_cons]
  split
  ·have := mkAll_calls L r s q n 6; omega
  ·split
   ·show (makeF s q.next (ns.map (itemM s L))).1.calls ≤ _; omega
   ·have := mkAll_calls L r (makeF s q.next (ns.map (itemM s L))).1 ((applyP q (mkE q.next (ns.map (itemM s L))) false).getD q) (n + 1) last; omega
theorem makeF_z {s : FsM} {u n : Nat} {mb : List UInt8} {q q' : PSt} {F : List (Nm × List UInt8)} (h : Full (zS s) 0 u n mb q F) (hfl : Flat s) {num : Nat} (hnum : num < 100) {I : List GItem} (hnew : dig2 num ++ endPar ∉ F.map (·.1)) (hF : manNm ∉ F.map (·.1)) (hne0 : ∀ p ∈ F, p.1 ≠ []) (hn : n < 150)
  (hg : EdGood (mkE (num : Int) I)) (ha : applyP q (mkE (num : Int) I) false = some q') (hr : u + (gPar I).length + (encE (mkE (num : Int) I)).1.length ≤ 1048576) :
  ((makeF s (num : Int) I).2 = 0 ∧ Full (zS (makeF s (num : Int) I).1) 0 (u + (gPar I).length + (encE (mkE (num : Int) I)).1.length) (n + 1) (mb ++ (encE (mkE (num : Int) I)).1) q' (F ++ [(dig2 num ++ endPar, gPar I)]) ∧ Flat (makeF s (num : Int) I).1 ∧ (makeF s (num : Int) I).1.calls ≤ s.calls + 6) ∨
  ((makeF s (num : Int) I).2 = 5 ∧ (SafeF (makeF s (num : Int) I).1 mb [] F (u + (gPar I).length + (encE (mkE (num : Int) I)).1.length) (n + 1) ∨ SafeF (makeF s (num : Int) I).1 mb (encE (mkE (num : Int) I)).1 (F ++ [(dig2 num ++ endPar, gPar I)]) (u + (gPar I).length + (encE (mkE (num : Int) I)).1.length) (n + 1))) := by
 obtain ⟨h1, h2⟩ := parName_may num hnum
 have hc1 := putG_calls (dig2 num ++ endPar) (gPar I) 4 0 s
 change (putF s (dig2 num ++ endPar) (gPar I)).1.calls ≤ s.calls + 4 at hc1
 unfold makeF
 rw [Int.toNat_natCast]
 dsimp only
 rcases put_z (b := gPar I) h hfl h1 h2 hnew hne0 hn (by omega) with ⟨e1, h3, f3⟩ | ⟨e1, h3⟩
 ·rw [e1, if_neg (by simp)]
  have hc2 := commitF_calls (putF s (dig2 num ++ endPar) (gPar I)).1 (encE (mkE (num : Int) I)).1
  rcases commit_z h3 f3 (by rw [List.map_append, List.mem_append, not_or]; exact ⟨hF, by simpa using h2.symm⟩) hg ha (by omega) with ⟨e2, h4, f4⟩ | ⟨e2, h4⟩
  ·left
   rw [e2]
   exact ⟨rfl, h4, f4, by show (commitF _ _).1.calls ≤ _; omega⟩
  ·right
   rw [e2]
   refine ⟨rfl, ?_⟩
   rcases h4 with h4 | h4
   ·exact .inl ⟨h4.mul, h4.near, h4.man, fun p hp => h4.has p (List.mem_append.2 (.inl hp))⟩
   ·exact .inr h4
 ·right
  rw [e1, if_pos (by decide)]
  exact ⟨rfl, .inl (h3.more (by omega) (Nat.le_refl _))⟩
def Stage (itm : Int → GItem) (r : List (List Int)) (num : Nat) (q q2 : PSt) (F : List (Nm × List UInt8)) : Prop := ∃ j, j ≤ r.length ∧ q2 = goQ itm (r.take j) num q ∧ ∀ p ∈ goF itm (r.take j) num, p ∈ F
theorem Stage.cons {itm : Int → GItem} {ns : List Int} {r : List (List Int)} {num : Nat} {q q2 : PSt} {F : List (Nm × List UInt8)} (h : Stage itm r (num + 1) ⟨q.segs.map (updS (num : Int) ns), q.pars ++ [mkP (num : Int) (ns.map itm)], (num : Int) + 1, q.seq⟩ q2 F) (hp : (dig2 num ++ endPar, gPar (ns.map itm)) ∈ F) : Stage itm (ns :: r) num q q2 F := by
 obtain ⟨j, h1, h2, h3⟩ := h
 refine ⟨j + 1, by rw [List.length_cons]; omega, h2, fun p hm => ?_⟩
 rw [List.take_succ_cons] at hm
 rcases List.mem_cons.1 (show p ∈ _ :: _ from hm) with hm | hm
 ·rw [hm]; exact hp
 ·exact h3 p hm
structure Left (itm : Int → GItem) (r : List (List Int)) (num : Nat) (q : PSt) (F : List (Nm × List UInt8)) (s' : FsM) (u n m : Nat) : Prop where
 ex : ∃ mb c q2 F', SafeF s' mb c F' u n ∧ FileOk mb q2 ∧ POk q2 ∧ mb.length ≤ m ∧ (∀ p ∈ F, p ∈ F') ∧ Stage itm r num q q2 F' ∧ (c = [] ∨ ∃ e q3, EdGood e ∧ applyP q2 e false = some q3 ∧ c = (encE e).1 ∧ Stage itm r num q q3 F')
theorem makeAll_z (L : List SegM) (itm : Int → GItem) : ∀ (r : List (List Int)) (s : FsM) (u n m : Nat) (mb : List UInt8) (q : PSt) (F : List (Nm × List UInt8)) (num : Nat) (n0 last : Int),
  Full (zS s) 0 u n mb q F → Flat s → (∀ p ∈ F, p.1 ≠ []) → q.next = (num : Int) → (∀ ns ∈ r, ns.length = 3 ∧ ∀ k ∈ ns, ItOk L F q itm k) → r.flatten.Nodup → 1 ≤ num → num + r.length ≤ 100 → q.pars.length + r.length ≤ 60 → (∀ k, num ≤ k → k < 100 → dig2 k ++ endPar ∉ F.map (·.1)) → manNm ∉ F.map (·.1) →
  u + r.length * 100400 ≤ 1048576 → n + r.length ≤ 150 → mb.length ≤ m → m + r.length * 100400 ≤ 4194304 → (∀ p ∈ F, p.2.length ≤ 4194304) → s.calls + 6 * r.length < 1000000000 - 100 →
  MkOk L r s q ∧ ∃ s' q1 n1 e1, mkAll L r s q n0 last = (s', q1, n1, e1) ∧ ((e1 = last ∧ n1 = n0 + r.length) ∨ e1 = 5) ∧ Left itm r num q F s' (u + r.length * 100400) (n + r.length) (m + r.length * 100400)
 | [], s, u, n, m, mb, q, F, num, n0, last, h, hfl, h0, _, _, _, _, _, _, _, _, _, _, hm, _, _, _ => by
  refine ⟨trivial, s, q, n0, last, rfl, .inl ⟨rfl, by simp⟩, ⟨mb, [], q, F, (h.safe hfl).more (by simp) (by simp), h.file, h.ok, by simpa using hm, fun p hp => hp, ⟨0, Nat.le_refl _, rfl, fun p hp => by cases hp⟩, .inl rfl⟩⟩
 | ns :: r, s, u, n, m, mb, q, F, num, n0, last, h, hfl, h0, hq, hits, hnd, h1, h2, hp, hnew, hman, hu, hn, hm, hm2, hF, hc => by
  rw [List.length_cons] at h2 hp hu hn hm2 hc
  have hns := hits ns (by simp)
  have hI : ns.map (itemM s L) = ns.map itm := List.map_congr_left fun k hk => itemM_whole h (hns.2 k hk)
  rw [List.flatten_cons, List.nodup_append] at hnd
  have hgn : gNums (ns.map itm) = ns := by
   unfold gNums
   rw [List.map_map]
   have : ∀ k ∈ ns, ((fun it : GItem => it.seg.num) ∘ itm) k = id k := fun k hk => (hns.2 k hk).num
   rw [List.map_congr_left this, List.map_id]
  have G : GrpOk q (ns.map itm) := ⟨fun it hit => by obtain ⟨k, hk, rfl⟩ := List.mem_map.1 hit; exact (hns.2 k hk).mem, by rw [hgn]; exact hnd.1, by rw [List.length_map]; exact hns.1, fun it hit => by obtain ⟨k, hk, rfl⟩ := List.mem_map.1 hit; exact (hns.2 k hk).sealed, fun it hit => by obtain ⟨k, hk, rfl⟩ := List.mem_map.1 hit; have := (hns.2 k hk).len; omega⟩
  have hgl : (gPar (ns.map itm)).length ≤ 300 := by
   show (parity _).length ≤ _
   rw [parity_length]
   exact maxOf_le _ _ (fun r hr => by obtain ⟨it, h1, rfl⟩ := List.mem_map.1 hr; obtain ⟨k, hk, rfl⟩ := List.mem_map.1 h1; exact (hns.2 k hk).len)
  have hbad : badM (ns.map itm) = 0 := by
   unfold badM
   rw [List.length_eq_zero_iff, List.filter_eq_nil_iff]
   intro it hit
   obtain ⟨k, hk, rfl⟩ := List.mem_map.1 hit
   rw [(hns.2 k hk).ok]; simp
  have hg := mkE_good h.ok G h1 (show num < 1000 by omega)
  have hel := encE_len hg.ok hg.sums
  have ha := mkE_apply h.ok G h1 (show num < 1000 by omega) hq (by omega)
  have hEI := mkE_I h.ok G h1 (show num < 1000 by omega)
  have hmp := parName_may num (by omega)
  have hby : ∀ nm b, readM s nm = some b → b.length ≤ 4194304 := h.bytes (by omega) hF
  have hmz := makeF_z h hfl (num := num) (by omega) (I := ns.map itm) (hnew num (Nat.le_refl _) (by omega)) hman h0 (by omega) hg ha (by omega)
  rw [hgn] at ha hmz
  have hlen : (r.length + 1) * 100400 = r.length * 100400 + 100400 := by omega
  rcases hmz with ⟨e1, hf, hfl1, hc1⟩ | ⟨e1, hs⟩
  ·obtain ⟨hmk, s', q1, n1, e9, k1, k2, k3⟩ := makeAll_z L itm r (makeF s (num : Int) (ns.map itm)).1 (u + (gPar (ns.map itm)).length + (encE (mkE (num : Int) (ns.map itm))).1.length) (n + 1) (m + 100400) _ _ _ (num + 1) (n0 + 1) last hf hfl1 (fun p hp => by
    rcases List.mem_append.1 hp with hp | hp
    ·exact h0 p hp
    ·rw [List.mem_singleton.1 hp]
     intro e
     have h9 := congrArg List.length e
     have h8 : (dig2 num ++ endPar).length = (dig2 num).length + 4 := List.length_append
     rw [show (dig2 num ++ endPar, gPar (ns.map itm)).1.length = (dig2 num ++ endPar).length from rfl, h8] at h9
     have h7 : ([] : Nm).length = 0 := rfl
     omega) (by show (num : Int) + 1 = _; omega) (fun ns' hn' => ⟨(hits ns' (by simp [hn'])).1, fun k hk => by
    have hi := (hits ns' (by simp [hn'])).2 k hk
    refine ⟨hi.ok, hi.seg, hi.num, hi.sealed, List.mem_append.2 (.inl hi.file), hi.size, hi.sum, hi.len, ?_⟩
    refine List.mem_map.2 ⟨_, hi.mem, updS_out fun hm => ?_⟩
    rw [hi.num] at hm
    exact hnd.2.2 k hm k (List.mem_flatten.2 ⟨ns', hn', hk⟩) rfl⟩) hnd.2.1 (by omega) (by omega) (by show (q.pars ++ [_]).length + r.length ≤ 60; rw [List.length_append, List.length_singleton]; omega) (fun k hk hk2 hm => by
    rw [List.map_append, List.mem_append] at hm
    rcases hm with hm | hm
    ·exact hnew k (by omega) hk2 hm
    ·have hm : dig2 k ++ endPar = dig2 num ++ endPar := by simpa using hm
     have := dig2_inj (by omega) (by omega) (List.append_cancel_right hm)
     omega) (fun hm => by
    rw [List.map_append, List.mem_append] at hm
    rcases hm with hm | hm
    ·exact hman hm
    ·have hm : manNm = dig2 num ++ endPar := by simpa using hm
     exact hmp.2 hm.symm) (by omega) (by omega) (by rw [List.length_append]; omega) (by omega) (fun p hp => by
    rcases List.mem_append.1 hp with hp | hp
    ·exact hF p hp
    ·rw [List.mem_singleton.1 hp]; show (gPar (ns.map itm)).length ≤ _; omega) (by have hc2 := hc1; omega)
   refine ⟨⟨hby, by omega, h.ok, by omega, fun hb => ?_, fun _ => ?_⟩, s', q1, n1, e9, ?_, ?_, ?_⟩
   ·rw [hI] at hb; exact absurd hbad hb
   ·rw [hI, hq]
    exact ⟨hEI, _, ha, fun _ => hmk⟩
   ·rw [mkAll_cons, hI, hq, if_neg (by simpa using hbad), if_neg (by simpa using e1), ha]
    exact k1
   ·rw [List.length_cons]
    rcases k2 with ⟨a, b⟩ | a
    ·exact .inl ⟨a, by omega⟩
    ·exact .inr a
   ·obtain ⟨mb', c, q2, F', l1, l2, l3, l4, l5, l6, l7⟩ := k3.ex
    have hpm : (dig2 num ++ endPar, gPar (ns.map itm)) ∈ F' := l5 _ (List.mem_append.2 (.inr (by simp)))
    refine ⟨mb', c, q2, F', l1.more (by rw [List.length_cons]; omega) (by rw [List.length_cons]; omega), l2, l3, by rw [List.length_cons]; omega, fun p hp => l5 p (List.mem_append.2 (.inl hp)), l6.cons hpm, ?_⟩
    rcases l7 with l7 | ⟨e, q3, a, b, d, f⟩
    ·exact .inl l7
    ·exact .inr ⟨e, q3, a, b, d, f.cons hpm⟩
  ·refine ⟨⟨hby, by omega, h.ok, by omega, fun hb => ?_, fun _ => ?_⟩, (makeF s (num : Int) (ns.map itm)).1, q, n0, 5, ?_, .inr rfl, ?_⟩
   ·rw [hI] at hb; exact absurd hbad hb
   ·rw [hI, hq]
    exact ⟨hEI, _, ha, fun h9 => by rw [e1] at h9; exact absurd h9 (by decide)⟩
   ·rw [mkAll_cons, hI, hq, if_neg (by simpa using hbad), if_pos (by rw [e1]; decide), e1]
   ·rw [List.length_cons]
    rcases hs with hs | hs
    ·exact ⟨mb, [], q, F, hs.more (by omega) (by omega), h.file, h.ok, by omega, fun p hp => hp, ⟨0, Nat.zero_le _, rfl, fun p hp => by cases hp⟩, .inl rfl⟩
    ·refine ⟨mb, _, q, _, hs.more (by omega) (by omega), h.file, h.ok, by omega, fun p hp => List.mem_append.2 (.inl hp), ⟨0, Nat.zero_le _, rfl, fun p hp => by cases hp⟩, .inr ⟨_, _, hg, ha, rfl, ⟨1, by rw [List.length_cons]; omega, rfl, fun p hp => ?_⟩⟩⟩
     rw [List.take_succ_cons, List.take_zero] at hp
     exact List.mem_append.2 (.inr hp)
end Go.Proofs.YtiadjkjlifnopaaGreatDoor.Tryz
/-! Manifests whose last edit is torn; a manifest laid anew beside other files. -/
namespace Go.Vc
open Go
theorem firstM_torn {b d : List UInt8} {t : Nat} (hb : b.length < 4294967296) (hd : d = (sealM b).take t) (ht : t < (sealM b).length) : firstM d = ([], 0, true) := by
 have hl : d.length = t := by rw [hd, List.length_take]; omega
 have hsl := sealM_length b
 have h0 := firstM_sealM b [] hb
 rw [List.append_nil] at h0
 unfold firstM
 by_cases h12 : d.length < 12
 ·rw [if_pos h12]
 ·have e0 : sealM b = fourM b.length ++ (fourM (crcN (fourM b.length)) ++ (fourM (crcN b) ++ b)) := by simp [sealM]
  have g1 : (sealM b).take 4 = fourM b.length := by rw [e0]; exact List.take_left' (fourM_length _)
  have hsp : d = fourM b.length ++ (fourM (crcN (fourM b.length)) ++ (fourM (crcN b) ++ b.take (t - 12))) := by
   rw [hd, e0, List.take_append, List.take_append, List.take_append, fourM_length, fourM_length, fourM_length]
   rw [List.take_of_length_le (by rw [fourM_length]; omega), List.take_of_length_le (by rw [fourM_length]; omega), List.take_of_length_le (by rw [fourM_length]; omega), show t - 4 - 4 - 4 = t - 12 from by omega]
  have k1 : getFourM d = b.length := by rw [hsp]; exact getFourM_fourM _ _ hb
  have k2 : d.drop 4 = fourM (crcN (fourM b.length)) ++ (fourM (crcN b) ++ b.take (t - 12)) := by rw [hsp]; exact List.drop_left' (fourM_length _)
  have k3 : d.take 4 = fourM b.length := by rw [hsp]; exact List.take_left' (fourM_length _)
  rw [if_neg h12, if_neg (by rw [k2, k3, getFourM_fourM _ _ (crcN_lt _)]; simp), if_pos (by rw [k1]; omega)]
theorem scanM_torn {d : List UInt8} (hd : firstM d = ([], 0, true)) : ∀ {l : List EditM}, (∀ e ∈ l, EdGood e) → scanM (fileE l ++ d) = (l.map textE, (fileE l).length, true)
 | [], _ => by
  show scanM d = ([], 0, true)
  rw [scanM_end (by rw [hd]), hd]
 | e :: l, h => by
  have he := (h e (by simp)).len
  rw [fileE_cons, List.append_assoc, scanM_sealM _ _ (by omega), scanM_torn hd (fun x hx => h x (by simp [hx]))]
  simp [sealM_length]
theorem load_torn {mb d : List UInt8} {q : PSt} (h : FileOk mb q) (hd : firstM d = ([], 0, true)) : loadM (mb ++ d) = some q ∧ (scanE (mb ++ d)).2.1 = mb.length := by
 obtain ⟨l, h1, h2, rfl, h4⟩ := h
 have hs : scanE (fileE l ++ d) = (l, (fileE l).length, true) := by
  unfold scanE
  rw [scanM_torn hd h2, edGo_file _ _ h2]
  simp
 unfold loadM
 rw [hs]
 dsimp only
 rw [h4]
 exact ⟨if_pos ⟨rfl, h1⟩, rfl⟩
theorem crash_man {s : FsM} {mb c : List UInt8} {F : List (Nm × List UInt8)} {u n : Nat} (h : SafeF s mb c F u n) {q : PSt} {R : PSt → Prop} (hq : FileOk mb q) (hc : c = [] ∨ ∃ e q3, EdGood e ∧ applyP q e false = some q3 ∧ c = (encE e).1 ∧ R q3) (k : Int) (tails : List Int) :
  ∃ bb q2, readM (crashM s k tails) manNm = some bb ∧ loadM bb = some q2 ∧ (q2 = q ∨ R q2) ∧ bb.length ≤ mb.length + c.length := by
 obtain ⟨t, ht⟩ := crash_keep h.man h.mul.lup k tails
 rw [zS_crash] at ht
 have htk : (mb ++ c).take (mb.length + t) = mb ++ c.take t := by
  rw [List.take_append, List.take_of_length_le (by omega), show mb.length + t - mb.length = t from by omega]
 rw [htk] at ht
 have hbl : (mb ++ c.take t).length ≤ mb.length + c.length := by rw [List.length_append, List.length_take]; omega
 by_cases hw : c.length ≤ t
 ·rw [List.take_of_length_le hw] at ht hbl
  rcases hc with hc | ⟨e, q3, he, ha, hce, hR⟩
  ·subst hc
   rw [List.append_nil] at ht hbl
   obtain ⟨l1, l2⟩ := hq.load
   exact ⟨mb, q, ht, l1, .inl rfl, hbl⟩
  ·obtain ⟨l1, l2⟩ := (hq.commit he ha).load
   rw [← hce] at l1 l2
   exact ⟨mb ++ c, q3, ht, l1, .inr hR, hbl⟩
 ·rcases hc with hc | ⟨e, q3, he, ha, hce, hR⟩
  ·subst hc; simp at hw
  ·have hes : c = sealM (textE e) := by rw [hce, encE_good he]
   have hel := he.len
   have hf := firstM_torn (b := textE e) (d := c.take t) (t := t) (by omega) (by rw [hes]) (by rw [← hes]; omega)
   obtain ⟨l1, l2⟩ := load_torn hq hf
   exact ⟨_, q, ht, l1, .inl rfl, hbl⟩
theorem mul_write {s : FsM} {calls : Int} {u n : Nat} (h : Mul s calls u n) {nm bes : Nm} {c : List UInt8} (hne : nm ≠ bes) (hm1 : mayM nm = true) (hm2 : mayM bes = true) (hn : n < 150) (hr : u + c.length ≤ 1048576) :
  (writeM s nm bes c).2 = 0 ∧ ∀ k b, k ≠ nm → k ≠ bes → (∃ sy, Has1 s k b sy) → readM (writeM s nm bes c).1 k = some b := by
 obtain ⟨o1, m1, a1, d1, k1, _⟩ := mul_create h hm2 hn
 obtain ⟨o2, m2, a2, d2, k2, _⟩ := mul_append (c := c) m1 a1 hr
 obtain ⟨o3, m3, a3, d3, k3, _⟩ := mul_sync m2 a2
 have hl : looks (syncM (appendM (createM s bes).1 bes c).1 bes).1.dir bes = some a3.choose := a3.choose_spec.1
 have e4 : renameM (syncM (appendM (createM s bes).1 bes c).1 bes).1 bes nm = (changeM (callM (syncM (appendM (createM s bes).1 bes c).1 bes).1) ⟨1, bes, nm, none⟩, 0) := by
  unfold renameM
  dsimp only
  have h1 : (looks (callM (syncM (appendM (createM s bes).1 bes c).1 bes).1).dir bes).isNone = false := by
   show (looks (syncM (appendM (createM s bes).1 bes c).1 bes).1.dir bes).isNone = false
   rw [hl]; rfl
  rw [m3.nofail, if_neg (by simp), h1, if_neg (by simp), hm1, if_neg (by simp)]
 have hf5 : (changeM (callM (syncM (appendM (createM s bes).1 bes c).1 bes).1) ⟨1, bes, nm, none⟩).fail = -1 := m3.call.2
 have e5 : (syncDirM (changeM (callM (syncM (appendM (createM s bes).1 bes c).1 bes).1) ⟨1, bes, nm, none⟩)).2 = 0 ∧ (syncDirM (changeM (callM (syncM (appendM (createM s bes).1 bes c).1 bes).1) ⟨1, bes, nm, none⟩)).1.dir = (changeM (callM (syncM (appendM (createM s bes).1 bes c).1 bes).1) ⟨1, bes, nm, none⟩).dir ∧ (syncDirM (changeM (callM (syncM (appendM (createM s bes).1 bes c).1 bes).1) ⟨1, bes, nm, none⟩)).1.files = (changeM (callM (syncM (appendM (createM s bes).1 bes c).1 bes).1) ⟨1, bes, nm, none⟩).files := by
  unfold syncDirM
  dsimp only
  have : failsM (changeM (callM (syncM (appendM (createM s bes).1 bes c).1 bes).1) ⟨1, bes, nm, none⟩) = false := by unfold failsM; rw [hf5]; rfl
  rw [this, if_neg (by simp)]
  exact ⟨rfl, rfl, rfl⟩
 have ew : writeM s nm bes c = ((syncDirM (changeM (callM (syncM (appendM (createM s bes).1 bes c).1 bes).1) ⟨1, bes, nm, none⟩)).1, 0) := by
  have hok : ∀ (x : FsM) (j k : Nat), (writeK x nm bes c k).2 = 0 → writeG nm bes c (j + 1) k x = writeG nm bes c j (k + 1) (writeK x nm bes c k).1 := fun x j k hx => by
   rw [writeG, if_neg (by rw [hx]; simp)]
  unfold writeM
  refine (hok s 4 0 o1).trans ((hok _ 3 1 o2).trans ((hok _ 2 2 o3).trans ?_))
  have o4 : (writeK (syncM (appendM (createM s bes).1 bes c).1 bes).1 nm bes c 3).2 = 0 := by show (renameM _ bes nm).2 = 0; rw [e4]
  refine (hok _ 1 3 o4).trans ?_
  have e4' : (writeK (syncM (appendM (createM s bes).1 bes c).1 bes).1 nm bes c 3).1 = changeM (callM (syncM (appendM (createM s bes).1 bes c).1 bes).1) ⟨1, bes, nm, none⟩ := by show (renameM _ bes nm).1 = _; rw [e4]
  rw [e4']
  exact hok _ 0 4 e5.1
 rw [ew]
 refine ⟨rfl, fun k b hk1 hk2 hh => ?_⟩
 obtain ⟨sy, hh⟩ := hh
 obtain ⟨i, hi1, hi2⟩ := k3 _ _ _ hk2 (k2 _ _ _ hk2 (k1 _ _ _ hk2 hh))
 unfold readM
 dsimp only
 rw [e5.2.1, e5.2.2]
 show (looks (doM (syncM (appendM (createM s bes).1 bes c).1 bes).1.dir ⟨1, bes, nm, none⟩) k).bind (fun i => ((syncM (appendM (createM s bes).1 bes c).1 bes).1.files[i]?).map (·.b)) = _
 rw [(looks_doM m3.up ⟨1, bes, nm, none⟩ (k := k) (Ne.symm hk2) (Ne.symm hk1)).1, hi1]
 show ((syncM (appendM (createM s bes).1 bes c).1 bes).1.files[i]?).map (·.b) = _
 rw [hi2]
 rfl
end Go.Vc
/-! (Walk.guardR stands in Rec3.) -/
/-! Scrub: the law ScrubFails. -/
namespace Go.Proofs.YtiadjkjlifnopaaGreatDoor.Tryz
open Go Go.Vc
theorem goQ_segs_len (itm : Int → GItem) : ∀ (r : List (List Int)) (num : Nat) (q : PSt), (goQ itm r num q).segs.length = q.segs.length
 | [], _, _ => rfl
 | ns :: r, num, q => by rw [goQ, goQ_segs_len itm r (num + 1) _]; exact List.length_map _
theorem goQ_nums (itm : Int → GItem) {m : Int} : ∀ (r : List (List Int)) (num : Nat) (q : PSt), (∀ y ∈ q.segs, 1 ≤ y.num ∧ y.num ≤ m) → ∀ y ∈ (goQ itm r num q).segs, 1 ≤ y.num ∧ y.num ≤ m
 | [], _, _, h => h
 | ns :: r, num, q, h => goQ_nums itm r (num + 1) _ (fun y hy => by
  obtain ⟨z, hz, rfl⟩ := List.mem_map.1 hy
  rw [(updS_num (num : Int) ns z).1]
  exact h z hz)
theorem files_apart (n : Nat) (h : n < 100) : (dig2 n ++ endSeg ≠ manNm ∧ dig2 n ++ endSeg ≠ neuNm) ∧ (dig2 n ++ endRaw ≠ manNm ∧ dig2 n ++ endRaw ≠ neuNm) ∧ dig2 n ++ endPar ≠ manNm ∧ dig2 n ++ endPar ≠ neuNm := by
 have key : ∀ i : Fin 100, (dig2 i.val ++ endSeg ≠ manNm ∧ dig2 i.val ++ endSeg ≠ neuNm) ∧ (dig2 i.val ++ endRaw ≠ manNm ∧ dig2 i.val ++ endRaw ≠ neuNm) ∧ dig2 i.val ++ endPar ≠ manNm ∧ dig2 i.val ++ endPar ≠ neuNm := by decide +kernel
 exact key ⟨n, h⟩
theorem fileNm_apart (y : SegM) (h : 0 ≤ y.num ∧ y.num < 100) : fileNm y ≠ manNm ∧ fileNm y ≠ neuNm := by
 have h1 := files_apart y.num.toNat (by omega)
 unfold fileNm
 split
 ·exact h1.1
 ·exact h1.2.1
theorem parNm_apart (q : ParM) (h : 0 ≤ q.group ∧ q.group < 100) : parNm q ≠ manNm ∧ parNm q ≠ neuNm := (files_apart q.group.toNat (by omega)).2.2
theorem look_whole {s : FsM} {F : List (Nm × List UInt8)} {q : PSt} (hr : ∀ p ∈ F, p.1 ≠ manNm → p.1 ≠ neuNm → readM s p.1 = some p.2) (hS : WholeS F q.segs) (hP : WholeP F q.pars) (hn : ∀ y ∈ q.segs, 0 ≤ y.num ∧ y.num < 100) (hg : ∀ y ∈ q.pars, 0 ≤ y.group ∧ y.group < 100) : lookS s q.segs = [] ∧ lookP s q.pars = [] := by
 refine ⟨?_, ?_⟩
 ·unfold lookS
  rw [List.map_eq_nil_iff, List.filter_eq_nil_iff]
  intro y hy
  obtain ⟨b, h1, h2, h3⟩ := hS y hy
  have h4 := fileNm_apart y (hn y hy)
  unfold readOk
  rw [show readM s (fileNm y) = some b from hr _ h1 h4.1 h4.2, h2, h3]
  simp
 ·unfold lookP
  rw [List.map_eq_nil_iff, List.filter_eq_nil_iff]
  intro y hy
  obtain ⟨b, h1, h2, h3⟩ := hP y hy
  have h4 := parNm_apart y (hg y hy)
  unfold readOk
  rw [show readM s (parNm y) = some b from hr _ h1 h4.1 h4.2, h2, h3]
  simp
theorem fsok_read {s : FsM} (h : FsOk s) {nm : Nm} {b : List UInt8} (hr : readM s nm = some b) : b.length ≤ 4194304 := by
 unfold readM at hr
 cases hl : looks s.dir nm with
 | none => rw [hl] at hr; cases hr
 | some i =>
  rw [hl] at hr
  change (s.files[i]?).map (·.b) = some b at hr
  cases hi : s.files[i]? with
  | none => rw [hi] at hr; cases hr
  | some f =>
   rw [hi] at hr
   injection hr with hr
   rw [← hr]
   exact (h.files f (List.mem_of_getElem? hi)).2
set_option maxHeartbeats 80000000 in
theorem scrubFails_has (A : Option Addr) (n c : Nat) (files : List (List UInt8)) (fail nn : Int) (At : Option Addr) (nt ct : Nat) (tails0 : List Int) (w : World) (hf : SliceOf (SliceOf Ru8) w (.slice A n c) files) (ht : SliceOf Ri64 w (.slice At nt ct) tails0) : Has Tryz.prog 9 #[.slice A n c, .int .i64 fail, .int .i64 nn, .slice At nt ct] w (fun v w' => Chg [] w w' ∧ v = .bool true) := by
 obtain ⟨rfl, hl1, hl2⟩ := hf.len
 obtain ⟨rfl, ht1, ht2⟩ := ht.len
 unfold maxLen at hl2 ht2
 refine enter Tryz.func9 rfl rfl (by decide) rfl (e := [(0, .slice A files.length c), (1, .int .i64 fail), (2, .int .i64 nn), (3, .slice At tails0.length ct)]) ⟨rfl, rfl, rfl, rfl, trivial⟩ ?_
 refine run ?_
 refine go T 7 rfl ?_
 refine o1 rfl ?_
 refine op_call rfl rfl rfl (begun23_has w) ?_
 rintro _ w4 ⟨hc04, rfl⟩
 replace hf := SliceOf.kept (SliceOf.kept Ru8.kept) _ _ _ _ hc04 hf
 refine go T 16 rfl ?_
 refine o1 rfl ?_
 refine op_call rfl rfl rfl (made_has A _ c files none 0 0 [] w4 hf (SliceOf.nil _ _)) ?_
 rintro _ w5 ⟨g, gm, vo, s, p, st, u, mb, rfl, x, hst, hF, hu, hmb, hvo⟩
 have hBl : (filesB files).length ≤ 12 := by rw [filesB_len]; omega
 have hBn := filesB_len files
 have hBb : ∀ b ∈ filesB files, b.length ≤ 300 := fun b hb => filesB_le hb
 generalize filesB files = B at *
 have hc05 := hc04.trans' x.fs.chg
 have hseg : st.segs = scSegs B [] := congrArg PSt.segs hst
 have hnx : st.next = 50 := congrArg PSt.next hst
 have hgl := groups_len (scSegs B [])
 rw [scSegs_len] at hgl
 have hgc := sc_groups B
 have hfb : ∀ p ∈ scF B [], p.2.length ≤ 4194304 := fun p hp => by
  obtain ⟨j, hj⟩ := List.getElem?_of_mem hp
  obtain ⟨b', hb', rfl⟩ := scF_get hj
  have := hBb b' (List.mem_of_getElem? hb')
  show b'.length ≤ _; omega
 unfold ptrV
 refine go T 16 rfl ?_
 by_cases hf0 : fail < 0
 ·refine ltT rfl rfl rfl rfl (by omega) ?_
  refine go T 17 rfl ?_
  exact post1 (.inl rfl) rfl rfl ⟨hc05, rfl⟩
 refine ltF rfl rfl rfl rfl (by omega) ?_
 refine go T 3 rfl ?_
 by_cases hf1 : 100 < fail
 ·refine gtT rfl rfl rfl rfl (by omega) ?_
  refine go T 13 rfl ?_
  exact post1 (.inl rfl) rfl rfl ⟨hc05, rfl⟩
 refine gtF rfl rfl rfl rfl (by omega) ?_
 refine go T 7 rfl ?_
 refine meetC (σ := Unit) (fun _ => [(0, .slice A files.length c), (1, .int .i64 fail), (2, .int .i64 nn), (3, .slice At (tails0.take 20).length ct), (10, .pointer (some ⟨g, 0, none⟩)), (11, .pointer (some ⟨gm, 0, none⟩)), (12, vo)]) (fun _ w' => w' = w5) ?_ ?_
 ·by_cases h20 : 20 < tails0.length
  ·have e : (tails0.take 20).length = 20 := by rw [List.length_take]; omega
   refine go T 4 rfl ?_
   refine gtT rfl rfl rfl rfl (by omega) ?_
   refine go T 5 rfl ?_
   refine o1 rfl ?_
   refine op_slice_to T (h' := 20) (k := .i64) (A := At) (n := tails0.length) (c := ct) rfl rfl rfl rfl rfl (show 20 ≤ ct by omega) ?_
   refine go T 2 rfl ?_
   exact meetN () ⟨rfl, rfl, rfl, by rw [e]; rfl, rfl, rfl, rfl, trivial⟩ rfl
  ·have e : (tails0.take 20).length = tails0.length := by rw [List.length_take]; omega
   refine go T 4 rfl ?_
   refine gtF rfl rfl rfl rfl (by omega) ?_
   refine go T 4 rfl ?_
   exact meetN () ⟨rfl, rfl, rfl, by rw [e]; rfl, rfl, rfl, rfl, trivial⟩ rfl
 rintro _ w5 rfl
 have ht20 := ht.take (k := 20) (m := (tails0.take 20).length) (by rw [List.length_take])
 generalize tails0.take 20 = tails at *
 clear ht
 refine go T 5 rfl ?_
 refine o1 rfl ?_
 refine op_call rfl rfl rfl (fail_has g s p fail w5 x.fs.at_ (by omega)) ?_
 rintro _ w6 ⟨hc6, hx6⟩
 have hg6 : Grows w5 g p p := fun k hk => .inl hk
 have x6 : ManO w4 w6 gm g { s with fail := max fail (-1) } p st false := x.step (chg_self hc6) ⟨x.fs.chgFp (chg_self hc6), hx6, x.fs.fresh⟩ hg6
 obtain ⟨s6, hs6⟩ : ∃ s6, s6 = { s with fail := max fail (-1) } := ⟨_, rfl⟩
 rw [← hs6] at x6
 have hz6 : zS s6 = zS s := by rw [hs6]; rfl
 have hFz : Full (zS s6) 0 u (1 + B.length) mb ⟨scSegs B [], [], 50, 1⟩ (scF B []) := by
  rw [hz6]; exact ⟨mul_z hF.mul, hF.man, hF.file, hF.ok, hF.has, hF.names, hF.flat⟩
 have hfl6 : Flat s6 := by rw [hs6]; exact hF.flat
 have hcl6 : s6.calls = 8 + 3 * (B.length : Int) := by rw [hs6]; exact hF.mul.calls
 have hnd : ((scSegs B []).map numK).Nodup := by rw [scSegs_num]; exact range_nodup _
 have hvo6 := hvo.step hc6 (fun k hk hlt => by
  rw [List.mem_singleton.1 hk]
  exact List.mem_cons_of_mem _ (mem_fp_self p g))
 have hne0 : ∀ p ∈ scF B [], p.1 ≠ [] := fun p hp e => by
  obtain ⟨j, hj⟩ := List.getElem?_of_mem hp
  have hji := (List.getElem?_eq_some_iff.1 hj).1
  rw [scF_len] at hji
  obtain ⟨b', _, rfl⟩ := scF_get hj
  have h1 := (scName j (slOf [] j) (by omega)).1
  dsimp only at e
  rw [scNm] at e
  rw [e] at h1
  exact absurd h1 (by decide)
 have hnewp : ∀ k, 50 ≤ k → k < 100 → dig2 k ++ endPar ∉ (scF B []).map (·.1) := fun k hk hk2 hm => by
  obtain ⟨p, hp, he⟩ := List.mem_map.1 hm
  obtain ⟨j, hj⟩ := List.getElem?_of_mem hp
  have hji := (List.getElem?_eq_some_iff.1 hj).1
  rw [scF_len] at hji
  obtain ⟨b', _, rfl⟩ := scF_get hj
  dsimp only at he
  rw [scNm] at he
  exact par_other j k _ (by omega) hk2 he
 obtain ⟨hmk, s7, q7, n7, e7, hall, hres, hleft⟩ := makeAll_z (scSegs B []) (madeI B []) (groupsM (scSegs B [])) s6 u (1 + B.length) 110000 mb _ _ 50 0 0 hFz hfl6 hne0 rfl (fun ns hns => ⟨chunk3_three _ _ (Nat.le_refl _) ns hns, fun k hk => made_item hBl hBb hns hk⟩) (groups_flat hnd) (by decide) (by omega) (by show (0 : Nat) + _ ≤ 60; omega) hnewp (scF_man hBl) (by omega) (by omega) hmb (by omega) hfb (by omega)
 have hfin : e7 = 0 ∧ n7 = ((groupsM (scSegs B [])).length : Int) ∨ e7 = 5 := by
  rcases hres with ⟨a, b⟩ | a
  ·exact .inl ⟨a, by omega⟩
  ·exact .inr a
 have hcl7 : s7.calls < 1000000000 := by
  have h1 := mkAll_calls (scSegs B []) (groupsM (scSegs B [])) s6 ⟨scSegs B [], [], 50, 1⟩ 0 0
  rw [hall] at h1
  dsimp only at h1
  omega
 refine go T 6 rfl ?_
 refine o1 rfl ?_
 refine op_call rfl rfl rfl (makeAll_has x6 (by rw [hst]; exact hF.ok) (by omega) (by rw [hst, hseg]; exact hmk) (hFz.bytes (by omega) hfb) (fun y hy => ?_)) ?_
 ·rw [hseg] at hy
  obtain ⟨h1, h2, h3, h4, h5⟩ := scSeg_mem (B := B) hBl hBb hy
  exact ⟨by omega, by omega, by omega, by omega⟩
 rintro _ w8 ⟨hc8, s8, q8, n8, e8, p8, st8, cl8, hall8, rfl, hg8, hst8, hcl8, x8⟩
 rw [hst, hseg, hall] at hall8
 injection hall8 with a1 a2
 injection a2 with a2 a3
 injection a3 with a3 a4
 subst a1; subst a2; subst a3; subst a4
 have hvo8 := hvo6 w8 hc8
 have hc58 : Chg [] w w8 := (hc05.trans hc6 (fun k hk hlt => by
  have hz := hc04.size
  rw [List.mem_singleton.1 hk] at hlt
  have := x.fs.fresh g (mem_fp_self p g); omega)).trans hc8 (fun k hk hlt => by
  have hz := hc04.size
  rcases List.mem_cons.1 hk with hk | hk
  ·have := x.fresh; omega
  ·have := x.fs.fresh k hk; omega)
 have ht8 := SliceOf.kept Ri64.kept _ _ _ _ hc58 ht20
 refine go T 8 rfl ?_
 refine meetC (σ := Unit) (fun _ => [(2, .int .i64 nn), (3, .slice At tails.length ct), (10, .pointer (some ⟨g, 0, none⟩)), (12, vo)]) (fun _ w' => w' = w8) ?_ ?_
 ·rcases hfin with ⟨rfl, rfl⟩ | rfl
  ·rw [hgc]
   refine go T 3 rfl ?_
   refine neF rfl rfl rfl rfl (by omega) ?_
   refine go T 6 rfl ?_
   refine eqT rfl rfl rfl rfl (by omega) ?_
   refine go T 4 rfl ?_
   refine o1 rfl (op_min rfl rfl rfl ?_)
   refine o1 rfl ?_
   refine op_quo (r := ((B.length / 3 : Nat) : Int)) rfl rfl rfl (by decide) (by
    rw [show min (files.length : Int) 12 = ((B.length : Nat) : Int) from by omega]
    show IntKind.i64.wrap ((B.length / 3 : Nat) : Int) = _
    exact wrap_i64_in (by omega) (by omega)) ?_
   refine neF rfl rfl rfl rfl (by omega) ?_
   refine go T 6 rfl ?_
   exact meetN () ⟨rfl, rfl, rfl, rfl, trivial⟩ rfl
  ·refine go T 3 rfl ?_
   refine neT rfl rfl rfl rfl (by omega) ?_
   refine go T 2 rfl ?_
   refine neF rfl rfl rfl rfl (by omega) ?_
   refine go T 3 rfl ?_
   refine eqF rfl rfl rfl rfl (by omega) ?_
   refine go T 13 rfl ?_
   exact meetN () ⟨rfl, rfl, rfl, rfl, trivial⟩ rfl
 rintro _ w8 rfl
 obtain ⟨mb7, c7, q7, F7, hsf, hfo, hqo, hmb7, hF7, hst7, hct⟩ := hleft.ex
 refine go T 6 rfl ?_
 refine o1 rfl ?_
 refine op_call rfl rfl rfl (crashO_has x8.fs nn ht8 hcl7) ?_
 rintro _ w9 ⟨_, hc9, gc, pc, rfl, xc⟩
 obtain ⟨bb, q9, hrd, hlo, hq9, hbbl⟩ := crash_man (R := fun q3 => Stage (madeI B []) (groupsM (scSegs B [])) 50 ⟨scSegs B [], [], 50, 1⟩ q3 F7) hsf hfo hct nn tails
 have hcm := mul_crash hsf.mul (⟨hsf.near.sub, hsf.near.crash⟩ : Near s7) nn tails
 have hst9 : Stage (madeI B []) (groupsM (scSegs B [])) 50 ⟨scSegs B [], [], 50, 1⟩ q9 F7 := by
  rcases hq9 with rfl | h
  ·exact hst7
  ·exact h
 have hkeep : ∀ p ∈ F7, readM (crashM s7 nn tails) p.1 = some p.2 := fun p hp => crash_whole (hsf.has p hp) hsf.mul.lup nn tails
 have hhas : ∀ p ∈ F7, ∃ sy, Has1 (crashM s7 nn tails) p.1 p.2 sy := fun p hp => by
  have h := hkeep p hp
  unfold readM at h
  cases hl : looks (crashM s7 nn tails).dir p.1 with
  | none => rw [hl] at h; cases h
  | some i =>
   rw [hl] at h
   change ((crashM s7 nn tails).files[i]?).map (·.b) = some p.2 at h
   cases hi : (crashM s7 nn tails).files[i]? with
   | none => rw [hi] at h; cases h
   | some f =>
    rw [hi] at h
    injection h with h
    exact ⟨f.synced, i, hl, by rw [hi, ← h]⟩
 have hload : Has Tryz.prog 25 #[ptrV gc] w9 (fun v w' => ∃ gm2 st2 s2 p2, v = .tuple #[.pointer (some ⟨gm2, 0, none⟩), .int .i64 0] ∧ ManO w8 w' gm2 gc s2 p2 st2 false ∧ st2.plain = q9 ∧ POk q9 ∧ ∀ p ∈ F7, p.1 ≠ manNm → p.1 ≠ neuNm → readM s2 p.1 = some p.2) := by
  refine (load_has xc hrd (fsok_read xc.at_.ok hrd) (by show (0 : Int) < _; decide)).mono fun v w' h => ?_
  obtain ⟨hq9ok, h1, h2⟩ := h.2 q9 hlo
  by_cases htorn : (scanE bb).2.1 < bb.length
  ·obtain ⟨p2, _, _, _, _, h3⟩ := h1 htorn
   have hwe := wholeP_ok hq9ok
   have hlen := encE_len hwe (EdI.sums (wholeP_I hq9ok))
   obtain ⟨o1, o2⟩ := mul_write (c := (encE (wholeP q9)).1) hcm (nm := manNm) (bes := neuNm) (by decide) (by decide) (by decide) (by omega) (by omega)
   obtain ⟨gm2, st2, hv, _, hst2, hm2⟩ := h3 o1
   exact ⟨gm2, st2, _, _, hv, hm2, hst2, hq9ok, fun p hp hp1 hp2 => o2 _ _ hp1 hp2 (hhas p hp)⟩
  ·obtain ⟨gm2, st2, hv, _, hst2, _, hm2⟩ := h2 htorn
   exact ⟨gm2, st2, _, _, hv, hm2, hst2, hq9ok, fun p hp _ _ => hkeep p hp⟩
 refine go T 6 rfl ?_
 refine o1 rfl ?_
 refine op_call rfl rfl rfl hload ?_
 rintro _ w10 ⟨gm2, st2, s2, p2, rfl, x2, hst2, hok2, hread⟩
 obtain ⟨jj, hjj, hq9e, hF9⟩ := hst9
 have hplain : st2.plain = goQ (madeI B []) ((groupsM (scSegs B [])).take jj) 50 ⟨scSegs B [], [], 50, 1⟩ := hst2.trans hq9e
 have htl : ((groupsM (scSegs B [])).take jj).length ≤ 4 := by rw [List.length_take]; omega
 have hwS := goQ_segs (madeI B []) (F := F7) ((groupsM (scSegs B [])).take jj) 50 ⟨scSegs B [], [], 50, 1⟩ (fun y hy => by obtain ⟨b, h1, h2⟩ := scSegs_whole B [] y hy; exact ⟨b, hF7 _ h1, h2⟩)
 have hwP := goQ_pars (madeI B []) (F := F7) ((groupsM (scSegs B [])).take jj) 50 ⟨scSegs B [], [], 50, 1⟩ (fun y hy => by cases hy) hF9
 have hns := goQ_nums (madeI B []) (m := 12) ((groupsM (scSegs B [])).take jj) 50 ⟨scSegs B [], [], 50, 1⟩ (fun y hy => (scSeg_mem (B := B) hBl hBb hy).1)
 have hsl := goQ_segs_len (madeI B []) ((groupsM (scSegs B [])).take jj) 50 ⟨scSegs B [], [], 50, 1⟩
 change _ = (scSegs B []).length at hsl
 rw [scSegs_len] at hsl
 have hpq := goQ_next (madeI B []) ((groupsM (scSegs B [])).take jj) 50 ⟨scSegs B [], [], 50, 1⟩ rfl
 rw [← hplain] at hwS hwP hns hsl hpq
 rw [← hst2] at hok2
 have hnx2 : st2.next ≤ 100 := by have h8 : st2.plain.next = st2.next := rfl; omega
 have hpg : ∀ y ∈ st2.plain.pars, 0 ≤ y.group ∧ y.group < 100 := fun y hy => by
  have h1 := (hok2.pars y hy).1.group
  have h2 := hok2.belowP y hy
  have h8 : st2.plain.next = st2.next := rfl
  omega
 obtain ⟨hk1, hk2⟩ := look_whole (s := s2) (q := st2.plain) hread hwS hwP (fun y hy => by have := hns y hy; omega) hpg
 have hby : ∀ nm b, readM s2 nm = some b → b.length ≤ 4194304 := fun nm b h => fsok_read x2.fs.at_.ok h
 have hpn := pok_pars hok2
 have hls2 := hok2.ls
 have hlp2 := hok2.lp
 have hpl2 : st2.plain.pars.length = st2.pars.length := List.length_map _
 have hvo10 := SliceOf.kept (SliceOf.kept Ru8.kept) _ _ _ _ x2.fs.chg hvo8
 have hc010 := hc58.trans' x2.fs.chg
 obtain ⟨Av, cv, rfl, _, _⟩ := hvo10.form
 unfold ptrV
 refine go T 11 rfl ?_
 refine neF rfl rfl rfl rfl (by omega) ?_
 refine go T 9 rfl ?_
 refine o1 rfl ?_
 refine op_call rfl rfl rfl (look_has x2 hok2 hnx2 hby hpn) ?_
 rintro _ w11 ⟨hc11, us, up, rfl, hus, hup, _, _⟩
 rw [show lookS s2 st2.segs = [] from hk1] at hus
 rw [hk2] at hup
 change Own w11 2 1 us 0 [] at hus
 change Own w11 2 1 up 0 [] at hup
 obtain ⟨Au, cu, rfl, _, _⟩ := hus.form
 obtain ⟨Ap, cp, rfl, _, _⟩ := hup.form
 have x11 := x2.keep0 hc11
 refine go T 10 rfl ?_
 refine o1 rfl ?_
 refine op_call rfl rfl rfl (parsO_has x11 (by omega) hpn) ?_
 rintro vq w12 ⟨hc12, _, P, hP, hO12, _⟩
 have x12 := x11.keep0 hc12
 have hQ12 := hO12.readsK parS_len
 obtain ⟨Aq, cq, rfl, _, _⟩ := hQ12.form
 have hvo12 := SliceOf.kept (SliceOf.kept Ru8.kept) _ _ _ _ (hc11.trans' hc12) hvo10
 have hc012 := hc010.trans' (hc11.trans' hc12)
 have hPl : P.length ≤ 60 := by
  have h9 := congrArg List.length hP
  rw [List.length_map] at h9
  omega
 clear hO12 hus hup x11 hload hwS hk1 hk2 hcm hkeep hhas hleft hall hmk
 refine go T 10 rfl ?_
 refine W_loop (σ := Nat) (fun t => [(12, .slice Av B.length cv), (15, .pointer (some ⟨gc, 0, none⟩)), (16, .pointer (some ⟨gm2, 0, none⟩)), (17, .slice Au 0 cu), (18, .slice Ap 0 cp), (19, .slice Aq P.length cq), (20, .int .i64 (t : Int))])
  (fun t w' => t ≤ P.length ∧ Chg [] w12 w') (fun t => P.length - t) 0 ⟨rfl, rfl, rfl, rfl, rfl, rfl, rfl, trivial⟩ ⟨Nat.zero_le _, Chg.refl _ _⟩ ?_
 rintro i w13 ⟨hi, hc13⟩
 have x13 := x12.keep0 hc13
 refine run ?_
 refine go T 6 rfl ?_
 refine ltS rfl rfl rfl rfl (fun hcmp => ?_) (fun hcmp => ?_)
 ·have hlt : i < P.length := by omega
  have hx := List.getElem?_eq_getElem hlt
  obtain ⟨ad, rfl, he⟩ := (hQ12.keepR hc13).at hx
  have hqm : P[i].1.p ∈ st2.plain.pars := by rw [← hP]; exact List.mem_map.2 ⟨_, List.getElem_mem hlt, rfl⟩
  obtain ⟨b, hb1, hb2, hb3⟩ := hwP _ hqm
  have hg9 := hpg _ hqm
  have hap := parNm_apart _ hg9
  have hrb := hread _ hb1 hap.1 hap.2
  have hbl := hby _ _ hrb
  generalize P[i] = q at *
  obtain ⟨⟨⟨gr, Ns, Zs, sz, sm⟩, vn, vz⟩, ho1, ho2⟩ := q
  dsimp only at hb2 hb3 hg9 hrb
  subst hb3
  obtain ⟨gn, rfl⟩ := Int.eq_ofNat_of_zero_le hg9.1
  have hnm : parNm ⟨(gn : Int), Ns, Zs, sz, crcN b⟩ = dig2 gn ++ endPar := rfl
  rw [hnm] at hrb
  have e0 : w13.cell? ((ad.add (i * 5)).add 0) = some (.int .i64 (gn : Int)) := by rw [add_of_add]; exact he 0 _ rfl
  have e4 : w13.cell? ((ad.add (i * 5)).add 4) = some (.int .u32 ((crcN b : Nat) : Int)) := by rw [add_of_add]; exact he 4 _ rfl
  clear he hb1
  refine go T 12 rfl ?_
  refine o1 rfl (op_indexK T rfl rfl rfl rfl rfl (by omega) ?_)
  refine o1 rfl (op_fieldAddr T rfl rfl rfl rfl rfl rfl rfl rfl ?_)
  refine o1 rfl (op_load T rfl rfl rfl rfl (by assumption) ?_)
  refine o1 rfl ?_
  refine op_call rfl rfl rfl (name23_has gn endPar w13 (by omega) (by decide)) ?_
  rintro _ w14 ⟨hc14, rfl⟩
  have hro := readO_has (x13.fs.keep0 hc14) (dig2 gn ++ endPar)
  rw [hrb] at hro
  refine o1 rfl ?_
  refine op_call rfl rfl rfl hro ?_
  rintro _ w15 ⟨_, hc15, ub, rfl, hub, _⟩
  have hbu := hub.bytes
  obtain ⟨Ab, cb, rfl, _, _⟩ := hbu.form
  have hc1315 := hc14.trans' hc15
  have e4' := hc1315.cell0 e4
  clear hro hub e0 e4
  refine go T 8 rfl ?_
  refine W_walk 10 [] fol (by kernel_rfl) (by kernel_rfl) ?_
  refine Walk.plain rfl (by intro val w_ hR hp; exact op_move rfl rfl ⟨Chg.refl _ _, rfl⟩) ?_; dsimp only [na1, na2]
  refine Walk.plain rfl (by intro val w_ hR hp; exact op_neq rfl rfl rfl (fun hcmp => False.elim (by omega)) (fun hcmp => ⟨Chg.refl _ _, rfl⟩)) ?_; dsimp only [na1, na2]
  refine Walk.plain rfl (by intro val w_ hR hp; exact op_move rfl rfl ⟨Chg.refl _ _, rfl⟩) ?_; dsimp only [na1, na2]
  refine Walk.guardT rfl rfl rfl (fun _ => rfl) (by intro val w_ hR hp; exact op_move rfl rfl ⟨Chg.refl _ _, rfl⟩) ?_; dsimp only [na1, na2]
  refine Walk.guardT (v := .int .u32 ((crcN b : Nat) : Int)) rfl rfl rfl (fun _ => rfl) (by intro val w_ hR hp; exact op_call rfl rfl rfl (sumN_has Ab _ cb b w_ (SliceOf.kept Ru8.kept _ _ _ _ hR hbu)) (fun v w' h => h)) ?_; dsimp only [na1, na2]
  refine Walk.guardT rfl rfl rfl (fun _ => rfl) (by intro val w_ hR hp; exact op_move rfl rfl ⟨Chg.refl _ _, rfl⟩) ?_; dsimp only [na1, na2]
  refine Walk.guardT rfl rfl rfl (fun _ => rfl) (by intro val w_ hR hp; exact op_move rfl rfl ⟨Chg.refl _ _, rfl⟩) ?_; dsimp only [na1, na2]
  refine Walk.guardT rfl rfl rfl (fun _ => rfl) (by intro val w_ hR hp; exact op_indexK T rfl rfl rfl rfl rfl (by omega) ⟨Chg.refl _ _, rfl⟩) ?_; dsimp only [na1, na2]
  refine Walk.guardT rfl rfl rfl (fun _ => rfl) (by intro val w_ hR hp; exact op_fieldAddr T rfl rfl rfl rfl rfl rfl rfl rfl ⟨Chg.refl _ _, rfl⟩) ?_; dsimp only [na1, na2]
  refine Walk.guardT rfl rfl rfl (fun _ => rfl) (by intro val w_ hR hp; exact op_load T rfl rfl rfl rfl (hR.cell0 (by assumption)) ⟨Chg.refl _ _, rfl⟩) ?_; dsimp only [na1, na2]
  refine Walk.fin ?_
  intro val w16 hc16 hp
  clear hp
  refine runL ?_
  refine neF rfl rfl rfl rfl (by omega) ?_
  refine go T 9 rfl ?_
  refine adI rfl rfl rfl rfl (by omega) (by omega) ?_
  refine go T 2 rfl ?_
  exact Round_n (i + 1) ⟨rfl, rfl, rfl, rfl, rfl, rfl, rfl, trivial⟩ ⟨by omega, (hc13.trans' hc1315).trans' hc16⟩ (by omega)
 ·obtain rfl : i = P.length := by omega
  have hvo13 := SliceOf.kept (SliceOf.kept Ru8.kept) _ _ _ _ hc13 hvo12
  clear x12 hQ12 hvo12 hvo10
  refine go T 5 rfl ?_
  refine rndX ?_
  refine go T 9 rfl ?_
  refine W_loop (σ := Nat) (fun t => [(12, .slice Av B.length cv), (15, .pointer (some ⟨gc, 0, none⟩)), (16, .pointer (some ⟨gm2, 0, none⟩)), (17, .slice Au 0 cu), (18, .slice Ap 0 cp), (23, .int .i64 (t : Int))])
   (fun t w' => t ≤ B.length ∧ Chg [] w13 w') (fun t => B.length - t) 0 ⟨rfl, rfl, rfl, rfl, rfl, rfl, trivial⟩ ⟨Nat.zero_le _, Chg.refl _ _⟩ ?_
  rintro j w14 ⟨hj, hc14⟩
  have x14 := x13.keep0 hc14
  refine run ?_
  refine go T 6 rfl ?_
  refine ltS rfl rfl rfl rfl (fun hcmp => ?_) (fun hcmp => ?_)
  ·have hlt : j < B.length := by omega
   have hx := List.getElem?_eq_getElem hlt
   have hFm : (fileNm (scSeg j B[j] (slOf [] j)), B[j]) ∈ F7 := hF7 _ (List.mem_of_getElem? (show (scF B [])[j]? = _ by unfold scF; rw [List.getElem?_mapIdx, hx]; rfl))
   have hap := fileNm_apart (scSeg j B[j] (slOf [] j)) (by show (0 : Int) ≤ (j : Int) + 1 ∧ (j : Int) + 1 < 100; omega)
   have hrb := hread _ hFm hap.1 hap.2
   dsimp only at hrb
   rw [scNm] at hrb
   have hrb : readM s2 (dig2 (j + 1) ++ endSeg) = some B[j] := hrb
   have hbl := hBb _ (List.getElem_mem hlt)
   obtain ⟨adv, u1, rfl, hu1, hr1⟩ := (SliceOf.kept (SliceOf.kept Ru8.kept) _ _ _ _ hc14 hvo13).get hx
   generalize B[j] = b at *
   obtain ⟨Ac, cc, rfl, _, _⟩ := hr1.form
   have hn1 := name23_has (j + 1) endSeg w14 (by omega) (by decide)
   rw [show ((j + 1 : Nat) : Int) = (j : Int) + 1 from by omega] at hn1
   clear hFm hap
   refine go T 11 rfl ?_
   refine adI rfl rfl rfl rfl (by omega) (by omega) ?_
   refine o1 rfl ?_
   refine op_call rfl rfl rfl hn1 ?_
   rintro _ w15 ⟨hc15, rfl⟩
   have hro := readO_has (x14.fs.keep0 hc15) (dig2 (j + 1) ++ endSeg)
   rw [hrb] at hro
   refine o1 rfl ?_
   refine op_call rfl rfl rfl hro ?_
   rintro _ w16 ⟨_, hc16, ub, rfl, hub, _⟩
   have hbu := hub.bytes
   obtain ⟨Ab, cb, rfl, _, _⟩ := hbu.form
   have hc1416 := hc15.trans' hc16
   have hu16 := hc1416.cell0 hu1
   have hr16 := SliceOf.kept Ru8.kept _ _ _ _ hc1416 hr1
   clear hro hub hu1 hn1
   refine go T 8 rfl ?_
   refine W_walk 10 [] fol (by kernel_rfl) (by kernel_rfl) ?_
   refine Walk.plain rfl (by intro val w_ hR hp; exact op_move rfl rfl ⟨Chg.refl _ _, rfl⟩) ?_; dsimp only [na1, na2]
   refine Walk.plain rfl (by intro val w_ hR hp; exact op_neq rfl rfl rfl (fun hcmp => False.elim (by omega)) (fun hcmp => ⟨Chg.refl _ _, rfl⟩)) ?_; dsimp only [na1, na2]
   refine Walk.plain rfl (by intro val w_ hR hp; exact op_move rfl rfl ⟨Chg.refl _ _, rfl⟩) ?_; dsimp only [na1, na2]
   refine Walk.guardT rfl rfl rfl (fun _ => rfl) (by intro val w_ hR hp; exact op_move rfl rfl ⟨Chg.refl _ _, rfl⟩) ?_; dsimp only [na1, na2]
   refine Walk.guardT (v := .string (str b)) rfl rfl rfl (fun _ => rfl) (by intro val w_ hR hp; exact op_string T rfl rfl rfl rfl rfl (SliceOf.kept Ru8.kept _ _ _ _ hR hbu) ⟨Chg.refl _ _, rfl⟩) ?_; dsimp only [na1, na2]
   refine Walk.guardT rfl rfl rfl (fun _ => rfl) (by intro val w_ hR hp; exact op_move rfl rfl ⟨Chg.refl _ _, rfl⟩) ?_; dsimp only [na1, na2]
   refine Walk.guardT rfl rfl rfl (fun _ => rfl) (by intro val w_ hR hp; exact op_move rfl rfl ⟨Chg.refl _ _, rfl⟩) ?_; dsimp only [na1, na2]
   refine Walk.guardT rfl rfl rfl (fun _ => rfl) (by intro val w_ hR hp; exact op_index_nat T rfl rfl rfl rfl rfl rfl (by omega) ⟨Chg.refl _ _, rfl⟩) ?_; dsimp only [na1, na2]
   refine Walk.guardT rfl rfl rfl (fun _ => rfl) (by intro val w_ hR hp; exact op_load T rfl rfl rfl rfl (hR.cell0 (by assumption)) ⟨Chg.refl _ _, rfl⟩) ?_; dsimp only [na1, na2]
   refine Walk.guardT (v := .string (str b)) rfl rfl rfl (fun _ => rfl) (by intro val w_ hR hp; exact op_string T rfl rfl rfl rfl rfl (SliceOf.kept Ru8.kept _ _ _ _ hR hr16) ⟨Chg.refl _ _, rfl⟩) ?_; dsimp only [na1, na2]
   refine Walk.fin ?_
   intro val w17 hc17 hp
   clear hp
   refine runL ?_
   refine o1 rfl ?_
   refine op_str_neq (a := b) (b := b) rfl rfl rfl (fun h => absurd rfl h) (fun h => ?_)
   refine go T 9 rfl ?_
   refine adI rfl rfl rfl rfl (by omega) (by omega) ?_
   refine go T 2 rfl ?_
   exact Round_n (j + 1) ⟨rfl, rfl, rfl, rfl, rfl, rfl, trivial⟩ ⟨by omega, (hc14.trans' hc1416).trans' hc17⟩ (by omega)
  ·obtain rfl : j = B.length := by omega
   refine go T 5 rfl ?_
   refine rndX ?_
   refine go T 6 rfl ?_
   refine eqT rfl rfl rfl rfl (by omega) ?_
   refine go T 3 rfl ?_
   refine eqT rfl rfl rfl rfl (by omega) ?_
   refine go T 3 rfl ?_
   refine o1 rfl ?_
   refine op_call rfl rfl rfl (segsO_has x14 (Nat.le_trans (show st2.segs.length ≤ 60 from hls2) (by decide))) ?_
   rintro va w15 ⟨hc15, hO15, _⟩
   obtain ⟨As, cs, rfl, _, _⟩ := (hO15.readsK segL_len).form
   have hsl2 : st2.segs.length = B.length := hsl
   rw [hsl2]
   refine go T 3 rfl ?_
   refine eqT rfl rfl rfl rfl (by omega) ?_
   refine go T 5 rfl ?_
   exact post1 (.inl rfl) rfl rfl ⟨hc012.trans' ((hc13.trans' hc14).trans' hc15), rfl⟩
end Go.Proofs.YtiadjkjlifnopaaGreatDoor.Tryz
/-! From a law's walk to its row: arguments opened by their types' shape; arguments stay; the contract. -/
namespace Go.Vc
open Go Go.RowKit Go.ChangeShapes Go.WideShapes Go.ChangeAt
def Opens (P : Program) (t : TypeId) {α : Type} (R : World → Value → α → Prop) : Prop :=
 ∀ {H : Type} (enc : TypeId × Value → H) (w : World) (base : Nat) (spare : Nat → Bool) (held : Bool) (fuel : Nat) (cs : List Value) (x : DataW H × List MemPlace),
  DataW.trod enc P w base spare held fuel t cs = some x → ∃ u a, cs = [u] ∧ R w u a
theorem list_of {α : Type} {p : Nat → α → Prop} : ∀ n, (∀ i, i < n → ∃ a, p i a) → ∃ L : List α, L.length = n ∧ ∀ i a, L[i]? = some a → p i a
 | 0, _ => ⟨[], rfl, fun i a h => by simp at h⟩
 | n + 1, h => by
  obtain ⟨L, hl, hp⟩ := list_of n (fun i hi => h i (by omega))
  obtain ⟨a, ha⟩ := h n (by omega)
  refine ⟨L ++ [a], by simp [hl], fun i b hb => ?_⟩
  by_cases hi : i < L.length
  ·rw [List.getElem?_append_left hi] at hb; exact hp i b hb
  ·have : i = L.length := by have := (List.getElem?_eq_some_iff.1 hb).1; simp at this; omega
   subst this
   rw [List.getElem?_append_right (Nat.le_refl _)] at hb
   simp at hb; subst hb; rw [hl]; exact ha
theorem Opens.slice {P : Program} {t e : TypeId} {α : Type} {R : World → Value → α → Prop} (ht : P.underlying t = some (.slice e)) (hc : P.cellsOf e = 1) (hR : Opens P e R) : Opens P t (SliceOf R) := by
 intro H enc w base spare held fuel cs x h
 rcases Go.Deep.open_slice1 ht hc h with ⟨rfl, _⟩ | ⟨a, len, cap, m, n, V, D, Pl, rfl, hb, hl, hm, hmm, _, hx⟩
 ·exact ⟨_, [], rfl, SliceOf.nil _ _⟩
 ·have hlm : len ≤ m := by rw [hmm]; split <;> omega
  obtain ⟨L, hlen, hL⟩ := list_of (p := fun i a' => R w (V i) a') len (fun i hi => by
   obtain ⟨_, htr⟩ := hx i (by omega)
   obtain ⟨u, a', hu, hr⟩ := hR enc w base spare held n _ _ htr
   injection hu with hu _
   subst hu
   exact ⟨a', hr⟩)
  refine ⟨_, L, rfl, SliceOf.mk hlen.symm (by omega) hm fun i a' ha => ?_⟩
  have hi : i < len := by have := (List.getElem?_eq_some_iff.1 ha).1; omega
  exact ⟨a, V i, rfl, (hx i (by omega)).1, hL i a' ha⟩
theorem Opens.u8 {P : Program} {t : TypeId} (ht : P.underlying t = some (.int .u8)) : Opens P t Ru8 := by
 intro H enc w base spare held fuel cs x h
 obtain ⟨n, rfl, _, hw⟩ := DataW.trod_int ht h
 have hb : 0 ≤ n ∧ n ≤ 255 := by simp [Lit.wf, IntKind.min, IntKind.max, IntKind.signed, IntKind.bits] at hw; omega
 refine ⟨_, UInt8.ofNat n.toNat, rfl, ?_⟩
 unfold Ru8
 have : ((UInt8.ofNat n.toNat).toNat : Int) = n := by
  rw [UInt8.toNat_ofNat']; omega
 rw [this]
theorem Opens.i64 {P : Program} {t : TypeId} (ht : P.underlying t = some (.int .i64)) : Opens P t Ri64 := by
 intro H enc w base spare held fuel cs x h
 obtain ⟨n, rfl, _, hw⟩ := DataW.trod_int ht h
 have hb : -9223372036854775808 ≤ n ∧ n ≤ 9223372036854775807 := by simp [Lit.wf, IntKind.min, IntKind.max, IntKind.signed, IntKind.bits] at hw; omega
 exact ⟨_, n, rfl, rfl, hb.1, hb.2⟩
theorem Opens.bool {P : Program} {t : TypeId} (ht : P.underlying t = some .bool) : Opens P t Rbool := by
 intro H enc w base spare held fuel cs x h
 obtain ⟨b, rfl, _⟩ := DataW.trod_bool ht h
 exact ⟨_, b, rfl, rfl⟩
theorem Opens.str {P : Program} {t : TypeId} (ht : P.underlying t = some .string) : Opens P t Rstr := by
 intro H enc w base spare held fuel cs x h
 obtain ⟨s, rfl, _, hs⟩ := DataW.trod_string ht h
 exact ⟨_, s, rfl, rfl, hs⟩
theorem Opens.arg {P : Program} {t : TypeId} {α : Type} {R : World → Value → α → Prop} (h : Opens P t R) {w : World} {r : Reach} {base : Nat} {v : Value} {H : Type} {enc : TypeId × Value → H} {sp : Nat → Bool} {held : Bool} {d : DataW H} {ps : List MemPlace} {b0 : Nat}
  (hd : P.underlying t = some .bool ∨ P.underlying t = some .string ∨ (∃ k, P.underlying t = some (.int k)) ∨ ∃ e, P.underlying t = some (.slice e))
  (hval : Value.okWide P w r base t v) (ht : DataW.Trod enc P w b0 sp held t v d ps) : ∃ a, R w v a := by
 obtain ⟨fuel, hf⟩ := ht
 obtain ⟨u, a, hu, hr⟩ := h enc w b0 sp held fuel _ _ hf
 have hv : v.cells = #[v] := by
  rcases hd with hd | hd | ⟨k, hd⟩ | ⟨e, hd⟩
  ·obtain ⟨b, rfl⟩ := okWide_bool hd hval; rfl
  ·obtain ⟨b, rfl⟩ := okWide_string hd hval; rfl
  ·obtain ⟨b, rfl⟩ := okWide_int hd hval; rfl
  ·obtain ⟨a, l, c, rfl⟩ := okWide_slice hd hval; rfl
 rw [hv] at hu
 simp at hu
 subst hu
 exact ⟨a, hr⟩
theorem args_stay {H : Type} {enc : TypeId × Value → H} {P : Program} (hl : laidOutB P = true) {W W' : World} (hb : Below W.heap.size W W') :
  ∀ (ts : List TypeId) (vs : List Value) (ds : List (DataW H)) (ps : List MemPlace), (∀ t ∈ ts, P.readableRec t = true ∧ t < P.types.size) → DataW.TrodAll enc P W 0 (fun _ => true) true ts vs ds ps → (∀ x ∈ ps, x.block < W.heap.size) →
   DataW.TrodAll enc P W' 0 (fun b => decide (b < W.heap.size)) true ts vs ds ps
 | [], vs, ds, ps, _, h, _ => by
  obtain ⟨rfl, rfl, rfl⟩ := trodAll_nil h
  exact trodAll_mk0
 | t :: ts, vs, ds, ps, ht, h, hlt => by
  obtain ⟨v, vs', d, ds', p, q, rfl, rfl, rfl, h0, r0⟩ := trodAll_cons h
  exact trodAll_cons_mk (Below.trod hl (ht t (by simp)).1 (ht t (by simp)).2 h0 hb (fun x hx => hlt x (by simp [hx])))
   (args_stay hl hb ts vs' ds' q (fun t' h' => ht t' (by simp [h'])) r0 (fun x hx => hlt x (by simp [hx])))
end Go.Vc
/-! From a walk to a row whose list of laid variables is not empty. -/
namespace Go.Vc
open Go Go.ChangeShapes Go.WideShapes Go.ChangeAt Go.RowKit
theorem law_laid {C : Checked} {os : Os} {f : FuncId} {fn : Func} {s : ChangeSpec} {H : Type} {enc : TypeId × Value → H} {tb : TypeId} {L : List (String × DataW Unit)}
  (own : ownKnob C.prog.godebug = none) (laid : laidOutB C.prog = true) (started : os.Started) (noInit : C.prog.inits.idxOf? f = none) (hfn : C.prog.funcs[f]? = some fn)
  (hvars : s.vars = []) (hres : fn.resultTypes = #[tb]) (htb : C.prog.underlying tb = some .bool)
  (hparams : ∀ t ∈ fn.params.toList, C.prog.readableRec t = true ∧ t < C.prog.types.size)
  (hspec : ∀ ds : List (DataW H), ds.length = fn.params.size → s.fn H ds = { results := [.lit (.bool true)], args := ds })
  (witness : ∃ (w : World) (tape : Tape) (i : Input), w.os = os ∧ (w.forCall tape i).Shaped C.prog ∧ i.vars = [] ∧ Input.okWide C.prog (w.forCall tape i) .any w.heap.size f i ∧
   ((s.pre enc C.prog fn [] false (w.forCall tape i).memory i.args ∧ laidMetH C.prog L (w.forCall tape i).memory) ∧ sizedMet enc C.prog fn (OpenSpec.ofChange s) false (w.forCall tape i).memory i.args) ∧ ({} : Assume).holds C.prog (lone (Frame.enter C.prog f i.args .normal) [] (w.forCall tape i)))
  (walk : ∀ (W : World) (base : Nat) (args : Array Value) (ds : List (DataW H)) (ps : List MemPlace), (∀ (j : Nat) t v, fn.params[j]? = some t → args[j]? = some v → Value.okWide C.prog W .any base t v) →
   DataW.TrodAll enc C.prog W 0 (fun _ => true) true fn.params.toList args.toList ds ps → Calls C.prog f args W fun e W' => e = .returned (.bool true) ∧ Chg [] W W') :
  ReturnsInHanded {} C os f .any (fun w args => (s.pre enc C.prog fn [] false w args ∧ laidMetH C.prog L w) ∧ sizedMet enc C.prog fn (OpenSpec.ofChange s) false w args) (s.post enc C.prog fn false true false false) := by
 refine returnsInHanded_of_change_and (X := fun w _ => laidMetH C.prog L w) (fun _ _ _ hh h => h.of_heap hh) own started noInit hfn witness ?_
 intro W base args ds gs before hval hW _ _ _ _
 have hW' := hW
 obtain ⟨p, q, hA, hV, rfl, hfz, hnd⟩ := hW
 rw [hvars] at hV
 obtain ⟨rfl, rfl⟩ := trodVars_none hV
 refine (walk W base args ds p hval hA).mono fun e W' ⟨he, hc⟩ => ?_
 subst he
 have bel := hc.below
 have hlen : ds.length = fn.params.size := by
  have := trodAll_length hA
  have h2 := this.1; have h3 := this.2
  simp at h2 h3 ⊢
  omega
 have hsp := hspec ds hlen
 refine ⟨_, rfl, ds, [], p ++ [], [], p, [], hW', ?_, ?_, ?_, bel.frame _, fun h => by cases h⟩
 ·rw [List.append_nil, hsp, hres]
  exact trodAll_mk1 (shut_bool htb _)
 ·rw [List.append_nil, hsp]
  exact args_stay laid bel _ _ _ _ hparams hA (fun x hx => hW'.lt x (by simp [hx]))
 ·rw [hvars, List.append_nil, hsp]; exact rfl
end Go.Vc
/- ScrubFails: whatever the arguments that can be read as data, in whatever memory, the call returns true and leaves what was there as it was. No condition. -/
namespace Go.Proofs.YtiadjkjlifnopaaGreatDoor
open Go Go.Vc Go.ChangeShapes Go.WideShapes Go.ChangeAt Go.RowKit
theorem scrubFails_own : ownKnob Tryz.prog.godebug = none := by kernel_rfl
theorem scrubFails_laid : laidOutB Tryz.prog = true := by kernel_rfl
set_option maxRecDepth 100000 in
theorem scrubFails_walk (W : World) (base : Nat) (args : Array Value) {H : Type} {enc : TypeId × Value → H} (ds : List (DataW H)) (ps : List MemPlace) (hval0 : ∀ (j : Nat) t v, Tryz.f9.params[j]? = some t → args[j]? = some v → Value.okWide Tryz.prog W .any base t v)
  (hA : DataW.TrodAll enc Tryz.prog W 0 (fun _ => true) true Tryz.f9.params.toList args.toList ds ps) : Calls Tryz.prog 9 args W fun e W' => e = .returned (.bool true) ∧ Chg [] W W' := by
 have hval := hval0
 rw [Tryz.params9] at hA hval
 obtain ⟨v0, vs0, d0, ds0, p0, q0, hargs, rfl, rfl, h0, r0⟩ := trodAll_cons hA
 obtain ⟨v1, vs1, d1, ds1, p1, q1, rfl, rfl, rfl, h1, r1⟩ := trodAll_cons r0
 obtain ⟨v2, vs2, d2, ds2, p2, q2, rfl, rfl, rfl, h2, r2⟩ := trodAll_cons r1
 obtain ⟨v3, vs3, d3, ds3, p3, q3, rfl, rfl, rfl, h3, r3⟩ := trodAll_cons r2
 obtain ⟨rfl, rfl, rfl⟩ := trodAll_nil r3
 obtain rfl : args = #[v0, v1, v2, v3] := by cases args; simp_all
 obtain ⟨a0, x0⟩ := Opens.arg (Opens.slice Tryz.underlying31 (by kernel_rfl : Tryz.prog.cellsOf 51 = 1) (Opens.slice Tryz.underlying51 (by kernel_rfl : Tryz.prog.cellsOf 5 = 1) (Opens.u8 Tryz.underlying5))) (.inr (.inr (.inr ⟨_, Tryz.underlying31⟩))) (hval 0 _ v0 rfl rfl) h0
 obtain ⟨a1, x1⟩ := Opens.arg (Opens.i64 Tryz.underlying3) (.inr (.inr (.inl ⟨_, Tryz.underlying3⟩))) (hval 1 _ v1 rfl rfl) h1
 obtain ⟨a2, x2⟩ := Opens.arg (Opens.i64 Tryz.underlying3) (.inr (.inr (.inl ⟨_, Tryz.underlying3⟩))) (hval 2 _ v2 rfl rfl) h2
 obtain ⟨a3, x3⟩ := Opens.arg (Opens.slice Tryz.underlying68 (by kernel_rfl : Tryz.prog.cellsOf 3 = 1) (Opens.i64 Tryz.underlying3)) (.inr (.inr (.inr ⟨_, Tryz.underlying68⟩))) (hval 3 _ v3 rfl rfl) h3
 obtain ⟨A0, c0, rfl, _, _⟩ := x0.form; obtain ⟨rfl, _, _⟩ := x1; obtain ⟨rfl, _, _⟩ := x2; obtain ⟨A3, c3, rfl, _, _⟩ := x3.form
 refine (Tryz.scrubFails_has A0 _ c0 a0 a1 a2 A3 _ c3 a3 W x0 x3).2.mono ?_
 rintro e W' ⟨v, rfl, hc, rfl⟩
 exact ⟨rfl, hc⟩
theorem scrubFails_door (os : Os) (args : Array Value) : laidMetH Tryz.prog Rows.scrubFailsRow.laid ((World.doorLaid Tryz.prog 400 os).forCall (fun _ _ => 0) ⟨#[], args, []⟩).memory :=
 laidMetH_of_parts3 (fuel := 8) (laidMet_of_run' 8 (by kernel_rfl) (by kernel_rfl)) (by kernel_rfl) (by kernel_rfl)
set_option maxRecDepth 100000 in
theorem scrubFails_lifted (os : Os) (started : os.Started) (H : Type) (enc : TypeId × Value → H) :
  ReturnsInHanded {} Tryz.checked os 9 .any (fun w args => (Rows.scrubFailsSpec.pre enc Tryz.prog Tryz.f9 [] false w args ∧ laidMetH Tryz.prog Rows.scrubFailsRow.laid w) ∧ sizedMet enc Tryz.prog Tryz.f9 (OpenSpec.ofChange Rows.scrubFailsSpec) false w args) (Rows.scrubFailsSpec.post enc Tryz.prog Tryz.f9 false true false false) := by
 refine law_laid (C := Tryz.checked) (tb := 4) (L := Rows.scrubFailsRow.laid) scrubFails_own scrubFails_laid started (by kernel_rfl) Tryz.func9 rfl rfl Tryz.underlying4 ?_ ?_
  (ChangeSpec.witness_shaped (enc := enc) (C := Tryz.checked) (os := os) (X := fun w _ => laidMetH Tryz.prog Rows.scrubFailsRow.laid w) false (World.doorLaid Tryz.prog 400 os) #[.slice none 0 0, .int .i64 0, .int .i64 0, .slice none 0 0] 8 rfl (World.shaped_of_RefB (by kernel_rfl) (by kernel_rfl)) (by kernel_rfl) (by kernel_rfl) (by kernel_rfl) (scrubFails_door os _)) (fun W base args ds ps hval hA => scrubFails_walk W base args ds ps hval hA)
 ·intro t ht
  rw [Tryz.params9] at ht
  simp only [List.mem_cons, List.not_mem_nil, or_false] at ht
  rcases ht with rfl | rfl | rfl | rfl
  all_goals exact ⟨by kernel_rfl, of_decide_eq_true (by kernel_rfl)⟩
 ·intro ds hd
  rw [Tryz.params9] at hd
  match ds, hd with
  | [d0, d1, d2, d3], _ => rfl
theorem scrubFails_holds : Rows.ScrubFailsSaid :=
 OpenClaim.holds_of_wide 9 Tryz.f9 rfl rfl rfl rfl rfl rfl rfl ⟨rfl, rfl, rfl, rfl, rfl⟩ rfl rfl rfl rfl rfl (by kernel_rfl) Tryz.func9 (by kernel_rfl)
  (of_decide_eq_true (by kernel_rfl)) (by unfold Func.isWrapper; first | (rw [if_pos (by decide +kernel)]; kernel_rfl) | (rw [if_neg (by decide +kernel)]; exact ⟨rfl, rfl⟩))
  (fun os started H enc _ => scrubFails_lifted os started H enc)
theorem scrubFails_card : Rows.ScrubFailsCardSaid :=
 Claim7.holds_tied_plain_at .later [] [.data, .data, .data] true (true, "02b64a9935b2fbb4c7b399fd1a7305423e9169164337d0f06e6b342f00c016f9") true
  scrubFails_holds (fun _ h => by cases h) (by kernel_rfl) (fun _ h => by cases h) scrubFails_row_tie rfl ⟨rfl, rfl⟩ (by kernel_rfl) rfl
  (fun f fn hf hfn => by
   obtain rfl : f = 9 := Option.some.inj ((show Tryz.prog.funcNamed Rows.scrubFailsRow.func = some 9 by kernel_rfl).symm.trans hf) |>.symm
   obtain rfl : fn = Tryz.f9 := (Option.some.inj (Tryz.func9.symm.trans hfn)).symm
   exact ⟨by kernel_rfl, fun j t ht => by
    rw [Tryz.params9] at ht
    have hall : (Tryz.f9.params.toList.all fun u => !Tryz.prog.wantsStandIn u) = true := by kernel_rfl
    have hm : t ∈ Tryz.f9.params.toList := by rw [Tryz.params9]; exact List.mem_of_getElem? (by simpa using ht)
    exact (show Tryz.prog.wantsStandIn t = false by simpa using List.all_eq_true.1 hall t hm)⟩)
  (by kernel_rfl)
#print axioms scrubFails_card
end Go.Proofs.YtiadjkjlifnopaaGreatDoor
