/- The walk of one law and the row that it ends in: whatever the arguments that can be read as data, the call returns true and leaves what was there as it was. No condition. -/
import Derived.Test.YtiadjkjlifnopaaGreatDoorScrubGroupsK5
import Derived.Test.YtiadjkjlifnopaaGreatDoorScrubGroupsK1
import Derived.Test.YtiadjkjlifnopaaGreatDoorRows
import Derived.ProofKit
import Derived.OpenShut
import Derived.ChangeOld
import Derived.ChangeCalls
import Derived.Deep.Slices
import Derived.Test.YtiadjkjlifnopaaGreatDoorScrubGroupsK2
import Derived.LaidMore
import Derived.LaidLaws
import Derived.LaidHandle
import Derived.Stop.Joined
import Derived.Handed
import Derived.Test.YtiadjkjlifnopaaGreatDoorCards
import Derived.Test.YtiadjkjlifnopaaGreatDoorTie
import Derived.SevenTiedAt
/-! Scrub: begun. -/
set_option linter.unusedVariables false
namespace Go.Proofs.YtiadjkjlifnopaaGreatDoor.Tryz
open Go Go.Vc
theorem pok_pars {st : StM} (h : POk st.plain) : ∀ q ∈ st.pars, q.1.p.nums.length ≤ 1000000 ∧ q.1.p.sizes.length ≤ 1000000 := fun q hq => by
  have h1 := (h.pars q.1.p (List.mem_map.2 ⟨q, hq, rfl⟩)).1
  have h2 := h1.len3
  have h3 := h1.lens
  omega
theorem goQ_next (itm : Int → GItem) : ∀ (r : List (List Int)) (num : Nat) (q : PSt), q.next = (num : Int) → (goQ itm r num q).next = (num : Int) + r.length
  | [], num, q, h => by show q.next = _; rw [h]; simp
  | ns :: r, num, q, h => by
    rw [goQ, goQ_next itm r (num + 1) _ (by show (num : Int) + 1 = _; omega), List.length_cons]; omega
theorem goF_len (itm : Int → GItem) : ∀ (r : List (List Int)) (num : Nat), (∀ ns ∈ r, ∀ k ∈ ns, (itm k).b.length ≤ 300) → ∀ p ∈ goF itm r num, p.2.length ≤ 300
  | [], _, _, p, hp => by cases hp
  | ns :: r, num, h, p, hp => by
    rcases List.mem_cons.1 (show p ∈ _ :: _ from hp) with hp | hp
    · rw [hp]
      show (parity _).length ≤ _
      rw [parity_length]
      exact maxOf_le _ _ (fun b hb => by obtain ⟨it, h1, rfl⟩ := List.mem_map.1 hb; obtain ⟨k, hk, rfl⟩ := List.mem_map.1 h1; exact h ns (by simp) k hk)
    · exact goF_len itm r (num + 1) (fun ns' hn => h ns' (by simp [hn])) p hp
theorem madeI_len {B : List (List UInt8)} {G : List Bool} (hb : ∀ b ∈ B, b.length ≤ 300) (k : Int) : (madeI B G k).b.length ≤ 300 := by
  show ((B[(k - 1).toNat]?).getD []).length ≤ 300
  cases h : B[(k - 1).toNat]? with
  | none => exact Nat.zero_le _
  | some b => exact hb b (List.mem_of_getElem? h)
theorem made_bytes {B : List (List UInt8)} {G : List Bool} (hb : ∀ b ∈ B, b.length ≤ 300) (r : List (List Int)) (num : Nat) : ∀ p ∈ scF B G ++ goF (madeI B G) r num, p.2.length ≤ 4194304 := fun p hp => by
  rcases List.mem_append.1 hp with hp | hp
  · obtain ⟨j, hj⟩ := List.getElem?_of_mem hp
    obtain ⟨b', hb', rfl⟩ := scF_get hj
    have := hb b' (List.mem_of_getElem? hb')
    show b'.length ≤ _; omega
  · have := goF_len _ r num (fun _ _ k _ => madeI_len hb k) p hp; omega
def B23 : List (List UInt8) := [[1], [2, 3], [4]]
theorem grp23 : (groupsM (scSegs B23 [])).length = 1 := by
  have h : (sortI (freeN (scSegs B23 []))).length = 3 := (List.length_mergeSort _).trans rfl
  unfold groupsM
  generalize sortI (freeN (scSegs B23 [])) = l at *
  rw [chunk3_step (by omega), chunk3_end (by rw [List.length_drop]; omega)]
  rfl
set_option maxHeartbeats 4000000 in
theorem begun23_has (w : World) : Has Go.Proofs.Tryz.prog 10 #[] w (fun v w' => Chg [] w w' ∧ v = .bool true) := by
  refine enter Go.Proofs.Tryz.func10 rfl rfl (by decide) rfl (e := []) trivial ?_
  refine run ?_
  refine go T 7 rfl ?_
  refine o1 rfl ?_
  refine op_buildSlice T rfl rfl rfl rfl rfl rfl rfl (fun g1 w1 hs1 hc1 h1 => ?_)
  have h1 : Blk w1 g1 5 (u8s [1]) := h1
  refine o1 rfl ?_
  refine op_buildSlice T rfl rfl rfl rfl rfl rfl rfl (fun g2 w2 hs2 hc2 h2 => ?_)
  have h2 : Blk w2 g2 5 (u8s [2, 3]) := h2
  refine o1 rfl ?_
  refine op_buildSlice T rfl rfl rfl rfl rfl rfl rfl (fun g3 w3 hs3 hc3 h3 => ?_)
  have h3 : Blk w3 g3 5 (u8s [4]) := h3
  refine o1 rfl ?_
  refine op_buildSlice T rfl rfl rfl rfl rfl rfl rfl (fun g4 w4 hs4 hc4 h4 => ?_)
  have h4 : Blk w4 g4 51 [.slice (some ⟨g1, 0, none⟩) 1 1, .slice (some ⟨g2, 0, none⟩) 2 2, .slice (some ⟨g3, 0, none⟩) 1 1] := h4
  have r1 : SliceOf Ru8 w4 (.slice (some ⟨g1, 0, none⟩) 1 1) [1] := (Own.mk (((h1.keep0 hc2).keep0 hc3).keep0 hc4) (Nat.le_refl _) (by decide) rfl rfl : Own w4 5 1 _ [(1 : UInt8)].length (u8s [1])).bytes
  have r2 : SliceOf Ru8 w4 (.slice (some ⟨g2, 0, none⟩) 2 2) [2, 3] := (Own.mk ((h2.keep0 hc3).keep0 hc4) (Nat.le_refl _) (by decide) rfl rfl : Own w4 5 1 _ [(2 : UInt8), 3].length (u8s [2, 3])).bytes
  have r3 : SliceOf Ru8 w4 (.slice (some ⟨g3, 0, none⟩) 1 1) [4] := (Own.mk (h3.keep0 hc4) (Nat.le_refl _) (by decide) rfl rfl : Own w4 5 1 _ [(4 : UInt8)].length (u8s [4])).bytes
  have hf : SliceOf (SliceOf Ru8) w4 (.slice (some ⟨g4, 0, none⟩) 3 3) B23 := (Own.mk h4 (Nat.le_refl _) (by decide) rfl rfl : Own w4 51 1 (.slice (some ⟨g4, 0, none⟩) 3 3) 3 [.slice (some ⟨g1, 0, none⟩) 1 1, .slice (some ⟨g2, 0, none⟩) 2 2, .slice (some ⟨g3, 0, none⟩) 1 1]).reads rfl (fun i x u hx hu => by
    match i, hx, hu with
    | 0, hx, hu => injection hx with hx; injection hu with hu; subst hx; subst hu; exact r1
    | 1, hx, hu => injection hx with hx; injection hu with hu; subst hx; subst hu; exact r2
    | 2, hx, hu => injection hx with hx; injection hu with hu; subst hx; subst hu; exact r3
    | i + 3, hx, hu => simp [B23] at hx)
  have hc04 := ((hc1.trans' hc2).trans' hc3).trans' hc4
  refine o1 rfl ?_
  refine op_call rfl rfl rfl (made_has _ 3 3 B23 none 0 0 [] w4 hf (SliceOf.nil _ _)) ?_
  rintro _ w5 ⟨g, gm, vo, s, p, st, u, mb, rfl, x, hst, hF, hu, hmb, _⟩
  rw [show filesB B23 = B23 from rfl] at hst hF
  have hc05 := hc04.trans' x.fs.chg
  obtain ⟨hmk, s', u', mb', hall, hF', hu', hmb'⟩ := made_make (B := B23) (by decide) (by decide) hF hu hmb
  have hseg : st.segs = scSegs B23 [] := congrArg PSt.segs hst
  have hnx : st.next = 50 := congrArg PSt.next hst
  have hfb : ∀ p ∈ scF B23 [], p.2.length ≤ 4194304 := fun p hp => by
    obtain ⟨j, hj⟩ := List.getElem?_of_mem hp
    obtain ⟨b', hb', rfl⟩ := scF_get hj
    have : ∀ b ∈ B23, b.length ≤ 4194304 := by decide
    exact this _ (List.mem_of_getElem? hb')
  unfold ptrV
  refine go T 23 rfl ?_
  refine o1 rfl ?_
  refine op_call rfl rfl rfl (makeAll_has x (by rw [hst]; exact hF.ok) (by omega) (by rw [hst, hseg]; exact hmk) (hF.bytes (by omega) hfb) (fun y hy => ?_)) ?_
  · rw [hseg] at hy
    obtain ⟨h1, h2, h3, h4, h5⟩ := scSeg_mem (B := B23) (by decide) (by decide) hy
    exact ⟨by omega, by omega, by omega, by omega⟩
  rintro _ w6 ⟨hc6, s6, q6, n6, e6, p6, st6, cl6, hall6, rfl, hg6, hst6, hcl6, x6⟩
  rw [hst, hseg, hall] at hall6
  injection hall6 with a1 a2
  injection a2 with a2 a3
  injection a3 with a3 a4
  subst a1; subst a2; subst a3; subst a4
  obtain rfl := hcl6 rfl
  have hok6 : POk st6.plain := by rw [hst6]; exact hF'.ok
  have hsg6 : st6.segs = (goQ (madeI B23 []) (groupsM (scSegs B23 [])) 50 ⟨scSegs B23 [], [], 50, 1⟩).segs := congrArg PSt.segs hst6
  have hwS := goQ_segs (madeI B23 []) (F := scF B23 [] ++ goF (madeI B23 []) (groupsM (scSegs B23 [])) 50) (groupsM (scSegs B23 [])) 50 ⟨scSegs B23 [], [], 50, 1⟩ (fun y hy => by obtain ⟨b, h1, h2⟩ := scSegs_whole B23 [] y hy; exact ⟨b, List.mem_append.2 (.inl h1), h2⟩)
  have hwP := goQ_pars (madeI B23 []) (F := scF B23 [] ++ goF (madeI B23 []) (groupsM (scSegs B23 [])) 50) (groupsM (scSegs B23 [])) 50 ⟨scSegs B23 [], [], 50, 1⟩ (fun y hy => by cases hy) (fun p hp => List.mem_append.2 (.inr hp))
  obtain ⟨hl1, hl2⟩ := look_none hF' hwS hwP
  have hnd : ((scSegs B23 []).map numK).Nodup := by rw [scSegs_num]; exact range_nodup _
  have hgd := groups_done (madeI B23 []) (q := ⟨scSegs B23 [], [], 50, 1⟩) hnd (num := 50) (by decide)
  have hpl := goQ_pars_len (madeI B23 []) (groupsM (scSegs B23 [])) 50 ⟨scSegs B23 [], [], 50, 1⟩
  rw [grp23] at hpl
  have hnx6 : st6.next ≤ 100 := by
    have h7 := congrArg PSt.next hst6
    rw [goQ_next _ _ _ _ rfl, grp23] at h7
    have h8 : st6.plain.next = st6.next := rfl
    omega
  have hby := hF'.bytes (by omega) (made_bytes (by decide) _ _)
  have hc06 : Chg [] w w6 := hc05.trans hc6 (fun k hk hlt => by
    have hz := hc04.size
    rcases List.mem_cons.1 hk with hk | hk
    · have := x.fresh; omega
    · have := x.fs.fresh k hk; omega)
  rw [grp23]
  rw [← hst6] at hl2 hpl
  rw [← hsg6] at hl1
  have hgd6 : groupsM st6.segs = [] := by rw [hsg6]; exact hgd
  clear hgd hwS hwP hall hmk hF
  refine go T 11 rfl ?_
  refine o1 rfl ?_
  refine op_call rfl rfl rfl (look_has x6 hok6 hnx6 hby (pok_pars hok6)) ?_
  rintro _ w7 ⟨hc7, us, up, rfl, hus, hup, _, _⟩
  rw [hl1] at hus
  rw [hl2] at hup
  change Own w7 2 1 us 0 [] at hus
  change Own w7 2 1 up 0 [] at hup
  obtain ⟨Au, cu, rfl, _, _⟩ := hus.form
  obtain ⟨Ap, cp, rfl, _, _⟩ := hup.form
  have x7 := x6.keep0 hc7
  have hlen6 := hok6.ls
  have hlen7 := hok6.lp
  have hplen : st6.pars.length = 1 := by
    have h8 : st6.plain.pars.length = st6.pars.length := List.length_map _
    rw [← h8]; exact hpl
  refine go T 10 rfl ?_
  refine eqT rfl rfl rfl rfl (by omega) ?_
  refine go T 2 rfl ?_
  refine eqT rfl rfl rfl rfl (by omega) ?_
  refine go T 4 rfl ?_
  refine eqT rfl rfl rfl rfl (by omega) ?_
  refine go T 4 rfl ?_
  refine eqT rfl rfl rfl rfl (by omega) ?_
  refine go T 3 rfl ?_
  refine o1 rfl ?_
  refine op_call rfl rfl rfl (parsO_has x7 (by omega) (pok_pars hok6)) ?_
  rintro v8 w8 ⟨hc8, _, X, hX, hO, _⟩
  have hXl : X.length = 1 := by
    have h9 := congrArg List.length hX
    rw [List.length_map] at h9
    rw [h9]; exact hpl
  rw [hXl] at hO
  obtain ⟨Aq, cq, rfl, _, _⟩ := hO.form
  have x8 := x7.keep0 hc8
  refine go T 1 rfl ?_
  refine eqT rfl rfl rfl rfl (by omega) ?_
  refine go T 3 rfl ?_
  refine o1 rfl ?_
  refine op_call rfl rfl rfl (segsO_has x8 (Nat.le_trans (show st6.segs.length ≤ 60 from hlen6) (by decide))) ?_
  rintro v9 w9 ⟨hc9, hO9, _⟩
  have hS9 := hO9.readsK segL_len
  obtain ⟨As, cs, rfl, _, _⟩ := hS9.form
  refine o1 rfl ?_
  refine op_call rfl rfl rfl (groups_has As _ cs st6.segs w9 hS9 (Nat.le_trans (show st6.segs.length ≤ 60 from hlen6) (by decide)) (fun y hy => by have := (hok6.segs y hy).1.num; omega)) ?_
  rintro v10 w10 ⟨hc10, hG, _⟩
  rw [hgd6] at hG
  obtain ⟨Ag, cg, hv10, _, _⟩ := hG.reads.form
  have hv10 : v10 = .slice Ag 0 cg := hv10
  subst hv10
  refine go T 1 rfl ?_
  refine eqT rfl rfl rfl rfl (by omega) ?_
  refine go T 5 rfl ?_
  exact post1 (.inl rfl) rfl rfl ⟨(((hc06.trans' hc7).trans' hc8).trans' hc9).trans' hc10, rfl⟩
end Go.Proofs.YtiadjkjlifnopaaGreatDoor.Tryz
/-! Scrub: groups by threes, in plain words. -/
set_option linter.unusedVariables false
namespace Go.Vc
open Go
theorem chunk3_count : ∀ (n : Nat) (l : List Int), l.length ≤ n → (chunk3 l).length = l.length / 3
  | 0, l, h => by rw [chunk3_end (by omega), List.length_nil]; omega
  | n + 1, l, h => by
    by_cases hl : 3 ≤ l.length
    · rw [chunk3_step hl, List.length_cons, chunk3_count n (l.drop 3) (by rw [List.length_drop]; omega), List.length_drop]; omega
    · rw [chunk3_end hl, List.length_nil]; omega
theorem chunk3_get : ∀ (n : Nat) (l : List Int), l.length ≤ n → ∀ i, i < l.length / 3 → (chunk3 l)[i]? = some ((l.drop (3 * i)).take 3)
  | 0, l, h, i, hi => by omega
  | n + 1, l, h, i, hi => by
    have hl : 3 ≤ l.length := by omega
    rw [chunk3_step hl]
    cases i with
    | zero => rfl
    | succ i =>
      rw [List.getElem?_cons_succ, chunk3_get n (l.drop 3) (by rw [List.length_drop]; omega) i (by rw [List.length_drop]; omega), List.drop_drop, show 3 + 3 * i = 3 * (i + 1) from by omega]
/-- The law's own numbers. -/
def numS (l : List SegM) : List SegM := l.mapIdx fun i s => { s with num := (i : Int) + 1 }
theorem numS_num (l : List SegM) : (numS l).map numK = (List.range l.length).map fun (i : Nat) => (i : Int) + 1 := by
  apply List.ext_getElem?
  intro i
  unfold numS
  rw [List.getElem?_map, List.getElem?_mapIdx, List.getElem?_map]
  by_cases h : i < l.length
  · rw [List.getElem?_range h, List.getElem?_eq_getElem h]; rfl
  · rw [List.getElem?_eq_none (by omega), List.getElem?_eq_none (by rw [List.length_range]; omega)]; rfl
theorem numS_free (l : List SegM) : sortI (freeN (numS l)) = freeN (numS l) := by
  unfold sortI
  refine List.mergeSort_of_pairwise ?_
  have h1 : ((numS l).map numK).Pairwise (· ≤ ·) := by
    rw [numS_num]
    rw [List.pairwise_map]
    exact (List.pairwise_lt_range (n := l.length)).imp fun {a b} hab => by omega
  unfold freeN
  have h2 := h1.sublist ((List.filter_sublist (p := fun s => s.sealed && decide (s.group = 0)) (l := numS l)).map numK)
  exact h2.imp fun {a b} hab => by simpa using hab
end Go.Vc
/-! Scrub: the law ScrubGroups. -/
set_option linter.unusedVariables false
namespace Go.Proofs.YtiadjkjlifnopaaGreatDoor.Tryz
open Go Go.Vc
theorem take_sliceK {w : World} {A : Option Addr} {n c : Nat} {L : List SegM} (h : SliceK 6 (RdL segL) w (.slice A n c) L) (k : Nat) : SliceK 6 (RdL segL) w (.slice A (L.take k).length c) (L.take k) := by
  obtain ⟨h1, h2, h3⟩ := h.len
  unfold SliceK
  refine ⟨A, c, rfl, by rw [List.length_take]; omega, h3, fun i x hx => ?_⟩
  have hi := (List.getElem?_eq_some_iff.1 hx).1
  rw [List.length_take] at hi
  rw [List.getElem?_take_of_lt (by omega)] at hx
  unfold SliceK at h
  obtain ⟨A', c', he, _, _, hh⟩ := h
  injection he with e1 e2 e3
  subst e1
  exact hh i x hx
theorem freeN_snoc {L : List SegM} {i : Nat} {y : SegM} (h : L[i]? = some y) : freeN (L.take (i + 1)) = freeN (L.take i) ++ (if (y.sealed && decide (y.group = 0)) = true then [y.num] else []) := by
  unfold freeN
  rw [List.take_add_one, h, List.filter_append, List.map_append]
  congr 1
  show List.map _ (List.filter _ [y]) = _
  rw [List.filter_cons, List.filter_nil]
  split <;> rfl
set_option maxHeartbeats 8000000 in
theorem scrubGroups_has (A : Option Addr) (n c : Nat) (l0 : List SegM) (w : World) (hs : SliceK 6 (RdL segL) w (.slice A n c) l0) : Has Go.Proofs.Tryz.prog 3 #[.slice A n c] w (fun v w' => Chg [] w w' ∧ v = .bool true) := by
  obtain ⟨rfl, hl1, hl2⟩ := hs.len
  unfold maxLen at hl2
  refine enter Go.Proofs.Tryz.func3 rfl rfl (by decide) rfl (e := [(0, .slice A l0.length c)]) ⟨rfl, trivial⟩ ?_
  refine run ?_
  refine go T 7 rfl ?_
  refine o1 rfl ?_
  refine op_call rfl rfl rfl (begun23_has w) ?_
  rintro _ w1 ⟨hc1, rfl⟩
  have hs1 := take_sliceK (hs.keepR hc1) 20
  refine go T 4 rfl ?_
  refine go T 1 rfl ?_
  refine go T 9 rfl ?_
  refine meetC (σ := Unit) (fun _ => [(0, .slice A (l0.take 20).length c)]) (fun _ w' => w' = w1) ?_ ?_
  · by_cases h20 : 20 < l0.length
    · have e : (l0.take 20).length = 20 := by rw [List.length_take]; omega
      refine go T 4 rfl ?_
      refine gtT rfl rfl rfl rfl (by omega) ?_
      refine go T 5 rfl ?_
      refine o1 rfl ?_
      refine op_slice_to T (h' := 20) (k := .i64) (A := A) (n := l0.length) (c := c) rfl rfl rfl rfl rfl (show 20 ≤ c by omega) ?_
      refine go T 2 rfl ?_
      exact meetN () ⟨by rw [e]; rfl, trivial⟩ rfl
    · have e : (l0.take 20).length = l0.length := by rw [List.length_take]; omega
      refine go T 4 rfl ?_
      refine gtF rfl rfl rfl rfl (by omega) ?_
      refine go T 4 rfl ?_
      exact meetN () ⟨by rw [e]; rfl, trivial⟩ rfl
  rintro _ w1 rfl
  have hl20 : (l0.take 20).length ≤ 20 := by rw [List.length_take]; omega
  generalize l0.take 20 = l at *
  have hnl : ∀ i, (numS l).take i = ((numS l).take i) := fun _ => rfl
  have hnlen : (numS l).length = l.length := by unfold numS; exact List.length_mapIdx
  refine go T 13 rfl ?_
  refine W_loop (σ := Nat × Value) (fun t => [(0, .slice A l.length c), (4, t.2), (5, .int .i64 (t.1 : Int))])
    (fun t w' => t.1 ≤ l.length ∧ Chg [] w1 w' ∧ (∀ h, t.2.ownBlock = some h → w1.heap.size ≤ h) ∧ Own w' 26 6 t.2 ((numS l).take t.1).length (((numS l).take t.1).flatMap segL))
    (fun t => l.length - t.1) (0, .slice none 0 0) ⟨rfl, rfl, rfl, trivial⟩ ⟨Nat.zero_le _, Chg.refl _ _, fun h hh => by simp [Value.ownBlock] at hh, Own.nil _ _ _⟩ ?_
  rintro ⟨i, v⟩ w2 ⟨hi, hc2, hfr, hO⟩
  dsimp only at hi hfr hO ⊢
  refine run ?_
  refine go T 6 rfl ?_
  refine ltS rfl rfl rfl rfl (fun hcmp => ?_) (fun hcmp => ?_)
  · have hlt : i < l.length := by omega
    have hx := List.getElem?_eq_getElem hlt
    obtain ⟨ad, rfl, he⟩ := (hs1.keepR hc2).at hx
    have hnx : (numS l).take (i + 1) = (numS l).take i ++ [{ l[i] with num := (i : Int) + 1 }] := by
      rw [List.take_add_one]; unfold numS; rw [List.getElem?_mapIdx, hx]; rfl
    have hUl : ((numS l).take i).length ≤ 20 := by rw [List.length_take]; omega
    generalize (numS l).take i = U at *
    generalize l[i] = y at *
    obtain ⟨nm, sl, gr, me, sz, su⟩ := y
    refine go T 11 rfl ?_
    refine o1 rfl (op_indexK T rfl rfl rfl rfl rfl (by omega) ?_)
    refine o1 rfl (op_loadE T he rfl rfl rfl rfl rfl ?_)
    refine o1 rfl ?_
    refine op_alloc T rfl rfl (fun g6 w3 hs3 hc3 h6 => ?_)
    have hs3 : w2.heap.size ≤ g6 := hs3
    refine op0 rfl rfl ?_
    refine op_store_agg T rfl rfl rfl rfl rfl rfl h6 (by exact Nat.le_of_ble_eq_true rfl) (fun w4 hc4 h6n _ => ?_)
    replace h6 : Blk w4 g6 26 [.int .i64 nm, .bool sl, .int .i64 gr, .int .i64 me, .int .i64 sz, .int .u32 (su : Int)] := h6n
    clear h6n he
    refine go T 5 rfl ?_
    refine adI rfl rfl rfl rfl (by omega) (by omega) ?_
    refine go T 1 rfl ?_
    refine op0 rfl rfl ?_
    refine op_store T rfl rfl rfl rfl rfl rfl h6 (by simp) (fun w5 hc5 h6n _ => ?_)
    replace h6 : Blk w5 g6 26 [.int .i64 ((i : Int) + 1), .bool sl, .int .i64 gr, .int .i64 me, .int .i64 sz, .int .u32 (su : Int)] := h6n
    have hc25 : Chg [] w2 w5 := (hc3.trans hc4 (fun k hk hlt => by simp at hk; omega)).trans hc5 (fun k hk hlt => by simp at hk; omega)
    have hO5 := hO.keep0 hc25
    clear hc3 hc4 hc5 h6n
    refine go T 4 rfl ?_
    refine o1 rfl (op_load_agg T rfl rfl rfl rfl h6 (by exact Nat.le_of_ble_eq_true rfl) (by exact rfl) ?_)
    refine o1 rfl ?_
    refine op_buildSlice T rfl rfl rfl rfl rfl rfl rfl (fun gb w6 hs6 hc6 h7 => ?_)
    have h7 : Blk w6 gb 26 (segL ⟨(i : Int) + 1, sl, gr, me, sz, su⟩) := h7
    have hO6 := hO5.keep0 hc6
    have hz1 := hc2.size
    have hz2 := hc25.size
    have hz3 := hc6.size
    refine o1 rfl ?_
    refine op_appendK T segL_len rfl rfl rfl rfl rfl rfl rfl rfl rfl rfl hO6 h7 (segL_one _) (by omega) (fun v' w7 hO7 hc7 hb7 => ?_)
    have hc17 : Chg [] w1 w7 := ((hc2.trans' hc25).trans' hc6).trans hc7 (fun k hk hlt => by have := hfr k (by simpa using hk); omega)
    refine go T 6 rfl ?_
    refine adI rfl rfl rfl rfl (by omega) (by omega) ?_
    refine go T 2 rfl ?_
    refine Round_n (i + 1, v') ⟨rfl, rfl, rfl, trivial⟩ ⟨by dsimp only; omega, hc17, fun h hh => ?_, by dsimp only; rw [hnx]; exact hO7⟩ (by dsimp only; omega)
    rcases hb7 with h1 | ⟨k, h1, h2⟩
    · exact hfr h (by rw [← h1]; exact hh)
    · dsimp only at hh; rw [h1] at hh; injection hh with hh; omega
  obtain rfl : i = l.length := by omega
  rw [List.take_of_length_le (by omega)] at hO
  have hS2 := hO.readsK segL_len
  obtain ⟨As, cs, rfl, _, _⟩ := hS2.form
  have hSl : (numS l).length ≤ 20 := by omega
  have hSn : ∀ y ∈ numS l, 1 ≤ y.num ∧ y.num ≤ 20 := fun y hy => by
    obtain ⟨i, hi⟩ := List.getElem?_of_mem hy
    have hil := (List.getElem?_eq_some_iff.1 hi).1
    unfold numS at hi hil
    rw [List.getElem?_mapIdx] at hi
    rw [List.length_mapIdx] at hil
    rw [List.getElem?_eq_getElem hil] at hi
    injection hi with hi
    rw [← hi]
    dsimp only
    omega
  have hsrt := numS_free l
  generalize numS l = S at *
  clear hs hs1 hO hnl hnlen
  refine go T 5 rfl ?_
  refine rndX ?_
  refine go T 14 rfl ?_
  refine W_loop (σ := Nat × Value) (fun t => [(4, .slice As S.length cs), (7, t.2), (8, .int .i64 (t.1 : Int))])
    (fun t w' => t.1 ≤ S.length ∧ Chg [] w2 w' ∧ (∀ h, t.2.ownBlock = some h → w2.heap.size ≤ h) ∧ Own w' 2 1 t.2 (freeN (S.take t.1)).length ((freeN (S.take t.1)).map i64V))
    (fun t => S.length - t.1) (0, .slice none 0 0) ⟨rfl, rfl, rfl, trivial⟩ ⟨Nat.zero_le _, Chg.refl _ _, fun h hh => by simp [Value.ownBlock] at hh, Own.nil _ _ _⟩ ?_
  rintro ⟨i, v⟩ w3 ⟨hi, hc3, hfv, hO⟩
  dsimp only at hi hfv hO ⊢
  refine run ?_
  refine go T 6 rfl ?_
  refine ltS rfl rfl rfl rfl (fun hcmp => ?_) (fun hcmp => ?_)
  · have hlt : i < S.length := by omega
    have hx := List.getElem?_eq_getElem hlt
    obtain ⟨ad, rfl, he⟩ := (hS2.keepR hc3).at hx
    have hsn := freeN_snoc hx
    have hUl : (freeN (S.take i)).length ≤ 20 := by
      unfold freeN
      rw [List.length_map]
      have := List.length_filter_le (fun s : SegM => s.sealed && decide (s.group = 0)) (S.take i)
      rw [List.length_take] at this
      omega
    generalize freeN (S.take i) = U at *
    generalize S[i] = y at *
    obtain ⟨nm, sl, gr, me, sz, su⟩ := y
    dsimp only at hsn
    have e1 : w3.cell? (ad.add (i * 6 + 1)) = some (.bool sl) := he 1 _ rfl
    have e2 : w3.cell? (ad.add (i * 6 + 2)) = some (.int .i64 gr) := he 2 _ rfl
    have e0 : w3.cell? (ad.add (i * 6 + 0)) = some (.int .i64 nm) := he 0 _ rfl
    have e0' : w3.cell? (ad.add (i * 6)) = some (.int .i64 nm) := he 0 _ rfl
    cases sl with
    | false =>
      rw [show (if (false && decide (gr = 0)) = true then [nm] else ([] : List Int)) = [] from rfl, List.append_nil] at hsn
      refine go T 11 rfl ?_
      refine o1 rfl (op_indexK T rfl rfl rfl rfl rfl (by omega) ?_)
      refine o1 rfl (op_fieldAddr T rfl rfl rfl rfl rfl rfl rfl rfl ?_)
      refine o1 rfl (op_loadF T he rfl rfl rfl rfl rfl ?_)
      refine go T 16 rfl ?_
      refine adI rfl rfl rfl rfl (by omega) (by omega) ?_
      refine go T 2 rfl ?_
      exact Round_n (i + 1, v) ⟨rfl, rfl, rfl, trivial⟩ ⟨by dsimp only; omega, hc3, hfv, by dsimp only; rw [hsn]; exact hO⟩ (by dsimp only; omega)
    | true =>
      by_cases hgr : gr = 0
      · rw [if_pos (by simp [hgr])] at hsn
        refine go T 11 rfl ?_
        refine o1 rfl (op_indexK T rfl rfl rfl rfl rfl (by omega) ?_)
        refine o1 rfl (op_fieldAddr T rfl rfl rfl rfl rfl rfl rfl rfl ?_)
        refine o1 rfl (op_loadF T he rfl rfl rfl rfl rfl ?_)
        refine go T 3 rfl ?_
        refine o1 rfl (op_indexK T rfl rfl rfl rfl rfl (by omega) ?_)
        refine o1 rfl (op_fieldAddr T rfl rfl rfl rfl rfl rfl rfl rfl ?_)
        refine o1 rfl (op_loadF T he rfl rfl rfl rfl rfl ?_)
        refine eqT rfl rfl rfl rfl (by omega) ?_
        refine go T 8 rfl ?_
        refine o1 rfl (op_indexK T rfl rfl rfl rfl rfl (by omega) ?_)
        refine o1 rfl (op_fieldAddr T rfl rfl rfl rfl rfl rfl rfl rfl ?_)
        refine o1 rfl (op_load T rfl rfl rfl rfl (by assumption) ?_)
        refine o1 rfl ?_
        refine op_buildSlice T rfl rfl rfl rfl rfl rfl rfl (fun gb w4 hs4 hc4 h4 => ?_)
        have h4 : Blk w4 gb 2 [i64V nm] := h4
        have hO4 := hO.keep0 hc4
        have hz1 := hc3.size
        have hz2 := hc4.size
        refine o1 rfl ?_
        refine op_append1 T (f := i64V) rfl rfl rfl rfl rfl rfl rfl rfl rfl hO4 h4 rfl (by omega) (fun v' w5 hO5 hc5 hb5 => ?_)
        have hc25 : Chg [] w2 w5 := (hc3.trans' hc4).trans hc5 (fun k hk hlt => by have := hfv k (by simpa using hk); omega)
        refine go T 6 rfl ?_
        refine adI rfl rfl rfl rfl (by omega) (by omega) ?_
        refine go T 2 rfl ?_
        refine Round_n (i + 1, v') ⟨rfl, rfl, rfl, trivial⟩ ⟨by dsimp only; omega, hc25, fun h hh => ?_, by dsimp only; rw [hsn]; exact hO5⟩ (by dsimp only; omega)
        rcases hb5 with h1 | ⟨k, h1, h2⟩
        · exact hfv h (by rw [← h1]; exact hh)
        · dsimp only at hh; rw [h1] at hh; injection hh with hh; omega
      · rw [if_neg (by simp [hgr]), List.append_nil] at hsn
        refine go T 11 rfl ?_
        refine o1 rfl (op_indexK T rfl rfl rfl rfl rfl (by omega) ?_)
        refine o1 rfl (op_fieldAddr T rfl rfl rfl rfl rfl rfl rfl rfl ?_)
        refine o1 rfl (op_loadF T he rfl rfl rfl rfl rfl ?_)
        refine go T 3 rfl ?_
        refine o1 rfl (op_indexK T rfl rfl rfl rfl rfl (by omega) ?_)
        refine o1 rfl (op_fieldAddr T rfl rfl rfl rfl rfl rfl rfl rfl ?_)
        refine o1 rfl (op_loadF T he rfl rfl rfl rfl rfl ?_)
        refine eqF rfl rfl rfl rfl (by omega) ?_
        refine go T 9 rfl ?_
        refine adI rfl rfl rfl rfl (by omega) (by omega) ?_
        refine go T 2 rfl ?_
        exact Round_n (i + 1, v) ⟨rfl, rfl, rfl, trivial⟩ ⟨by dsimp only; omega, hc3, hfv, by dsimp only; rw [hsn]; exact hO⟩ (by dsimp only; omega)
  obtain rfl : i = S.length := by omega
  rw [List.take_of_length_le (Nat.le_refl _)] at hO
  have hfl : (freeN S).length ≤ 20 := by
    unfold freeN
    rw [List.length_map]
    exact Nat.le_trans (List.length_filter_le _ _) hSl
  have hfm : ∀ k ∈ freeN S, 1 ≤ k ∧ k ≤ 20 := fun k hk => by
    unfold freeN at hk
    obtain ⟨y, hy, rfl⟩ := List.mem_map.1 hk
    exact hSn y (List.mem_filter.1 hy).1
  have hFr : SliceOf Ri64 w3 v (freeN S) := hO.reads rfl (fun i x u hx hu => by
    rw [List.getElem?_map, hx] at hu
    injection hu with hu
    have := hfm x (List.mem_of_getElem? hx)
    exact ⟨hu.symm, by omega, by omega⟩)
  obtain ⟨Af, cf, rfl, _, _⟩ := hFr.form
  refine go T 5 rfl ?_
  refine rndX ?_
  refine go T 5 rfl ?_
  refine o1 rfl ?_
  refine op_call rfl rfl rfl (groups_has As _ cs S w3 (hS2.keepR hc3) (by omega) (fun y hy => by have := hSn y hy; omega)) ?_
  rintro v4 w4 ⟨hc4, hG, _⟩
  have hgm : groupsM S = chunk3 (freeN S) := by unfold groupsM; rw [hsrt]
  rw [hgm] at hG
  have hgl := chunk3_count _ (freeN S) (Nat.le_refl _)
  have hgg := chunk3_get _ (freeN S) (Nat.le_refl _)
  have hFr4 := SliceOf.kept Ri64.kept _ _ _ _ hc4 hFr
  clear hFr hO hS2 hsrt hgm hSn hfv hfm
  generalize freeN S = fr at *
  generalize chunk3 fr = gs at *
  have hGr := hG.reads
  obtain ⟨Ag, cg, rfl, _, _⟩ := hGr.form
  have hc14 := hc2.trans' (hc3.trans' hc4)
  clear hG hc4 hc3
  refine go T 10 rfl ?_
  refine o1 rfl ?_
  refine op_quo (r := ((fr.length / 3 : Nat) : Int)) rfl rfl rfl (by decide) (by show IntKind.i64.wrap ((fr.length / 3 : Nat) : Int) = _; exact wrap_i64_in (by omega) (by omega)) ?_
  refine neF rfl rfl rfl rfl (by omega) ?_
  refine go T 12 rfl ?_
  refine W_loop (σ := Nat) (fun t => [(7, .slice Af fr.length cf), (9, .slice Ag gs.length cg), (10, .int .i64 (t : Int))])
    (fun t w' => t ≤ gs.length ∧ Chg [] w4 w')
    (fun t => gs.length - t) 0 ⟨rfl, rfl, rfl, trivial⟩ ⟨Nat.zero_le _, Chg.refl _ _⟩ ?_
  rintro i w5 ⟨hi, hc5⟩
  replace hGr := SliceOf.kept (SliceOf.kept Ri64.kept) _ _ _ _ hc5 hGr
  replace hFr4 := SliceOf.kept Ri64.kept _ _ _ _ hc5 hFr4
  refine run ?_
  refine go T 6 rfl ?_
  refine ltS rfl rfl rfl rfl (fun hcmp => ?_) (fun hcmp => ?_)
  · have hlt : i < gs.length := by omega
    have h3 := hgg i (by omega)
    have hil : 3 * i + 2 < fr.length := by omega
    obtain ⟨adg, u, rfl, hcg, hu⟩ := hGr.get h3
    have hl3 : ((fr.drop (3 * i)).take 3).length = 3 := by rw [List.length_take, List.length_drop]; omega
    obtain ⟨B, cb, rfl, _, _⟩ := hu.form
    rw [hl3] at hcg hu
    have hat : ∀ k, k < 3 → ((fr.drop (3 * i)).take 3)[k]? = some (fr[3 * i + k]?.getD 0) := fun k hk => by
      rw [List.getElem?_take_of_lt hk, List.getElem?_drop, List.getElem?_eq_getElem (by omega)]
      rfl
    have haf : ∀ k, k < 3 → fr[3 * i + k]? = some (fr[3 * i + k]?.getD 0) := fun k hk => by
      rw [List.getElem?_eq_getElem (by omega)]
      rfl
    obtain ⟨adb, u0, rfl, hb0, hu0⟩ := hu.get (hat 0 (by omega))
    obtain ⟨_, u1, hB1, hb1, hu1⟩ := hu.get (hat 1 (by omega))
    obtain ⟨_, u2, hB2, hb2, hu2⟩ := hu.get (hat 2 (by omega))
    obtain ⟨adf, q0, rfl, hf0, hq0⟩ := hFr4.get (haf 0 (by omega))
    obtain ⟨_, q1, hA1, hf1, hq1⟩ := hFr4.get (haf 1 (by omega))
    obtain ⟨_, q2, hA2, hf2, hq2⟩ := hFr4.get (haf 2 (by omega))
    injection hB1 with hB1; subst hB1
    injection hB2 with hB2; subst hB2
    injection hA1 with hA1; subst hA1
    injection hA2 with hA2; subst hA2
    obtain ⟨rfl, _⟩ := hu0
    obtain ⟨rfl, _⟩ := hu1
    obtain ⟨rfl, _⟩ := hu2
    obtain ⟨rfl, _⟩ := hq0
    obtain ⟨rfl, _⟩ := hq1
    obtain ⟨rfl, _⟩ := hq2
    rw [Nat.add_zero] at hf0 hb0
    clear hat haf hu
    generalize fr[3 * i]?.getD 0 = x0 at *
    generalize fr[3 * i + 1]?.getD 0 = x1 at *
    generalize fr[3 * i + 2]?.getD 0 = x2 at *
    refine go T 8 rfl ?_
    refine W_walk 48 [] fol (by kernel_rfl) (by kernel_rfl) ?_
    refine Walk.plain rfl (by intro val w_ hR hp; exact op_move rfl rfl ⟨Chg.refl _ _, rfl⟩) ?_; dsimp only [List.nil_append, List.cons_append]
    refine Walk.plain rfl (by intro val w_ hR hp; exact op_move rfl rfl ⟨Chg.refl _ _, rfl⟩) ?_; dsimp only [List.nil_append, List.cons_append]
    refine Walk.plain rfl (by intro val w_ hR hp; exact op_index_nat T rfl rfl rfl rfl rfl rfl (by omega) ⟨Chg.refl _ _, rfl⟩) ?_; dsimp only [List.nil_append, List.cons_append]
    refine Walk.plain rfl (by intro val w_ hR hp; exact op_load T rfl rfl rfl rfl (hR.cell0 (by assumption)) ⟨Chg.refl _ _, rfl⟩) ?_; dsimp only [List.nil_append, List.cons_append]
    refine Walk.plain rfl (by intro val w_ hR hp; exact op_len_slice T rfl rfl rfl rfl ⟨Chg.refl _ _, rfl⟩) ?_; dsimp only [List.nil_append, List.cons_append]
    refine Walk.plain rfl (by intro val w_ hR hp; exact op_neq rfl rfl rfl (fun hcmp => False.elim (by omega)) (fun hcmp => ⟨Chg.refl _ _, rfl⟩)) ?_; dsimp only [List.nil_append, List.cons_append]
    refine Walk.plain rfl (by intro val w_ hR hp; exact op_move rfl rfl ⟨Chg.refl _ _, rfl⟩) ?_; dsimp only [List.nil_append, List.cons_append]
    refine Walk.guardT rfl rfl rfl (fun _ => rfl) (by intro val w_ hR hp; exact op_move rfl rfl ⟨Chg.refl _ _, rfl⟩) ?_; dsimp only [List.nil_append, List.cons_append]
    refine Walk.guardT rfl rfl rfl (fun _ => rfl) (by intro val w_ hR hp; exact op_move rfl rfl ⟨Chg.refl _ _, rfl⟩) ?_; dsimp only [List.nil_append, List.cons_append]
    refine Walk.guardT rfl rfl rfl (fun _ => rfl) (by intro val w_ hR hp; exact op_index_nat T rfl rfl rfl rfl rfl rfl (by omega) ⟨Chg.refl _ _, rfl⟩) ?_; dsimp only [List.nil_append, List.cons_append]
    refine Walk.guardT rfl rfl rfl (fun _ => rfl) (by intro val w_ hR hp; exact op_load T rfl rfl rfl rfl (hR.cell0 (by assumption)) ⟨Chg.refl _ _, rfl⟩) ?_; dsimp only [List.nil_append, List.cons_append]
    refine Walk.guardT rfl rfl rfl (fun _ => rfl) (by intro val w_ hR hp; exact op_index_nat (i := 0) T rfl rfl rfl rfl rfl rfl (by omega) ⟨Chg.refl _ _, rfl⟩) ?_; dsimp only [List.nil_append, List.cons_append]
    refine Walk.guardT rfl rfl rfl (fun _ => rfl) (by intro val w_ hR hp; exact op_load T rfl rfl rfl rfl (hR.cell0 (by assumption)) ⟨Chg.refl _ _, rfl⟩) ?_; dsimp only [List.nil_append, List.cons_append]
    refine Walk.guardT rfl rfl rfl (fun _ => rfl) (by intro val w_ hR hp; exact op_move rfl rfl ⟨Chg.refl _ _, rfl⟩) ?_; dsimp only [List.nil_append, List.cons_append]
    refine Walk.guardT rfl rfl rfl (fun _ => rfl) (by intro val w_ hR hp; exact op_move rfl rfl ⟨Chg.refl _ _, rfl⟩) ?_; dsimp only [List.nil_append, List.cons_append]
    refine Walk.guardT rfl rfl rfl (fun _ => rfl) (by intro val w_ hR hp; exact op_mul rfl rfl rfl (wrap_i64_in (by omega) (by omega)) ⟨Chg.refl _ _, rfl⟩) ?_; dsimp only [List.nil_append, List.cons_append]
    refine Walk.guardT (v := .pointer (some (adf.add (3 * i)))) rfl rfl rfl (fun _ => rfl) (by intro val w_ hR hp; exact op_index_nat (i := 3 * i) T rfl rfl rfl rfl rfl rfl (by omega) ⟨Chg.refl _ _, rfl⟩) ?_; dsimp only [List.nil_append, List.cons_append]
    refine Walk.guardT rfl rfl rfl (fun _ => rfl) (by intro val w_ hR hp; exact op_load T rfl rfl rfl rfl (hR.cell0 (by assumption)) ⟨Chg.refl _ _, rfl⟩) ?_; dsimp only [List.nil_append, List.cons_append]
    refine Walk.guardT rfl rfl rfl (fun _ => rfl) (by intro val w_ hR hp; exact op_neq rfl rfl rfl (fun hcmp => False.elim (by omega)) (fun hcmp => ⟨Chg.refl _ _, rfl⟩)) ?_; dsimp only [List.nil_append, List.cons_append]
    refine Walk.plain rfl (by intro val w_ hR hp; exact op_pick rfl rfl rfl rfl ⟨Chg.refl _ _, rfl⟩) ?_; dsimp only [List.nil_append, List.cons_append]
    refine Walk.plain rfl (by intro val w_ hR hp; exact op_move rfl rfl ⟨Chg.refl _ _, rfl⟩) ?_; dsimp only [List.nil_append, List.cons_append]
    refine Walk.guardT rfl rfl rfl (fun _ => rfl) (by intro val w_ hR hp; exact op_move rfl rfl ⟨Chg.refl _ _, rfl⟩) ?_; dsimp only [List.nil_append, List.cons_append]
    refine Walk.guardT rfl rfl rfl (fun _ => rfl) (by intro val w_ hR hp; exact op_move rfl rfl ⟨Chg.refl _ _, rfl⟩) ?_; dsimp only [List.nil_append, List.cons_append]
    refine Walk.guardT rfl rfl rfl (fun _ => rfl) (by intro val w_ hR hp; exact op_index_nat T rfl rfl rfl rfl rfl rfl (by omega) ⟨Chg.refl _ _, rfl⟩) ?_; dsimp only [List.nil_append, List.cons_append]
    refine Walk.guardT rfl rfl rfl (fun _ => rfl) (by intro val w_ hR hp; exact op_load T rfl rfl rfl rfl (hR.cell0 (by assumption)) ⟨Chg.refl _ _, rfl⟩) ?_; dsimp only [List.nil_append, List.cons_append]
    refine Walk.guardT rfl rfl rfl (fun _ => rfl) (by intro val w_ hR hp; exact op_index_nat (i := 1) T rfl rfl rfl rfl rfl rfl (by omega) ⟨Chg.refl _ _, rfl⟩) ?_; dsimp only [List.nil_append, List.cons_append]
    refine Walk.guardT rfl rfl rfl (fun _ => rfl) (by intro val w_ hR hp; exact op_load T rfl rfl rfl rfl (hR.cell0 (by assumption)) ⟨Chg.refl _ _, rfl⟩) ?_; dsimp only [List.nil_append, List.cons_append]
    refine Walk.guardT rfl rfl rfl (fun _ => rfl) (by intro val w_ hR hp; exact op_move rfl rfl ⟨Chg.refl _ _, rfl⟩) ?_; dsimp only [List.nil_append, List.cons_append]
    refine Walk.guardT rfl rfl rfl (fun _ => rfl) (by intro val w_ hR hp; exact op_move rfl rfl ⟨Chg.refl _ _, rfl⟩) ?_; dsimp only [List.nil_append, List.cons_append]
    refine Walk.guardT rfl rfl rfl (fun _ => rfl) (by intro val w_ hR hp; exact op_mul rfl rfl rfl (wrap_i64_in (by omega) (by omega)) ⟨Chg.refl _ _, rfl⟩) ?_; dsimp only [List.nil_append, List.cons_append]
    refine Walk.guardT rfl rfl rfl (fun _ => rfl) (by intro val w_ hR hp; exact op_add rfl rfl rfl (wrap_i64_in (by omega) (by omega)) ⟨Chg.refl _ _, rfl⟩) ?_; dsimp only [List.nil_append, List.cons_append]
    refine Walk.guardT (v := .pointer (some (adf.add (3 * i + 1)))) rfl rfl rfl (fun _ => rfl) (by intro val w_ hR hp; exact op_index_nat (i := 3 * i + 1) T rfl rfl rfl rfl rfl rfl (by omega) ⟨Chg.refl _ _, rfl⟩) ?_; dsimp only [List.nil_append, List.cons_append]
    refine Walk.guardT rfl rfl rfl (fun _ => rfl) (by intro val w_ hR hp; exact op_load T rfl rfl rfl rfl (hR.cell0 (by assumption)) ⟨Chg.refl _ _, rfl⟩) ?_; dsimp only [List.nil_append, List.cons_append]
    refine Walk.guardT rfl rfl rfl (fun _ => rfl) (by intro val w_ hR hp; exact op_neq rfl rfl rfl (fun hcmp => False.elim (by omega)) (fun hcmp => ⟨Chg.refl _ _, rfl⟩)) ?_; dsimp only [List.nil_append, List.cons_append]
    refine Walk.plain rfl (by intro val w_ hR hp; exact op_pick rfl rfl rfl rfl ⟨Chg.refl _ _, rfl⟩) ?_; dsimp only [List.nil_append, List.cons_append]
    refine Walk.plain rfl (by intro val w_ hR hp; exact op_move rfl rfl ⟨Chg.refl _ _, rfl⟩) ?_; dsimp only [List.nil_append, List.cons_append]
    refine Walk.guardT rfl rfl rfl (fun _ => rfl) (by intro val w_ hR hp; exact op_move rfl rfl ⟨Chg.refl _ _, rfl⟩) ?_; dsimp only [List.nil_append, List.cons_append]
    refine Walk.guardT rfl rfl rfl (fun _ => rfl) (by intro val w_ hR hp; exact op_move rfl rfl ⟨Chg.refl _ _, rfl⟩) ?_; dsimp only [List.nil_append, List.cons_append]
    refine Walk.guardT rfl rfl rfl (fun _ => rfl) (by intro val w_ hR hp; exact op_index_nat T rfl rfl rfl rfl rfl rfl (by omega) ⟨Chg.refl _ _, rfl⟩) ?_; dsimp only [List.nil_append, List.cons_append]
    refine Walk.guardT rfl rfl rfl (fun _ => rfl) (by intro val w_ hR hp; exact op_load T rfl rfl rfl rfl (hR.cell0 (by assumption)) ⟨Chg.refl _ _, rfl⟩) ?_; dsimp only [List.nil_append, List.cons_append]
    refine Walk.guardT rfl rfl rfl (fun _ => rfl) (by intro val w_ hR hp; exact op_index_nat (i := 2) T rfl rfl rfl rfl rfl rfl (by omega) ⟨Chg.refl _ _, rfl⟩) ?_; dsimp only [List.nil_append, List.cons_append]
    refine Walk.guardT rfl rfl rfl (fun _ => rfl) (by intro val w_ hR hp; exact op_load T rfl rfl rfl rfl (hR.cell0 (by assumption)) ⟨Chg.refl _ _, rfl⟩) ?_; dsimp only [List.nil_append, List.cons_append]
    refine Walk.guardT rfl rfl rfl (fun _ => rfl) (by intro val w_ hR hp; exact op_move rfl rfl ⟨Chg.refl _ _, rfl⟩) ?_; dsimp only [List.nil_append, List.cons_append]
    refine Walk.guardT rfl rfl rfl (fun _ => rfl) (by intro val w_ hR hp; exact op_move rfl rfl ⟨Chg.refl _ _, rfl⟩) ?_; dsimp only [List.nil_append, List.cons_append]
    refine Walk.guardT rfl rfl rfl (fun _ => rfl) (by intro val w_ hR hp; exact op_mul rfl rfl rfl (wrap_i64_in (by omega) (by omega)) ⟨Chg.refl _ _, rfl⟩) ?_; dsimp only [List.nil_append, List.cons_append]
    refine Walk.guardT rfl rfl rfl (fun _ => rfl) (by intro val w_ hR hp; exact op_add rfl rfl rfl (wrap_i64_in (by omega) (by omega)) ⟨Chg.refl _ _, rfl⟩) ?_; dsimp only [List.nil_append, List.cons_append]
    refine Walk.guardT rfl rfl rfl (fun _ => rfl) (by intro val w_ hR hp; exact op_index_nat T rfl rfl rfl rfl rfl rfl (by omega) ⟨Chg.refl _ _, rfl⟩) ?_; dsimp only [List.nil_append, List.cons_append]
    refine Walk.guardT rfl rfl rfl (fun _ => rfl) (by intro val w_ hR hp; exact op_load T rfl rfl rfl rfl (hR.cell0 (by assumption)) ⟨Chg.refl _ _, rfl⟩) ?_; dsimp only [List.nil_append, List.cons_append]
    refine Walk.fin ?_
    intro val w6 hc6 hp
    clear hp
    replace hc5 := hc5.trans' hc6
    replace hcg := hc6.cell0 hcg
    replace hFr4 := SliceOf.kept Ri64.kept _ _ _ _ hc6 hFr4
    replace hb0 := hc6.cell0 hb0
    replace hf0 := hc6.cell0 hf0
    replace hb1 := hc6.cell0 hb1
    replace hf1 := hc6.cell0 hf1
    replace hb2 := hc6.cell0 hb2
    replace hf2 := hc6.cell0 hf2
    refine runL ?_
    refine neF rfl rfl rfl rfl (by omega) ?_
    refine go T 9 rfl ?_
    refine adI rfl rfl rfl rfl (by omega) (by omega) ?_
    refine go T 2 rfl ?_
    exact Round_n (i + 1) ⟨rfl, rfl, rfl, trivial⟩ ⟨by omega, hc5⟩ (by omega)
  · refine go T 5 rfl ?_
    refine rndX ?_
    refine go T 8 rfl ?_
    exact post1 (.inl rfl) rfl rfl ⟨hc1.trans' (hc14.trans' hc5), rfl⟩
end Go.Proofs.YtiadjkjlifnopaaGreatDoor.Tryz
/-! From a law's walk to its row: arguments opened by their types' shape; arguments stay; the contract. -/
set_option linter.unusedVariables false
set_option linter.unusedSimpArgs false
namespace Go.Vc
open Go Go.RowKit Go.ChangeShapes Go.WideShapes Go.ChangeAt

/-- A reading of one cell at type t gives some a with R. -/
def Opens (P : Program) (t : TypeId) {α : Type} (R : World → Value → α → Prop) : Prop :=
  ∀ {H : Type} (enc : TypeId × Value → H) (w : World) (base : Nat) (spare : Nat → Bool) (held : Bool) (fuel : Nat) (cs : List Value) (x : DataW H × List MemPlace),
    DataW.trod enc P w base spare held fuel t cs = some x → ∃ u a, cs = [u] ∧ R w u a

theorem list_of {α : Type} {p : Nat → α → Prop} : ∀ n, (∀ i, i < n → ∃ a, p i a) → ∃ L : List α, L.length = n ∧ ∀ i a, L[i]? = some a → p i a
  | 0, _ => ⟨[], rfl, fun i a h => by simp at h⟩
  | n + 1, h => by
    obtain ⟨L, hl, hp⟩ := list_of n (fun i hi => h i (by omega))
    obtain ⟨a, ha⟩ := h n (by omega)
    refine ⟨L ++ [a], by simp [hl], fun i b hb => ?_⟩
    by_cases hi : i < L.length
    · rw [List.getElem?_append_left hi] at hb; exact hp i b hb
    · have : i = L.length := by have := (List.getElem?_eq_some_iff.1 hb).1; simp at this; omega
      subst this
      rw [List.getElem?_append_right (Nat.le_refl _)] at hb
      simp at hb; subst hb; rw [hl]; exact ha

theorem Opens.slice {P : Program} {t e : TypeId} {α : Type} {R : World → Value → α → Prop} (ht : P.underlying t = some (.slice e)) (hc : P.cellsOf e = 1) (hR : Opens P e R) : Opens P t (SliceOf R) := by
  intro H enc w base spare held fuel cs x h
  rcases Go.Deep.open_slice1 ht hc h with ⟨rfl, _⟩ | ⟨a, len, cap, m, n, V, D, Pl, rfl, hb, hl, hm, hmm, _, hx⟩
  · exact ⟨_, [], rfl, SliceOf.nil _ _⟩
  · have hlm : len ≤ m := by rw [hmm]; split <;> omega
    obtain ⟨L, hlen, hL⟩ := list_of (p := fun i a' => R w (V i) a') len (fun i hi => by
      obtain ⟨_, htr⟩ := hx i (by omega)
      obtain ⟨u, a', hu, hr⟩ := hR enc w base spare held n _ _ htr
      injection hu with hu _
      subst hu
      exact ⟨a', hr⟩)
    refine ⟨_, L, rfl, SliceOf.mk hlen.symm (by omega) hm fun i a' ha => ?_⟩
    have hi : i < len := by have := (List.getElem?_eq_some_iff.1 ha).1; omega
    exact ⟨a, V i, rfl, (hx i (by omega)).1, hL i a' ha⟩

theorem Opens.u8 {P : Program} {t : TypeId} (ht : P.underlying t = some (.int .u8)) : Opens P t Ru8 := by
  intro H enc w base spare held fuel cs x h
  obtain ⟨n, rfl, _, hw⟩ := DataW.trod_int ht h
  have hb : 0 ≤ n ∧ n ≤ 255 := by simp [Lit.wf, IntKind.min, IntKind.max, IntKind.signed, IntKind.bits] at hw; omega
  refine ⟨_, UInt8.ofNat n.toNat, rfl, ?_⟩
  unfold Ru8
  have : ((UInt8.ofNat n.toNat).toNat : Int) = n := by
    rw [UInt8.toNat_ofNat']; omega
  rw [this]
theorem Opens.i64 {P : Program} {t : TypeId} (ht : P.underlying t = some (.int .i64)) : Opens P t Ri64 := by
  intro H enc w base spare held fuel cs x h
  obtain ⟨n, rfl, _, hw⟩ := DataW.trod_int ht h
  have hb : -9223372036854775808 ≤ n ∧ n ≤ 9223372036854775807 := by simp [Lit.wf, IntKind.min, IntKind.max, IntKind.signed, IntKind.bits] at hw; omega
  exact ⟨_, n, rfl, rfl, hb.1, hb.2⟩
theorem Opens.bool {P : Program} {t : TypeId} (ht : P.underlying t = some .bool) : Opens P t Rbool := by
  intro H enc w base spare held fuel cs x h
  obtain ⟨b, rfl, _⟩ := DataW.trod_bool ht h
  exact ⟨_, b, rfl, rfl⟩
theorem Opens.str {P : Program} {t : TypeId} (ht : P.underlying t = some .string) : Opens P t Rstr := by
  intro H enc w base spare held fuel cs x h
  obtain ⟨s, rfl, _, hs⟩ := DataW.trod_string ht h
  exact ⟨_, s, rfl, rfl, hs⟩

/-- An argument, opened. -/
theorem Opens.arg {P : Program} {t : TypeId} {α : Type} {R : World → Value → α → Prop} (h : Opens P t R) {w : World} {r : Reach} {base : Nat} {v : Value} {H : Type} {enc : TypeId × Value → H} {sp : Nat → Bool} {held : Bool} {d : DataW H} {ps : List MemPlace} {b0 : Nat}
    (hd : P.underlying t = some .bool ∨ P.underlying t = some .string ∨ (∃ k, P.underlying t = some (.int k)) ∨ ∃ e, P.underlying t = some (.slice e))
    (hval : Value.okWide P w r base t v) (ht : DataW.Trod enc P w b0 sp held t v d ps) : ∃ a, R w v a := by
  obtain ⟨fuel, hf⟩ := ht
  obtain ⟨u, a, hu, hr⟩ := h enc w b0 sp held fuel _ _ hf
  have hv : v.cells = #[v] := by
    rcases hd with hd | hd | ⟨k, hd⟩ | ⟨e, hd⟩
    · obtain ⟨b, rfl⟩ := okWide_bool hd hval; rfl
    · obtain ⟨b, rfl⟩ := okWide_string hd hval; rfl
    · obtain ⟨b, rfl⟩ := okWide_int hd hval; rfl
    · obtain ⟨a, l, c, rfl⟩ := okWide_slice hd hval; rfl
  rw [hv] at hu
  simp at hu
  subst hu
  exact ⟨a, hr⟩

theorem args_stay {H : Type} {enc : TypeId × Value → H} {P : Program} (hl : laidOutB P = true) {W W' : World} (hb : Below W.heap.size W W') :
    ∀ (ts : List TypeId) (vs : List Value) (ds : List (DataW H)) (ps : List MemPlace), (∀ t ∈ ts, P.readableRec t = true ∧ t < P.types.size) → DataW.TrodAll enc P W 0 (fun _ => true) true ts vs ds ps → (∀ x ∈ ps, x.block < W.heap.size) →
      DataW.TrodAll enc P W' 0 (fun b => decide (b < W.heap.size)) true ts vs ds ps
  | [], vs, ds, ps, _, h, _ => by
    obtain ⟨rfl, rfl, rfl⟩ := trodAll_nil h
    exact trodAll_mk0
  | t :: ts, vs, ds, ps, ht, h, hlt => by
    obtain ⟨v, vs', d, ds', p, q, rfl, rfl, rfl, h0, r0⟩ := trodAll_cons h
    exact trodAll_cons_mk (Below.trod hl (ht t (by simp)).1 (ht t (by simp)).2 h0 hb (fun x hx => hlt x (by simp [hx])))
      (args_stay hl hb ts vs' ds' q (fun t' h' => ht t' (by simp [h'])) r0 (fun x hx => hlt x (by simp [hx])))

end Go.Vc
/-! Arguments that are slices of structs, opened. -/
set_option linter.unusedVariables false
set_option linter.unusedSimpArgs false
namespace Go.Vc
open Go Go.RowKit Go.ChangeShapes Go.WideShapes Go.ChangeAt
/-- A reading at type t, of k cells, gives some a with R. -/
def OpensK (P : Program) (t : TypeId) (k : Nat) {α : Type} (R : World → List Value → α → Prop) : Prop :=
  ∀ {H : Type} (enc : TypeId × Value → H) (w : World) (base : Nat) (spare : Nat → Bool) (held : Bool) (fuel : Nat) (cs : List Value) (x : DataW H × List MemPlace),
    DataW.trod enc P w base spare held fuel t cs = some x → ∃ a, cs.length = k ∧ R w cs a
theorem OpensK.slice {P : Program} {t e : TypeId} {k : Nat} {α : Type} {R : World → List Value → α → Prop} (ht : P.underlying t = some (.slice e)) (hc : P.cellsOf e = k) (hR : OpensK P e k R) : Opens P t (SliceK k R) := by
  intro H enc w base spare held fuel cs x h
  rcases Go.Deep.open_slice ht h with ⟨rfl, _⟩ | ⟨a, len, cap, m, n, D, Pl, rfl, hb, hl, hm, hmm, _, hx⟩
  · exact ⟨_, [], rfl, SliceK.nil _ _ _⟩
  · have hlm : len ≤ m := by rw [hmm]; split <;> omega
    obtain ⟨L, hlen, hL⟩ := list_of (p := fun i a' => ∃ cs', cs'.length = k ∧ (∀ j u, cs'[j]? = some u → w.cell? (a.add (i * k + j)) = some u) ∧ R w cs' a') len (fun i hi => by
      obtain ⟨cs', h1, htr⟩ := hx i (by omega)
      rw [hc] at h1
      obtain ⟨_, hl', hcell⟩ := World.cells?_some h1
      obtain ⟨a', _, hr⟩ := hR enc w base spare held n _ _ htr
      refine ⟨a', cs', hl', fun j u hu => ?_, hr⟩
      have hj : j < k := by have := (List.getElem?_eq_some_iff.1 hu).1; omega
      have := hcell j hj
      rw [add_of_add] at this
      rw [this]; exact hu)
    refine ⟨_, L, rfl, ?_⟩
    unfold SliceK
    refine ⟨some a, cap, by rw [hlen], by omega, hm, fun i a' ha => ?_⟩
    obtain ⟨cs', h1, h2, h3⟩ := hL i a' ha
    exact ⟨a, cs', rfl, h1, h2, h3⟩
/-- A field of a struct. -/
theorem trod_field {H : Type} {enc : TypeId × Value → H} {P : Program} {w : World} {base : Nat} {spare : Nat → Bool} {held : Bool} {fuel : Nat} {t : TypeId} {cs : List Value} {x : DataW H × List MemPlace} {fs : Array Field} (ht : P.underlying t = some (.struct fs))
    (h : DataW.trod enc P w base spare held fuel t cs = some x) : cs.length = P.cellsOf t ∧ ∃ n, ∀ (i : Nat) (f : Field), fs[i]? = some f → ∃ y, DataW.trod enc P w base spare held n f.type ((cs.drop f.offset).take (P.cellsOf f.type)) = some y := by
  obtain ⟨xs, n, _, _, h1, h2, h3⟩ := DataW.trod_struct ht h
  refine ⟨h1, n, fun i f hf => ?_⟩
  have hi := (Array.getElem?_eq_some_iff.1 hf).1
  rw [h3 i f hf]
  exact ⟨_, List.getElem?_eq_getElem (by omega)⟩
end Go.Vc
/-! Segments that come in. -/
set_option linter.unusedVariables false
set_option linter.unusedSimpArgs false
namespace Go.Vc
open Go Go.RowKit Go.ChangeShapes Go.WideShapes Go.ChangeAt
def Ru32 (_ : World) (v : Value) (n : Nat) : Prop := v = .int .u32 (n : Int)
theorem Opens.u32 {P : Program} {t : TypeId} (ht : P.underlying t = some (.int .u32)) : Opens P t Ru32 := by
  intro H enc w base spare held fuel cs x h
  obtain ⟨n, rfl, _, hw⟩ := DataW.trod_int ht h
  have hb : 0 ≤ n ∧ n ≤ 4294967295 := by simp [Lit.wf, IntKind.min, IntKind.max, IntKind.signed, IntKind.bits] at hw; omega
  refine ⟨_, n.toNat, rfl, ?_⟩
  unfold Ru32
  rw [Int.toNat_of_nonneg hb.1]
end Go.Vc
namespace Go.Proofs.YtiadjkjlifnopaaGreatDoor.Tryz
open Go Go.Vc Go.RowKit Go.ChangeShapes Go.WideShapes Go.ChangeAt
set_option maxRecDepth 100000 in
theorem segOpens : OpensK Go.Proofs.Tryz.prog 26 6 (RdL segL) := by
  intro H enc w base spare held fuel cs x h
  obtain ⟨hl, n, hf⟩ := trod_field Go.Proofs.Tryz.underlying26 h
  have hl : cs.length = 6 := hl.trans (by kernel_rfl)
  match cs, hl with
  | [c0, c1, c2, c3, c4, c5], _ =>
  obtain ⟨y0, h0⟩ := hf 0 _ rfl
  have h0 : DataW.trod enc Go.Proofs.Tryz.prog w base spare held n 2 (([c0, c1, c2, c3, c4, c5].drop 0).take (Go.Proofs.Tryz.prog.cellsOf 2)) = some y0 := h0
  rw [show Go.Proofs.Tryz.prog.cellsOf 2 = 1 from by kernel_rfl] at h0
  obtain ⟨u0, a0, e0, r0⟩ := (Opens.i64 Go.Proofs.Tryz.underlying2 : Opens Go.Proofs.Tryz.prog 2 _) enc w base spare held n _ _ h0
  obtain rfl : c0 = u0 := by have e0 : [c0] = [u0] := e0; injection e0
  obtain ⟨y1, h1⟩ := hf 1 _ rfl
  have h1 : DataW.trod enc Go.Proofs.Tryz.prog w base spare held n 4 (([c0, c1, c2, c3, c4, c5].drop 1).take (Go.Proofs.Tryz.prog.cellsOf 4)) = some y1 := h1
  rw [show Go.Proofs.Tryz.prog.cellsOf 4 = 1 from by kernel_rfl] at h1
  obtain ⟨u1, a1, e1, r1⟩ := (Opens.bool Go.Proofs.Tryz.underlying4 : Opens Go.Proofs.Tryz.prog 4 _) enc w base spare held n _ _ h1
  obtain rfl : c1 = u1 := by have e1 : [c1] = [u1] := e1; injection e1
  obtain ⟨y2, h2⟩ := hf 2 _ rfl
  have h2 : DataW.trod enc Go.Proofs.Tryz.prog w base spare held n 2 (([c0, c1, c2, c3, c4, c5].drop 2).take (Go.Proofs.Tryz.prog.cellsOf 2)) = some y2 := h2
  rw [show Go.Proofs.Tryz.prog.cellsOf 2 = 1 from by kernel_rfl] at h2
  obtain ⟨u2, a2, e2, r2⟩ := (Opens.i64 Go.Proofs.Tryz.underlying2 : Opens Go.Proofs.Tryz.prog 2 _) enc w base spare held n _ _ h2
  obtain rfl : c2 = u2 := by have e2 : [c2] = [u2] := e2; injection e2
  obtain ⟨y3, h3⟩ := hf 3 _ rfl
  have h3 : DataW.trod enc Go.Proofs.Tryz.prog w base spare held n 3 (([c0, c1, c2, c3, c4, c5].drop 3).take (Go.Proofs.Tryz.prog.cellsOf 3)) = some y3 := h3
  rw [show Go.Proofs.Tryz.prog.cellsOf 3 = 1 from by kernel_rfl] at h3
  obtain ⟨u3, a3, e3, r3⟩ := (Opens.i64 Go.Proofs.Tryz.underlying3 : Opens Go.Proofs.Tryz.prog 3 _) enc w base spare held n _ _ h3
  obtain rfl : c3 = u3 := by have e3 : [c3] = [u3] := e3; injection e3
  obtain ⟨y4, h4⟩ := hf 4 _ rfl
  have h4 : DataW.trod enc Go.Proofs.Tryz.prog w base spare held n 3 (([c0, c1, c2, c3, c4, c5].drop 4).take (Go.Proofs.Tryz.prog.cellsOf 3)) = some y4 := h4
  rw [show Go.Proofs.Tryz.prog.cellsOf 3 = 1 from by kernel_rfl] at h4
  obtain ⟨u4, a4, e4, r4⟩ := (Opens.i64 Go.Proofs.Tryz.underlying3 : Opens Go.Proofs.Tryz.prog 3 _) enc w base spare held n _ _ h4
  obtain rfl : c4 = u4 := by have e4 : [c4] = [u4] := e4; injection e4
  obtain ⟨y5, h5⟩ := hf 5 _ rfl
  have h5 : DataW.trod enc Go.Proofs.Tryz.prog w base spare held n 24 (([c0, c1, c2, c3, c4, c5].drop 5).take (Go.Proofs.Tryz.prog.cellsOf 24)) = some y5 := h5
  rw [show Go.Proofs.Tryz.prog.cellsOf 24 = 1 from by kernel_rfl] at h5
  obtain ⟨u5, a5, e5, r5⟩ := ((Opens.u32 Go.Proofs.Tryz.underlying24) : Opens Go.Proofs.Tryz.prog 24 _) enc w base spare held n _ _ h5
  obtain rfl : c5 = u5 := by have e5 : [c5] = [u5] := e5; injection e5
  obtain ⟨rfl, _⟩ := r0; obtain rfl := r1; obtain ⟨rfl, _⟩ := r2; obtain ⟨rfl, _⟩ := r3; obtain ⟨rfl, _⟩ := r4; obtain rfl := r5; exact ⟨⟨a0, a1, a2, a3, a4, a5⟩, rfl, rfl⟩
end Go.Proofs.YtiadjkjlifnopaaGreatDoor.Tryz
/-! From a walk to a row whose list of laid variables is not empty. -/
set_option linter.unusedVariables false
namespace Go.Vc
open Go Go.ChangeShapes Go.WideShapes Go.ChangeAt Go.RowKit
theorem law_laid {C : Checked} {os : Os} {f : FuncId} {fn : Func} {s : ChangeSpec} {H : Type} {enc : TypeId × Value → H} {tb : TypeId} {L : List (String × DataW Unit)}
    (own : ownKnob C.prog.godebug = none) (laid : laidOutB C.prog = true) (started : os.Started) (noInit : C.prog.inits.idxOf? f = none) (hfn : C.prog.funcs[f]? = some fn)
    (hvars : s.vars = []) (hres : fn.resultTypes = #[tb]) (htb : C.prog.underlying tb = some .bool)
    (hparams : ∀ t ∈ fn.params.toList, C.prog.readableRec t = true ∧ t < C.prog.types.size)
    (hspec : ∀ ds : List (DataW H), ds.length = fn.params.size → s.fn H ds = { results := [.lit (.bool true)], args := ds })
    (witness : ∃ (w : World) (tape : Tape) (i : Input), w.os = os ∧ (w.forCall tape i).Shaped C.prog ∧ i.vars = [] ∧ Input.okWide C.prog (w.forCall tape i) .any w.heap.size f i ∧
      ((s.pre enc C.prog fn [] false (w.forCall tape i).memory i.args ∧ laidMetH C.prog L (w.forCall tape i).memory) ∧ sizedMet enc C.prog fn (OpenSpec.ofChange s) false (w.forCall tape i).memory i.args) ∧ ({} : Assume).holds C.prog (lone (Frame.enter C.prog f i.args .normal) [] (w.forCall tape i)))
    (walk : ∀ (W : World) (base : Nat) (args : Array Value) (ds : List (DataW H)) (ps : List MemPlace), (∀ (j : Nat) t v, fn.params[j]? = some t → args[j]? = some v → Value.okWide C.prog W .any base t v) →
      DataW.TrodAll enc C.prog W 0 (fun _ => true) true fn.params.toList args.toList ds ps → Calls C.prog f args W fun e W' => e = .returned (.bool true) ∧ Chg [] W W') :
    ReturnsInHanded {} C os f .any (fun w args => (s.pre enc C.prog fn [] false w args ∧ laidMetH C.prog L w) ∧ sizedMet enc C.prog fn (OpenSpec.ofChange s) false w args) (s.post enc C.prog fn false true false false) := by
  refine returnsInHanded_of_change_and (X := fun w _ => laidMetH C.prog L w) (fun _ _ _ hh h => h.of_heap hh) own started noInit hfn witness ?_
  intro W base args ds gs before hval hW _ _ _ _
  have hW' := hW
  obtain ⟨p, q, hA, hV, rfl, hfz, hnd⟩ := hW
  rw [hvars] at hV
  obtain ⟨rfl, rfl⟩ := trodVars_none hV
  refine (walk W base args ds p hval hA).mono fun e W' ⟨he, hc⟩ => ?_
  subst he
  have bel := hc.below
  have hlen : ds.length = fn.params.size := by
    have := trodAll_length hA
    have h2 := this.1; have h3 := this.2
    simp at h2 h3 ⊢
    omega
  have hsp := hspec ds hlen
  refine ⟨_, rfl, ds, [], p ++ [], [], p, [], hW', ?_, ?_, ?_, bel.frame _, fun h => by cases h⟩
  · rw [List.append_nil, hsp, hres]
    exact trodAll_mk1 (shut_bool htb _)
  · rw [List.append_nil, hsp]
    exact args_stay laid bel _ _ _ _ hparams hA (fun x hx => hW'.lt x (by simp [hx]))
  · rw [hvars, List.append_nil, hsp]; exact rfl
end Go.Vc
/- ScrubGroups: whatever the arguments that can be read as data, in whatever memory, the call returns true and leaves what was there as it was. No condition. -/
set_option linter.unusedVariables false
namespace Go.Proofs.YtiadjkjlifnopaaGreatDoor
open Go Go.Vc Go.ChangeShapes Go.WideShapes Go.ChangeAt Go.RowKit
theorem scrubGroups_own : ownKnob Go.Proofs.Tryz.prog.godebug = none := by kernel_rfl
theorem scrubGroups_laid : laidOutB Go.Proofs.Tryz.prog = true := by kernel_rfl
set_option maxRecDepth 100000 in
theorem scrubGroups_walk (W : World) (base : Nat) (args : Array Value) {H : Type} {enc : TypeId × Value → H} (ds : List (DataW H)) (ps : List MemPlace) (hval0 : ∀ (j : Nat) t v, Go.Proofs.Tryz.f3.params[j]? = some t → args[j]? = some v → Value.okWide Go.Proofs.Tryz.prog W .any base t v)
    (hA : DataW.TrodAll enc Go.Proofs.Tryz.prog W 0 (fun _ => true) true Go.Proofs.Tryz.f3.params.toList args.toList ds ps) : Calls Go.Proofs.Tryz.prog 3 args W fun e W' => e = .returned (.bool true) ∧ Chg [] W W' := by
  have hval := hval0
  rw [Go.Proofs.Tryz.params3] at hA hval
  obtain ⟨v0, vs0, d0, ds0, p0, q0, hargs, rfl, rfl, h0, r0⟩ := trodAll_cons hA
  obtain ⟨rfl, rfl, rfl⟩ := trodAll_nil r0
  obtain rfl : args = #[v0] := by cases args; simp_all
  obtain ⟨a0, x0⟩ := Opens.arg (OpensK.slice (k := 6) Go.Proofs.Tryz.underlying22 (by kernel_rfl : Go.Proofs.Tryz.prog.cellsOf 26 = 6) Tryz.segOpens) (.inr (.inr (.inr ⟨_, Go.Proofs.Tryz.underlying22⟩))) (hval 0 _ v0 rfl rfl) h0
  obtain ⟨A0, c0, rfl, _, _⟩ := x0.form
  refine (Tryz.scrubGroups_has A0 _ c0 a0 W x0).2.mono ?_
  rintro e W' ⟨v, rfl, hc, rfl⟩
  exact ⟨rfl, hc⟩
theorem scrubGroups_door (os : Os) (args : Array Value) : laidMetH Go.Proofs.Tryz.prog Rows.scrubGroupsRow.laid ((World.doorLaid Go.Proofs.Tryz.prog 400 os).forCall (fun _ _ => 0) ⟨#[], args, []⟩).memory :=
  laidMetH_of_parts3 (fuel := 8) (laidMet_of_run' 8 (by kernel_rfl) (by kernel_rfl)) (by kernel_rfl) (by kernel_rfl)
set_option maxRecDepth 100000 in
theorem scrubGroups_lifted (os : Os) (started : os.Started) (H : Type) (enc : TypeId × Value → H) :
    ReturnsInHanded {} Go.Proofs.Tryz.checked os 3 .any (fun w args => (Rows.scrubGroupsSpec.pre enc Go.Proofs.Tryz.prog Go.Proofs.Tryz.f3 [] false w args ∧ laidMetH Go.Proofs.Tryz.prog Rows.scrubGroupsRow.laid w) ∧ sizedMet enc Go.Proofs.Tryz.prog Go.Proofs.Tryz.f3 (OpenSpec.ofChange Rows.scrubGroupsSpec) false w args) (Rows.scrubGroupsSpec.post enc Go.Proofs.Tryz.prog Go.Proofs.Tryz.f3 false true false false) := by
  refine law_laid (C := Go.Proofs.Tryz.checked) (tb := 4) (L := Rows.scrubGroupsRow.laid) scrubGroups_own scrubGroups_laid started (by kernel_rfl) Go.Proofs.Tryz.func3 rfl rfl Go.Proofs.Tryz.underlying4 ?_ ?_
    (ChangeSpec.witness_shaped (enc := enc) (C := Go.Proofs.Tryz.checked) (os := os) (X := fun w _ => laidMetH Go.Proofs.Tryz.prog Rows.scrubGroupsRow.laid w) false (World.doorLaid Go.Proofs.Tryz.prog 400 os) #[.slice none 0 0] 8 rfl (World.shaped_of_RefB (by kernel_rfl) (by kernel_rfl)) (by kernel_rfl) (by kernel_rfl) (by kernel_rfl) (scrubGroups_door os _)) (fun W base args ds ps hval hA => scrubGroups_walk W base args ds ps hval hA)
  · intro t ht
    rw [Go.Proofs.Tryz.params3] at ht
    simp only [List.mem_cons, List.not_mem_nil, or_false] at ht
    subst ht
    all_goals exact ⟨by kernel_rfl, of_decide_eq_true (by kernel_rfl)⟩
  · intro ds hd
    rw [Go.Proofs.Tryz.params3] at hd
    match ds, hd with
    | [d0], _ => rfl
theorem scrubGroups_holds : Rows.ScrubGroupsSaid :=
  OpenClaim.holds_of_wide 3 Go.Proofs.Tryz.f3 rfl rfl rfl rfl rfl rfl rfl ⟨rfl, rfl, rfl, rfl, rfl⟩ rfl rfl rfl rfl rfl (by kernel_rfl) Go.Proofs.Tryz.func3 (by kernel_rfl)
    (of_decide_eq_true (by kernel_rfl)) (by unfold Func.isWrapper; first | (rw [if_pos (by decide +kernel)]; kernel_rfl) | (rw [if_neg (by decide +kernel)]; exact ⟨rfl, rfl⟩))
    (fun os started H enc _ => scrubGroups_lifted os started H enc)
theorem scrubGroups_card : Rows.ScrubGroupsCardSaid :=
  Claim7.holds_tied_plain_at .later [] [.data, .data, .data] true (true, "02b64a9935b2fbb4c7b399fd1a7305423e9169164337d0f06e6b342f00c016f9") true
    scrubGroups_holds (fun _ h => by cases h) (by kernel_rfl) (fun _ h => by cases h) scrubGroups_row_tie rfl ⟨rfl, rfl⟩ (by kernel_rfl) rfl
    (fun f fn hf hfn => by
      obtain rfl : f = 3 := Option.some.inj ((show Go.Proofs.Tryz.prog.funcNamed Rows.scrubGroupsRow.func = some 3 by kernel_rfl).symm.trans hf) |>.symm
      obtain rfl : fn = Go.Proofs.Tryz.f3 := (Option.some.inj (Go.Proofs.Tryz.func3.symm.trans hfn)).symm
      exact ⟨by kernel_rfl, fun j t ht => by
        rw [Go.Proofs.Tryz.params3] at ht
        have hall : (Go.Proofs.Tryz.f3.params.toList.all fun u => !Go.Proofs.Tryz.prog.wantsStandIn u) = true := by kernel_rfl
        have hm : t ∈ Go.Proofs.Tryz.f3.params.toList := by rw [Go.Proofs.Tryz.params3]; exact List.mem_of_getElem? (by simpa using ht)
        exact (show Go.Proofs.Tryz.prog.wantsStandIn t = false by simpa using List.all_eq_true.1 hall t hm)⟩)
    (by kernel_rfl)
#print axioms scrubGroups_card
end Go.Proofs.YtiadjkjlifnopaaGreatDoor
