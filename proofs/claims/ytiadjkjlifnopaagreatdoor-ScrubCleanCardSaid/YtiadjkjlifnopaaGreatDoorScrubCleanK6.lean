/- The walk of one law and the row that it ends in: whatever the arguments that can be read as data, the call returns true and leaves what was there as it was. No condition. -/
import Derived.Test.YtiadjkjlifnopaaGreatDoorScrubCleanK5
import Derived.Test.YtiadjkjlifnopaaGreatDoorScrubCleanK1
import Derived.Test.YtiadjkjlifnopaaGreatDoorRows
import Derived.ProofKit
import Derived.OpenShut
import Derived.ChangeOld
import Derived.ChangeCalls
import Derived.Deep.Slices
import Derived.LaidMore
import Derived.LaidLaws
import Derived.LaidHandle
import Derived.Stop.Joined
import Derived.Handed
import Derived.Test.YtiadjkjlifnopaaGreatDoorCards
import Derived.Test.YtiadjkjlifnopaaGreatDoorTie
import Derived.SevenTiedAt
/-! Scrub: begun. -/
set_option linter.unusedVariables false
namespace Go.Proofs.YtiadjkjlifnopaaGreatDoor.Tryz
open Go Go.Vc
theorem pok_pars {st : StM} (h : POk st.plain) : ∀ q ∈ st.pars, q.1.p.nums.length ≤ 1000000 ∧ q.1.p.sizes.length ≤ 1000000 := fun q hq => by
  have h1 := (h.pars q.1.p (List.mem_map.2 ⟨q, hq, rfl⟩)).1
  have h2 := h1.len3
  have h3 := h1.lens
  omega
theorem goQ_next (itm : Int → GItem) : ∀ (r : List (List Int)) (num : Nat) (q : PSt), q.next = (num : Int) → (goQ itm r num q).next = (num : Int) + r.length
  | [], num, q, h => by show q.next = _; rw [h]; simp
  | ns :: r, num, q, h => by
    rw [goQ, goQ_next itm r (num + 1) _ (by show (num : Int) + 1 = _; omega), List.length_cons]; omega
theorem goF_len (itm : Int → GItem) : ∀ (r : List (List Int)) (num : Nat), (∀ ns ∈ r, ∀ k ∈ ns, (itm k).b.length ≤ 300) → ∀ p ∈ goF itm r num, p.2.length ≤ 300
  | [], _, _, p, hp => by cases hp
  | ns :: r, num, h, p, hp => by
    rcases List.mem_cons.1 (show p ∈ _ :: _ from hp) with hp | hp
    · rw [hp]
      show (parity _).length ≤ _
      rw [parity_length]
      exact maxOf_le _ _ (fun b hb => by obtain ⟨it, h1, rfl⟩ := List.mem_map.1 hb; obtain ⟨k, hk, rfl⟩ := List.mem_map.1 h1; exact h ns (by simp) k hk)
    · exact goF_len itm r (num + 1) (fun ns' hn => h ns' (by simp [hn])) p hp
theorem madeI_len {B : List (List UInt8)} {G : List Bool} (hb : ∀ b ∈ B, b.length ≤ 300) (k : Int) : (madeI B G k).b.length ≤ 300 := by
  show ((B[(k - 1).toNat]?).getD []).length ≤ 300
  cases h : B[(k - 1).toNat]? with
  | none => exact Nat.zero_le _
  | some b => exact hb b (List.mem_of_getElem? h)
theorem made_bytes {B : List (List UInt8)} {G : List Bool} (hb : ∀ b ∈ B, b.length ≤ 300) (r : List (List Int)) (num : Nat) : ∀ p ∈ scF B G ++ goF (madeI B G) r num, p.2.length ≤ 4194304 := fun p hp => by
  rcases List.mem_append.1 hp with hp | hp
  · obtain ⟨j, hj⟩ := List.getElem?_of_mem hp
    obtain ⟨b', hb', rfl⟩ := scF_get hj
    have := hb b' (List.mem_of_getElem? hb')
    show b'.length ≤ _; omega
  · have := goF_len _ r num (fun _ _ k _ => madeI_len hb k) p hp; omega
def B23 : List (List UInt8) := [[1], [2, 3], [4]]
theorem grp23 : (groupsM (scSegs B23 [])).length = 1 := by
  have h : (sortI (freeN (scSegs B23 []))).length = 3 := (List.length_mergeSort _).trans rfl
  unfold groupsM
  generalize sortI (freeN (scSegs B23 [])) = l at *
  rw [chunk3_step (by omega), chunk3_end (by rw [List.length_drop]; omega)]
  rfl
set_option maxHeartbeats 4000000 in
theorem begun23_has (w : World) : Has Go.Proofs.Tryz.prog 10 #[] w (fun v w' => Chg [] w w' ∧ v = .bool true) := by
  refine enter Go.Proofs.Tryz.func10 rfl rfl (by decide) rfl (e := []) trivial ?_
  refine run ?_
  refine go T 7 rfl ?_
  refine o1 rfl ?_
  refine op_buildSlice T rfl rfl rfl rfl rfl rfl rfl (fun g1 w1 hs1 hc1 h1 => ?_)
  have h1 : Blk w1 g1 5 (u8s [1]) := h1
  refine o1 rfl ?_
  refine op_buildSlice T rfl rfl rfl rfl rfl rfl rfl (fun g2 w2 hs2 hc2 h2 => ?_)
  have h2 : Blk w2 g2 5 (u8s [2, 3]) := h2
  refine o1 rfl ?_
  refine op_buildSlice T rfl rfl rfl rfl rfl rfl rfl (fun g3 w3 hs3 hc3 h3 => ?_)
  have h3 : Blk w3 g3 5 (u8s [4]) := h3
  refine o1 rfl ?_
  refine op_buildSlice T rfl rfl rfl rfl rfl rfl rfl (fun g4 w4 hs4 hc4 h4 => ?_)
  have h4 : Blk w4 g4 51 [.slice (some ⟨g1, 0, none⟩) 1 1, .slice (some ⟨g2, 0, none⟩) 2 2, .slice (some ⟨g3, 0, none⟩) 1 1] := h4
  have r1 : SliceOf Ru8 w4 (.slice (some ⟨g1, 0, none⟩) 1 1) [1] := (Own.mk (((h1.keep0 hc2).keep0 hc3).keep0 hc4) (Nat.le_refl _) (by decide) rfl rfl : Own w4 5 1 _ [(1 : UInt8)].length (u8s [1])).bytes
  have r2 : SliceOf Ru8 w4 (.slice (some ⟨g2, 0, none⟩) 2 2) [2, 3] := (Own.mk ((h2.keep0 hc3).keep0 hc4) (Nat.le_refl _) (by decide) rfl rfl : Own w4 5 1 _ [(2 : UInt8), 3].length (u8s [2, 3])).bytes
  have r3 : SliceOf Ru8 w4 (.slice (some ⟨g3, 0, none⟩) 1 1) [4] := (Own.mk (h3.keep0 hc4) (Nat.le_refl _) (by decide) rfl rfl : Own w4 5 1 _ [(4 : UInt8)].length (u8s [4])).bytes
  have hf : SliceOf (SliceOf Ru8) w4 (.slice (some ⟨g4, 0, none⟩) 3 3) B23 := (Own.mk h4 (Nat.le_refl _) (by decide) rfl rfl : Own w4 51 1 (.slice (some ⟨g4, 0, none⟩) 3 3) 3 [.slice (some ⟨g1, 0, none⟩) 1 1, .slice (some ⟨g2, 0, none⟩) 2 2, .slice (some ⟨g3, 0, none⟩) 1 1]).reads rfl (fun i x u hx hu => by
    match i, hx, hu with
    | 0, hx, hu => injection hx with hx; injection hu with hu; subst hx; subst hu; exact r1
    | 1, hx, hu => injection hx with hx; injection hu with hu; subst hx; subst hu; exact r2
    | 2, hx, hu => injection hx with hx; injection hu with hu; subst hx; subst hu; exact r3
    | i + 3, hx, hu => simp [B23] at hx)
  have hc04 := ((hc1.trans' hc2).trans' hc3).trans' hc4
  refine o1 rfl ?_
  refine op_call rfl rfl rfl (made_has _ 3 3 B23 none 0 0 [] w4 hf (SliceOf.nil _ _)) ?_
  rintro _ w5 ⟨g, gm, vo, s, p, st, u, mb, rfl, x, hst, hF, hu, hmb, _⟩
  rw [show filesB B23 = B23 from rfl] at hst hF
  have hc05 := hc04.trans' x.fs.chg
  obtain ⟨hmk, s', u', mb', hall, hF', hu', hmb'⟩ := made_make (B := B23) (by decide) (by decide) hF hu hmb
  have hseg : st.segs = scSegs B23 [] := congrArg PSt.segs hst
  have hnx : st.next = 50 := congrArg PSt.next hst
  have hfb : ∀ p ∈ scF B23 [], p.2.length ≤ 4194304 := fun p hp => by
    obtain ⟨j, hj⟩ := List.getElem?_of_mem hp
    obtain ⟨b', hb', rfl⟩ := scF_get hj
    have : ∀ b ∈ B23, b.length ≤ 4194304 := by decide
    exact this _ (List.mem_of_getElem? hb')
  unfold ptrV
  refine go T 23 rfl ?_
  refine o1 rfl ?_
  refine op_call rfl rfl rfl (makeAll_has x (by rw [hst]; exact hF.ok) (by omega) (by rw [hst, hseg]; exact hmk) (hF.bytes (by omega) hfb) (fun y hy => ?_)) ?_
  · rw [hseg] at hy
    obtain ⟨h1, h2, h3, h4, h5⟩ := scSeg_mem (B := B23) (by decide) (by decide) hy
    exact ⟨by omega, by omega, by omega, by omega⟩
  rintro _ w6 ⟨hc6, s6, q6, n6, e6, p6, st6, cl6, hall6, rfl, hg6, hst6, hcl6, x6⟩
  rw [hst, hseg, hall] at hall6
  injection hall6 with a1 a2
  injection a2 with a2 a3
  injection a3 with a3 a4
  subst a1; subst a2; subst a3; subst a4
  obtain rfl := hcl6 rfl
  have hok6 : POk st6.plain := by rw [hst6]; exact hF'.ok
  have hsg6 : st6.segs = (goQ (madeI B23 []) (groupsM (scSegs B23 [])) 50 ⟨scSegs B23 [], [], 50, 1⟩).segs := congrArg PSt.segs hst6
  have hwS := goQ_segs (madeI B23 []) (F := scF B23 [] ++ goF (madeI B23 []) (groupsM (scSegs B23 [])) 50) (groupsM (scSegs B23 [])) 50 ⟨scSegs B23 [], [], 50, 1⟩ (fun y hy => by obtain ⟨b, h1, h2⟩ := scSegs_whole B23 [] y hy; exact ⟨b, List.mem_append.2 (.inl h1), h2⟩)
  have hwP := goQ_pars (madeI B23 []) (F := scF B23 [] ++ goF (madeI B23 []) (groupsM (scSegs B23 [])) 50) (groupsM (scSegs B23 [])) 50 ⟨scSegs B23 [], [], 50, 1⟩ (fun y hy => by cases hy) (fun p hp => List.mem_append.2 (.inr hp))
  obtain ⟨hl1, hl2⟩ := look_none hF' hwS hwP
  have hnd : ((scSegs B23 []).map numK).Nodup := by rw [scSegs_num]; exact range_nodup _
  have hgd := groups_done (madeI B23 []) (q := ⟨scSegs B23 [], [], 50, 1⟩) hnd (num := 50) (by decide)
  have hpl := goQ_pars_len (madeI B23 []) (groupsM (scSegs B23 [])) 50 ⟨scSegs B23 [], [], 50, 1⟩
  rw [grp23] at hpl
  have hnx6 : st6.next ≤ 100 := by
    have h7 := congrArg PSt.next hst6
    rw [goQ_next _ _ _ _ rfl, grp23] at h7
    have h8 : st6.plain.next = st6.next := rfl
    omega
  have hby := hF'.bytes (by omega) (made_bytes (by decide) _ _)
  have hc06 : Chg [] w w6 := hc05.trans hc6 (fun k hk hlt => by
    have hz := hc04.size
    rcases List.mem_cons.1 hk with hk | hk
    · have := x.fresh; omega
    · have := x.fs.fresh k hk; omega)
  rw [grp23]
  rw [← hst6] at hl2 hpl
  rw [← hsg6] at hl1
  have hgd6 : groupsM st6.segs = [] := by rw [hsg6]; exact hgd
  clear hgd hwS hwP hall hmk hF
  refine go T 11 rfl ?_
  refine o1 rfl ?_
  refine op_call rfl rfl rfl (look_has x6 hok6 hnx6 hby (pok_pars hok6)) ?_
  rintro _ w7 ⟨hc7, us, up, rfl, hus, hup, _, _⟩
  rw [hl1] at hus
  rw [hl2] at hup
  change Own w7 2 1 us 0 [] at hus
  change Own w7 2 1 up 0 [] at hup
  obtain ⟨Au, cu, rfl, _, _⟩ := hus.form
  obtain ⟨Ap, cp, rfl, _, _⟩ := hup.form
  have x7 := x6.keep0 hc7
  have hlen6 := hok6.ls
  have hlen7 := hok6.lp
  have hplen : st6.pars.length = 1 := by
    have h8 : st6.plain.pars.length = st6.pars.length := List.length_map _
    rw [← h8]; exact hpl
  refine go T 10 rfl ?_
  refine eqT rfl rfl rfl rfl (by omega) ?_
  refine go T 2 rfl ?_
  refine eqT rfl rfl rfl rfl (by omega) ?_
  refine go T 4 rfl ?_
  refine eqT rfl rfl rfl rfl (by omega) ?_
  refine go T 4 rfl ?_
  refine eqT rfl rfl rfl rfl (by omega) ?_
  refine go T 3 rfl ?_
  refine o1 rfl ?_
  refine op_call rfl rfl rfl (parsO_has x7 (by omega) (pok_pars hok6)) ?_
  rintro v8 w8 ⟨hc8, _, X, hX, hO, _⟩
  have hXl : X.length = 1 := by
    have h9 := congrArg List.length hX
    rw [List.length_map] at h9
    rw [h9]; exact hpl
  rw [hXl] at hO
  obtain ⟨Aq, cq, rfl, _, _⟩ := hO.form
  have x8 := x7.keep0 hc8
  refine go T 1 rfl ?_
  refine eqT rfl rfl rfl rfl (by omega) ?_
  refine go T 3 rfl ?_
  refine o1 rfl ?_
  refine op_call rfl rfl rfl (segsO_has x8 (Nat.le_trans (show st6.segs.length ≤ 60 from hlen6) (by decide))) ?_
  rintro v9 w9 ⟨hc9, hO9, _⟩
  have hS9 := hO9.readsK segL_len
  obtain ⟨As, cs, rfl, _, _⟩ := hS9.form
  refine o1 rfl ?_
  refine op_call rfl rfl rfl (groups_has As _ cs st6.segs w9 hS9 (Nat.le_trans (show st6.segs.length ≤ 60 from hlen6) (by decide)) (fun y hy => by have := (hok6.segs y hy).1.num; omega)) ?_
  rintro v10 w10 ⟨hc10, hG, _⟩
  rw [hgd6] at hG
  obtain ⟨Ag, cg, hv10, _, _⟩ := hG.reads.form
  have hv10 : v10 = .slice Ag 0 cg := hv10
  subst hv10
  refine go T 1 rfl ?_
  refine eqT rfl rfl rfl rfl (by omega) ?_
  refine go T 5 rfl ?_
  exact post1 (.inl rfl) rfl rfl ⟨(((hc06.trans' hc7).trans' hc8).trans' hc9).trans' hc10, rfl⟩
end Go.Proofs.YtiadjkjlifnopaaGreatDoor.Tryz
/-! Scrub: Repair where nothing is spoilt. -/
set_option linter.unusedVariables false
namespace Go.Proofs.YtiadjkjlifnopaaGreatDoor.Tryz
open Go Go.Vc
theorem indexI0_has (A : Option Addr) (c : Nat) (k : Int) (w : World) :
    Has Go.Proofs.Tryz.prog 85 #[.slice A 0 c, .int .i64 k] w (fun v w' => w' = w ∧ v = .int .i64 (-1)) := by
  refine enter Go.Proofs.Tryz.func85 rfl rfl (by decide) rfl (e := [(0, .slice A 0 c), (1, .int .i64 k)]) ⟨rfl, rfl, trivial⟩ ?_
  refine run ?_
  refine go T 14 rfl ?_
  refine W_loop (σ := Unit) (fun _ => [(0, .slice A 0 c), (1, .int .i64 k), (6, .slice A 0 c), (7, .int .i64 ((0 : Nat) : Int)), (8, .int .i64 0)])
    (fun _ w' => w' = w) (fun _ => 0) () ⟨rfl, rfl, rfl, rfl, rfl, trivial⟩ rfl ?_
  rintro _ w1 rfl
  refine run ?_
  refine go T 2 rfl ?_
  refine ltF rfl rfl rfl rfl (by omega) ?_
  refine go T 6 rfl ?_
  refine rndX ?_
  refine go T 8 rfl ?_
  exact post1 (.inl rfl) rfl rfl ⟨rfl, rfl⟩
theorem hasI0_has (A : Option Addr) (c : Nat) (k : Int) (w : World) :
    Has Go.Proofs.Tryz.prog 47 #[.slice A 0 c, .int .i64 k] w (fun v w' => w' = w ∧ v = .bool false) := by
  refine enter Go.Proofs.Tryz.func47 rfl rfl (by decide) rfl (e := [(0, .slice A 0 c), (1, .int .i64 k)]) ⟨rfl, rfl, trivial⟩ ?_
  refine run ?_
  refine go T 9 rfl ?_
  refine o1 rfl ?_
  refine op_call rfl rfl rfl (indexI0_has A c k w) ?_
  rintro _ w ⟨rfl, rfl⟩
  refine geF rfl rfl rfl rfl (by omega) ?_
  refine go T 4 rfl ?_
  exact post1 (.inl rfl) rfl rfl ⟨rfl, rfl⟩
theorem repC0_has (g8 : Nat) (A : Option Addr) (c : Nat) (k : Int) (w : World) (h8 : Blk w g8 27 [.slice A 0 c]) :
    Has Go.Proofs.Tryz.prog 49 #[.int .i64 k, ptrV g8] w (fun v w' => Chg [] w w' ∧ v = .bool false) := by
  refine enter Go.Proofs.Tryz.func49 rfl rfl (by decide) rfl (e := [(0, .int .i64 k), (1, ptrV g8)]) ⟨rfl, rfl, trivial⟩ ?_
  unfold ptrV
  refine run ?_
  refine go T 7 rfl ?_
  refine ldB T h8 rfl rfl rfl rfl rfl rfl ?_
  refine go T 1 rfl ?_
  refine o1 rfl ?_
  refine op_call rfl rfl rfl (hasI0_has A c k w) ?_
  rintro _ w ⟨rfl, rfl⟩
  refine go T 4 rfl ?_
  exact post1 (.inl rfl) rfl rfl ⟨Chg.refl _ _, rfl⟩
theorem any_false {α : Type} (L : List α) : L.any (fun _ => false) = false := by
  induction L with
  | nil => rfl
  | cons a l ih => simp
set_option maxHeartbeats 4000000 in
theorem repairNone_has {w0 w : World} {gm g : Nat} {s : FsM} {p : FsP} {st : StM} (x : ManO w0 w gm g s p st false) (hok : POk st.plain) (hnx : st.next ≤ 100) (hb : ∀ nm b, readM s nm = some b → b.length ≤ 4194304) (hpn : ∀ q ∈ st.pars, q.1.p.nums.length ≤ 1000000 ∧ q.1.p.sizes.length ≤ 1000000)
    (hl1 : lookS s st.segs = []) (hl2 : lookP s st.plain.pars = []) :
    Has Go.Proofs.Tryz.prog 16 #[ptrV g, .pointer (some ⟨gm, 0, none⟩)] w (fun v w' => Chg [] w w' ∧ v = .tuple #[.int .i64 0, .int .i64 0]) := by
  have hlen6 := hok.ls
  have hlen7 := hok.lp
  refine enter Go.Proofs.Tryz.func16 rfl rfl (by decide) rfl (e := [(0, ptrV g), (1, .pointer (some ⟨gm, 0, none⟩))]) ⟨rfl, rfl, trivial⟩ ?_
  refine run ?_
  refine go T 14 rfl ?_
  refine o1 rfl ?_
  refine op_call rfl rfl rfl (segsO_has x (Nat.le_trans (show st.segs.length ≤ 60 from hlen6) (by decide))) ?_
  rintro va w1 ⟨hc1, hO1, _⟩
  have x1 := x.keep0 hc1
  refine go T 7 rfl ?_
  refine o1 rfl ?_
  refine op_call rfl rfl rfl (look_has x1 hok hnx hb hpn) ?_
  rintro _ w2 ⟨hc2, us, up, rfl, hus, hup, _, _⟩
  rw [hl1] at hus
  rw [hl2] at hup
  change Own w2 2 1 us 0 [] at hus
  change Own w2 2 1 up 0 [] at hup
  obtain ⟨Au, cu, rfl, _, _⟩ := hus.form
  obtain ⟨Ap, cp, rfl, _, _⟩ := hup.form
  have x2 := x1.keep0 hc2
  clear hO1 hus hup
  refine go T 3 rfl ?_
  refine o1 rfl ?_
  refine op_alloc T rfl rfl (fun g8 w3 hs3 hc3 h8 => ?_)
  have hs3 : w2.heap.size ≤ g8 := hs3
  refine op0 rfl rfl ?_
  refine op_store T rfl rfl rfl rfl rfl rfl h8 (by exact Nat.le_of_ble_eq_true rfl) (fun w4 hc4 h8n _ => ?_)
  replace h8 : Blk w4 g8 27 [.slice Au 0 cu] := h8n
  have hc04 : Chg [] w w4 := ((hc1.trans' hc2).trans' hc3).trans hc4 (fun k hk hlt => by simp at hk; have := (hc1.trans' hc2).size; omega)
  have x4 := x.keep0 hc04
  clear h8n x1 x2 hc4 hc3
  refine go T 7 rfl ?_
  refine o1 rfl ?_
  refine op_call rfl rfl rfl (parsO_has x4 (by have h8 : st.plain.pars.length = st.pars.length := List.length_map _; omega) hpn) ?_
  rintro vb w5 ⟨hc5, _, X, hX, hO5, hXo⟩
  replace h8 := h8.keep0 hc5
  have x5 := x4.keep0 hc5
  have hc05 := hc04.trans' hc5
  have hXl : X.length ≤ 60 := by
    have h1 := congrArg List.length hX
    rw [List.length_map] at h1
    omega
  have hXn : ∀ q ∈ X, q.1.p.nums.length ≤ 1000000 := fun q hq => by
    have h1 : q.1.p ∈ st.plain.pars := by rw [← hX]; exact List.mem_map.2 ⟨q, hq, rfl⟩
    obtain ⟨q', hq', he⟩ := List.mem_map.1 (show q.1.p ∈ st.pars.map (·.1.p) from h1)
    rw [← he]
    exact (hpn q' hq').1
  have hQ5 := hO5.readsK parS_len
  obtain ⟨B, d, rfl, _, _⟩ := hQ5.form
  clear hX hO5 x4
  refine go T 5 rfl ?_
  refine W_loop (σ := Nat) (fun t => [(0, ptrV g), (1, .pointer (some ⟨gm, 0, none⟩)), (6, .int .i64 0), (7, va), (8, .pointer (some ⟨g8, 0, none⟩)), (9, .slice Ap 0 cp), (25, .slice B X.length d), (26, .int .i64 X.length), (27, .int .i64 (t : Int))])
    (fun t w' => t ≤ X.length ∧ Chg [] w5 w') (fun t => X.length - t) 0 ⟨rfl, rfl, rfl, rfl, rfl, rfl, rfl, rfl, rfl, trivial⟩ ⟨Nat.zero_le _, Chg.refl _ _⟩ ?_
  rintro i w6 ⟨hi, hc6⟩
  refine run ?_
  refine go T 2 rfl ?_
  refine ltS rfl rfl rfl rfl (fun hcmp => ?_) (fun hcmp => ?_)
  · have hlt : i < X.length := by omega
    have hx : X[i]? = some X[i] := List.getElem?_eq_getElem hlt
    have hym : X[i] ∈ X := List.getElem_mem hlt
    obtain ⟨ad, rfl, he⟩ := (hQ5.keepR hc6).at hx
    have hXm := (hXo _ hym).1
    generalize X[i] = q at *
    clear hx hym
    obtain ⟨⟨⟨gr, Ns, Zs, sz, sm⟩, vn, vz⟩, ho1, ho2⟩ := q
    have hns : SliceOf Ri64 w5 vn Ns := own_i64 hXm.nums hXm.numsI
    obtain ⟨An, cn, rfl, _, _⟩ := hns.form
    dsimp only at he ho1 ho2
    have hall : ([Value.int .i64 gr, .slice An Ns.length cn, vz, .int .i64 sz, .int .u32 (sm : Int)].all (·.oneCell')) = true := by
      simp only [List.all_cons, List.all_nil, ho1, ho2]; rfl
    refine go T 10 rfl ?_
    refine o1 rfl (op_indexK T rfl rfl rfl rfl rfl (by omega) ?_)
    refine o1 rfl (op_loadE T he rfl rfl rfl rfl rfl ?_)
    refine o1 rfl ?_
    refine op_alloc T rfl rfl (fun g9 w7 hs7 hc7 h9 => ?_)
    have hs7 : w6.heap.size ≤ g9 := hs7
    refine op0 rfl rfl ?_
    refine op_store_agg T rfl rfl rfl rfl rfl hall h9 (by exact Nat.le_of_ble_eq_true rfl) (fun w8 hc8 h9n _ => ?_)
    replace h9 : Blk w8 g9 70 [.int .i64 gr, .slice An Ns.length cn, vz, .int .i64 sz, .int .u32 (sm : Int)] := h9n
    clear h9n he hall
    have hc68 : Chg [] w6 w8 := hc7.trans hc8 (fun k hk hlt => by simp at hk; omega)
    have hc58 := hc6.trans' hc68
    have h88 := h8.keep0 hc58
    refine go T 7 rfl ?_
    refine ldB T h9 rfl rfl rfl rfl rfl rfl ?_
    refine o1 rfl ?_
    refine op_call rfl rfl rfl (hasI0_has Ap cp gr w8) ?_
    rintro _ w9 ⟨rfl, rfl⟩
    refine go T 3 rfl ?_
    refine ldB T h9 rfl rfl rfl rfl rfl rfl ?_
    refine o1 rfl ?_
    refine op_makeFunc (fv := #[]) (cv := #[ptrV g8]) rfl rfl rfl ?_
    refine o1 rfl ?_
    refine op_call rfl rfl rfl (hasJ_has An _ cn Ns _ _ (fun _ => false) (SliceOf.kept Ri64.kept _ _ _ _ hc58 hns) (fun wq k hq _ => repC0_has g8 Au cu k wq (h88.keep0 hq))) ?_
    rintro _ wa ⟨hca, rfl⟩
    rw [any_false]
    refine go T 10 rfl ?_
    refine adI rfl rfl rfl rfl (by omega) (by omega) ?_
    refine go T 2 rfl ?_
    exact Round_n (i + 1) ⟨rfl, rfl, rfl, rfl, rfl, rfl, rfl, rfl, rfl, trivial⟩ ⟨by omega, hc58.trans' hca⟩ (by omega)
  · obtain rfl : i = X.length := by omega
    have x6 := x5.keep0 hc6
    replace h8 := h8.keep0 hc6
    refine go T 6 rfl ?_
    refine rndX ?_
    refine go T 7 rfl ?_
    refine o1 rfl ?_
    refine op_call rfl rfl rfl (look_has x6 hok hnx hb hpn) ?_
    rintro _ w7 ⟨hc7, us2, up2, rfl, hus2, hup2, _, _⟩
    rw [hl1] at hus2
    rw [hl2] at hup2
    change Own w7 2 1 us2 0 [] at hus2
    change Own w7 2 1 up2 0 [] at hup2
    obtain ⟨Av, cv, rfl, _, _⟩ := hus2.form
    obtain ⟨Aw, cw, rfl, _, _⟩ := hup2.form
    replace h8 := h8.keep0 hc7
    have hc07 := (hc05.trans' hc6).trans' hc7
    have hz := (hc1.trans' hc2).size
    clear hus2 hup2
    refine go T 3 rfl ?_
    refine op0 rfl rfl ?_
    refine op_store T rfl rfl rfl rfl rfl rfl h8 (by exact Nat.le_of_ble_eq_true rfl) (fun w8 hc8 h8n _ => ?_)
    replace h8 : Blk w8 g8 27 [.slice Av 0 cv] := h8n
    clear h8n
    have hc08 : Chg [] w w8 := hc07.trans hc8 (fun k hk hlt => by simp at hk; omega)
    refine go T 5 rfl ?_
    refine ldB T h8 rfl rfl rfl rfl rfl rfl ?_
    refine go T 3 rfl ?_
    refine adI rfl rfl rfl rfl (by omega) (by omega) ?_
    refine gtF rfl rfl rfl rfl (by omega) ?_
    refine go T 13 rfl ?_
    exact post2 (.inl rfl) rfl rfl rfl ⟨hc08, rfl⟩
end Go.Proofs.YtiadjkjlifnopaaGreatDoor.Tryz
/-! Scrub: groups by threes, in plain words. -/
set_option linter.unusedVariables false
namespace Go.Vc
open Go
theorem chunk3_count : ∀ (n : Nat) (l : List Int), l.length ≤ n → (chunk3 l).length = l.length / 3
  | 0, l, h => by rw [chunk3_end (by omega), List.length_nil]; omega
  | n + 1, l, h => by
    by_cases hl : 3 ≤ l.length
    · rw [chunk3_step hl, List.length_cons, chunk3_count n (l.drop 3) (by rw [List.length_drop]; omega), List.length_drop]; omega
    · rw [chunk3_end hl, List.length_nil]; omega
end Go.Vc
/-! Scrub: the law ScrubClean. -/
set_option linter.unusedVariables false
namespace Go.Vc
open Go
theorem filter_true {α : Type} {p : α → Bool} : ∀ {l : List α}, (∀ x ∈ l, p x = true) → l.filter p = l
  | [], _ => rfl
  | a :: l, h => by rw [List.filter_cons, if_pos (h a (by simp)), filter_true fun x hx => h x (by simp [hx])]
theorem sc_groups (B : List (List UInt8)) : (groupsM (scSegs B [])).length = B.length / 3 := by
  have h1 : (freeN (scSegs B [])).length = B.length := by
    unfold freeN
    rw [List.length_map, filter_true (fun y hy => by
      obtain ⟨i, hi⟩ := List.getElem?_of_mem hy
      obtain ⟨b, _, rfl⟩ := scSegs_get hi
      rfl)]
    exact scSegs_len B []
  unfold groupsM
  rw [chunk3_count _ _ (Nat.le_refl _)]
  unfold sortI
  rw [List.length_mergeSort, h1]
end Go.Vc
namespace Go.Proofs.YtiadjkjlifnopaaGreatDoor.Tryz
open Go Go.Vc
set_option maxHeartbeats 8000000 in
theorem scrubClean_has (A : Option Addr) (n c : Nat) (files : List (List UInt8)) (w : World) (hf : SliceOf (SliceOf Ru8) w (.slice A n c) files) : Has Go.Proofs.Tryz.prog 4 #[.slice A n c] w (fun v w' => Chg [] w w' ∧ v = .bool true) := by
  obtain ⟨rfl, hl1, hl2⟩ := hf.len
  unfold maxLen at hl2
  refine enter Go.Proofs.Tryz.func4 rfl rfl (by decide) rfl (e := [(0, .slice A files.length c)]) ⟨rfl, trivial⟩ ?_
  refine run ?_
  refine go T 7 rfl ?_
  refine o1 rfl ?_
  refine op_call rfl rfl rfl (begun23_has w) ?_
  rintro _ w4 ⟨hc04, rfl⟩
  replace hf := SliceOf.kept (SliceOf.kept Ru8.kept) _ _ _ _ hc04 hf
  refine go T 16 rfl ?_
  refine o1 rfl ?_
  refine op_call rfl rfl rfl (made_has A _ c files none 0 0 [] w4 hf (SliceOf.nil _ _)) ?_
  rintro _ w5 ⟨g, gm, vo, s, p, st, u, mb, rfl, x, hst, hF, hu, hmb, _⟩
  have hBl : (filesB files).length ≤ 12 := by rw [filesB_len]; omega
  have hBn := filesB_len files
  have hBb : ∀ b ∈ filesB files, b.length ≤ 300 := fun b hb => filesB_le hb
  generalize filesB files = B at *
  have hc05 := hc04.trans' x.fs.chg
  obtain ⟨hmk, s', u', mb', hall, hF', hu', hmb'⟩ := made_make (B := B) hBl hBb hF hu hmb
  have hseg : st.segs = scSegs B [] := congrArg PSt.segs hst
  have hnx : st.next = 50 := congrArg PSt.next hst
  have hgl := groups_len (scSegs B [])
  rw [scSegs_len] at hgl
  have hfb : ∀ p ∈ scF B [], p.2.length ≤ 4194304 := fun p hp => by
    obtain ⟨j, hj⟩ := List.getElem?_of_mem hp
    obtain ⟨b', hb', rfl⟩ := scF_get hj
    have := hBb b' (List.mem_of_getElem? hb')
    show b'.length ≤ _; omega
  unfold ptrV
  refine go T 23 rfl ?_
  refine o1 rfl ?_
  refine op_call rfl rfl rfl (makeAll_has x (by rw [hst]; exact hF.ok) (by omega) (by rw [hst, hseg]; exact hmk) (hF.bytes (by omega) hfb) (fun y hy => ?_)) ?_
  · rw [hseg] at hy
    obtain ⟨h1, h2, h3, h4, h5⟩ := scSeg_mem (B := B) hBl hBb hy
    exact ⟨by omega, by omega, by omega, by omega⟩
  rintro _ w6 ⟨hc6, s6, q6, n6, e6, p6, st6, cl6, hall6, rfl, hg6, hst6, hcl6, x6⟩
  rw [hst, hseg, hall] at hall6
  injection hall6 with a1 a2
  injection a2 with a2 a3
  injection a3 with a3 a4
  subst a1; subst a2; subst a3; subst a4
  obtain rfl := hcl6 rfl
  have hok6 : POk st6.plain := by rw [hst6]; exact hF'.ok
  have hsg6 : st6.segs = (goQ (madeI B []) (groupsM (scSegs B [])) 50 ⟨scSegs B [], [], 50, 1⟩).segs := congrArg PSt.segs hst6
  have hwS := goQ_segs (madeI B []) (F := scF B [] ++ goF (madeI B []) (groupsM (scSegs B [])) 50) (groupsM (scSegs B [])) 50 ⟨scSegs B [], [], 50, 1⟩ (fun y hy => by obtain ⟨b, h1, h2⟩ := scSegs_whole B [] y hy; exact ⟨b, List.mem_append.2 (.inl h1), h2⟩)
  have hwP := goQ_pars (madeI B []) (F := scF B [] ++ goF (madeI B []) (groupsM (scSegs B [])) 50) (groupsM (scSegs B [])) 50 ⟨scSegs B [], [], 50, 1⟩ (fun y hy => by cases hy) (fun p hp => List.mem_append.2 (.inr hp))
  obtain ⟨hl1, hl2⟩ := look_none hF' hwS hwP
  have hnd : ((scSegs B []).map numK).Nodup := by rw [scSegs_num]; exact range_nodup _
  have hgd := groups_done (madeI B []) (q := ⟨scSegs B [], [], 50, 1⟩) hnd (num := 50) (by decide)
  have hnx6 : st6.next ≤ 100 := by
    have h7 := congrArg PSt.next hst6
    rw [goQ_next _ _ _ _ rfl] at h7
    have h8 : st6.plain.next = st6.next := rfl
    omega
  have hby := hF'.bytes (by omega) (made_bytes hBb _ _)
  have hL6 : ∀ y ∈ st6.segs, 0 ≤ y.num ∧ y.num < 100 ∧ -9223372036854775808 ≤ y.size ∧ y.size ≤ 9223372036854775807 := fun y hy => by
    have h1 := (hok6.segs y hy).1.num
    have h2 := (hok6.segs y hy).1.size
    have h4 := hok6.below y hy
    have h3 : st6.plain.next = st6.next := rfl
    exact ⟨by omega, by omega, by omega, by omega⟩
  have hc06 : Chg [] w w6 := hc05.trans hc6 (fun k hk hlt => by
    have hz := hc04.size
    rcases List.mem_cons.1 hk with hk | hk
    · have := x.fresh; omega
    · have := x.fs.fresh k hk; omega)
  rw [sc_groups]
  rw [← hst6] at hl2
  rw [← hsg6] at hl1
  have hgd6 : groupsM st6.segs = [] := by rw [hsg6]; exact hgd
  clear hgd hwS hwP hall hmk hF hsg6
  refine go T 11 rfl ?_
  refine neF rfl rfl rfl rfl (by omega) ?_
  refine go T 9 rfl ?_
  refine o1 rfl ?_
  refine op_call rfl rfl rfl (makeAll_has x6 hok6 hnx6 (by rw [hgd6]; trivial) hby hL6) ?_
  rintro _ w7 ⟨hc7, s7, q7, n7, e7, p7, st7, cl7, hall7, rfl, hg7, hst7, hcl7, x7⟩
  rw [hgd6, mkAll_nil] at hall7
  injection hall7 with a1 a2
  injection a2 with a2 a3
  injection a3 with a3 a4
  subst a1; subst a2; subst a3; subst a4
  obtain rfl := hcl7 rfl
  have hsg7 : st7.segs = st6.segs := congrArg PSt.segs hst7
  have hnx7 : st7.next = st6.next := congrArg PSt.next hst7
  rw [← hst7] at hok6 hl2
  rw [← hsg7] at hl1
  rw [← hnx7] at hnx6
  have hc07 : Chg [] w w7 := hc06.trans hc7 (fun k hk hlt => by
    have hz := hc04.size
    rcases List.mem_cons.1 hk with hk | hk
    · have := x6.fresh; omega
    · have := x6.fs.fresh k hk; omega)
  refine go T 10 rfl ?_
  refine o1 rfl ?_
  refine op_call rfl rfl rfl (calls_has g _ _ w7 x7.fs.at_) ?_
  rintro _ w7' ⟨rfl, rfl⟩
  refine go T 7 rfl ?_
  refine o1 rfl ?_
  refine op_call rfl rfl rfl (look_has x7 hok6 hnx6 hby (pok_pars hok6)) ?_
  rintro _ w8 ⟨hc8, us, up, rfl, hus, hup, _, _⟩
  rw [hl1] at hus
  rw [hl2] at hup
  change Own w8 2 1 us 0 [] at hus
  change Own w8 2 1 up 0 [] at hup
  obtain ⟨Au, cu, rfl, _, _⟩ := hus.form
  obtain ⟨Ap, cp, rfl, _, _⟩ := hup.form
  have x8 := x7.keep0 hc8
  refine go T 11 rfl ?_
  refine o1 rfl ?_
  refine op_call rfl rfl rfl (repairNone_has x8 hok6 hnx6 hby (pok_pars hok6) hl1 hl2) ?_
  rintro _ w9 ⟨hc9, rfl⟩
  have x9 := x8.keep0 hc9
  have hc09 := (hc07.trans' hc8).trans' hc9
  refine go T 12 rfl ?_
  refine o1 rfl (op_min rfl rfl rfl ?_)
  refine o1 rfl ?_
  refine op_quo (r := ((B.length / 3 : Nat) : Int)) rfl rfl rfl (by decide) (by
    rw [show min (files.length : Int) 12 = ((B.length : Nat) : Int) from by omega]
    show IntKind.i64.wrap ((B.length / 3 : Nat) : Int) = _
    exact wrap_i64_in (by omega) (by omega)) ?_
  refine eqT rfl rfl rfl rfl (by omega) ?_
  refine go T 2 rfl ?_
  refine eqT rfl rfl rfl rfl (by omega) ?_
  refine go T 3 rfl ?_
  refine eqT rfl rfl rfl rfl (by omega) ?_
  refine go T 4 rfl ?_
  refine eqT rfl rfl rfl rfl (by omega) ?_
  refine go T 4 rfl ?_
  refine eqT rfl rfl rfl rfl (by omega) ?_
  refine go T 3 rfl ?_
  refine eqT rfl rfl rfl rfl (by omega) ?_
  refine go T 3 rfl ?_
  refine eqT rfl rfl rfl rfl (by omega) ?_
  refine go T 3 rfl ?_
  refine o1 rfl ?_
  refine op_call rfl rfl rfl (calls_has g _ _ w9 x9.fs.at_) ?_
  rintro _ w9' ⟨rfl, rfl⟩
  refine go T 1 rfl ?_
  refine eqT rfl rfl rfl rfl (by omega) ?_
  refine go T 5 rfl ?_
  exact post1 (.inl rfl) rfl rfl ⟨hc09, rfl⟩
end Go.Proofs.YtiadjkjlifnopaaGreatDoor.Tryz
/-! From a law's walk to its row: arguments opened by their types' shape; arguments stay; the contract. -/
set_option linter.unusedVariables false
set_option linter.unusedSimpArgs false
namespace Go.Vc
open Go Go.RowKit Go.ChangeShapes Go.WideShapes Go.ChangeAt

/-- A reading of one cell at type t gives some a with R. -/
def Opens (P : Program) (t : TypeId) {α : Type} (R : World → Value → α → Prop) : Prop :=
  ∀ {H : Type} (enc : TypeId × Value → H) (w : World) (base : Nat) (spare : Nat → Bool) (held : Bool) (fuel : Nat) (cs : List Value) (x : DataW H × List MemPlace),
    DataW.trod enc P w base spare held fuel t cs = some x → ∃ u a, cs = [u] ∧ R w u a

theorem list_of {α : Type} {p : Nat → α → Prop} : ∀ n, (∀ i, i < n → ∃ a, p i a) → ∃ L : List α, L.length = n ∧ ∀ i a, L[i]? = some a → p i a
  | 0, _ => ⟨[], rfl, fun i a h => by simp at h⟩
  | n + 1, h => by
    obtain ⟨L, hl, hp⟩ := list_of n (fun i hi => h i (by omega))
    obtain ⟨a, ha⟩ := h n (by omega)
    refine ⟨L ++ [a], by simp [hl], fun i b hb => ?_⟩
    by_cases hi : i < L.length
    · rw [List.getElem?_append_left hi] at hb; exact hp i b hb
    · have : i = L.length := by have := (List.getElem?_eq_some_iff.1 hb).1; simp at this; omega
      subst this
      rw [List.getElem?_append_right (Nat.le_refl _)] at hb
      simp at hb; subst hb; rw [hl]; exact ha

theorem Opens.slice {P : Program} {t e : TypeId} {α : Type} {R : World → Value → α → Prop} (ht : P.underlying t = some (.slice e)) (hc : P.cellsOf e = 1) (hR : Opens P e R) : Opens P t (SliceOf R) := by
  intro H enc w base spare held fuel cs x h
  rcases Go.Deep.open_slice1 ht hc h with ⟨rfl, _⟩ | ⟨a, len, cap, m, n, V, D, Pl, rfl, hb, hl, hm, hmm, _, hx⟩
  · exact ⟨_, [], rfl, SliceOf.nil _ _⟩
  · have hlm : len ≤ m := by rw [hmm]; split <;> omega
    obtain ⟨L, hlen, hL⟩ := list_of (p := fun i a' => R w (V i) a') len (fun i hi => by
      obtain ⟨_, htr⟩ := hx i (by omega)
      obtain ⟨u, a', hu, hr⟩ := hR enc w base spare held n _ _ htr
      injection hu with hu _
      subst hu
      exact ⟨a', hr⟩)
    refine ⟨_, L, rfl, SliceOf.mk hlen.symm (by omega) hm fun i a' ha => ?_⟩
    have hi : i < len := by have := (List.getElem?_eq_some_iff.1 ha).1; omega
    exact ⟨a, V i, rfl, (hx i (by omega)).1, hL i a' ha⟩

theorem Opens.u8 {P : Program} {t : TypeId} (ht : P.underlying t = some (.int .u8)) : Opens P t Ru8 := by
  intro H enc w base spare held fuel cs x h
  obtain ⟨n, rfl, _, hw⟩ := DataW.trod_int ht h
  have hb : 0 ≤ n ∧ n ≤ 255 := by simp [Lit.wf, IntKind.min, IntKind.max, IntKind.signed, IntKind.bits] at hw; omega
  refine ⟨_, UInt8.ofNat n.toNat, rfl, ?_⟩
  unfold Ru8
  have : ((UInt8.ofNat n.toNat).toNat : Int) = n := by
    rw [UInt8.toNat_ofNat']; omega
  rw [this]
theorem Opens.i64 {P : Program} {t : TypeId} (ht : P.underlying t = some (.int .i64)) : Opens P t Ri64 := by
  intro H enc w base spare held fuel cs x h
  obtain ⟨n, rfl, _, hw⟩ := DataW.trod_int ht h
  have hb : -9223372036854775808 ≤ n ∧ n ≤ 9223372036854775807 := by simp [Lit.wf, IntKind.min, IntKind.max, IntKind.signed, IntKind.bits] at hw; omega
  exact ⟨_, n, rfl, rfl, hb.1, hb.2⟩
theorem Opens.bool {P : Program} {t : TypeId} (ht : P.underlying t = some .bool) : Opens P t Rbool := by
  intro H enc w base spare held fuel cs x h
  obtain ⟨b, rfl, _⟩ := DataW.trod_bool ht h
  exact ⟨_, b, rfl, rfl⟩
theorem Opens.str {P : Program} {t : TypeId} (ht : P.underlying t = some .string) : Opens P t Rstr := by
  intro H enc w base spare held fuel cs x h
  obtain ⟨s, rfl, _, hs⟩ := DataW.trod_string ht h
  exact ⟨_, s, rfl, rfl, hs⟩

/-- An argument, opened. -/
theorem Opens.arg {P : Program} {t : TypeId} {α : Type} {R : World → Value → α → Prop} (h : Opens P t R) {w : World} {r : Reach} {base : Nat} {v : Value} {H : Type} {enc : TypeId × Value → H} {sp : Nat → Bool} {held : Bool} {d : DataW H} {ps : List MemPlace} {b0 : Nat}
    (hd : P.underlying t = some .bool ∨ P.underlying t = some .string ∨ (∃ k, P.underlying t = some (.int k)) ∨ ∃ e, P.underlying t = some (.slice e))
    (hval : Value.okWide P w r base t v) (ht : DataW.Trod enc P w b0 sp held t v d ps) : ∃ a, R w v a := by
  obtain ⟨fuel, hf⟩ := ht
  obtain ⟨u, a, hu, hr⟩ := h enc w b0 sp held fuel _ _ hf
  have hv : v.cells = #[v] := by
    rcases hd with hd | hd | ⟨k, hd⟩ | ⟨e, hd⟩
    · obtain ⟨b, rfl⟩ := okWide_bool hd hval; rfl
    · obtain ⟨b, rfl⟩ := okWide_string hd hval; rfl
    · obtain ⟨b, rfl⟩ := okWide_int hd hval; rfl
    · obtain ⟨a, l, c, rfl⟩ := okWide_slice hd hval; rfl
  rw [hv] at hu
  simp at hu
  subst hu
  exact ⟨a, hr⟩

theorem args_stay {H : Type} {enc : TypeId × Value → H} {P : Program} (hl : laidOutB P = true) {W W' : World} (hb : Below W.heap.size W W') :
    ∀ (ts : List TypeId) (vs : List Value) (ds : List (DataW H)) (ps : List MemPlace), (∀ t ∈ ts, P.readableRec t = true ∧ t < P.types.size) → DataW.TrodAll enc P W 0 (fun _ => true) true ts vs ds ps → (∀ x ∈ ps, x.block < W.heap.size) →
      DataW.TrodAll enc P W' 0 (fun b => decide (b < W.heap.size)) true ts vs ds ps
  | [], vs, ds, ps, _, h, _ => by
    obtain ⟨rfl, rfl, rfl⟩ := trodAll_nil h
    exact trodAll_mk0
  | t :: ts, vs, ds, ps, ht, h, hlt => by
    obtain ⟨v, vs', d, ds', p, q, rfl, rfl, rfl, h0, r0⟩ := trodAll_cons h
    exact trodAll_cons_mk (Below.trod hl (ht t (by simp)).1 (ht t (by simp)).2 h0 hb (fun x hx => hlt x (by simp [hx])))
      (args_stay hl hb ts vs' ds' q (fun t' h' => ht t' (by simp [h'])) r0 (fun x hx => hlt x (by simp [hx])))

end Go.Vc
/-! From a walk to a row whose list of laid variables is not empty. -/
set_option linter.unusedVariables false
namespace Go.Vc
open Go Go.ChangeShapes Go.WideShapes Go.ChangeAt Go.RowKit
theorem law_laid {C : Checked} {os : Os} {f : FuncId} {fn : Func} {s : ChangeSpec} {H : Type} {enc : TypeId × Value → H} {tb : TypeId} {L : List (String × DataW Unit)}
    (own : ownKnob C.prog.godebug = none) (laid : laidOutB C.prog = true) (started : os.Started) (noInit : C.prog.inits.idxOf? f = none) (hfn : C.prog.funcs[f]? = some fn)
    (hvars : s.vars = []) (hres : fn.resultTypes = #[tb]) (htb : C.prog.underlying tb = some .bool)
    (hparams : ∀ t ∈ fn.params.toList, C.prog.readableRec t = true ∧ t < C.prog.types.size)
    (hspec : ∀ ds : List (DataW H), ds.length = fn.params.size → s.fn H ds = { results := [.lit (.bool true)], args := ds })
    (witness : ∃ (w : World) (tape : Tape) (i : Input), w.os = os ∧ (w.forCall tape i).Shaped C.prog ∧ i.vars = [] ∧ Input.okWide C.prog (w.forCall tape i) .any w.heap.size f i ∧
      ((s.pre enc C.prog fn [] false (w.forCall tape i).memory i.args ∧ laidMetH C.prog L (w.forCall tape i).memory) ∧ sizedMet enc C.prog fn (OpenSpec.ofChange s) false (w.forCall tape i).memory i.args) ∧ ({} : Assume).holds C.prog (lone (Frame.enter C.prog f i.args .normal) [] (w.forCall tape i)))
    (walk : ∀ (W : World) (base : Nat) (args : Array Value) (ds : List (DataW H)) (ps : List MemPlace), (∀ (j : Nat) t v, fn.params[j]? = some t → args[j]? = some v → Value.okWide C.prog W .any base t v) →
      DataW.TrodAll enc C.prog W 0 (fun _ => true) true fn.params.toList args.toList ds ps → Calls C.prog f args W fun e W' => e = .returned (.bool true) ∧ Chg [] W W') :
    ReturnsInHanded {} C os f .any (fun w args => (s.pre enc C.prog fn [] false w args ∧ laidMetH C.prog L w) ∧ sizedMet enc C.prog fn (OpenSpec.ofChange s) false w args) (s.post enc C.prog fn false true false false) := by
  refine returnsInHanded_of_change_and (X := fun w _ => laidMetH C.prog L w) (fun _ _ _ hh h => h.of_heap hh) own started noInit hfn witness ?_
  intro W base args ds gs before hval hW _ _ _ _
  have hW' := hW
  obtain ⟨p, q, hA, hV, rfl, hfz, hnd⟩ := hW
  rw [hvars] at hV
  obtain ⟨rfl, rfl⟩ := trodVars_none hV
  refine (walk W base args ds p hval hA).mono fun e W' ⟨he, hc⟩ => ?_
  subst he
  have bel := hc.below
  have hlen : ds.length = fn.params.size := by
    have := trodAll_length hA
    have h2 := this.1; have h3 := this.2
    simp at h2 h3 ⊢
    omega
  have hsp := hspec ds hlen
  refine ⟨_, rfl, ds, [], p ++ [], [], p, [], hW', ?_, ?_, ?_, bel.frame _, fun h => by cases h⟩
  · rw [List.append_nil, hsp, hres]
    exact trodAll_mk1 (shut_bool htb _)
  · rw [List.append_nil, hsp]
    exact args_stay laid bel _ _ _ _ hparams hA (fun x hx => hW'.lt x (by simp [hx]))
  · rw [hvars, List.append_nil, hsp]; exact rfl
end Go.Vc
/- ScrubClean: whatever the arguments that can be read as data, in whatever memory, the call returns true and leaves what was there as it was. No condition. -/
set_option linter.unusedVariables false
namespace Go.Proofs.YtiadjkjlifnopaaGreatDoor
open Go Go.Vc Go.ChangeShapes Go.WideShapes Go.ChangeAt Go.RowKit
theorem scrubClean_own : ownKnob Go.Proofs.Tryz.prog.godebug = none := by kernel_rfl
theorem scrubClean_laid : laidOutB Go.Proofs.Tryz.prog = true := by kernel_rfl
set_option maxRecDepth 100000 in
theorem scrubClean_walk (W : World) (base : Nat) (args : Array Value) {H : Type} {enc : TypeId × Value → H} (ds : List (DataW H)) (ps : List MemPlace) (hval0 : ∀ (j : Nat) t v, Go.Proofs.Tryz.f4.params[j]? = some t → args[j]? = some v → Value.okWide Go.Proofs.Tryz.prog W .any base t v)
    (hA : DataW.TrodAll enc Go.Proofs.Tryz.prog W 0 (fun _ => true) true Go.Proofs.Tryz.f4.params.toList args.toList ds ps) : Calls Go.Proofs.Tryz.prog 4 args W fun e W' => e = .returned (.bool true) ∧ Chg [] W W' := by
  have hval := hval0
  rw [Go.Proofs.Tryz.params4] at hA hval
  obtain ⟨v0, vs0, d0, ds0, p0, q0, hargs, rfl, rfl, h0, r0⟩ := trodAll_cons hA
  obtain ⟨rfl, rfl, rfl⟩ := trodAll_nil r0
  obtain rfl : args = #[v0] := by cases args; simp_all
  obtain ⟨a0, x0⟩ := Opens.arg (Opens.slice Go.Proofs.Tryz.underlying31 (by kernel_rfl : Go.Proofs.Tryz.prog.cellsOf 51 = 1) (Opens.slice Go.Proofs.Tryz.underlying51 (by kernel_rfl : Go.Proofs.Tryz.prog.cellsOf 5 = 1) (Opens.u8 Go.Proofs.Tryz.underlying5))) (.inr (.inr (.inr ⟨_, Go.Proofs.Tryz.underlying31⟩))) (hval 0 _ v0 rfl rfl) h0
  obtain ⟨A0, c0, rfl, _, _⟩ := x0.form
  refine (Tryz.scrubClean_has A0 _ c0 a0 W x0).2.mono ?_
  rintro e W' ⟨v, rfl, hc, rfl⟩
  exact ⟨rfl, hc⟩
theorem scrubClean_door (os : Os) (args : Array Value) : laidMetH Go.Proofs.Tryz.prog Rows.scrubCleanRow.laid ((World.doorLaid Go.Proofs.Tryz.prog 400 os).forCall (fun _ _ => 0) ⟨#[], args, []⟩).memory :=
  laidMetH_of_parts3 (fuel := 8) (laidMet_of_run' 8 (by kernel_rfl) (by kernel_rfl)) (by kernel_rfl) (by kernel_rfl)
set_option maxRecDepth 100000 in
theorem scrubClean_lifted (os : Os) (started : os.Started) (H : Type) (enc : TypeId × Value → H) :
    ReturnsInHanded {} Go.Proofs.Tryz.checked os 4 .any (fun w args => (Rows.scrubCleanSpec.pre enc Go.Proofs.Tryz.prog Go.Proofs.Tryz.f4 [] false w args ∧ laidMetH Go.Proofs.Tryz.prog Rows.scrubCleanRow.laid w) ∧ sizedMet enc Go.Proofs.Tryz.prog Go.Proofs.Tryz.f4 (OpenSpec.ofChange Rows.scrubCleanSpec) false w args) (Rows.scrubCleanSpec.post enc Go.Proofs.Tryz.prog Go.Proofs.Tryz.f4 false true false false) := by
  refine law_laid (C := Go.Proofs.Tryz.checked) (tb := 4) (L := Rows.scrubCleanRow.laid) scrubClean_own scrubClean_laid started (by kernel_rfl) Go.Proofs.Tryz.func4 rfl rfl Go.Proofs.Tryz.underlying4 ?_ ?_
    (ChangeSpec.witness_shaped (enc := enc) (C := Go.Proofs.Tryz.checked) (os := os) (X := fun w _ => laidMetH Go.Proofs.Tryz.prog Rows.scrubCleanRow.laid w) false (World.doorLaid Go.Proofs.Tryz.prog 400 os) #[.slice none 0 0] 8 rfl (World.shaped_of_RefB (by kernel_rfl) (by kernel_rfl)) (by kernel_rfl) (by kernel_rfl) (by kernel_rfl) (scrubClean_door os _)) (fun W base args ds ps hval hA => scrubClean_walk W base args ds ps hval hA)
  · intro t ht
    rw [Go.Proofs.Tryz.params4] at ht
    simp only [List.mem_cons, List.not_mem_nil, or_false] at ht
    subst ht
    all_goals exact ⟨by kernel_rfl, of_decide_eq_true (by kernel_rfl)⟩
  · intro ds hd
    rw [Go.Proofs.Tryz.params4] at hd
    match ds, hd with
    | [d0], _ => rfl
theorem scrubClean_holds : Rows.ScrubCleanSaid :=
  OpenClaim.holds_of_wide 4 Go.Proofs.Tryz.f4 rfl rfl rfl rfl rfl rfl rfl ⟨rfl, rfl, rfl, rfl, rfl⟩ rfl rfl rfl rfl rfl (by kernel_rfl) Go.Proofs.Tryz.func4 (by kernel_rfl)
    (of_decide_eq_true (by kernel_rfl)) (by unfold Func.isWrapper; first | (rw [if_pos (by decide +kernel)]; kernel_rfl) | (rw [if_neg (by decide +kernel)]; exact ⟨rfl, rfl⟩))
    (fun os started H enc _ => scrubClean_lifted os started H enc)
theorem scrubClean_card : Rows.ScrubCleanCardSaid :=
  Claim7.holds_tied_plain_at .later [] [.data, .data, .data] true (true, "02b64a9935b2fbb4c7b399fd1a7305423e9169164337d0f06e6b342f00c016f9") true
    scrubClean_holds (fun _ h => by cases h) (by kernel_rfl) (fun _ h => by cases h) scrubClean_row_tie rfl ⟨rfl, rfl⟩ (by kernel_rfl) rfl
    (fun f fn hf hfn => by
      obtain rfl : f = 4 := Option.some.inj ((show Go.Proofs.Tryz.prog.funcNamed Rows.scrubCleanRow.func = some 4 by kernel_rfl).symm.trans hf) |>.symm
      obtain rfl : fn = Go.Proofs.Tryz.f4 := (Option.some.inj (Go.Proofs.Tryz.func4.symm.trans hfn)).symm
      exact ⟨by kernel_rfl, fun j t ht => by
        rw [Go.Proofs.Tryz.params4] at ht
        have hall : (Go.Proofs.Tryz.f4.params.toList.all fun u => !Go.Proofs.Tryz.prog.wantsStandIn u) = true := by kernel_rfl
        have hm : t ∈ Go.Proofs.Tryz.f4.params.toList := by rw [Go.Proofs.Tryz.params4]; exact List.mem_of_getElem? (by simpa using ht)
        exact (show Go.Proofs.Tryz.prog.wantsStandIn t = false by simpa using List.all_eq_true.1 hall t hm)⟩)
    (by kernel_rfl)
#print axioms scrubClean_card
end Go.Proofs.YtiadjkjlifnopaaGreatDoor
