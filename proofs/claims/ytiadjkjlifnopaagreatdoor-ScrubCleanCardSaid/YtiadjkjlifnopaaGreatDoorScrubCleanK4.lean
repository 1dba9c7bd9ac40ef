/- Part 4 of the texts that the law of the last one leans on: steps of the walk and contracts of functions. Its conditions stand in each theorem. -/
import Derived.Test.YtiadjkjlifnopaaGreatDoorScrubCleanK3
import Derived.Test.YtiadjkjlifnopaaGreatDoorScrubCleanK1
import Derived.Test.YtiadjkjlifnopaaGreatDoorScrubCleanK2
/-! Manifests: parity segments taken out and put in. -/
set_option linter.unusedVariables false
namespace Go.Proofs.YtiadjkjlifnopaaGreatDoor.Tryz
open Go Go.Vc
def parF : Value := .func (.func 100) #[] #[]
theorem parNum_has (x : ParV) (w : World) : Has Go.Proofs.Tryz.prog 100 #[.agg (parL x).toArray] w (fun v w' => Chg [] w w' ∧ v = .int .i64 x.p.group) := by
  refine enter Go.Proofs.Tryz.func100 rfl rfl (by decide) rfl (e := [(0, .agg (parL x).toArray)]) ⟨rfl, trivial⟩ ?_
  refine run ?_
  refine go T 2 rfl ?_
  refine o1 rfl ?_
  refine op_box rfl rfl (fun g w1 hs1 hc1 hg1 => ?_)
  have hg1 : Blk w1 g 70 (parL x) := hg1
  unfold parL at hg1
  refine go T 6 rfl ?_
  refine ldB T hg1 rfl rfl rfl rfl rfl rfl ?_
  refine go T 4 rfl ?_
  exact post1 (.inl rfl) rfl rfl ⟨hc1, rfl⟩
/-- Is it this number? -/
theorem takePar1_has (gf gn : Nat) (x : ParV) (n : Int) (w : World) (hf : Blk w gf 150 [parF]) (hn : Blk w gn 2 [.int .i64 n]) :
    Has Go.Proofs.Tryz.prog 147 #[.agg (parL x).toArray, ptrV gf, ptrV gn] w (fun v w' => Chg [] w w' ∧ v = .bool (decide (x.p.group = n))) := by
  refine enter Go.Proofs.Tryz.func147 rfl rfl (by decide) rfl (e := [(0, .agg (parL x).toArray), (1, ptrV gf), (2, ptrV gn)]) ⟨rfl, rfl, rfl, trivial⟩ ?_
  unfold ptrV
  refine run ?_
  refine go T 2 rfl ?_
  refine o1 rfl ?_
  refine op_box rfl rfl (fun g w1 hs1 hc1 hg1 => ?_)
  have hg1 : Blk w1 g 70 (parL x) := hg1
  have hf1 := hf.keep0 hc1
  have hn1 := hn.keep0 hc1
  unfold parF at hf1
  refine go T 4 rfl ?_
  refine W_walk 4 [] fol (by kernel_rfl) (by kernel_rfl) ?_
  refine Walk.plain rfl (by intro val w_ hR hp; exact op_load T rfl rfl rfl rfl ((Blk.keep0 hf1 hR).cell rfl) ⟨Chg.refl _ _, rfl⟩) ?_; dsimp only [List.nil_append, List.cons_append]
  refine Walk.plain rfl (by intro val w_ hR hp; exact op_load_agg T rfl rfl rfl rfl (Blk.keep0 hg1 hR) (Nat.le_of_ble_eq_true rfl) rfl ⟨Chg.refl _ _, rfl⟩) ?_; dsimp only [List.nil_append, List.cons_append]
  refine Walk.plain (v := .int .i64 x.p.group) rfl (by intro val w_ hR hp; exact op_callf rfl rfl rfl (parNum_has x _) (fun v w' h => h)) ?_; dsimp only [List.nil_append, List.cons_append]
  refine Walk.plain rfl (by intro val w_ hR hp; exact op_load T rfl rfl rfl rfl ((Blk.keep0 hn1 hR).cell rfl) ⟨Chg.refl _ _, rfl⟩) ?_; dsimp only [List.nil_append, List.cons_append]
  refine Walk.fin ?_
  intro val w2 hc2 hp
  clear hp
  refine runL ?_
  refine o1 rfl ?_
  refine op_eql_d rfl rfl rfl ?_
  refine go T 4 rfl ?_
  exact post1 (.inl rfl) rfl rfl ⟨hc1.trans' hc2, rfl⟩
/-- Have they one number? -/
theorem putPar1_has (gf gx : Nat) (x y : ParV) (w : World) (hf : Blk w gf 150 [parF]) (hx : Blk w gx 70 (parL x)) :
    Has Go.Proofs.Tryz.prog 149 #[.agg (parL y).toArray, ptrV gf, ptrV gx] w (fun v w' => Chg [] w w' ∧ v = .bool (decide (x.p.group = y.p.group))) := by
  refine enter Go.Proofs.Tryz.func149 rfl rfl (by decide) rfl (e := [(0, .agg (parL y).toArray), (1, ptrV gf), (2, ptrV gx)]) ⟨rfl, rfl, rfl, trivial⟩ ?_
  unfold ptrV
  refine run ?_
  refine go T 2 rfl ?_
  refine o1 rfl ?_
  refine op_box rfl rfl (fun g w1 hs1 hc1 hg1 => ?_)
  have hg1 : Blk w1 g 70 (parL y) := hg1
  have hf1 := hf.keep0 hc1
  have hx1 := hx.keep0 hc1
  unfold parF at hf1
  refine go T 4 rfl ?_
  refine W_walk 6 [] fol (by kernel_rfl) (by kernel_rfl) ?_
  refine Walk.plain rfl (by intro val w_ hR hp; exact op_load T rfl rfl rfl rfl ((Blk.keep0 hf1 hR).cell rfl) ⟨Chg.refl _ _, rfl⟩) ?_; dsimp only [List.nil_append, List.cons_append]
  refine Walk.plain rfl (by intro val w_ hR hp; exact op_load_agg T rfl rfl rfl rfl (Blk.keep0 hx1 hR) (Nat.le_of_ble_eq_true rfl) rfl ⟨Chg.refl _ _, rfl⟩) ?_; dsimp only [List.nil_append, List.cons_append]
  refine Walk.plain (v := .int .i64 x.p.group) rfl (by intro val w_ hR hp; exact op_callf rfl rfl rfl (parNum_has x _) (fun v w' h => h)) ?_; dsimp only [List.nil_append, List.cons_append]
  refine Walk.plain rfl (by intro val w_ hR hp; exact op_load T rfl rfl rfl rfl ((Blk.keep0 hf1 hR).cell rfl) ⟨Chg.refl _ _, rfl⟩) ?_; dsimp only [List.nil_append, List.cons_append]
  refine Walk.plain rfl (by intro val w_ hR hp; exact op_load_agg T rfl rfl rfl rfl (Blk.keep0 hg1 hR) (Nat.le_of_ble_eq_true rfl) rfl ⟨Chg.refl _ _, rfl⟩) ?_; dsimp only [List.nil_append, List.cons_append]
  refine Walk.plain (v := .int .i64 y.p.group) rfl (by intro val w_ hR hp; exact op_callf rfl rfl rfl (parNum_has y _) (fun v w' h => h)) ?_; dsimp only [List.nil_append, List.cons_append]
  refine Walk.fin ?_
  intro val w2 hc2 hp
  clear hp
  refine runL ?_
  refine o1 rfl ?_
  refine op_eql_d rfl rfl rfl ?_
  refine go T 4 rfl ?_
  exact post1 (.inl rfl) rfl rfl ⟨hc1.trans' hc2, rfl⟩
set_option maxHeartbeats 2000000 in
theorem takeP_has (A : Option Addr) (n c : Nat) (L : List ParS) (B : Option Addr) (m d : Nat) (ns : List Int) (w : World) (hl : SliceK 5 (RdL parSL) w (.slice A n c) L) (hns : SliceOf Ri64 w (.slice B m d) ns) (hb : L.length ≤ 1000000) :
    Has Go.Proofs.Tryz.prog 99 #[.slice A n c, .slice B m d, parF] w (fun v w' => Chg [] w w' ∧ (takeK parKey ns L = none → v = .tuple #[.slice none 0 0, .bool false]) ∧ ∀ L', takeK parKey ns L = some L' → ∃ u, v = .tuple #[u, .bool true] ∧ Own w' 70 5 u L'.length (L'.flatMap parSL) ∧ ∀ g, u.ownBlock = some g → w.heap.size ≤ g) := by
  obtain ⟨rfl, hm1, hm2⟩ := hns.len
  unfold maxLen at hm2
  refine enter Go.Proofs.Tryz.func99 rfl rfl (by decide) rfl (e := [(0, .slice A n c), (1, .slice B ns.length d), (2, parF)]) ⟨rfl, rfl, rfl, trivial⟩ ?_
  refine run ?_
  refine go T 2 rfl ?_
  refine o1 rfl ?_
  refine op_box rfl rfl (fun gf w1 hs1 hc1 hg1 => ?_)
  have hg1 : Blk w1 gf 150 [parF] := hg1
  have hs1 : w.heap.size ≤ gf := hs1
  refine go T 7 rfl ?_
  refine o1 rfl ?_
  refine op_call rfl rfl rfl (clonePar_has A n c L w1 (hl.keepR hc1) hb) ?_
  rintro v2 w2 ⟨hc2, ho2, hf2⟩
  refine go T 12 rfl ?_
  refine W_loop (σ := Nat × List ParS × Value) (fun s => [(0, s.2.2), (5, .pointer (some ⟨gf, 0, none⟩)), (13, .slice B ns.length d), (14, .int .i64 ns.length), (15, .int .i64 s.1)])
    (fun s w' => s.1 ≤ ns.length ∧ takeK parKey ns L = takeK parKey (ns.drop s.1) s.2.1 ∧ s.2.1.length ≤ L.length ∧ Chg [] w w' ∧ Own w' 70 5 s.2.2 s.2.1.length (s.2.1.flatMap parSL) ∧ (∀ g, s.2.2.ownBlock = some g → w1.heap.size ≤ g) ∧ Blk w' gf 150 [parF])
    (fun s => ns.length - s.1) (0, L, v2) ⟨rfl, rfl, rfl, rfl, rfl, trivial⟩ ⟨by omega, by simp, Nat.le_refl _, hc1.trans' hc2, ho2, hf2, hg1.keep0 hc2⟩ ?_
  rintro ⟨i, M, u⟩ w3 ⟨hi, htk, hML, hc3, hu3, hf3, hg3⟩
  dsimp only at hi htk hML hc3 hu3 hf3 hg3 ⊢
  have hz1 := hc1.size
  have hgl := hg1.lt
  obtain ⟨Au, cu, rfl, hcu1, hcu2⟩ := hu3.form
  refine run ?_
  refine go T 2 rfl ?_
  refine ltS rfl rfl rfl rfl (fun hcmp => ?_) (fun hcmp => ?_)
  · have hi2 : i < ns.length := by omega
    obtain ⟨ad, u0, rfl, hu0, rfl, _, _⟩ := hns.get (i := i) (List.getElem?_eq_getElem hi2)
    have hdrop : ns.drop i = ns[i] :: ns.drop (i + 1) := List.drop_eq_getElem_cons hi2
    rw [hdrop] at htk
    generalize ns[i] = x at *
    have hu0' := hc3.cell0 hu0
    refine go T 10 rfl ?_
    refine o1 rfl (op_index_nat T rfl rfl rfl rfl rfl rfl (by omega) ?_)
    refine o1 rfl (op_load T rfl rfl rfl rfl (by assumption) ?_)
    refine o1 rfl ?_
    refine op_alloc T rfl rfl (fun gn w4 hs4 hc4 hg4 => ?_)
    have hg4 : Blk w4 gn 2 [.int .i64 0] := hg4
    have hs4 : w3.heap.size ≤ gn := hs4
    refine op0 rfl rfl ?_
    refine op_store T rfl rfl rfl rfl rfl rfl hg4 (by simp) (fun w5 hc5 hg5 _ => ?_)
    have hg5 : Blk w5 gn 2 [.int .i64 x] := hg5
    have hc35 : Chg [] w3 w5 := hc4.trans hc5 (fun k hk hlt => by simp at hk; omega)
    have hu5 := hu3.keep0 hc35
    have hg5f := hg3.keep0 hc35
    clear hg4
    refine go T 5 rfl ?_
    refine o1 rfl ?_
    refine op_makeFunc (fv := #[]) (cv := #[ptrV gf, ptrV gn]) rfl rfl rfl ?_
    refine o1 rfl ?_
    refine op_call rfl rfl rfl (indexParS_has Au _ cu M _ _ (fun s => decide (parKey s = x)) (fun s => decide (s.p.group = x)) (fun _ => rfl) (hu5.readsK parS_len) (fun wq s hq => takePar1_has gf gn s x wq (hg5f.keep0 hq) (hg5.keep0 hq))) ?_
    rintro _ w6 ⟨hc6, rfl⟩
    have hix := idxM_lt (fun s : ParS => decide (parKey s = x)) M
    have hu6 := hu5.keep0 hc6
    have hg6 := hg5f.keep0 hc6
    have hc36 := hc35.trans' hc6
    by_cases hneg : idxM (fun s : ParS => decide (parKey s = x)) M < 0
    · rw [takeK, if_pos hneg] at htk
      refine go T 7 rfl ?_
      refine ltT rfl rfl rfl rfl (by omega) ?_
      refine go T 13 rfl ?_
      refine rndR ?_
      refine go T 2 rfl ?_
      exact post2 (.inl rfl) rfl rfl rfl ⟨hc3.trans' hc36, fun _ => rfl, fun L' h => by rw [htk] at h; cases h⟩
    · rw [takeK, if_neg hneg] at htk
      obtain ⟨k, hk⟩ : ∃ k : Nat, idxM (fun s : ParS => decide (parKey s = x)) M = k := ⟨_, (Int.toNat_of_nonneg (by omega)).symm⟩
      rw [hk] at htk hneg hix ⊢
      rw [Int.toNat_natCast] at htk
      have hkl : k < M.length := by omega
      refine go T 7 rfl ?_
      refine ltF rfl rfl rfl rfl (by omega) ?_
      refine go T 9 rfl ?_
      refine adI rfl rfl rfl rfl (by omega) (by omega) ?_
      refine o1 rfl ?_
      refine op_call rfl rfl rfl (deletePar_has _ M k w6 hu6 hkl (by omega)) ?_
      rintro v7 w7 ⟨hc7, hb7, hu7⟩
      have hg7 := hg6.keep hc7 (fun hm => by have := hf3 gf (by simpa using hm); omega)
      have hc07 : Chg [] w w7 := (hc3.trans' hc36).trans hc7 (fun k hk hlt => by have := hf3 k (by simpa using hk); omega)
      refine go T 5 rfl ?_
      refine adI rfl rfl rfl rfl (by omega) (by omega) ?_
      refine go T 2 rfl ?_
      refine Round_n (i + 1, M.eraseIdx k, v7) ⟨rfl, rfl, rfl, rfl, rfl, trivial⟩ ⟨by dsimp only; omega, htk, ?_, hc07, hu7, fun g hg => hf3 g (by rw [← hb7]; exact hg), hg7⟩ (by dsimp only; omega)
      dsimp only
      rw [List.length_eraseIdx]; split <;> omega
  obtain rfl : i = ns.length := by omega
  rw [List.drop_length, takeK] at htk
  refine go T 6 rfl ?_
  refine rndX ?_
  refine go T 10 rfl ?_
  refine post2 (.inl rfl) rfl rfl rfl ⟨hc3, ?_, ?_⟩
  · intro h; rw [htk] at h; cases h
  · intro L' h
    rw [htk] at h; injection h with h; subst h
    exact ⟨_, rfl, hu3, fun g hg => by have := hf3 g hg; omega⟩
end Go.Proofs.YtiadjkjlifnopaaGreatDoor.Tryz
/-! Manifests: parity segments put in. -/
set_option linter.unusedVariables false
namespace Go.Proofs.YtiadjkjlifnopaaGreatDoor.Tryz
open Go Go.Vc
set_option maxHeartbeats 2000000 in
theorem putP_has' (v : Value) (M : List ParS) (B : Option Addr) (m d : Nat) (xs : List ParS) (w : World) (hown : Own w 70 5 v M.length (M.flatMap parSL)) (hxs : Firm v.ownBlock.toList w (fun w => SliceK 5 (RdL parSL) w (.slice B m d) xs)) (hb : M.length + xs.length ≤ 1000000) :
    Has Go.Proofs.Tryz.prog 101 #[v, .slice B m d, parF] w (fun v' w' => Chg v.ownBlock.toList w w' ∧ (putK parKey xs M = none → v' = .tuple #[.slice none 0 0, .bool false]) ∧ ∀ M', putK parKey xs M = some M' → (M'.map parKey).Nodup → ∃ u, v' = .tuple #[u, .bool true] ∧ Own w' 70 5 u (sortK parKey M').length ((sortK parKey M').flatMap parSL) ∧ ∀ g, u.ownBlock = some g → g ∈ v.ownBlock.toList ∨ w.heap.size ≤ g) := by
  obtain ⟨rfl, hm1, hm2⟩ := (hxs w (Chg.refl _ _)).len
  unfold maxLen at hm2
  refine enter Go.Proofs.Tryz.func101 rfl rfl (by decide) rfl (e := [(0, v), (1, .slice B xs.length d), (2, parF)]) ⟨rfl, rfl, rfl, trivial⟩ ?_
  refine run ?_
  refine go T 2 rfl ?_
  refine o1 rfl ?_
  refine op_box rfl rfl (fun gf w1 hs1 hc1 hg1 => ?_)
  have hg1 : Blk w1 gf 150 [parF] := hg1
  have hs1 : w.heap.size ≤ gf := hs1
  have hown1 := hown.keep0 hc1
  have hc0 : Chg v.ownBlock.toList w w1 := hc1.mono (fun k hk _ => by cases hk)
  refine go T 13 rfl ?_
  refine W_loop (σ := Nat × List ParS × Value) (fun s => [(0, s.2.2), (5, .pointer (some ⟨gf, 0, none⟩)), (10, .slice B xs.length d), (11, .int .i64 xs.length), (12, .int .i64 s.1)])
    (fun s w' => s.1 ≤ xs.length ∧ putK parKey xs M = putK parKey (xs.drop s.1) s.2.1 ∧ s.2.1.length = M.length + s.1 ∧ Chg v.ownBlock.toList w w' ∧ Own w' 70 5 s.2.2 s.2.1.length (s.2.1.flatMap parSL) ∧ (∀ g, s.2.2.ownBlock = some g → g ∈ v.ownBlock.toList ∨ w.heap.size ≤ g) ∧ Blk w' gf 150 [parF])
    (fun s => xs.length - s.1) (0, M, v) ⟨rfl, rfl, rfl, rfl, rfl, trivial⟩ ⟨by omega, by simp, by simp, hc0, hown1, fun g hg => .inl (by simpa using hg), hg1⟩ ?_
  rintro ⟨i, N, u⟩ w3 ⟨hi, hpk, hNM, hc3, hu3, hf3, hg3⟩
  dsimp only at hi hpk hNM hc3 hu3 hf3 hg3 ⊢
  obtain ⟨Au, cu, rfl, hcu1, hcu2⟩ := hu3.form
  refine run ?_
  refine go T 2 rfl ?_
  refine ltS rfl rfl rfl rfl (fun hcmp => ?_) (fun hcmp => ?_)
  · have hi2 : i < xs.length := by omega
    obtain ⟨ad, hA, hel⟩ := (hxs w3 hc3).at (i := i) (List.getElem?_eq_getElem hi2)
    subst hA
    have hdrop : xs.drop i = xs[i] :: xs.drop (i + 1) := List.drop_eq_getElem_cons hi2
    rw [hdrop] at hpk
    generalize xs[i] = x at *
    refine go T 10 rfl ?_
    refine o1 rfl (op_indexK T rfl rfl rfl rfl rfl (by omega) ?_)
    refine o1 rfl (op_loadE T hel rfl rfl rfl rfl rfl ?_)
    refine o1 rfl ?_
    refine op_alloc T rfl rfl (fun gn w4 hs4 hc4 hg4 => ?_)
    have hg4 : Blk w4 gn 70 [.int .i64 0, .slice none 0 0, .slice none 0 0, .int .i64 0, .int .u32 0] := hg4
    have hs4 : w3.heap.size ≤ gn := hs4
    refine op0 rfl rfl ?_
    refine op_store_agg T rfl rfl rfl rfl rfl (parS_all x) hg4 (by exact Nat.le_of_ble_eq_true rfl) (fun w5 hc5 hg5 _ => ?_)
    have hg5 : Blk w5 gn 70 (parSL x) := hg5
    have hc35 : Chg [] w3 w5 := hc4.trans hc5 (fun k hk hlt => by simp at hk; omega)
    have hu5 := hu3.keep0 hc35
    have hg5f := hg3.keep0 hc35
    clear hg4
    refine go T 6 rfl ?_
    refine o1 rfl ?_
    refine op_makeFunc (fv := #[]) (cv := #[ptrV gf, ptrV gn]) rfl rfl rfl ?_
    refine o1 rfl ?_
    refine op_call rfl rfl rfl (hasParS_has Au _ cu N _ _ (fun s => decide (parKey x = parKey s)) (fun s => decide (x.1.p.group = s.p.group)) (fun _ => rfl) (hu5.readsK parS_len) (fun wq s hq => putPar1_has gf gn x.1 s wq (hg5f.keep0 hq) (hg5.keep0 hq))) ?_
    rintro _ w6 ⟨hc6, rfl⟩
    have hu6 := hu5.keep0 hc6
    have hg6 := hg5f.keep0 hc6
    have hg6n := hg5.keep0 hc6
    have hc06 := hc3.trans' (hc35.trans' hc6)
    by_cases hany : (N.any fun s => decide (parKey x = parKey s)) = true
    · rw [putK, if_pos hany] at hpk
      rw [hany]
      refine go T 13 rfl ?_
      refine rndR ?_
      refine go T 2 rfl ?_
      exact post2 (.inl rfl) rfl rfl rfl ⟨hc06, fun _ => rfl, fun L' h => by rw [hpk] at h; cases h⟩
    · rw [putK, if_neg hany] at hpk
      rw [Bool.eq_false_iff.2 hany]
      refine go T 7 rfl ?_
      refine o1 rfl (op_load_agg T rfl rfl rfl rfl hg6n (by exact Nat.le_of_ble_eq_true rfl) (by exact rfl) ?_)
      refine o1 rfl ?_
      refine op_buildSlice T rfl rfl rfl rfl rfl rfl rfl (fun g7 w7 hs7 hc7 hg7 => ?_)
      have hg7 : Blk w7 g7 70 (parSL x) := hg7
      have hu7 := hu6.keep0 hc7
      have hg7f := hg6.keep0 hc7
      have hc07 := hc06.trans' hc7
      refine o1 rfl ?_
      refine op_append T (n := N.length) (xs := N.flatMap parSL) (m := 1) (news := parSL x) rfl rfl rfl rfl rfl rfl rfl rfl hu7 rfl ?_ (by unfold maxLen; omega) (by show (N.length + 1) * 72 ≤ _; omega) ?_
      · intro j u hj
        exact ⟨⟨_, rfl, by rw [add_plain]; exact hg7.cell hj⟩, parS_one _ u (List.mem_of_getElem? hj)⟩
      · intro v8 w8 hu8 hc8 hb8 _
        have hfr : ∀ h, v8.ownBlock = some h → h ∈ v.ownBlock.toList ∨ w.heap.size ≤ h := fun h hh => by
          rcases hb8 with hb | ⟨g', hb, hge⟩
          · exact hf3 h (by rw [← hb]; exact hh)
          · rw [hb] at hh; injection hh with hh; have := hc07.size; exact .inr (by omega)
        have hc08 : Chg v.ownBlock.toList w w8 := hc07.trans hc8 (fun k hk hlt => (hf3 k (by simpa using hk)).resolve_right (by omega))
        have hg8f := hg7f.keep hc8 (fun hm => by
          obtain ⟨cur, hrow⟩ := hu7.row (show _ = some gf by simpa using hm)
          exact hg7f.ne_ hrow (by decide) rfl)
        refine go T 5 rfl ?_
        refine adI rfl rfl rfl rfl (by omega) (by omega) ?_
        refine go T 2 rfl ?_
        refine Round_n (i + 1, N ++ [x], v8) ⟨rfl, rfl, rfl, rfl, rfl, trivial⟩ ⟨by dsimp only; omega, hpk, by dsimp only; rw [List.length_append, List.length_singleton]; omega, hc08, ?_, hfr, hg8f⟩ (by dsimp only; omega)
        dsimp only
        rw [List.length_append, List.flatMap_append]
        simpa using hu8
  obtain rfl : i = xs.length := by omega
  rw [List.drop_length, putK] at hpk
  have hgfo : gf ∉ (Value.slice Au N.length cu).ownBlock.toList := fun hm => by
    obtain ⟨cur, hrow⟩ := hu3.row (show _ = some gf by simpa using hm)
    exact hg3.ne_ hrow (by decide) rfl
  refine go T 6 rfl ?_
  refine rndX ?_
  refine go T 5 rfl ?_
  refine o1 rfl ?_
  refine op_makeFunc (fv := #[]) (cv := #[ptrV gf]) rfl rfl rfl ?_
  refine o1 rfl ?_
  refine op_call rfl rfl rfl (sortPar0_has gf _ N w3 hu3 (by omega) (hg3.cell rfl) hgfo) ?_
  rintro _ w4 ⟨rfl, hc4, N', hp, hpw, hu4⟩
  have hlen4 : N'.length = N.length := hp.length_eq
  have hc04 : Chg v.ownBlock.toList w w4 := hc3.trans hc4 (fun k hk hlt => (hf3 k (by simpa using hk)).resolve_right (by omega))
  refine go T 10 rfl ?_
  refine post2 (.inl rfl) rfl rfl rfl ⟨hc04, ?_, ?_⟩
  · intro h; rw [hpk] at h; cases h
  · intro M' h hn
    rw [hpk] at h; injection h with h; subst h
    obtain rfl := sortK_unique (key := parKey) hn hp hpw
    refine ⟨_, rfl, ?_, hf3⟩
    rw [hlen4] at hu4 ⊢
    exact hu4
end Go.Proofs.YtiadjkjlifnopaaGreatDoor.Tryz
/-! Manifests: later, whether all went, and the first parts of fine. -/
set_option linter.unusedVariables false
namespace Go.Vc
open Go
def laterM (was is_ : Int) : Int × Bool := if is_ = 0 then (was, true) else (is_, decide (was ≤ is_))
def sealedAt (n : Int) (s : SegM) : Bool := decide (s.num = n) && s.sealed
def fineM (S : List SegM) (Q : List ParV) (nx : Int) (X : List ParV) : Bool :=
  (X.all fun q => q.p.nums.all fun n => S.any (sealedAt n)) && (decide (max S.length Q.length ≤ 60) && (!(S.any fun s => decide (nx ≤ s.num)) && !(Q.any fun q => decide (nx ≤ q.p.group))))
end Go.Vc
namespace Go.Proofs.YtiadjkjlifnopaaGreatDoor.Tryz
open Go Go.Vc
theorem later_has (was is_ : Int) (w : World) : Has Go.Proofs.Tryz.prog 102 #[.int .i64 was, .int .i64 is_] w (fun v w' => w' = w ∧ v = .tuple #[.int .i64 (laterM was is_).1, .bool (laterM was is_).2]) := by
  refine enter Go.Proofs.Tryz.func102 rfl rfl (by decide) rfl (e := [(0, .int .i64 was), (1, .int .i64 is_)]) ⟨rfl, rfl, trivial⟩ ?_
  unfold laterM
  by_cases h0 : is_ = 0
  · rw [if_pos h0]
    refine run ?_
    refine go T 10 rfl ?_
    refine eqT rfl rfl rfl rfl (by omega) ?_
    refine go T 12 rfl ?_
    exact post2 (.inl rfl) rfl rfl rfl ⟨rfl, rfl⟩
  · rw [if_neg h0]
    by_cases h1 : was ≤ is_
    · rw [decide_eq_true h1]
      refine run ?_
      refine go T 10 rfl ?_
      refine eqF rfl rfl rfl rfl (by omega) ?_
      refine go T 10 rfl ?_
      refine geT rfl rfl rfl rfl (by omega) ?_
      refine go T 5 rfl ?_
      exact post2 (.inl rfl) rfl rfl rfl ⟨rfl, rfl⟩
    · rw [decide_eq_false h1]
      refine run ?_
      refine go T 10 rfl ?_
      refine eqF rfl rfl rfl rfl (by omega) ?_
      refine go T 10 rfl ?_
      refine geF rfl rfl rfl rfl (by omega) ?_
      refine go T 5 rfl ?_
      exact post2 (.inl rfl) rfl rfl rfl ⟨rfl, rfl⟩
theorem fine1_has (gn : Nat) (s : SegM) (n : Int) (w : World) (hn : Blk w gn 2 [.int .i64 n]) :
    Has Go.Proofs.Tryz.prog 152 #[.agg (segL s).toArray, ptrV gn] w (fun v w' => Chg [] w w' ∧ v = .bool (sealedAt n s)) := by
  refine enter Go.Proofs.Tryz.func152 rfl rfl (by decide) rfl (e := [(0, .agg (segL s).toArray), (1, ptrV gn)]) ⟨rfl, rfl, trivial⟩ ?_
  unfold ptrV sealedAt
  refine run ?_
  refine go T 2 rfl ?_
  refine o1 rfl ?_
  refine op_box rfl rfl (fun g w1 hs1 hc1 hg1 => ?_)
  have hg1 : Blk w1 g 26 (segL s) := hg1
  have hn1 := hn.keep0 hc1
  unfold segL at hg1
  by_cases h : s.num = n
  · rw [decide_eq_true h, Bool.true_and]
    refine go T 6 rfl ?_
    refine ldB T hg1 rfl rfl rfl rfl rfl rfl ?_
    refine ldB T hn1 rfl rfl rfl rfl rfl rfl ?_
    refine eqT rfl rfl rfl rfl (by omega) ?_
    refine go T 2 rfl ?_
    refine ldB T hg1 rfl rfl rfl rfl rfl rfl ?_
    refine go T 5 rfl ?_
    exact post1 (.inl rfl) rfl rfl ⟨hc1, rfl⟩
  · rw [decide_eq_false h, Bool.false_and]
    refine go T 6 rfl ?_
    refine ldB T hg1 rfl rfl rfl rfl rfl rfl ?_
    refine ldB T hn1 rfl rfl rfl rfl rfl rfl ?_
    refine eqF rfl rfl rfl rfl (by omega) ?_
    refine go T 8 rfl ?_
    exact post1 (.inl rfl) rfl rfl ⟨hc1, rfl⟩
theorem fine2_has (gs : Nat) (s : SegM) (va vp : Value) (nx sq : Int) (w : World) (hst : Blk w gs 99 [va, vp, .int .i64 nx, .int .i64 sq]) :
    Has Go.Proofs.Tryz.prog 153 #[.agg (segL s).toArray, ptrV gs] w (fun v w' => Chg [] w w' ∧ v = .bool (decide (nx ≤ s.num))) := by
  refine enter Go.Proofs.Tryz.func153 rfl rfl (by decide) rfl (e := [(0, .agg (segL s).toArray), (1, ptrV gs)]) ⟨rfl, rfl, trivial⟩ ?_
  unfold ptrV
  refine run ?_
  refine go T 2 rfl ?_
  refine o1 rfl ?_
  refine op_box rfl rfl (fun g w1 hs1 hc1 hg1 => ?_)
  have hg1 : Blk w1 g 26 (segL s) := hg1
  have hn1 := hst.keep0 hc1
  unfold segL at hg1
  by_cases h : nx ≤ s.num
  · rw [decide_eq_true h]
    refine go T 6 rfl ?_
    refine ldB T hg1 rfl rfl rfl rfl rfl rfl ?_
    refine go T 1 rfl ?_
    refine ldB T hn1 rfl rfl rfl rfl rfl rfl ?_
    refine geT rfl rfl rfl rfl (by omega) ?_
    refine go T 4 rfl ?_
    exact post1 (.inl rfl) rfl rfl ⟨hc1, rfl⟩
  · rw [decide_eq_false h]
    refine go T 6 rfl ?_
    refine ldB T hg1 rfl rfl rfl rfl rfl rfl ?_
    refine go T 1 rfl ?_
    refine ldB T hn1 rfl rfl rfl rfl rfl rfl ?_
    refine geF rfl rfl rfl rfl (by omega) ?_
    refine go T 4 rfl ?_
    exact post1 (.inl rfl) rfl rfl ⟨hc1, rfl⟩
theorem fine3_has (gs : Nat) (s : ParV) (va vp : Value) (nx sq : Int) (w : World) (hst : Blk w gs 99 [va, vp, .int .i64 nx, .int .i64 sq]) :
    Has Go.Proofs.Tryz.prog 154 #[.agg (parL s).toArray, ptrV gs] w (fun v w' => Chg [] w w' ∧ v = .bool (decide (nx ≤ s.p.group))) := by
  refine enter Go.Proofs.Tryz.func154 rfl rfl (by decide) rfl (e := [(0, .agg (parL s).toArray), (1, ptrV gs)]) ⟨rfl, rfl, trivial⟩ ?_
  unfold ptrV
  refine run ?_
  refine go T 2 rfl ?_
  refine o1 rfl ?_
  refine op_box rfl rfl (fun g w1 hs1 hc1 hg1 => ?_)
  have hg1 : Blk w1 g 70 (parL s) := hg1
  have hn1 := hst.keep0 hc1
  unfold parL at hg1
  by_cases h : nx ≤ s.p.group
  · rw [decide_eq_true h]
    refine go T 6 rfl ?_
    refine ldB T hg1 rfl rfl rfl rfl rfl rfl ?_
    refine go T 1 rfl ?_
    refine ldB T hn1 rfl rfl rfl rfl rfl rfl ?_
    refine geT rfl rfl rfl rfl (by omega) ?_
    refine go T 4 rfl ?_
    exact post1 (.inl rfl) rfl rfl ⟨hc1, rfl⟩
  · rw [decide_eq_false h]
    refine go T 6 rfl ?_
    refine ldB T hg1 rfl rfl rfl rfl rfl rfl ?_
    refine go T 1 rfl ?_
    refine ldB T hn1 rfl rfl rfl rfl rfl rfl ?_
    refine geF rfl rfl rfl rfl (by omega) ?_
    refine go T 4 rfl ?_
    exact post1 (.inl rfl) rfl rfl ⟨hc1, rfl⟩
end Go.Proofs.YtiadjkjlifnopaaGreatDoor.Tryz
/-! Manifests: fine. -/
set_option linter.unusedVariables false
namespace Go.Vc
open Go
theorem all_no {α : Type} {l : List α} {P : α → Bool} {i : Nat} {x : α} (h : l[i]? = some x) (hp : P x = false) : l.all P = false := by
  rw [Bool.eq_false_iff]
  intro ha
  have := List.all_eq_true.1 ha x (List.mem_of_getElem? h)
  rw [hp] at this; cases this
theorem all_take {α : Type} {l : List α} {P : α → Bool} {i : Nat} {x : α} (h : l[i]? = some x) (ha : (l.take i).all P = true) (hp : P x = true) : (l.take (i + 1)).all P = true := by
  rw [List.take_add_one, h, List.all_append, ha]
  simp [hp]
end Go.Vc
namespace Go.Proofs.YtiadjkjlifnopaaGreatDoor.Tryz
open Go Go.Vc
set_option maxHeartbeats 4000000 in
theorem fine_has (va vp : Value) (nx sq : Int) (B : Option Addr) (m d : Nat) (S : List SegM) (Q X : List ParV) (w : World) (hS : SliceK 6 (RdL segL) w va S) (hQ : SliceK 5 (RdL parL) w vp Q) (hX : SliceK 5 (RdL parL) w (.slice B m d) X) (hp : ∀ q ∈ X, PRd w q) (hone : ∀ q ∈ X, q.vn.oneCell' = true ∧ q.vs.oneCell' = true) :
    Has Go.Proofs.Tryz.prog 104 #[.agg #[va, vp, .int .i64 nx, .int .i64 sq], .slice B m d] w (fun v w' => Chg [] w w' ∧ v = .bool (fineM S Q nx X)) := by
  obtain ⟨rfl, hm1, hm2⟩ := hX.len
  unfold maxLen at hm2
  obtain ⟨As, cs, rfl, hs1, hs2⟩ := hS.form
  obtain ⟨Aq, cq, rfl, hq1, hq2⟩ := hQ.form
  unfold maxLen at hs2 hq2
  refine enter Go.Proofs.Tryz.func104 rfl rfl (by decide) rfl (e := [(0, .agg #[.slice As S.length cs, .slice Aq Q.length cq, .int .i64 nx, .int .i64 sq]), (1, .slice B X.length d)]) ⟨rfl, rfl, trivial⟩ ?_
  refine run ?_
  refine go T 2 rfl ?_
  refine o1 rfl ?_
  refine op_box rfl rfl (fun gs w1 hs1 hc1 hg1 => ?_)
  have hg1 : Blk w1 gs 99 [.slice As S.length cs, .slice Aq Q.length cq, .int .i64 nx, .int .i64 sq] := hg1
  refine go T 12 rfl ?_
  refine W_loop (σ := Nat) (fun k => [(2, .pointer (some ⟨gs, 0, none⟩)), (9, .slice B X.length d), (10, .int .i64 X.length), (11, .int .i64 (k : Int))])
    (fun k w' => k ≤ X.length ∧ Chg [] w1 w' ∧ (X.take k).all (fun q => q.p.nums.all fun n => S.any (sealedAt n)) = true)
    (fun k => X.length - k) 0 ⟨rfl, rfl, rfl, rfl, trivial⟩ ⟨by omega, Chg.refl _ _, by simp⟩ ?_
  rintro k w3 ⟨hk, hc3, hall⟩
  have hg3 := hg1.keep0 hc3
  refine run ?_
  refine go T 2 rfl ?_
  refine ltS rfl rfl rfl rfl (fun hcmp => ?_) (fun hcmp => ?_)
  · have hk2 : k < X.length := by omega
    have hx : X[k]? = some X[k] := List.getElem?_eq_getElem hk2
    have hmem : X[k] ∈ X := List.getElem_mem hk2
    obtain ⟨ad, hA, hel⟩ := hX.at hx
    have hpr := hp _ hmem
    have hon := hone _ hmem
    subst hA
    generalize X[k] = q at *
    have hc03 : Chg [] w w3 := hc1.trans' hc3
    obtain ⟨hnr, _⟩ := hpr
    obtain ⟨An, cn, hvn, hn1, hn2⟩ := hnr.form
    unfold maxLen at hn2
    refine go T 10 rfl ?_
    refine o1 rfl (op_indexK T rfl rfl rfl rfl rfl (by omega) ?_)
    refine o1 rfl ?_
    refine op_load_cells (cs := parL q) T rfl rfl rfl rfl rfl (fun j u hj => hc03.cell0 (by rw [add_of_add]; exact hel j u hj)) ?_
    refine o1 rfl ?_
    refine op_alloc T rfl rfl (fun g6 w4 hs4 hc4 hg4 => ?_)
    have hg4 : Blk w4 g6 70 [.int .i64 0, .slice none 0 0, .slice none 0 0, .int .i64 0, .int .u32 0] := hg4
    have hs4 : w3.heap.size ≤ g6 := hs4
    refine op0 rfl rfl ?_
    refine op_store_agg T rfl rfl rfl rfl rfl (List.all_eq_true.2 fun u hu => by
      have hu : u ∈ parL q := hu
      simp only [parL, List.mem_cons, List.not_mem_nil, or_false] at hu
      rcases hu with rfl | rfl | rfl | rfl | rfl
      · rfl
      · exact hon.1
      · exact hon.2
      · rfl
      · rfl) hg4 (by exact Nat.le_of_ble_eq_true rfl) (fun w5 hc5 hg5 _ => ?_)
    have hg5 : Blk w5 g6 70 (parL q) := hg5
    have hc35 : Chg [] w3 w5 := hc4.trans hc5 (fun k hk hlt => by simp at hk; omega)
    have hc15 : Chg [] w1 w5 := hc3.trans' hc35
    clear hg4
    have hg5s := hg3.keep0 hc35
    unfold parL at hg5
    rw [hvn] at hg5
    refine go T 5 rfl ?_
    refine ldB T hg5 rfl rfl rfl rfl rfl rfl ?_
    refine go T 5 rfl ?_
    refine W_loop (σ := Nat) (fun j => [(2, .pointer (some ⟨gs, 0, none⟩)), (9, .slice (some ad) X.length d), (10, .int .i64 X.length), (11, .int .i64 (k : Int)), (16, .slice An q.p.nums.length cn), (17, .int .i64 q.p.nums.length), (18, .int .i64 (j : Int))])
      (fun j w' => j ≤ q.p.nums.length ∧ Chg [] w1 w' ∧ (q.p.nums.take j).all (fun n => S.any (sealedAt n)) = true)
      (fun j => q.p.nums.length - j) 0 ⟨rfl, rfl, rfl, rfl, rfl, rfl, rfl, trivial⟩ ⟨by omega, hc15, by simp⟩ ?_
    rintro j w6 ⟨hj, hc6, hallj⟩
    have hg6 := hg1.keep0 hc6
    refine run ?_
    refine go T 2 rfl ?_
    refine ltS rfl rfl rfl rfl (fun hcmp => ?_) (fun hcmp => ?_)
    · have hj2 : j < q.p.nums.length := by omega
      have hy : q.p.nums[j]? = some q.p.nums[j] := List.getElem?_eq_getElem hj2
      rw [hvn] at hnr
      obtain ⟨adn, u0, rfl, hu0, rfl, _, _⟩ := hnr.get hy
      generalize q.p.nums[j] = n at *
      have hu0' := (hc1.trans' hc6).cell0 hu0
      refine go T 10 rfl ?_
      refine o1 rfl (op_index_nat T rfl rfl rfl rfl rfl rfl (by omega) ?_)
      refine o1 rfl (op_load T rfl rfl rfl rfl (by assumption) ?_)
      refine o1 rfl ?_
      refine op_alloc T rfl rfl (fun gn w7 hs7 hc7 hg7 => ?_)
      have hg7 : Blk w7 gn 2 [.int .i64 0] := hg7
      have hs7 : w6.heap.size ≤ gn := hs7
      refine op0 rfl rfl ?_
      refine op_store T rfl rfl rfl rfl rfl rfl hg7 (by simp) (fun w8 hc8 hg8 _ => ?_)
      have hg8 : Blk w8 gn 2 [.int .i64 n] := hg8
      have hc68 : Chg [] w6 w8 := hc7.trans hc8 (fun k hk hlt => by simp at hk; omega)
      have hc18 : Chg [] w1 w8 := hc6.trans' hc68
      have hg8s := hg6.keep0 hc68
      clear hg7
      refine go T 5 rfl ?_
      refine ldB T hg8s rfl rfl rfl rfl rfl rfl ?_
      refine o1 rfl ?_
      refine op_makeFunc (fv := #[]) (cv := #[ptrV gn]) rfl rfl rfl ?_
      refine o1 rfl ?_
      refine op_call rfl rfl rfl (hasSeg_has As _ cs S _ _ (sealedAt n) (hS.keepR (hc1.trans' hc18)) (fun wq s hq _ => fine1_has gn s n wq (hg8.keep0 hq))) ?_
      rintro _ w9 ⟨hc9, rfl⟩
      have hc19 := hc18.trans' hc9
      cases hany : S.any (sealedAt n) with
      | false =>
        have hno : (q.p.nums.all fun n => S.any (sealedAt n)) = false := all_no hy hany
        have hno2 : (X.all fun q => q.p.nums.all fun n => S.any (sealedAt n)) = false := all_no hx hno
        refine go T 12 rfl ?_
        refine rndR ?_
        refine go T 3 rfl ?_
        refine rndR ?_
        refine go T 2 rfl ?_
        exact post1 (.inl rfl) rfl rfl ⟨hc1.trans' hc19, by unfold fineM; rw [hno2, Bool.false_and]⟩
      | true =>
        refine go T 8 rfl ?_
        refine adI rfl rfl rfl rfl (by omega) (by omega) ?_
        refine go T 2 rfl ?_
        exact Round_n (j + 1) ⟨rfl, rfl, rfl, rfl, rfl, rfl, rfl, trivial⟩ ⟨by omega, hc19, all_take hy hallj hany⟩ (by omega)
    obtain rfl : j = q.p.nums.length := by omega
    rw [List.take_length] at hallj
    refine go T 6 rfl ?_
    refine rndX ?_
    refine go T 4 rfl ?_
    refine adI rfl rfl rfl rfl (by omega) (by omega) ?_
    refine go T 2 rfl ?_
    exact Round_n (k + 1) ⟨rfl, rfl, rfl, rfl, trivial⟩ ⟨by omega, hc6, all_take hx hall hallj⟩ (by omega)
  obtain rfl : k = X.length := by omega
  rw [List.take_length] at hall
  have hc03 : Chg [] w w3 := hc1.trans' hc3
  unfold fineM
  rw [hall, Bool.true_and]
  by_cases h60 : max S.length Q.length ≤ 60
  · rw [decide_eq_true h60, Bool.true_and]
    have h60a : (max (S.length : Int) Q.length) ≤ 60 := by omega
    refine go T 6 rfl ?_
    refine rndX ?_
    refine go T 5 rfl ?_
    refine ldB T hg3 rfl rfl rfl rfl rfl rfl ?_
    refine go T 2 rfl ?_
    refine ldB T hg3 rfl rfl rfl rfl rfl rfl ?_
    refine go T 1 rfl ?_
    refine o1 rfl (op_max rfl rfl rfl ?_)
    refine leT rfl rfl rfl rfl (by omega) ?_
    refine go T 2 rfl ?_
    refine ldB T hg3 rfl rfl rfl rfl rfl rfl ?_
    refine o1 rfl ?_
    refine op_makeFunc (fv := #[]) (cv := #[ptrV gs]) rfl rfl rfl ?_
    refine o1 rfl ?_
    refine op_call rfl rfl rfl (hasSeg_has As _ cs S _ _ (fun s => decide (nx ≤ s.num)) (hS.keepR hc03) (fun wq s hq _ => fine2_has gs s _ _ nx sq wq (hg3.keep0 hq))) ?_
    rintro _ w4 ⟨hc4, rfl⟩
    have hg4 := hg3.keep0 hc4
    cases hany : S.any (fun s => decide (nx ≤ s.num)) with
    | true =>
      refine go T 13 rfl ?_
      exact post1 (.inl rfl) rfl rfl ⟨hc03.trans' hc4, rfl⟩
    | false =>
      refine go T 4 rfl ?_
      refine ldB T hg4 rfl rfl rfl rfl rfl rfl ?_
      refine o1 rfl ?_
      refine op_makeFunc (fv := #[]) (cv := #[ptrV gs]) rfl rfl rfl ?_
      refine o1 rfl ?_
      refine op_call rfl rfl rfl (hasPar_has Aq _ cq Q _ _ (fun s => decide (nx ≤ s.p.group)) (hQ.keepR (hc03.trans' hc4)) (fun wq s hq _ => fine3_has gs s _ _ nx sq wq (hg4.keep0 hq))) ?_
      rintro _ w5 ⟨hc5, rfl⟩
      cases hany2 : Q.any (fun s => decide (nx ≤ s.p.group)) with
      | true =>
        refine go T 6 rfl ?_
        exact post1 (.inl rfl) rfl rfl ⟨(hc03.trans' hc4).trans' hc5, rfl⟩
      | false =>
        refine go T 6 rfl ?_
        exact post1 (.inl rfl) rfl rfl ⟨(hc03.trans' hc4).trans' hc5, rfl⟩
  · rw [decide_eq_false h60, Bool.false_and]
    have h60a : ¬ (max (S.length : Int) Q.length) ≤ 60 := by omega
    refine go T 6 rfl ?_
    refine rndX ?_
    refine go T 5 rfl ?_
    refine ldB T hg3 rfl rfl rfl rfl rfl rfl ?_
    refine go T 2 rfl ?_
    refine ldB T hg3 rfl rfl rfl rfl rfl rfl ?_
    refine go T 1 rfl ?_
    refine o1 rfl (op_max rfl rfl rfl ?_)
    refine leF rfl rfl rfl rfl (by omega) ?_
    refine go T 18 rfl ?_
    exact post1 (.inl rfl) rfl rfl ⟨hc03, rfl⟩
end Go.Proofs.YtiadjkjlifnopaaGreatDoor.Tryz
/-! Manifests: whether one of some truths is x; an array as a slice; what apply makes, in plain words. -/
set_option linter.unusedVariables false
namespace Go.Vc
open Go
theorem op_slice_arr {P : Program} {N : Nat} {e : Env} {w : World} {o : Oper} {K : Value → World → Prop} (T : Types P) {x : Operand} {t el n g : Nat} {d : TInfo}
    (hop : o.op = .slice t x none none none) (hx : ev e x = some (.pointer (some ⟨g, 0, none⟩))) (ht : T.d t = some (.array n el)) (hel : T.tbl el = some d) (hn : 0 < n) (h : K (.slice (some ⟨g, 0, none⟩) n n) w) : OpW P N o e w K := by
  obtain ⟨q, hq, _, _, _⟩ := T.inf el d hel
  have hn0 : ¬ n = 0 := by omega
  exact OpW_run (fun a ha => by simp [execOp, hop, ha.ev hx, Instr.sliceAt, Instr.sureAddr, Instr.sliceBounds, run_underlying (T.und' ht), sizeOf, typeInfo, hq, hn0, Result.andThen]; rfl) h
structure StM where
  segs : List SegM
  pars : List ParS
  next : Int
  seq : Int
/-- An edit at a state: the new state, or none. first: as it is read, its parities' segments need not stand. -/
def applyM (st : StM) (e : EditM) (X : List ParS) (first : Bool) : Option StM :=
  let t1 := takeK (fun s : SegM => s.num) e.dels st.segs
  let p1 := putK (fun s : SegM => s.num) e.adds (t1.getD [])
  let s2 := (p1.map (sortK (fun s : SegM => s.num))).getD []
  let t2 := takeK parKey e.drops st.pars
  let p2 := putK parKey X (t2.getD [])
  let q2 := (p2.map (sortK parKey)).getD []
  let n := laterM st.next e.next
  let s := laterM st.seq e.seq
  if (editB e && (t1.isSome && (p1.isSome && (t2.isSome && (p2.isSome && (n.2 && (s.2 && fineM s2 (q2.map (·.1)) n.1 (if first then [] else X.map (·.1))))))))) = true then some ⟨s2, q2, n.1, s.1⟩ else none
end Go.Vc
namespace Go.Proofs.YtiadjkjlifnopaaGreatDoor.Tryz
open Go Go.Vc
set_option maxHeartbeats 1000000 in
theorem indexB_has (A : Option Addr) (n c : Nat) (L : List Bool) (b : Bool) (w : World) (hs : SliceOf Rbool w (.slice A n c) L) :
    Has Go.Proofs.Tryz.prog 88 #[.slice A n c, .bool b] w (fun v w' => w' = w ∧ v = .int .i64 (idxM (fun x => b == x) L)) := by
  obtain ⟨rfl, hl1, hl2⟩ := hs.len
  unfold maxLen at hl2
  refine enter Go.Proofs.Tryz.func88 rfl rfl (by decide) rfl (e := [(0, .slice A L.length c), (1, .bool b)]) ⟨rfl, rfl, trivial⟩ ?_
  refine run ?_
  refine go T 14 rfl ?_
  refine W_loop (σ := Nat) (fun i => [(0, .slice A L.length c), (1, .bool b), (6, .slice A L.length c), (7, .int .i64 L.length), (8, .int .i64 i)])
    (fun (i : Nat) w' => i ≤ L.length ∧ (∀ (j : Nat) y, j < i → L[j]? = some y → (b == y) = false) ∧ w' = w) (fun i => L.length - i) 0 ⟨rfl, rfl, rfl, rfl, rfl, trivial⟩ ⟨by omega, fun j y hj => by omega, rfl⟩ ?_
  rintro i w1 ⟨hi, hb, rfl⟩
  refine run ?_
  refine go T 2 rfl ?_
  refine ltS rfl rfl rfl rfl (fun hcmp => ?_) (fun hcmp => ?_)
  · have hlt : i < L.length := by omega
    have hx := List.getElem?_eq_getElem hlt
    obtain ⟨ad, u, rfl, hu, hur⟩ := hs.get hx
    generalize L[i] = y at *
    obtain rfl : u = .bool y := hur
    refine go T 19 rfl ?_
    refine o1 rfl (op_index_nat T rfl rfl rfl rfl rfl rfl (by omega) ?_)
    refine o1 rfl (op_load T rfl rfl rfl rfl (by assumption) ?_)
    refine o1 rfl ?_
    refine op_eql_bools T rfl rfl rfl rfl ?_
    cases hp : (b == y) with
    | true =>
      rw [idxM_stop (p := fun x => b == x) hx hp hb]
      refine go T 12 rfl ?_
      refine rndR ?_
      refine go T 2 rfl ?_
      exact post1 (.inl rfl) rfl rfl ⟨rfl, rfl⟩
    | false =>
      refine go T 7 rfl ?_
      refine adI rfl rfl rfl rfl (by omega) (by omega) ?_
      refine go T 2 rfl ?_
      refine Round_n (i + 1) ⟨rfl, rfl, rfl, rfl, rfl, trivial⟩ ⟨by omega, fun j z hj hz => ?_, rfl⟩ (by omega)
      by_cases hji : j = i
      · subst hji; rw [hx] at hz; injection hz with hz; subst hz; exact hp
      · exact hb j z (by omega) hz
  · rw [idxM_none (p := fun x => b == x) (l := L) (fun x hx => by
      obtain ⟨j, hj⟩ := List.getElem?_of_mem hx
      have := (List.getElem?_eq_some_iff.1 hj).1
      exact hb j x (by omega) hj)]
    refine go T 6 rfl ?_
    refine rndX ?_
    refine go T 8 rfl ?_
    exact post1 (.inl rfl) rfl rfl ⟨rfl, rfl⟩
theorem hasB_has (A : Option Addr) (n c : Nat) (L : List Bool) (b : Bool) (w : World) (hs : SliceOf Rbool w (.slice A n c) L) :
    Has Go.Proofs.Tryz.prog 103 #[.slice A n c, .bool b] w (fun v w' => w' = w ∧ v = .bool (L.any (fun x => b == x))) := by
  refine enter Go.Proofs.Tryz.func103 rfl rfl (by decide) rfl (e := [(0, .slice A n c), (1, .bool b)]) ⟨rfl, rfl, trivial⟩ ?_
  refine run ?_
  refine go T 9 rfl ?_
  refine o1 rfl ?_
  refine op_call rfl rfl rfl (indexB_has A n c L b w hs) ?_
  rintro _ w ⟨rfl, rfl⟩
  rw [any_idxM]
  by_cases h : 0 ≤ idxM (fun x => b == x) L
  · rw [decide_eq_true h]
    refine geT rfl rfl rfl rfl (by omega) ?_
    refine go T 4 rfl ?_
    exact post1 (.inl rfl) rfl rfl ⟨rfl, rfl⟩
  · rw [decide_eq_false h]
    refine geF rfl rfl rfl rfl (by omega) ?_
    refine go T 4 rfl ?_
    exact post1 (.inl rfl) rfl rfl ⟨rfl, rfl⟩
end Go.Proofs.YtiadjkjlifnopaaGreatDoor.Tryz
/-! Manifests: take and put, what they give in one sentence. -/
set_option linter.unusedVariables false
namespace Go.Vc
open Go
def numK (s : SegM) : Int := s.num
def tookK {α : Type} (key : α → Int) (ns : List Int) (L : List α) : List α := (takeK key ns L).getD []
def putsK {α : Type} (key : α → Int) (xs M : List α) : List α := ((putK key xs M).map (sortK key)).getD []
theorem took_nodup {α : Type} {key : α → Int} {ns : List Int} {L : List α} (h : (L.map key).Nodup) : ((tookK key ns L).map key).Nodup := by
  unfold tookK
  cases ht : takeK key ns L with
  | none => simp
  | some L' => exact ((takeK_sub ht).map key).nodup h
theorem took_len {α : Type} {key : α → Int} {ns : List Int} {L : List α} : (tookK key ns L).length ≤ L.length := by
  unfold tookK
  cases ht : takeK key ns L with
  | none => simp
  | some L' => exact (takeK_sub ht).length_le
theorem sortK_perm {α : Type} (key : α → Int) (L : List α) : (sortK key L).Perm L := isM_perm (le := leK key) L
theorem puts_nodup {α : Type} {key : α → Int} {xs M : List α} (h : (M.map key).Nodup) : ((putsK key xs M).map key).Nodup := by
  unfold putsK
  cases ht : putK key xs M with
  | none => simp
  | some M' => exact ((sortK_perm key M').map key).nodup_iff.2 ((putK_eq ht).2 h)
end Go.Vc
namespace Go.Proofs.YtiadjkjlifnopaaGreatDoor.Tryz
open Go Go.Vc
theorem takeU_has (v : Value) (L : List SegM) (vn : Value) (ns : List Int) (w : World) (hl : SliceK 6 (RdL segL) w v L) (hns : SliceOf Ri64 w vn ns) (hb : L.length ≤ 1000000) :
    Has Go.Proofs.Tryz.prog 96 #[v, vn, segF] w (fun v' w' => ∃ u, v' = .tuple #[u, .bool (takeK numK ns L).isSome] ∧ Chg [] w w' ∧ Own w' 26 6 u (tookK numK ns L).length ((tookK numK ns L).flatMap segL) ∧ ∀ g, u.ownBlock = some g → w.heap.size ≤ g) := by
  obtain ⟨A, c, rfl, _, _⟩ := hl.form
  obtain ⟨B, d, rfl, _, _⟩ := hns.form
  refine (take_has A _ c L B _ d ns w hl hns hb).mono ?_
  rintro v' w' ⟨hc, h1, h2⟩
  unfold tookK
  change takeK numK ns L = none → _ at h1
  change ∀ L', takeK numK ns L = some L' → _ at h2
  cases h : takeK numK ns L with
  | none => exact ⟨_, h1 h, hc, Own.nil _ _ _, fun g hg => by simp [Value.ownBlock] at hg⟩
  | some L' =>
    obtain ⟨u, e, ho, hf⟩ := h2 L' h
    exact ⟨u, e, hc, ho, hf⟩
theorem putU_has (v : Value) (M : List SegM) (vx : Value) (xs : List SegM) (w : World) (hown : Own w 26 6 v M.length (M.flatMap segL)) (hxs : Firm v.ownBlock.toList w (fun w => SliceK 6 (RdL segL) w vx xs)) (hb : M.length + xs.length ≤ 1000000) (hn : (M.map numK).Nodup) :
    Has Go.Proofs.Tryz.prog 98 #[v, vx, segF] w (fun v' w' => ∃ u, v' = .tuple #[u, .bool (putK numK xs M).isSome] ∧ Chg v.ownBlock.toList w w' ∧ Own w' 26 6 u (putsK numK xs M).length ((putsK numK xs M).flatMap segL) ∧ ∀ g, u.ownBlock = some g → g ∈ v.ownBlock.toList ∨ w.heap.size ≤ g) := by
  obtain ⟨B, d, rfl, _, _⟩ := (hxs w (Chg.refl _ _)).form
  refine (put_has' v M B _ d xs w hown hxs hb).mono ?_
  rintro v' w' ⟨hc, h1, h2⟩
  unfold putsK
  change putK numK xs M = none → _ at h1
  change ∀ M', putK numK xs M = some M' → _ at h2
  cases h : putK numK xs M with
  | none => exact ⟨_, h1 h, hc, Own.nil _ _ _, fun g hg => by simp [Value.ownBlock] at hg⟩
  | some M' =>
    obtain ⟨u, e, ho, hf⟩ := h2 M' h ((putK_eq h).2 hn)
    exact ⟨u, e, hc, ho, hf⟩
theorem takePU_has (v : Value) (L : List ParS) (vn : Value) (ns : List Int) (w : World) (hl : SliceK 5 (RdL parSL) w v L) (hns : SliceOf Ri64 w vn ns) (hb : L.length ≤ 1000000) :
    Has Go.Proofs.Tryz.prog 99 #[v, vn, parF] w (fun v' w' => ∃ u, v' = .tuple #[u, .bool (takeK parKey ns L).isSome] ∧ Chg [] w w' ∧ Own w' 70 5 u (tookK parKey ns L).length ((tookK parKey ns L).flatMap parSL) ∧ ∀ g, u.ownBlock = some g → w.heap.size ≤ g) := by
  obtain ⟨A, c, rfl, _, _⟩ := hl.form
  obtain ⟨B, d, rfl, _, _⟩ := hns.form
  refine (takeP_has A _ c L B _ d ns w hl hns hb).mono ?_
  rintro v' w' ⟨hc, h1, h2⟩
  unfold tookK
  cases h : takeK parKey ns L with
  | none => exact ⟨_, h1 h, hc, Own.nil _ _ _, fun g hg => by simp [Value.ownBlock] at hg⟩
  | some L' =>
    obtain ⟨u, e, ho, hf⟩ := h2 L' h
    exact ⟨u, e, hc, ho, hf⟩
theorem putPU_has (v : Value) (M : List ParS) (vx : Value) (xs : List ParS) (w : World) (hown : Own w 70 5 v M.length (M.flatMap parSL)) (hxs : Firm v.ownBlock.toList w (fun w => SliceK 5 (RdL parSL) w vx xs)) (hb : M.length + xs.length ≤ 1000000) (hn : (M.map parKey).Nodup) :
    Has Go.Proofs.Tryz.prog 101 #[v, vx, parF] w (fun v' w' => ∃ u, v' = .tuple #[u, .bool (putK parKey xs M).isSome] ∧ Chg v.ownBlock.toList w w' ∧ Own w' 70 5 u (putsK parKey xs M).length ((putsK parKey xs M).flatMap parSL) ∧ ∀ g, u.ownBlock = some g → g ∈ v.ownBlock.toList ∨ w.heap.size ≤ g) := by
  obtain ⟨B, d, rfl, _, _⟩ := (hxs w (Chg.refl _ _)).form
  refine (putP_has' v M B _ d xs w hown hxs hb).mono ?_
  rintro v' w' ⟨hc, h1, h2⟩
  unfold putsK
  cases h : putK parKey xs M with
  | none => exact ⟨_, h1 h, hc, Own.nil _ _ _, fun g hg => by simp [Value.ownBlock] at hg⟩
  | some M' =>
    obtain ⟨u, e, ho, hf⟩ := h2 M' h ((putK_eq h).2 hn)
    exact ⟨u, e, hc, ho, hf⟩
end Go.Proofs.YtiadjkjlifnopaaGreatDoor.Tryz
/-! Manifests: apply. -/
set_option linter.unusedVariables false
namespace Go.Vc
open Go
theorem own_one {w : World} {t : TypeId} {k n : Nat} {v : Value} {xs : List Value} (h : Own w t k v n xs) : v.oneCell' = true := by
  obtain ⟨A, c, rfl, _, _⟩ := h.form
  rfl
theorem par_reads_inv {w : World} {v : Value} {L : List ParS} (h : SliceK 5 (RdL parL) w v (L.map (·.1))) : SliceK 5 (RdL parSL) w v L := by
  unfold SliceK at *
  obtain ⟨A, c, rfl, h1, h2, h⟩ := h
  rw [List.length_map] at h1 ⊢
  refine ⟨A, c, rfl, h1, h2, fun i x hx => ?_⟩
  exact h i x.1 (by rw [List.getElem?_map, hx]; rfl)
end Go.Vc
namespace Go.Proofs.YtiadjkjlifnopaaGreatDoor.Tryz
open Go Go.Vc
set_option maxHeartbeats 8000000 in
theorem apply_has (st : StM) (va vp : Value) (x : EdV) (X : List ParS) (first : Bool) (w : World) (hS : SliceK 6 (RdL segL) w va st.segs) (hQ : SliceK 5 (RdL parSL) w vp st.pars) (hI : EdI x.e) (hr : ERd w x) (hXQ : x.Q = X.map (·.1)) (hbs : st.segs.length ≤ 1000) (hbq : st.pars.length ≤ 1000) (hns : (st.segs.map numK).Nodup) (hnq : (st.pars.map parKey).Nodup) :
    Has Go.Proofs.Tryz.prog 57 #[.agg #[va, vp, .int .i64 st.next, .int .i64 st.seq], .agg (edL x).toArray, .bool first] w (fun v w' => Chg [] w w' ∧ (applyM st x.e X first = none → v = .tuple #[.agg #[va, vp, .int .i64 st.next, .int .i64 st.seq], .bool false]) ∧ ∀ st', applyM st x.e X first = some st' → ∃ ua up, v = .tuple #[.agg #[ua, up, .int .i64 st'.next, .int .i64 st'.seq], .bool true] ∧ Own w' 26 6 ua st'.segs.length (st'.segs.flatMap segL) ∧ Own w' 70 5 up st'.pars.length (st'.pars.flatMap parSL) ∧ (∀ g, ua.ownBlock = some g → w.heap.size ≤ g) ∧ ∀ g, up.ownBlock = some g → w.heap.size ≤ g) := by
  refine enter Go.Proofs.Tryz.func57 rfl rfl (by decide) rfl (e := [(0, .agg #[va, vp, .int .i64 st.next, .int .i64 st.seq]), (1, .agg (edL x).toArray), (2, .bool first)]) ⟨rfl, rfl, rfl, trivial⟩ ?_
  obtain ⟨As, cs, rfl, _, _⟩ := hS.form
  obtain ⟨Aq, cq, rfl, _, _⟩ := hQ.form
  refine run ?_
  refine go T 2 rfl ?_
  refine o1 rfl ?_
  refine op_box rfl rfl (fun g3 w1 hs1 hc1 hg3 => ?_)
  have hg3 : Blk w1 g3 99 [.slice As st.segs.length cs, .slice Aq st.pars.length cq, .int .i64 st.next, .int .i64 st.seq] := hg3
  have hs1 : w.heap.size ≤ g3 := hs1
  refine o1 rfl ?_
  refine op_box rfl rfl (fun g4 w2 hs2 hc2 hg4 => ?_)
  have hg4 : Blk w2 g4 49 (edL x) := hg4
  have hs2 : w1.heap.size ≤ g4 := hs2
  have hg3l := hg3.lt
  replace hg3 := hg3.keep0 hc2
  have hc02 := hc1.trans' hc2
  refine o1 rfl ?_
  refine op_alloc T rfl rfl (fun g6 w3 hs3 hc3 hg6 => ?_)
  have hg6 : Blk w3 g6 99 [.slice none 0 0, .slice none 0 0, .int .i64 0, .int .i64 0] := hg6
  have hs3 : w2.heap.size ≤ g6 := hs3
  have hg4l := hg4.lt
  replace hg3 := hg3.keep0 hc3
  replace hg4 := hg4.keep0 hc3
  have hc03 := hc02.trans' hc3
  refine go T 6 rfl ?_
  refine o1 rfl (op_load_agg T rfl rfl rfl rfl hg4 (by exact Nat.le_of_ble_eq_true rfl) (by exact rfl) ?_)
  refine o1 rfl ?_
  refine op_call rfl rfl rfl (checkE_has x hI (hr.keep0 hc03)) ?_
  rintro _ w4 ⟨hc4, rfl⟩
  have hg6l := hg6.lt
  replace hg3 := hg3.keep0 hc4
  replace hg4 := hg4.keep0 hc4
  replace hg6 := hg6.keep0 hc4
  have hc04 := hc03.trans' hc4
  have hz4 := hc4.size
  cases hB : editB x.e with
  | false =>
    have hno : applyM st x.e X first = none := by unfold applyM; rw [hB]; simp
    rw [if_neg (by simp)]
    refine neT rfl rfl rfl rfl (by omega) ?_
    refine go T 5 rfl ?_
    refine o1 rfl (op_load_agg T rfl rfl rfl rfl hg3 (by exact Nat.le_of_ble_eq_true rfl) (by exact rfl) ?_)
    refine op0 rfl rfl ?_
    refine op_store_agg T rfl rfl rfl rfl rfl rfl hg6 (by exact Nat.le_of_ble_eq_true rfl) (fun w5 hc5 hg6n _ => ?_)
    refine go T 5 rfl ?_
    refine post2c T (.inl rfl) rfl rfl rfl rfl rfl hg6n rfl ⟨hc04.trans hc5 (fun k hk hlt => by simp at hk; have := hc1.size; have := hc2.size; omega), fun _ => rfl, fun st' h => by rw [hno] at h; cases h⟩
  | true =>
  rw [if_pos rfl]
  obtain ⟨e, xa, xd, xp, xr, Q⟩ := x
  dsimp only at hI hXQ hB hr hg4 ⊢
  subst hXQ
  obtain ⟨ha, hd, hp, hpe, hpr, hdr⟩ := hr
  dsimp only at ha hd hp hpe hpr hdr
  have hX := par_reads_inv hp
  obtain ⟨Aa, ca, rfl, _, _⟩ := ha.form
  obtain ⟨Ad, cd, rfl, _, _⟩ := hd.form
  obtain ⟨Ap, cp, rfl, _, _⟩ := hX.form
  obtain ⟨Ar, cr, rfl, _, _⟩ := hdr.form
  have hlens : e.adds.length ≤ 60 ∧ X.length ≤ 60 := by
    have hpl : X.length = e.pars.length := by rw [← hpe]; simp
    have hB' := hB
    unfold editB at hB'
    simp only [Bool.and_eq_true, decide_eq_true_eq] at hB'
    omega
  have hg4 : Blk w4 g4 49 [.int .i64 e.next, .int .i64 e.seq, .slice Aa e.adds.length ca, .slice Ad e.dels.length cd, .slice Ap X.length cp, .slice Ar e.drops.length cr] := by simpa [edL] using hg4
  refine neF rfl rfl rfl rfl (by omega) ?_
  refine go T 7 rfl ?_
  refine o1 rfl ?_
  refine op_alloc T rfl rfl (fun g8 w5 hs5 hc5 hg8 => ?_)
  have hg8 : Blk w5 g8 143 [.bool false, .bool false, .bool false, .bool false, .bool false, .bool false] := hg8
  have hs5 : w4.heap.size ≤ g8 := hs5
  have hg8l := hg8.lt
  replace hg3 := hg3.keep0 hc5
  replace hg4 := hg4.keep0 hc5
  replace hg6 := hg6.keep0 hc5
  refine go T 4 rfl ?_
  refine o1 rfl (op_build T rfl rfl rfl rfl rfl rfl ?_)
  refine o1 rfl ?_
  refine op_alloc T rfl rfl (fun g9 w6 hs6 hc6 hg9 => ?_)
  have hg9 : Blk w6 g9 99 [.slice none 0 0, .slice none 0 0, .int .i64 0, .int .i64 0] := hg9
  have hs6 : w5.heap.size ≤ g9 := hs6
  replace hg3 := hg3.keep0 hc6
  replace hg4 := hg4.keep0 hc6
  replace hg6 := hg6.keep0 hc6
  replace hg8 := hg8.keep0 hc6
  have hg9l := hg9.lt
  refine op0 rfl rfl ?_
  refine op_store_agg T rfl rfl rfl rfl rfl rfl hg9 (by exact Nat.le_of_ble_eq_true rfl) (fun wb hc7 hg9n hsz7 => ?_)
  replace hg9 : Blk wb g9 99 [.slice none 0 0, .slice none 0 0, .int .i64 0, .int .i64 0] := hg9n
  clear hg9n
  replace hg3 := hg3.keep hc7 (by simp; omega)
  replace hg4 := hg4.keep hc7 (by simp; omega)
  replace hg6 := hg6.keep hc7 (by simp; omega)
  replace hg8 := hg8.keep hc7 (by simp; omega)
  have hc0 : Chg [] w wb := ((hc04.trans' hc5).trans' hc6).trans hc7 (fun k hk hlt => by simp at hk; have := hc04.size; omega)
  have hwg8 : w.heap.size ≤ g8 := by have := hc04.size; omega
  have hwg9 : w.heap.size ≤ g9 := by have := hc04.size; omega
  have h3 := hg3; have h4 := hg4
  have hcw : Chg [g8, g9] wb wb := Chg.refl _ _
  clear hc7 hc6 hc5 hc4 hc3 hc2 hc1 hc02 hc03 hc04
  refine go T 5 rfl ?_
  refine ldB T h3 rfl rfl rfl rfl rfl rfl ?_
  refine go T 1 rfl ?_
  refine ldB T h4 rfl rfl rfl rfl rfl rfl ?_
  refine o1 rfl ?_
  refine op_call rfl rfl rfl (takeU_has _ st.segs _ e.dels _ (hS.keepR (hc0.trans hcw (fun k hk hlt => by simp at hk; omega))) (SliceOf.kept Ri64.kept _ _ _ _ (hc0.trans hcw (fun k hk hlt => by simp at hk; omega)) hd) (by omega)) ?_
  rintro _ w5 ⟨u1, rfl, hcx, r1, r1f0⟩
  have r1f : ∀ g, (u1).ownBlock = some g → wb.heap.size ≤ g := fun g hg => by have := r1f0 g hg; have := hcw.size; omega
  clear r1f0
  replace hg8 := hg8.keep0 hcx
  replace hg9 := hg9.keep0 hcx
  replace hcw := hcw.trans' hcx
  replace h4 := h4.keep0 hcx
  replace h3 := h3.keep0 hcx
  clear hcx
  refine go T 4 rfl ?_
  refine op0 rfl rfl ?_
  refine op_store T rfl rfl rfl rfl rfl (own_one r1) hg9 (by simp) (fun wa5 hca hg9n _ => ?_)
  replace hg9 : Blk wa5 g9 99 [u1, .slice none 0 0, .int .i64 0, .int .i64 0] := hg9n
  clear hg9n
  replace hg8 := hg8.keep hca (by simp; omega)
  replace hcw := hcw.trans hca (fun k hk _ => by simp at hk; simp [hk])
  replace h4 := h4.keep hca (by simp; omega)
  replace h3 := h3.keep hca (by simp; omega)
  replace r1 := r1.keep hca (fun k hk hm => by have := r1f k hk; simp at hm; omega)
  clear hca
  refine o1 rfl ?_
  refine op_index_at T (i := 0) rfl rfl rfl rfl rfl rfl (by decide) ?_
  refine op0 rfl rfl ?_
  refine op_store T rfl rfl rfl rfl rfl rfl hg8 (by simp) (fun wb5 hcb hg8n _ => ?_)
  replace hg8 : Blk wb5 g8 143 [.bool (takeK numK e.dels st.segs).isSome, .bool false, .bool false, .bool false, .bool false, .bool false] := hg8n
  clear hg8n
  replace hg9 := hg9.keep hcb (by simp; omega)
  replace hcw := hcw.trans hcb (fun k hk _ => by simp at hk; simp [hk])
  replace h4 := h4.keep hcb (by simp; omega)
  replace h3 := h3.keep hcb (by simp; omega)
  replace r1 := r1.keep hcb (fun k hk hm => by have := r1f k hk; simp at hm; omega)
  clear hcb
  refine go T 5 rfl ?_
  refine ldB T hg9 rfl rfl rfl rfl rfl rfl ?_
  refine go T 1 rfl ?_
  refine ldB T h4 rfl rfl rfl rfl rfl rfl ?_
  refine o1 rfl ?_
  refine op_call rfl rfl rfl (putU_has _ _ _ e.adds _ r1 (fun wq hq => ha.keepR ((hc0.trans hcw (fun k hk hlt => by simp at hk; omega)).trans hq (fun k hk hlt => by have := r1f k (by simpa using hk); omega))) (by have := took_len (key := numK) (ns := e.dels) (L := st.segs); omega) (took_nodup hns)) ?_
  rintro _ w6 ⟨u2, rfl, hcx, r2, r2f0⟩
  have r2f : ∀ g, (u2).ownBlock = some g → wb.heap.size ≤ g := fun g hg => by
    rcases r2f0 g hg with h | h
    · exact r1f g (by simpa using h)
    · have := hcw.size; omega
  clear r2f0
  have hin : ∀ k, k < wb.heap.size → k ∉ (u1).ownBlock.toList := fun k hk hm => by have := r1f k (by simpa using hm); omega
  replace hg8 := hg8.keep hcx (hin _ (by omega))
  replace hg9 := hg9.keep hcx (hin _ (by omega))
  replace h4 := h4.keep hcx (hin _ (by omega))
  replace h3 := h3.keep hcx (hin _ (by omega))
  replace hcw := hcw.trans hcx (fun k hk hlt => absurd hk (hin k hlt))
  clear hcx hin r1
  refine go T 4 rfl ?_
  refine op0 rfl rfl ?_
  refine op_store T rfl rfl rfl rfl rfl (own_one r2) hg9 (by simp) (fun wa6 hca hg9n _ => ?_)
  replace hg9 : Blk wa6 g9 99 [u2, .slice none 0 0, .int .i64 0, .int .i64 0] := hg9n
  clear hg9n
  replace hg8 := hg8.keep hca (by simp; omega)
  replace hcw := hcw.trans hca (fun k hk _ => by simp at hk; simp [hk])
  replace h4 := h4.keep hca (by simp; omega)
  replace h3 := h3.keep hca (by simp; omega)
  replace r2 := r2.keep hca (fun k hk hm => by have := r2f k hk; simp at hm; omega)
  clear hca
  refine o1 rfl ?_
  refine op_index_at T (i := 1) rfl rfl rfl rfl rfl rfl (by decide) ?_
  refine op0 rfl rfl ?_
  refine op_store T rfl rfl rfl rfl rfl rfl hg8 (by simp) (fun wb6 hcb hg8n _ => ?_)
  replace hg8 : Blk wb6 g8 143 [.bool (takeK numK e.dels st.segs).isSome, .bool (putK numK e.adds (tookK numK e.dels st.segs)).isSome, .bool false, .bool false, .bool false, .bool false] := hg8n
  clear hg8n
  replace hg9 := hg9.keep hcb (by simp; omega)
  replace hcw := hcw.trans hcb (fun k hk _ => by simp at hk; simp [hk])
  replace h4 := h4.keep hcb (by simp; omega)
  replace h3 := h3.keep hcb (by simp; omega)
  replace r2 := r2.keep hcb (fun k hk hm => by have := r2f k hk; simp at hm; omega)
  clear hcb
  refine go T 5 rfl ?_
  refine ldB T h3 rfl rfl rfl rfl rfl rfl ?_
  refine go T 1 rfl ?_
  refine ldB T h4 rfl rfl rfl rfl rfl rfl ?_
  refine o1 rfl ?_
  refine op_call rfl rfl rfl (takePU_has _ st.pars _ e.drops _ (hQ.keepR (hc0.trans hcw (fun k hk hlt => by simp at hk; omega))) (SliceOf.kept Ri64.kept _ _ _ _ (hc0.trans hcw (fun k hk hlt => by simp at hk; omega)) hdr) (by omega)) ?_
  rintro _ w7 ⟨u3, rfl, hcx, r3, r3f0⟩
  have r3f : ∀ g, (u3).ownBlock = some g → wb.heap.size ≤ g := fun g hg => by have := r3f0 g hg; have := hcw.size; omega
  clear r3f0
  replace hg8 := hg8.keep0 hcx
  replace hg9 := hg9.keep0 hcx
  replace hcw := hcw.trans' hcx
  replace h4 := h4.keep0 hcx
  replace h3 := h3.keep0 hcx
  replace r2 := r2.keep0 hcx
  clear hcx
  refine go T 4 rfl ?_
  refine op0 rfl rfl ?_
  refine op_store T rfl rfl rfl rfl rfl (own_one r3) hg9 (by simp) (fun wa7 hca hg9n _ => ?_)
  replace hg9 : Blk wa7 g9 99 [u2, u3, .int .i64 0, .int .i64 0] := hg9n
  clear hg9n
  replace hg8 := hg8.keep hca (by simp; omega)
  replace hcw := hcw.trans hca (fun k hk _ => by simp at hk; simp [hk])
  replace h4 := h4.keep hca (by simp; omega)
  replace h3 := h3.keep hca (by simp; omega)
  replace r2 := r2.keep hca (fun k hk hm => by have := r2f k hk; simp at hm; omega)
  replace r3 := r3.keep hca (fun k hk hm => by have := r3f k hk; simp at hm; omega)
  clear hca
  refine o1 rfl ?_
  refine op_index_at T (i := 2) rfl rfl rfl rfl rfl rfl (by decide) ?_
  refine op0 rfl rfl ?_
  refine op_store T rfl rfl rfl rfl rfl rfl hg8 (by simp) (fun wb7 hcb hg8n _ => ?_)
  replace hg8 : Blk wb7 g8 143 [.bool (takeK numK e.dels st.segs).isSome, .bool (putK numK e.adds (tookK numK e.dels st.segs)).isSome, .bool (takeK parKey e.drops st.pars).isSome, .bool false, .bool false, .bool false] := hg8n
  clear hg8n
  replace hg9 := hg9.keep hcb (by simp; omega)
  replace hcw := hcw.trans hcb (fun k hk _ => by simp at hk; simp [hk])
  replace h4 := h4.keep hcb (by simp; omega)
  replace h3 := h3.keep hcb (by simp; omega)
  replace r2 := r2.keep hcb (fun k hk hm => by have := r2f k hk; simp at hm; omega)
  replace r3 := r3.keep hcb (fun k hk hm => by have := r3f k hk; simp at hm; omega)
  clear hcb
  refine go T 5 rfl ?_
  refine ldB T hg9 rfl rfl rfl rfl rfl rfl ?_
  refine go T 1 rfl ?_
  refine ldB T h4 rfl rfl rfl rfl rfl rfl ?_
  refine o1 rfl ?_
  refine op_call rfl rfl rfl (putPU_has _ _ _ X _ r3 (fun wq hq => hX.keepR ((hc0.trans hcw (fun k hk hlt => by simp at hk; omega)).trans hq (fun k hk hlt => by have := r3f k (by simpa using hk); omega))) (by have := took_len (key := parKey) (ns := e.drops) (L := st.pars); omega) (took_nodup hnq)) ?_
  rintro _ w8 ⟨u4, rfl, hcx, r4, r4f0⟩
  have r4f : ∀ g, (u4).ownBlock = some g → wb.heap.size ≤ g := fun g hg => by
    rcases r4f0 g hg with h | h
    · exact r3f g (by simpa using h)
    · have := hcw.size; omega
  clear r4f0
  have hin : ∀ k, k < wb.heap.size → k ∉ (u3).ownBlock.toList := fun k hk hm => by have := r3f k (by simpa using hm); omega
  replace hg8 := hg8.keep hcx (hin _ (by omega))
  replace hg9 := hg9.keep hcx (hin _ (by omega))
  replace h4 := h4.keep hcx (hin _ (by omega))
  replace h3 := h3.keep hcx (hin _ (by omega))
  replace hcw := hcw.trans hcx (fun k hk hlt => absurd hk (hin k hlt))
  replace r2 := r2.keep hcx (fun k hk hm => by
    obtain ⟨c1, hr1⟩ := r2.row hk
    obtain ⟨c2, hr2⟩ := r3.row (show (u3).ownBlock = some k by simpa using hm)
    exact hr1.ne_ hr2 (by decide) rfl)
  clear hcx hin r3
  refine go T 4 rfl ?_
  refine op0 rfl rfl ?_
  refine op_store T rfl rfl rfl rfl rfl (own_one r4) hg9 (by simp) (fun wa8 hca hg9n _ => ?_)
  replace hg9 : Blk wa8 g9 99 [u2, u4, .int .i64 0, .int .i64 0] := hg9n
  clear hg9n
  replace hg8 := hg8.keep hca (by simp; omega)
  replace hcw := hcw.trans hca (fun k hk _ => by simp at hk; simp [hk])
  replace h4 := h4.keep hca (by simp; omega)
  replace h3 := h3.keep hca (by simp; omega)
  replace r2 := r2.keep hca (fun k hk hm => by have := r2f k hk; simp at hm; omega)
  replace r4 := r4.keep hca (fun k hk hm => by have := r4f k hk; simp at hm; omega)
  clear hca
  refine o1 rfl ?_
  refine op_index_at T (i := 3) rfl rfl rfl rfl rfl rfl (by decide) ?_
  refine op0 rfl rfl ?_
  refine op_store T rfl rfl rfl rfl rfl rfl hg8 (by simp) (fun wb8 hcb hg8n _ => ?_)
  replace hg8 : Blk wb8 g8 143 [.bool (takeK numK e.dels st.segs).isSome, .bool (putK numK e.adds (tookK numK e.dels st.segs)).isSome, .bool (takeK parKey e.drops st.pars).isSome, .bool (putK parKey X (tookK parKey e.drops st.pars)).isSome, .bool false, .bool false] := hg8n
  clear hg8n
  replace hg9 := hg9.keep hcb (by simp; omega)
  replace hcw := hcw.trans hcb (fun k hk _ => by simp at hk; simp [hk])
  replace h4 := h4.keep hcb (by simp; omega)
  replace h3 := h3.keep hcb (by simp; omega)
  replace r2 := r2.keep hcb (fun k hk hm => by have := r2f k hk; simp at hm; omega)
  replace r4 := r4.keep hcb (fun k hk hm => by have := r4f k hk; simp at hm; omega)
  clear hcb
  refine go T 5 rfl ?_
  refine ldB T h3 rfl rfl rfl rfl rfl rfl ?_
  refine go T 1 rfl ?_
  refine ldB T h4 rfl rfl rfl rfl rfl rfl ?_
  refine o1 rfl ?_
  refine op_call rfl rfl rfl (later_has st.next e.next _) ?_
  rintro _ _ ⟨rfl, rfl⟩
  refine go T 4 rfl ?_
  refine op0 rfl rfl ?_
  refine op_store T rfl rfl rfl rfl rfl rfl hg9 (by simp) (fun wa9 hca hg9n _ => ?_)
  replace hg9 : Blk wa9 g9 99 [u2, u4, .int .i64 (laterM st.next e.next).1, .int .i64 0] := hg9n
  clear hg9n
  replace hg8 := hg8.keep hca (by simp; omega)
  replace hcw := hcw.trans hca (fun k hk _ => by simp at hk; simp [hk])
  replace h4 := h4.keep hca (by simp; omega)
  replace h3 := h3.keep hca (by simp; omega)
  replace r2 := r2.keep hca (fun k hk hm => by have := r2f k hk; simp at hm; omega)
  replace r4 := r4.keep hca (fun k hk hm => by have := r4f k hk; simp at hm; omega)
  clear hca
  refine o1 rfl ?_
  refine op_index_at T (i := 4) rfl rfl rfl rfl rfl rfl (by decide) ?_
  refine op0 rfl rfl ?_
  refine op_store T rfl rfl rfl rfl rfl rfl hg8 (by simp) (fun wb9 hcb hg8n _ => ?_)
  replace hg8 : Blk wb9 g8 143 [.bool (takeK numK e.dels st.segs).isSome, .bool (putK numK e.adds (tookK numK e.dels st.segs)).isSome, .bool (takeK parKey e.drops st.pars).isSome, .bool (putK parKey X (tookK parKey e.drops st.pars)).isSome, .bool (laterM st.next e.next).2, .bool false] := hg8n
  clear hg8n
  replace hg9 := hg9.keep hcb (by simp; omega)
  replace hcw := hcw.trans hcb (fun k hk _ => by simp at hk; simp [hk])
  replace h4 := h4.keep hcb (by simp; omega)
  replace h3 := h3.keep hcb (by simp; omega)
  replace r2 := r2.keep hcb (fun k hk hm => by have := r2f k hk; simp at hm; omega)
  replace r4 := r4.keep hcb (fun k hk hm => by have := r4f k hk; simp at hm; omega)
  clear hcb
  refine go T 5 rfl ?_
  refine ldB T h3 rfl rfl rfl rfl rfl rfl ?_
  refine go T 1 rfl ?_
  refine ldB T h4 rfl rfl rfl rfl rfl rfl ?_
  refine o1 rfl ?_
  refine op_call rfl rfl rfl (later_has st.seq e.seq _) ?_
  rintro _ _ ⟨rfl, rfl⟩
  refine go T 4 rfl ?_
  refine op0 rfl rfl ?_
  refine op_store T rfl rfl rfl rfl rfl rfl hg9 (by simp) (fun wa10 hca hg9n _ => ?_)
  replace hg9 : Blk wa10 g9 99 [u2, u4, .int .i64 (laterM st.next e.next).1, .int .i64 (laterM st.seq e.seq).1] := hg9n
  clear hg9n
  replace hg8 := hg8.keep hca (by simp; omega)
  replace hcw := hcw.trans hca (fun k hk _ => by simp at hk; simp [hk])
  replace h4 := h4.keep hca (by simp; omega)
  replace h3 := h3.keep hca (by simp; omega)
  replace r2 := r2.keep hca (fun k hk hm => by have := r2f k hk; simp at hm; omega)
  replace r4 := r4.keep hca (fun k hk hm => by have := r4f k hk; simp at hm; omega)
  clear hca
  refine o1 rfl ?_
  refine op_index_at T (i := 5) rfl rfl rfl rfl rfl rfl (by decide) ?_
  refine op0 rfl rfl ?_
  refine op_store T rfl rfl rfl rfl rfl rfl hg8 (by simp) (fun wb10 hcb hg8n _ => ?_)
  replace hg8 : Blk wb10 g8 143 [.bool (takeK numK e.dels st.segs).isSome, .bool (putK numK e.adds (tookK numK e.dels st.segs)).isSome, .bool (takeK parKey e.drops st.pars).isSome, .bool (putK parKey X (tookK parKey e.drops st.pars)).isSome, .bool (laterM st.next e.next).2, .bool (laterM st.seq e.seq).2] := hg8n
  clear hg8n
  replace hg9 := hg9.keep hcb (by simp; omega)
  replace hcw := hcw.trans hcb (fun k hk _ => by simp at hk; simp [hk])
  replace h4 := h4.keep hcb (by simp; omega)
  replace h3 := h3.keep hcb (by simp; omega)
  replace r2 := r2.keep hcb (fun k hk hm => by have := r2f k hk; simp at hm; omega)
  replace r4 := r4.keep hcb (fun k hk hm => by have := r4f k hk; simp at hm; omega)
  clear hcb
  have h6 := hg6.keep hcw (by simp; omega)
  have hend : ∀ {wz : World}, Chg [g6] wb10 wz → Chg [] w wz := fun hz => (hc0.trans hcw (fun k hk hlt => by simp at hk; omega)).trans hz (fun k hk hlt => by simp at hk; omega)
  have hkey : applyM st e X first = if (editB e && ((takeK numK e.dels st.segs).isSome && ((putK numK e.adds (tookK numK e.dels st.segs)).isSome && ((takeK parKey e.drops st.pars).isSome && ((putK parKey X (tookK parKey e.drops st.pars)).isSome && ((laterM st.next e.next).2 && ((laterM st.seq e.seq).2 && fineM (putsK numK e.adds (tookK numK e.dels st.segs)) ((putsK parKey X (tookK parKey e.drops st.pars)).map (·.1)) (laterM st.next e.next).1 (if first then [] else X.map (·.1))))))))) = true then some ⟨putsK numK e.adds (tookK numK e.dels st.segs), putsK parKey X (tookK parKey e.drops st.pars), (laterM st.next e.next).1, (laterM st.seq e.seq).1⟩ else none := rfl
  rw [hB, Bool.true_and] at hkey
  have hrd : SliceK 5 (RdL parL) wb10 (.slice Ap X.length cp) (X.map (·.1)) := hp.keepR (hc0.trans hcw (fun k hk hlt => by simp at hk; omega))
  have hpr' : ∀ q ∈ X.map (·.1), PRd wb10 q := fun q hq => (hpr q hq).keep0 (hc0.trans hcw (fun k hk hlt => by simp at hk; omega))
  generalize (takeK numK e.dels st.segs).isSome = b0 at *
  generalize (putK numK e.adds (tookK numK e.dels st.segs)).isSome = b1 at *
  generalize (takeK parKey e.drops st.pars).isSome = b2 at *
  generalize (putK parKey X (tookK parKey e.drops st.pars)).isSome = b3 at *
  generalize putsK numK e.adds (tookK numK e.dels st.segs) = S2 at *
  generalize putsK parKey X (tookK parKey e.drops st.pars) = Q2 at *
  generalize laterM st.next e.next = ln at *
  generalize laterM st.seq e.seq = ls at *
  obtain ⟨n2, b4⟩ := ln
  obtain ⟨s2, b5⟩ := ls
  dsimp only at hg8 hg9 hkey ⊢
  have hsb : SliceOf Rbool wb10 (.slice (some ⟨g8, 0, none⟩) 6 6) [b0, b1, b2, b3, b4, b5] := SliceOf.of_blk hg8 rfl (Nat.le_refl _) (by decide) (fun i y hy => by
    match i, hy with
    | 0, hy => cases hy; exact ⟨_, rfl, rfl⟩
    | 1, hy => cases hy; exact ⟨_, rfl, rfl⟩
    | 2, hy => cases hy; exact ⟨_, rfl, rfl⟩
    | 3, hy => cases hy; exact ⟨_, rfl, rfl⟩
    | 4, hy => cases hy; exact ⟨_, rfl, rfl⟩
    | 5, hy => cases hy; exact ⟨_, rfl, rfl⟩)
  have hone : ∀ q ∈ X.map (·.1), q.vn.oneCell' = true ∧ q.vs.oneCell' = true := fun q hq => by
    obtain ⟨y, _, rfl⟩ := List.mem_map.1 hq
    exact y.2
  have hnil : SliceK 5 (RdL parL) wb10 (.slice none 0 0) [] := by
    unfold SliceK
    exact ⟨none, 0, rfl, Nat.le_refl _, Nat.zero_le _, fun i x h => by simp at h⟩
  obtain ⟨A2, c2, rfl, _, _⟩ := r2.form
  obtain ⟨A4, c4, rfl, _, _⟩ := r4.form
  have hrS := r2.readsK segL_len
  have hrQ := par_reads (r4.readsK parS_len)
  cases first with
  | false =>
    refine go T 5 rfl ?_
    refine ldB T h4 rfl rfl rfl rfl rfl rfl ?_
    refine go T 15 rfl ?_
    refine o1 rfl ?_
    refine op_slice_arr T rfl rfl rfl rfl (by decide) ?_
    refine o1 rfl ?_
    refine op_call rfl rfl rfl (hasB_has _ _ _ [b0, b1, b2, b3, b4, b5] false _ hsb) ?_
    rintro _ wb10 ⟨rfl, rfl⟩
    cases hany : ([b0, b1, b2, b3, b4, b5].any fun x => false == x) with
    | true =>
      have hno : applyM st e X false = none := by
        rw [hkey]
        refine if_neg (fun h => ?_)
        simp only [Bool.and_eq_true] at h
        obtain ⟨rfl, rfl, rfl, rfl, rfl, rfl, _⟩ := h
        simp at hany
      refine go T 11 rfl ?_
      refine o1 rfl (op_load_agg T rfl rfl rfl rfl h3 (by exact Nat.le_of_ble_eq_true rfl) (by exact rfl) ?_)
      refine op0 rfl rfl ?_
      refine op_store_agg T rfl rfl rfl rfl rfl rfl h6 (by exact Nat.le_of_ble_eq_true rfl) (fun wz hcz hz _ => ?_)
      refine go T 5 rfl ?_
      exact post2c T (.inl rfl) rfl rfl rfl rfl rfl hz rfl ⟨hend hcz, fun _ => rfl, fun st' h => by rw [hno] at h; cases h⟩
    | false =>
      have hyes : b0 = true ∧ b1 = true ∧ b2 = true ∧ b3 = true ∧ b4 = true ∧ b5 = true := by
        revert hany
        cases b0 <;> cases b1 <;> cases b2 <;> cases b3 <;> cases b4 <;> cases b5 <;> simp
      obtain ⟨rfl, rfl, rfl, rfl, rfl, rfl⟩ := hyes
      simp only [Bool.true_and] at hkey
      refine go T 1 rfl ?_
      refine o1 rfl (op_load_agg T rfl rfl rfl rfl hg9 (by exact Nat.le_of_ble_eq_true rfl) (by exact rfl) ?_)
      refine go T 1 rfl ?_
      refine o1 rfl ?_
      refine op_call rfl rfl rfl (fine_has _ _ n2 s2 _ _ _ S2 (Q2.map (·.1)) (X.map (·.1)) _ hrS hrQ hrd hpr' hone) ?_
      rintro _ wc ⟨hcf, rfl⟩
      replace h6 := h6.keep0 hcf
      replace h3 := h3.keep0 hcf
      replace hg9 := hg9.keep0 hcf
      replace r2 := r2.keep0 hcf
      replace r4 := r4.keep0 hcf
      have hendc : ∀ {wz : World}, Chg [g6] wc wz → Chg [] w wz := fun hz => hend ((hcf.mono (fun k hk _ => by cases hk)).trans hz (fun k hk _ => hk))
      cases hfine : fineM S2 (Q2.map (·.1)) n2 (X.map (·.1)) with
      | false =>
        have hno : applyM st e X false = none := by rw [hkey]; simp; exact hfine
        refine go T 7 rfl ?_
        refine o1 rfl (op_load_agg T rfl rfl rfl rfl h3 (by exact Nat.le_of_ble_eq_true rfl) (by exact rfl) ?_)
        refine op0 rfl rfl ?_
        refine op_store_agg T rfl rfl rfl rfl rfl rfl h6 (by exact Nat.le_of_ble_eq_true rfl) (fun wz hcz hz _ => ?_)
        refine go T 5 rfl ?_
        exact post2c T (.inl rfl) rfl rfl rfl rfl rfl hz rfl ⟨hendc hcz, fun _ => rfl, fun st' h => by rw [hno] at h; cases h⟩
      | true =>
        have hyes : applyM st e X false = some ⟨S2, Q2, n2, s2⟩ := by rw [hkey]; simp; exact hfine
        refine go T 9 rfl ?_
        refine o1 rfl (op_load_agg T rfl rfl rfl rfl hg9 (by exact Nat.le_of_ble_eq_true rfl) (by exact rfl) ?_)
        refine op0 rfl rfl ?_
        refine op_store_agg T rfl rfl rfl rfl rfl rfl h6 (by exact Nat.le_of_ble_eq_true rfl) (fun wz hcz hz _ => ?_)
        refine go T 4 rfl ?_
        replace hz : Blk wz g6 99 [.slice A2 S2.length c2, .slice A4 Q2.length c4, .int .i64 n2, .int .i64 s2] := hz
        refine post2c T (.inl rfl) rfl rfl rfl rfl rfl hz rfl ⟨hendc hcz, ?_, ?_⟩
        · intro h; rw [hyes] at h; cases h
        intro st' h
        rw [hyes] at h
        injection h with h
        subst h
        exact ⟨_, _, rfl, r2.keep hcz (fun k hk hm => by have := r2f k hk; simp at hm; omega), r4.keep hcz (fun k hk hm => by have := r4f k hk; simp at hm; omega), fun g hg => by have := r2f g hg; have := hc0.size; omega, fun g hg => by have := r4f g hg; have := hc0.size; omega⟩
  | true =>
    refine go T 5 rfl ?_
    refine ldB T h4 rfl rfl rfl rfl rfl rfl ?_
    refine go T 17 rfl ?_
    refine o1 rfl ?_
    refine op_slice_arr T rfl rfl rfl rfl (by decide) ?_
    refine o1 rfl ?_
    refine op_call rfl rfl rfl (hasB_has _ _ _ [b0, b1, b2, b3, b4, b5] false _ hsb) ?_
    rintro _ wb10 ⟨rfl, rfl⟩
    cases hany : ([b0, b1, b2, b3, b4, b5].any fun x => false == x) with
    | true =>
      have hno : applyM st e X true = none := by
        rw [hkey]
        refine if_neg (fun h => ?_)
        simp only [Bool.and_eq_true] at h
        obtain ⟨rfl, rfl, rfl, rfl, rfl, rfl, _⟩ := h
        simp at hany
      refine go T 11 rfl ?_
      refine o1 rfl (op_load_agg T rfl rfl rfl rfl h3 (by exact Nat.le_of_ble_eq_true rfl) (by exact rfl) ?_)
      refine op0 rfl rfl ?_
      refine op_store_agg T rfl rfl rfl rfl rfl rfl h6 (by exact Nat.le_of_ble_eq_true rfl) (fun wz hcz hz _ => ?_)
      refine go T 5 rfl ?_
      exact post2c T (.inl rfl) rfl rfl rfl rfl rfl hz rfl ⟨hend hcz, fun _ => rfl, fun st' h => by rw [hno] at h; cases h⟩
    | false =>
      have hyes : b0 = true ∧ b1 = true ∧ b2 = true ∧ b3 = true ∧ b4 = true ∧ b5 = true := by
        revert hany
        cases b0 <;> cases b1 <;> cases b2 <;> cases b3 <;> cases b4 <;> cases b5 <;> simp
      obtain ⟨rfl, rfl, rfl, rfl, rfl, rfl⟩ := hyes
      simp only [Bool.true_and] at hkey
      refine go T 1 rfl ?_
      refine o1 rfl (op_load_agg T rfl rfl rfl rfl hg9 (by exact Nat.le_of_ble_eq_true rfl) (by exact rfl) ?_)
      refine go T 1 rfl ?_
      refine o1 rfl ?_
      refine op_call rfl rfl rfl (fine_has _ _ n2 s2 _ _ _ S2 (Q2.map (·.1)) [] _ hrS hrQ hnil (fun q hq => by cases hq) (fun q hq => by cases hq)) ?_
      rintro _ wc ⟨hcf, rfl⟩
      replace h6 := h6.keep0 hcf
      replace h3 := h3.keep0 hcf
      replace hg9 := hg9.keep0 hcf
      replace r2 := r2.keep0 hcf
      replace r4 := r4.keep0 hcf
      have hendc : ∀ {wz : World}, Chg [g6] wc wz → Chg [] w wz := fun hz => hend ((hcf.mono (fun k hk _ => by cases hk)).trans hz (fun k hk _ => hk))
      cases hfine : fineM S2 (Q2.map (·.1)) n2 [] with
      | false =>
        have hno : applyM st e X true = none := by rw [hkey]; simp; exact hfine
        refine go T 7 rfl ?_
        refine o1 rfl (op_load_agg T rfl rfl rfl rfl h3 (by exact Nat.le_of_ble_eq_true rfl) (by exact rfl) ?_)
        refine op0 rfl rfl ?_
        refine op_store_agg T rfl rfl rfl rfl rfl rfl h6 (by exact Nat.le_of_ble_eq_true rfl) (fun wz hcz hz _ => ?_)
        refine go T 5 rfl ?_
        exact post2c T (.inl rfl) rfl rfl rfl rfl rfl hz rfl ⟨hendc hcz, fun _ => rfl, fun st' h => by rw [hno] at h; cases h⟩
      | true =>
        have hyes : applyM st e X true = some ⟨S2, Q2, n2, s2⟩ := by rw [hkey]; simp; exact hfine
        refine go T 9 rfl ?_
        refine o1 rfl (op_load_agg T rfl rfl rfl rfl hg9 (by exact Nat.le_of_ble_eq_true rfl) (by exact rfl) ?_)
        refine op0 rfl rfl ?_
        refine op_store_agg T rfl rfl rfl rfl rfl rfl h6 (by exact Nat.le_of_ble_eq_true rfl) (fun wz hcz hz _ => ?_)
        refine go T 4 rfl ?_
        replace hz : Blk wz g6 99 [.slice A2 S2.length c2, .slice A4 Q2.length c4, .int .i64 n2, .int .i64 s2] := hz
        refine post2c T (.inl rfl) rfl rfl rfl rfl rfl hz rfl ⟨hendc hcz, ?_, ?_⟩
        · intro h; rw [hyes] at h; cases h
        intro st' h
        rw [hyes] at h
        injection h with h
        subst h
        exact ⟨_, _, rfl, r2.keep hcz (fun k hk hm => by have := r2f k hk; simp at hm; omega), r4.keep hcz (fun k hk hm => by have := r4f k hk; simp at hm; omega), fun g hg => by have := r2f g hg; have := hc0.size; omega, fun g hg => by have := r4f g hg; have := hc0.size; omega⟩
end Go.Proofs.YtiadjkjlifnopaaGreatDoor.Tryz
/-! Manifests: whole; Segs, Next, Seq; of no manifest. -/
set_option linter.unusedVariables false
namespace Go.Proofs.YtiadjkjlifnopaaGreatDoor.Tryz
open Go Go.Vc
/-- A manifest in memory: its cells. -/
def ManB (w : World) (gm g : Nat) (vs vp : Value) (nx sq : Int) (cl : Bool) : Prop := Blk w gm 101 [.pointer (some ⟨g, 0, none⟩), vs, vp, .int .i64 nx, .int .i64 sq, .bool cl]
theorem whole_has (A : Option Addr) (n c : Nat) (B : Option Addr) (m d : Nat) (nx sq : Int) (w : World) :
    Has Go.Proofs.Tryz.prog 94 #[.agg #[.slice A n c, .slice B m d, .int .i64 nx, .int .i64 sq]] w (fun v w' => Chg [] w w' ∧ v = .agg #[.int .i64 nx, .int .i64 sq, .slice A n c, .slice none 0 0, .slice B m d, .slice none 0 0]) := by
  refine enter Go.Proofs.Tryz.func94 rfl rfl (by decide) rfl (e := [(0, .agg #[.slice A n c, .slice B m d, .int .i64 nx, .int .i64 sq])]) ⟨rfl, trivial⟩ ?_
  refine run ?_
  refine go T 2 rfl ?_
  refine o1 rfl ?_
  refine op_box rfl rfl (fun g1 w1 hs1 hc1 hg1 => ?_)
  have hg1 : Blk w1 g1 99 [.slice A n c, .slice B m d, .int .i64 nx, .int .i64 sq] := hg1
  refine o1 rfl ?_
  refine op_alloc T rfl rfl (fun g2 w2 hs2 hc2 hg2 => ?_)
  have hg2 : Blk w2 g2 49 [.int .i64 0, .int .i64 0, .slice none 0 0, .slice none 0 0, .slice none 0 0, .slice none 0 0] := hg2
  have hs2 : w1.heap.size ≤ g2 := hs2
  have hg12 := hg1.keep0 hc2
  refine go T 5 rfl ?_
  refine ldB T hg12 rfl rfl rfl rfl rfl rfl ?_
  refine go T 1 rfl ?_
  refine ldB T hg12 rfl rfl rfl rfl rfl rfl ?_
  refine go T 1 rfl ?_
  refine ldB T hg12 rfl rfl rfl rfl rfl rfl ?_
  refine go T 1 rfl ?_
  refine ldB T hg12 rfl rfl rfl rfl rfl rfl ?_
  refine o1 rfl (op_build T rfl rfl rfl rfl rfl rfl ?_)
  refine op0 rfl rfl ?_
  refine op_store_agg T rfl rfl rfl rfl rfl rfl hg2 (by exact Nat.le_of_ble_eq_true rfl) (fun w3 hc3 hg3 _ => ?_)
  have hz := hc1.size
  refine go T 3 rfl ?_
  exact post1c T (.inl rfl) rfl rfl rfl rfl hg3 rfl ⟨(hc1.trans' hc2).trans hc3 (fun k hk hlt => by simp at hk; omega), rfl⟩
section
variable {w : World} {gm g : Nat} {vs vp : Value} {nx sq : Int} {cl : Bool}
theorem nextM_has (x : ManB w gm g vs vp nx sq cl) : Has Go.Proofs.Tryz.prog 28 #[.pointer (some ⟨gm, 0, none⟩)] w (fun v w' => w' = w ∧ v = .int .i64 nx) := by
  refine enter Go.Proofs.Tryz.func28 rfl rfl (by decide) rfl (e := [(0, .pointer (some ⟨gm, 0, none⟩))]) ⟨rfl, trivial⟩ ?_
  unfold ManB at x
  refine run ?_
  refine go T 21 rfl ?_
  refine ldB T x rfl rfl rfl rfl rfl rfl ?_
  refine go T 4 rfl ?_
  exact post1 (.inl rfl) rfl rfl ⟨rfl, rfl⟩
theorem segsM_has (x : ManB w gm g vs vp nx sq cl) (L : List SegM) (hl : SliceK 6 (RdL segL) w vs L) (hb : L.length ≤ 1000000) : Has Go.Proofs.Tryz.prog 27 #[.pointer (some ⟨gm, 0, none⟩)] w (fun v w' => Chg [] w w' ∧ Own w' 26 6 v L.length (L.flatMap segL) ∧ ∀ g, v.ownBlock = some g → w.heap.size ≤ g) := by
  refine enter Go.Proofs.Tryz.func27 rfl rfl (by decide) rfl (e := [(0, .pointer (some ⟨gm, 0, none⟩))]) ⟨rfl, trivial⟩ ?_
  unfold ManB at x
  obtain ⟨A, c, rfl, _, _⟩ := hl.form
  refine run ?_
  refine go T 21 rfl ?_
  refine ldB T x rfl rfl rfl rfl rfl rfl ?_
  refine o1 rfl ?_
  refine op_call rfl rfl rfl (cloneSeg_has A _ c L w hl hb) ?_
  rintro v1 w1 h1
  refine go T 4 rfl ?_
  exact post1 (.inl rfl) rfl rfl h1
end
end Go.Proofs.YtiadjkjlifnopaaGreatDoor.Tryz
/-! raw.Write: five steps, one after the other, until one fails. -/
set_option linter.unusedVariables false
namespace Go.Vc
open Go
def writeK (s : FsM) (nm beside : Nm) (b : List UInt8) : Nat → FsM × Int
  | 0 => createM s beside
  | 1 => appendM s beside b
  | 2 => syncM s beside
  | 3 => renameM s beside nm
  | _ => syncDirM s
/-- The steps from k on. -/
def writeG (nm beside : Nm) (b : List UInt8) : Nat → Nat → FsM → FsM × Int
  | 0, _, s => (s, 0)
  | n + 1, k, s => if (writeK s nm beside b k).2 ≠ 0 then writeK s nm beside b k else writeG nm beside b n (k + 1) (writeK s nm beside b k).1
theorem writeK_calls (s : FsM) (nm beside : Nm) (b : List UInt8) (k : Nat) : (writeK s nm beside b k).1.calls = s.calls + 1 := by
  unfold writeK
  split
  · unfold createM; dsimp only; split; · rfl
    split; · rfl
    split <;> rfl
  · unfold appendM; dsimp only; split; · rfl
    split; · rfl
    split <;> rfl
  · unfold syncM; dsimp only; split; · rfl
    split <;> rfl
  · unfold renameM; dsimp only; split; · rfl
    split; · rfl
    split <;> rfl
  · unfold syncDirM; dsimp only; split <;> rfl
def writeM (s : FsM) (nm beside : Nm) (b : List UInt8) : FsM × Int := writeG nm beside b 5 0 s
end Go.Vc
namespace Go.Proofs.YtiadjkjlifnopaaGreatDoor.Tryz
open Go Go.Vc
theorem FsDone.trans {w w1 w2 : World} {g : Nat} {p p1 : FsP} {r' : FsM × Int} {v' : Value} (h1 : Chg (p.fp g) w w1) (hg : Grows w g p p1) (h2 : FsDone w1 g p1 r' v' w2) : FsDone w g p r' v' w2 := by
  obtain ⟨h3, h4, p2, h5, h6⟩ := h2
  exact ⟨h1.fps hg h3, h4, p2, h5, hg.trans h6 h1.size⟩
section
variable {w : World} {g : Nat} {s : FsM} {p : FsP} {gf gn gb gc : Nat} {nm beside : Nm} {A : Option Addr} {n c : Nat} {b : List UInt8}
theorem write1_has (x : FsAt w g s p) (h4 : Blk w gf 32 [ptrV g]) (h6 : Blk w gb 9 [.string (str beside)]) (hk : beside.length ≤ maxLen) (hcalls : s.calls < 1000000000 - 1) :
    Has Go.Proofs.Tryz.prog 89 #[ptrV gf, ptrV gb] w (FsDone w g p (createM s beside)) := by
  refine enter Go.Proofs.Tryz.func89 rfl rfl (by decide) rfl (e := [(0, ptrV gf), (1, ptrV gb)]) ⟨rfl, rfl, trivial⟩ ?_
  unfold ptrV at *
  repeat (first | refine W_seq ?_ | refine W_region ?_ | refine Then_n ?_ | refine WL_nil ?_ | refine WL_some rfl rfl rfl ?_ | refine op_assign rfl rfl ?_ | refine op_loadB T rfl rfl rfl rfl (by assumption) (by exact rfl) ?_)
  refine op_call rfl rfl rfl (create_has g s p beside w x hk hcalls) ?_
  intro v w1 h
  have hv := h.2.1
  subst hv
  repeat (first | refine W_ret ?_ | refine Then_n ?_ | refine WL_nil ?_ | refine WL_some rfl rfl rfl ?_ | refine op_assign rfl rfl ?_)
  exact post1 (.inl rfl) rfl rfl h
theorem write2_has (x : FsAt w g s p) (h4 : Blk w gf 32 [ptrV g]) (h6 : Blk w gb 9 [.string (str beside)]) (h7 : Blk w gc 51 [.slice A n c]) (hb : Firm (p.fp g) w (fun w => SliceOf Ru8 w (.slice A n c) b)) (hbl : b.length ≤ 1000000000) (hcalls : s.calls < 1000000000 - 1) :
    Has Go.Proofs.Tryz.prog 90 #[ptrV gf, ptrV gb, ptrV gc] w (FsDone w g p (appendM s beside b)) := by
  refine enter Go.Proofs.Tryz.func90 rfl rfl (by decide) rfl (e := [(0, ptrV gf), (1, ptrV gb), (2, ptrV gc)]) ⟨rfl, rfl, rfl, trivial⟩ ?_
  unfold ptrV at *
  repeat (first | refine W_seq ?_ | refine W_region ?_ | refine Then_n ?_ | refine WL_nil ?_ | refine WL_some rfl rfl rfl ?_ | refine op_assign rfl rfl ?_ | refine op_loadB T rfl rfl rfl rfl (by assumption) (by exact rfl) ?_)
  refine op_call rfl rfl rfl (append_has g s p beside A n c b w x hb hbl hcalls) ?_
  intro v w1 h
  have hv := h.2.1
  subst hv
  repeat (first | refine W_ret ?_ | refine Then_n ?_ | refine WL_nil ?_ | refine WL_some rfl rfl rfl ?_ | refine op_assign rfl rfl ?_)
  exact post1 (.inl rfl) rfl rfl h
theorem write3_has (x : FsAt w g s p) (h4 : Blk w gf 32 [ptrV g]) (h6 : Blk w gb 9 [.string (str beside)]) (hcalls : s.calls < 1000000000 - 1) :
    Has Go.Proofs.Tryz.prog 91 #[ptrV gf, ptrV gb] w (FsDone w g p (syncM s beside)) := by
  refine enter Go.Proofs.Tryz.func91 rfl rfl (by decide) rfl (e := [(0, ptrV gf), (1, ptrV gb)]) ⟨rfl, rfl, trivial⟩ ?_
  unfold ptrV at *
  repeat (first | refine W_seq ?_ | refine W_region ?_ | refine Then_n ?_ | refine WL_nil ?_ | refine WL_some rfl rfl rfl ?_ | refine op_assign rfl rfl ?_ | refine op_loadB T rfl rfl rfl rfl (by assumption) (by exact rfl) ?_)
  refine op_call rfl rfl rfl (sync_has g s p beside w x hcalls) ?_
  intro v w1 h
  have hv := h.2.1
  subst hv
  repeat (first | refine W_ret ?_ | refine Then_n ?_ | refine WL_nil ?_ | refine WL_some rfl rfl rfl ?_ | refine op_assign rfl rfl ?_)
  exact post1 (.inl rfl) rfl rfl h
theorem write4_has (x : FsAt w g s p) (h4 : Blk w gf 32 [ptrV g]) (h6 : Blk w gb 9 [.string (str beside)]) (h5 : Blk w gn 9 [.string (str nm)]) (hk : nm.length ≤ maxLen) (hcalls : s.calls < 1000000000 - 1) :
    Has Go.Proofs.Tryz.prog 92 #[ptrV gf, ptrV gb, ptrV gn] w (FsDone w g p (renameM s beside nm)) := by
  refine enter Go.Proofs.Tryz.func92 rfl rfl (by decide) rfl (e := [(0, ptrV gf), (1, ptrV gb), (2, ptrV gn)]) ⟨rfl, rfl, rfl, trivial⟩ ?_
  unfold ptrV at *
  repeat (first | refine W_seq ?_ | refine W_region ?_ | refine Then_n ?_ | refine WL_nil ?_ | refine WL_some rfl rfl rfl ?_ | refine op_assign rfl rfl ?_ | refine op_loadB T rfl rfl rfl rfl (by assumption) (by exact rfl) ?_)
  refine op_call rfl rfl rfl (rename_has g s p beside nm w x hk hcalls) ?_
  intro v w1 h
  have hv := h.2.1
  subst hv
  repeat (first | refine W_ret ?_ | refine Then_n ?_ | refine WL_nil ?_ | refine WL_some rfl rfl rfl ?_ | refine op_assign rfl rfl ?_)
  exact post1 (.inl rfl) rfl rfl h
set_option maxHeartbeats 4000000 in
theorem write_has (x : FsAt w g s p) (hb : Firm (p.fp g) w (fun w => SliceOf Ru8 w (.slice A n c) b)) (hbl : b.length ≤ 1000000000) (hk1 : nm.length ≤ maxLen) (hk2 : beside.length ≤ maxLen) (hcalls : s.calls < 1000000000 - 10) :
    Has Go.Proofs.Tryz.prog 51 #[ptrV g, .string (str nm), .string (str beside), .slice A n c] w (FsDone w g p (writeM s nm beside b)) := by
  refine enter Go.Proofs.Tryz.func51 rfl rfl (by decide) rfl (e := [(0, ptrV g), (1, .string (str nm)), (2, .string (str beside)), (3, .slice A n c)]) ⟨rfl, rfl, rfl, rfl, trivial⟩ ?_
  repeat (first | refine W_seq ?_ | refine W_region ?_ | refine WL_some rfl rfl rfl ?_)
  refine op_box rfl rfl (fun gf w1 hs1 hc1 h4 => ?_)
  have h4 : Blk w1 gf 32 [ptrV g] := h4
  have hs1 : w.heap.size ≤ gf := hs1
  repeat (refine WL_some rfl rfl rfl ?_)
  refine op_box rfl rfl (fun gn w2 hs2 hc2 h5 => ?_)
  have h5 : Blk w2 gn 9 [.string (str nm)] := h5
  have hs2 : w1.heap.size ≤ gn := hs2
  repeat (refine WL_some rfl rfl rfl ?_)
  refine op_box rfl rfl (fun gb w3 hs3 hc3 h6 => ?_)
  have h6 : Blk w3 gb 9 [.string (str beside)] := h6
  have hs3 : w2.heap.size ≤ gb := hs3
  repeat (refine WL_some rfl rfl rfl ?_)
  refine op_box rfl rfl (fun gc w4 hs4 hc4 h7 => ?_)
  have h7 : Blk w4 gc 51 [.slice A n c] := h7
  have hs4 : w3.heap.size ≤ gc := hs4
  have h44 := ((h4.keep0 hc2).keep0 hc3).keep0 hc4
  have h54 := (h5.keep0 hc3).keep0 hc4
  have h64 := h6.keep0 hc4
  have hc04 : Chg [] w w4 := ((hc1.trans' hc2).trans' hc3).trans' hc4
  unfold ptrV at *
  repeat (first | refine W_seq ?_ | refine W_region ?_ | refine Then_n ?_ | refine WL_nil ?_ | refine WL_some rfl rfl rfl ?_ | refine op_assign rfl rfl ?_)
  refine op_makeFunc (fv := #[]) (cv := #[.pointer (some ⟨gf, 0, none⟩), .pointer (some ⟨gb, 0, none⟩)]) rfl rfl rfl ?_
  repeat (refine WL_some rfl rfl rfl ?_)
  refine op_makeFunc (fv := #[]) (cv := #[.pointer (some ⟨gf, 0, none⟩), .pointer (some ⟨gb, 0, none⟩), .pointer (some ⟨gc, 0, none⟩)]) rfl rfl rfl ?_
  repeat (refine WL_some rfl rfl rfl ?_)
  refine op_makeFunc (fv := #[]) (cv := #[.pointer (some ⟨gf, 0, none⟩), .pointer (some ⟨gb, 0, none⟩)]) rfl rfl rfl ?_
  repeat (refine WL_some rfl rfl rfl ?_)
  refine op_makeFunc (fv := #[]) (cv := #[.pointer (some ⟨gf, 0, none⟩), .pointer (some ⟨gb, 0, none⟩), .pointer (some ⟨gn, 0, none⟩)]) rfl rfl rfl ?_
  repeat (first | refine WL_some rfl rfl rfl ?_ | refine op_loadB T rfl rfl rfl rfl (by assumption) (by exact rfl) ?_)
  refine op_makeFunc (fv := #[.pointer (some ⟨g, 0, none⟩)]) (cv := #[]) rfl rfl rfl ?_
  repeat (refine WL_some rfl rfl rfl ?_)
  refine op_buildSlice T rfl rfl rfl rfl rfl rfl rfl (fun gt w5 hs5 hc5 h8 => ?_)
  repeat (first | refine W_block ?_ | refine Then_n ?_ | refine WL_nil ?_ | refine WL_some rfl rfl rfl ?_ | refine op_move rfl rfl ?_ | refine op_len_slice T rfl rfl rfl rfl ?_)
  have h8 : Blk w5 gt 58 [.func (.func 89) #[] #[ptrV gf, ptrV gb], .func (.func 90) #[] #[ptrV gf, ptrV gb, ptrV gc], .func (.func 91) #[] #[ptrV gf, ptrV gb], .func (.func 92) #[] #[ptrV gf, ptrV gb, ptrV gn], .func (.func 41) #[ptrV g] #[]] := h8
  have hc05 : Chg [] w w5 := hc04.trans' hc5
  have x5 := x.keep0 hc05
  have hb5 := hb.step0 hc05
  have hlift : ∀ r v w', FsDone w5 g p r v w' → FsDone w g p r v w' := fun r v w' ⟨a, b', p', c', d⟩ => ⟨(hc05.mono (fun k hk _ => by cases hk)).trans a (fun _ h _ => h), b', p', c', fun k hk => (d k hk).imp id (fun h => by have := hc05.size; omega)⟩
  have hnew : ∀ k, w.heap.size ≤ k → k ∉ p.fp g := fun k hk hm => by have := x.lt k hm; omega
  have hz1 := hc1.size; have hz2 := hc2.size; have hz3 := hc3.size; have hz4 := hc4.size
  refine W_loop (σ := Nat) (fun k => [(18, .slice (some ⟨gt, 0, none⟩) 5 5), (19, .int .i64 5), (20, .int .i64 (k : Int))])
    (fun k w' => k ≤ 5 ∧ ∃ s' p', FsAt w' g s' p' ∧ Chg (p.fp g) w5 w' ∧ Grows w5 g p p' ∧ s'.calls = s.calls + k ∧ writeM s nm beside b = writeG nm beside b (5 - k) k s')
    (fun k => 5 - k) 0 ⟨rfl, rfl, rfl, trivial⟩ ⟨by omega, s, p, x5, Chg.refl _ _, Grows.refl _ _ _, by omega, rfl⟩ ?_
  rintro k w6 ⟨hk, s6, p6, x6, hc6, hg6, hcl, hw⟩
  have hnf : ∀ j, w.heap.size ≤ j → j ∉ p.fp g := hnew
  have h46 := (h44.keep0 hc5).keep hc6 (hnew _ hs1)
  have h56 := (h54.keep0 hc5).keep hc6 (hnew _ (by omega))
  have h66 := (h64.keep0 hc5).keep hc6 (hnew _ (by omega))
  have h76 := (h7.keep0 hc5).keep hc6 (hnew _ (by omega))
  have h86 := h8.keep hc6 (hnew _ (by omega))
  have hb6 : Firm (p6.fp g) w6 (fun w => SliceOf Ru8 w (.slice A n c) b) := fun w1 h => hb5 w1 (hc6.fps hg6 h)
  repeat (first | refine W_seq ?_ | refine W_region ?_ | refine WL_some rfl rfl rfl ?_)
  (refine op_lss rfl rfl rfl (fun hc => ?_) (fun hc => ?_))
  · have hk5 : k < 5 := by omega
    have hstep : ∃ nk fv cv, ([.func (.func 89) #[] #[ptrV gf, ptrV gb], .func (.func 90) #[] #[ptrV gf, ptrV gb, ptrV gc], .func (.func 91) #[] #[ptrV gf, ptrV gb], .func (.func 92) #[] #[ptrV gf, ptrV gb, ptrV gn], .func (.func 41) #[ptrV g] #[]] : List Value)[k]? = some (.func (.func nk) fv cv) ∧ Has Go.Proofs.Tryz.prog nk (fv ++ #[] ++ cv) w6 (FsDone w6 g p6 (writeK s6 nm beside b k)) := by
      match k, hk5 with
      | 0, _ => exact ⟨_, _, _, rfl, write1_has x6 h46 h66 hk2 (by omega)⟩
      | 1, _ => exact ⟨_, _, _, rfl, write2_has x6 h46 h66 h76 hb6 hbl (by omega)⟩
      | 2, _ => exact ⟨_, _, _, rfl, write3_has x6 h46 h66 (by omega)⟩
      | 3, _ => exact ⟨_, _, _, rfl, write4_has x6 h46 h66 h56 hk1 (by omega)⟩
      | 4, _ => exact ⟨_, _, _, rfl, syncDir_has g s6 p6 w6 x6 (by omega)⟩
    obtain ⟨nk, fv, cv, hcell, hhas⟩ := hstep
    have hcl2 := writeK_calls s6 nm beside b k
    have hcell6 := h86.cell hcell
    have hwg : writeG nm beside b (5 - k) k s6 = if (writeK s6 nm beside b k).2 ≠ 0 then writeK s6 nm beside b k else writeG nm beside b (5 - (k + 1)) (k + 1) (writeK s6 nm beside b k).1 := by
      rw [show 5 - k = (5 - (k + 1)) + 1 from by omega]; rfl
    repeat (first | refine W_seq ?_ | refine W_block ?_ | refine W_region ?_ | refine W_skip ?_ | refine Then_n ?_ | refine WL_nil ?_ | refine W_condT rfl ?_ | refine WL_some rfl rfl rfl ?_ | refine op_move rfl rfl ?_ | refine op_assign rfl rfl ?_ | refine op_index_own T rfl rfl rfl rfl rfl rfl (by omega) ?_ | refine op_load T rfl rfl rfl rfl (by assumption) ?_)
    refine op_callf rfl rfl rfl hhas ?_
    intro v w7 hd
    have hv := hd.2.1
    subst hv
    have hd5 : FsDone w5 g p (writeK s6 nm beside b k) _ w7 := FsDone.trans hc6 hg6 hd
    by_cases hz : (writeK s6 nm beside b k).2 = 0
    · rw [if_neg (by simp [hz])] at hwg
      obtain ⟨a1, _, p7, a3, a4⟩ := hd5
      repeat (first | refine W_seq ?_ | refine W_region ?_ | refine W_skip ?_ | refine Then_n ?_ | refine InBlock_n ?_ | refine WL_nil ?_ | refine W_condF rfl ?_ | refine WL_some rfl rfl rfl ?_ | refine op_move rfl rfl ?_ | refine op_assign rfl rfl ?_ | refine op_add rfl rfl rfl (wrap_i64_in (by omega) (by omega)) ?_ | refine op_neq rfl rfl rfl (fun hc => False.elim (by omega)) (fun hc => ?_))
      exact Round_n (k + 1) ⟨rfl, rfl, rfl, trivial⟩ ⟨by omega, _, p7, a3, a1, a4, by omega, by rw [hw, hwg]⟩ (by omega)
    · rw [if_pos hz] at hwg
      repeat (first | refine W_seq ?_ | refine W_region ?_ | refine W_ret ?_ | refine Then_n ?_ | refine Then_r ?_ | refine InBlock_r ?_ | refine Round_r ?_ | refine WL_nil ?_ | refine W_condT rfl ?_ | refine WL_some rfl rfl rfl ?_ | refine op_move rfl rfl ?_ | refine op_assign rfl rfl ?_ | refine op_neq rfl rfl rfl (fun hc => ?_) (fun hc => False.elim (by omega)))
      refine post1 (.inl rfl) rfl rfl (hlift _ _ _ ?_)
      rw [hw, hwg]; exact hd5
  · obtain rfl : k = 5 := by omega
    repeat (first | refine W_seq ?_ | refine W_region ?_ | refine W_exit ?_ | refine W_ret ?_ | refine Then_n ?_ | refine Then_x ?_ | refine InBlock_hit ?_ | refine Round_x ?_ | refine WL_nil ?_ | refine W_condF rfl ?_ | refine WL_some rfl rfl rfl ?_ | refine op_assign rfl rfl ?_)
    refine post1 (.inl rfl) rfl rfl (hlift _ _ _ ⟨hc6, ?_, p6, ?_, hg6⟩)
    · rw [hw]; rfl
    · rw [hw]; exact x6
end
end Go.Proofs.YtiadjkjlifnopaaGreatDoor.Tryz
/-! Manifests: lay. -/
set_option linter.unusedVariables false
namespace Go.Vc
open Go
def manNm : Nm := [77, 65, 78, 73, 70, 69, 83, 84]
def neuNm : Nm := [78, 69, 87]
def wholeM (S : List SegM) (Q : List ParV) (nx sq : Int) : EditM := { next := nx, seq := sq, adds := S, dels := [], pars := Q.map (·.p), drops := [] }
end Go.Vc
namespace Go.Proofs.YtiadjkjlifnopaaGreatDoor.Tryz
open Go Go.Vc
set_option maxHeartbeats 1000000 in
theorem lay_has {w : World} {gm g : Nat} {s : FsM} {p : FsP} {A : Option Addr} {c : Nat} {B : Option Addr} {d : Nat} {nx sq : Int} {cl : Bool} {S : List SegM} {Q : List ParV} (x : FsAt w g s p)
    (hm : ManB w gm g (.slice A S.length c) (.slice B Q.length d) nx sq cl) (hS : SliceK 6 (RdL segL) w (.slice A S.length c) S) (hQ : SliceK 5 (RdL parL) w (.slice B Q.length d) Q) (hp : ∀ q ∈ Q, PRd w q) (hI : EdI (wholeM S Q nx sq)) (hcalls : s.calls < 1000000000 - 10) :
    Has Go.Proofs.Tryz.prog 53 #[.pointer (some ⟨gm, 0, none⟩)] w (fun v w' => ((encE (wholeM S Q nx sq)).2 ≠ 0 → Chg [] w w' ∧ v = .int .i64 (encE (wholeM S Q nx sq)).2) ∧ ((encE (wholeM S Q nx sq)).2 = 0 → FsDone w g p (writeM s manNm neuNm (encE (wholeM S Q nx sq)).1) v w')) := by
  refine enter Go.Proofs.Tryz.func53 rfl rfl (by decide) rfl (e := [(0, .pointer (some ⟨gm, 0, none⟩))]) ⟨rfl, trivial⟩ ?_
  unfold ManB at hm
  refine run ?_
  refine go T 10 rfl ?_
  refine o1 rfl (op_load_agg T rfl rfl rfl rfl hm (by exact Nat.le_of_ble_eq_true rfl) (by exact rfl) ?_)
  refine o1 rfl ?_
  refine op_call rfl rfl rfl (whole_has A _ c B _ d nx sq w) ?_
  rintro _ w1 ⟨hc1, rfl⟩
  have hr : ERd w1 ⟨wholeM S Q nx sq, .slice A S.length c, .slice none 0 0, .slice B Q.length d, .slice none 0 0, Q⟩ := ⟨hS.keepR hc1, SliceOf.nil _ _, hQ.keepR hc1, rfl, fun q hq => (hp q hq).keep0 hc1, SliceOf.nil _ _⟩
  have hcall := encodeE_has (w := w1) ⟨wholeM S Q nx sq, .slice A S.length c, .slice none 0 0, .slice B Q.length d, .slice none 0 0, Q⟩ hI hr
  dsimp only at hcall
  generalize encE (wholeM S Q nx sq) = en at *
  obtain ⟨b, er⟩ := en
  dsimp only at hcall ⊢
  refine o1 rfl ?_
  refine op_call rfl rfl rfl hcall ?_
  rintro _ w2 ⟨u, rfl, m2, hbl⟩
  obtain ⟨Au, cu, rfl, _, _⟩ := m2.form
  have hc02 := hc1.trans' m2.chg
  have hm2 := hm.keep0 hc02
  by_cases h0 : er = 0
  · subst h0
    have hfirm := m2.firm (fun k (hk : k ∈ p.fp g) => by have := x.lt k hk; have := hc1.size; omega)
    have x2 := x.keep0 hc02
    refine go T 11 rfl ?_
    refine neF rfl rfl rfl rfl (by omega) ?_
    refine go T 10 rfl ?_
    refine ldB T hm2 rfl rfl rfl rfl rfl rfl ?_
    refine go T 1 rfl ?_
    refine o1 rfl ?_
    refine op_call rfl rfl rfl (write_has (nm := manNm) (beside := neuNm) x2 hfirm (by omega) (by show 8 ≤ maxLen; decide) (by show 3 ≤ maxLen; decide) hcalls) ?_
    intro v3 w3 hd
    have hd' : FsDone w g p (writeM s manNm neuNm b) v3 w3 := ⟨(hc02.mono (fun k hk _ => by cases hk)).trans hd.1 (fun k hk _ => hk), hd.2.1, let ⟨p', h3, h4⟩ := hd.2.2; ⟨p', h3, fun k hk => (h4 k hk).imp id (fun h => by have := hc02.size; omega)⟩⟩
    have hv := hd.2.1
    subst hv
    refine go T 4 rfl ?_
    exact post1 (.inl rfl) rfl rfl ⟨fun h => absurd rfl h, fun _ => hd'⟩
  · refine go T 11 rfl ?_
    refine neT rfl rfl rfl rfl (by omega) ?_
    refine go T 11 rfl ?_
    exact post1 (.inl rfl) rfl rfl ⟨fun _ => ⟨hc02, rfl⟩, fun h => absurd h h0⟩
end Go.Proofs.YtiadjkjlifnopaaGreatDoor.Tryz
/-! Manifests: Create. -/
set_option linter.unusedVariables false
namespace Go.Vc
open Go
def man0 : EditM := wholeM [] [] 1 1
theorem man0_enc : (encE man0).2 = 0 := by
  have h : editB man0 = true := by decide
  unfold encE
  simp [h]
end Go.Vc
namespace Go.Proofs.YtiadjkjlifnopaaGreatDoor.Tryz
open Go Go.Vc
theorem fsDoneO {w0 w w' : World} {g : Nat} {s : FsM} {p : FsP} (x : FsO w0 w g s p) {r : FsM × Int} {v : Value} (h : FsDone w g p r v w') : v = .int .i64 r.2 ∧ Chg (p.fp g) w w' ∧ ∃ p', FsO w0 w' g r.1 p' ∧ Grows w g p p' := by
  obtain ⟨h1, h2, p', h3, h4⟩ := h
  exact ⟨h2, h1, p', ⟨x.chgFp h1, h3, fun k hk => by
    rcases h4 k hk with h | h
    · exact x.fresh k h
    · have := x.chg.size; omega⟩, h4⟩
set_option maxHeartbeats 1000000 in
theorem createMan_has {w0 w : World} {g : Nat} {s : FsM} {p : FsP} (x : FsO w0 w g s p) (hcalls : s.calls < 1000000000 - 10) (hread : readM s manNm = none) (hz : (writeM s manNm neuNm (encE man0).1).2 = 0) :
    Has Go.Proofs.Tryz.prog 19 #[ptrV g] w (fun v w' => ∃ gm p', v = .tuple #[.pointer (some ⟨gm, 0, none⟩), .int .i64 0] ∧ Chg (p.fp g) w w' ∧ FsO w0 w' g (writeM s manNm neuNm (encE man0).1).1 p' ∧ Grows w g p p' ∧ ManB w' gm g (.slice none 0 0) (.slice none 0 0) 1 1 false ∧ gm ∉ p'.fp g ∧ w.heap.size ≤ gm) := by
  refine enter Go.Proofs.Tryz.func19 rfl rfl (by decide) rfl (e := [(0, ptrV g)]) ⟨rfl, trivial⟩ ?_
  unfold ptrV
  refine run ?_
  refine go T 10 rfl ?_
  refine o1 rfl ?_
  refine op_call rfl rfl rfl (readO_has x manNm) ?_
  rintro v1 w1 ⟨x1, hc1, h1⟩
  rw [hread] at h1
  obtain rfl : v1 = .tuple #[.slice none 0 0, .int .i64 3] := h1
  refine go T 10 rfl ?_
  refine eqF rfl rfl rfl rfl (by omega) ?_
  refine go T 8 rfl ?_
  refine o1 rfl (op_build T rfl rfl rfl rfl rfl rfl ?_)
  refine o1 rfl (op_build T rfl rfl rfl rfl rfl rfl ?_)
  refine o1 rfl ?_
  refine op_box rfl rfl (fun gm w2 hs2 hc2 hg2 => ?_)
  have hg2 : ManB w2 gm g (.slice none 0 0) (.slice none 0 0) 1 1 false := hg2
  have hs2 : w1.heap.size ≤ gm := hs2
  have x2 := x1.keep0 hc2
  have hc02 := hc1.trans' hc2
  have hout : gm ∉ p.fp g := fun hm => by have := x1.at_.lt gm hm; omega
  have hnS : SliceK 6 (RdL segL) w2 (.slice none 0 0) [] := by
    unfold SliceK
    exact ⟨none, 0, rfl, Nat.le_refl _, Nat.zero_le _, fun i x h => by simp at h⟩
  have hnQ : SliceK 5 (RdL parL) w2 (.slice none 0 0) [] := by
    unfold SliceK
    exact ⟨none, 0, rfl, Nat.le_refl _, Nat.zero_le _, fun i x h => by simp at h⟩
  have hI : EdI (wholeM [] [] 1 1) := ⟨⟨by decide, by decide⟩, ⟨by decide, by decide⟩, fun s hs => by simp [wholeM] at hs, fun q hq => by simp [wholeM] at hq⟩
  refine go T 7 rfl ?_
  refine o1 rfl ?_
  refine op_call rfl rfl rfl (lay_has (S := []) (Q := []) x2.at_ hg2 hnS hnQ (fun q hq => by cases hq) hI hcalls) ?_
  rintro v3 w3 ⟨_, hd⟩
  have hd := hd man0_enc
  have hgl := hg2
  obtain ⟨hv3, hc3, p3, x3, hg3⟩ := fsDoneO x2 hd
  change v3 = .int .i64 (writeM s manNm neuNm (encE man0).1).2 at hv3
  rw [hz] at hv3
  subst hv3
  have hgl2 : gm < w2.heap.size := Blk.lt hg2
  have hman : ManB w3 gm g (.slice none 0 0) (.slice none 0 0) 1 1 false := Blk.keep hg2 hc3 hout
  have hgrow : Grows w g p p3 := fun k hk => (hg3 k hk).imp id (fun h => by have := hc02.size; omega)
  refine go T 6 rfl ?_
  refine neF rfl rfl rfl rfl (by omega) ?_
  refine go T 13 rfl ?_
  refine post2 (.inl rfl) rfl rfl rfl ⟨gm, p3, rfl, (hc02.mono (fun k hk _ => by cases hk)).trans hc3 (fun k hk _ => hk), x3, hgrow, hman, fun hm => ?_, by have := hc1.size; omega⟩
  rcases hg3 gm hm with h | h
  · exact hout h
  · omega
end Go.Proofs.YtiadjkjlifnopaaGreatDoor.Tryz
/-! Manifests: Rewrite; Commit of no manifest. -/
set_option linter.unusedVariables false
namespace Go.Proofs.YtiadjkjlifnopaaGreatDoor.Tryz
open Go Go.Vc
end Go.Proofs.YtiadjkjlifnopaaGreatDoor.Tryz
/-! Manifests: a state in plain words, without the places of its lists. -/
set_option linter.unusedVariables false
namespace Go.Vc
open Go
section
variable {α β : Type} {f : α → β} {key : β → Int}
theorem erase_map : ∀ (L : List α) (i : Nat), (L.map f).eraseIdx i = (L.eraseIdx i).map f
  | [], i => by simp
  | a :: L, 0 => by simp
  | a :: L, i + 1 => by simp [erase_map L i]
theorem takeK_map : ∀ (ns : List Int) (L : List α), takeK key ns (L.map f) = (takeK (fun x => key (f x)) ns L).map (List.map f)
  | [], L => rfl
  | n :: ns, L => by
    rw [takeK, takeK, idxM_map]
    split
    · rfl
    · rw [erase_map, takeK_map ns]
theorem putK_map : ∀ (xs L : List α), putK key (xs.map f) (L.map f) = (putK (fun x => key (f x)) xs L).map (List.map f)
  | [], L => rfl
  | x :: xs, L => by
    rw [List.map_cons, putK, putK, List.any_map]
    by_cases h : (L.any fun y => decide (key (f x) = key (f y))) = true
    · rw [if_pos h, if_pos (by exact h)]; rfl
    · rw [if_neg h, if_neg (by exact h), show L.map f ++ [f x] = (L ++ [x]).map f from by simp, putK_map xs]
theorem insK_map (x : α) : ∀ l : List α, insM (leK key) (f x) (l.map f) = (insM (leK fun x => key (f x)) x l).map f
  | [] => rfl
  | y :: l => by
    rw [List.map_cons, insM, insM]
    by_cases h : leK (fun x => key (f x)) x y = true
    · rw [if_pos h, if_pos (by exact h)]; rfl
    · rw [if_neg h, if_neg (by exact h), insK_map x l]; rfl
theorem sortK_map : ∀ L : List α, sortK key (L.map f) = (sortK (fun x => key (f x)) L).map f
  | [] => rfl
  | x :: l => by
    have h := sortK_map l
    unfold sortK at *
    rw [List.map_cons, isM, isM, h, insK_map]
end
theorem ite_some {α : Type} {c : Bool} {a b : α} (h : (if c = true then some a else none) = some b) : c = true ∧ a = b := by
  cases c with
  | true => injection h with h; exact ⟨rfl, h⟩
  | false => cases h
structure PSt where
  segs : List SegM
  pars : List ParM
  next : Int
  seq : Int
def gKey (p : ParM) : Int := p.group
def finePM (S : List SegM) (Q : List ParM) (nx : Int) (X : List ParM) : Bool :=
  (X.all fun q => q.nums.all fun n => S.any (sealedAt n)) && (decide (max S.length Q.length ≤ 60) && (!(S.any fun s => decide (nx ≤ s.num)) && !(Q.any fun q => decide (nx ≤ q.group))))
def applyP (st : PSt) (e : EditM) (first : Bool) : Option PSt :=
  let t1 := takeK numK e.dels st.segs
  let p1 := putK numK e.adds (t1.getD [])
  let s2 := (p1.map (sortK numK)).getD []
  let t2 := takeK gKey e.drops st.pars
  let p2 := putK gKey e.pars (t2.getD [])
  let q2 := (p2.map (sortK gKey)).getD []
  let n := laterM st.next e.next
  let s := laterM st.seq e.seq
  if (editB e && (t1.isSome && (p1.isSome && (t2.isSome && (p2.isSome && (n.2 && (s.2 && finePM s2 q2 n.1 (if first then [] else e.pars)))))))) = true then some ⟨s2, q2, n.1, s.1⟩ else none
def StM.plain (st : StM) : PSt := ⟨st.segs, st.pars.map (·.1.p), st.next, st.seq⟩
theorem fineM_plain (S : List SegM) (Q X : List ParV) (nx : Int) : fineM S Q nx X = finePM S (Q.map (·.p)) nx (X.map (·.p)) := by
  unfold fineM finePM
  rw [List.length_map, List.all_map, List.any_map]
  rfl
theorem applyM_plain {st : StM} {e : EditM} {X : List ParS} {first : Bool} (hX : X.map (·.1.p) = e.pars) : (applyM st e X first).map StM.plain = applyP st.plain e first := by
  have ht : takeK gKey e.drops (st.pars.map (·.1.p)) = (takeK parKey e.drops st.pars).map (List.map (·.1.p)) := takeK_map e.drops st.pars
  have hp : putK gKey (X.map (·.1.p)) (((takeK parKey e.drops st.pars).getD []).map (·.1.p)) = (putK parKey X ((takeK parKey e.drops st.pars).getD [])).map (List.map (·.1.p)) := putK_map X _
  have hg : ∀ o : Option (List ParS), (o.map (List.map (·.1.p))).getD [] = (o.getD []).map (·.1.p) := fun o => by cases o <;> rfl
  have hs : ∀ o : Option (List ParS), ((o.map (List.map (·.1.p))).map (sortK gKey)).getD [] = ((o.map (sortK parKey)).getD []).map (·.1.p) := fun o => by
    cases o with
    | none => rfl
    | some l => exact sortK_map l
  have hi : ∀ o : Option (List ParS), (o.map (List.map (·.1.p))).isSome = o.isSome := fun o => by cases o <;> rfl
  have hif : ∀ b : Bool, ((if b then ([] : List ParV) else X.map (·.1))).map (·.p) = if b then [] else X.map (·.1.p) := fun b => by cases b <;> simp
  have key : ∀ (c c' : Bool) (a : StM) (b : PSt), c = c' → a.plain = b → (if c = true then some a else none).map StM.plain = if c' = true then some b else none := fun c c' a b hc hb => by subst hc; subst hb; split <;> rfl
  unfold applyM applyP
  refine key _ _ _ _ ?_ ?_
  · unfold StM.plain
    dsimp only
    rw [ht, hg, ← hX, hp, hs, hi, hi, fineM_plain, hif, List.map_map]
    cases first <;> rfl
  · unfold StM.plain
    dsimp only
    rw [ht, hg, ← hX, hp, hs]
    rfl
end Go.Vc
/-! Regions that draw their order, one of whose operations (number q) may turn blocks that the region itself has made; of one value that stands ahead of it (number j0) it is told what holds behind it (A0). -/
set_option linter.unusedSimpArgs false
set_option linter.unusedVariables false
namespace Go.Vc.G
open Go Go.RowKit Go.Vc

theorem OpW_mono' {P : Program} {N : Nat} {o : Oper} {e : Env} {w : World} {K K' : Value → World → Prop} (h : OpW P N o e w K) (hk : ∀ v w', K v w' → K' v w') : OpW P N o e w K' := by
  unfold OpW at *
  intro a ha K1 Q1 h1
  exact h a ha K1 Q1 (fun v w' hv => h1 v w' (hk v w' hv))
/-- What is told of a value: of one that is no constant, where b, what holds of it; else what held once. -/
def Tells (b : Bool) : VS → Value → World → Prop
  | .c u, v, _ => v = u
  | .r R, v, w => (b = true → R v w) ∧ ∃ w0, R v w0
theorem Tells.of {s : VS} {b : Bool} {v : Value} {w : World} (h : s.holds v w) : Tells b s v w := by
  cases s with
  | c u => exact h
  | r R => exact ⟨fun _ => h, _, h⟩
theorem Tells.less {s : VS} {b b' : Bool} {v : Value} {w : World} (h : Tells b s v w) (hb : b' = true → b = true) : Tells b' s v w := by
  cases s with
  | c u => exact h
  | r R => exact ⟨fun h' => h.1 (hb h'), h.2⟩
/-- What operation i may turn, n blocks being there before the region. -/
def Turns (q n i : Nat) (w w' : World) : Prop := ∃ S : List Nat, (∀ k ∈ S, n ≤ k ∧ i = q) ∧ Chg S w w'
theorem Turns.chg {q n i : Nat} {w w' : World} (h : Turns q n i w w') (hi : i ≠ q) : Chg [] w w' := by
  obtain ⟨S, h1, h2⟩ := h
  exact h2.mono (fun k hk _ => absurd (h1 k hk).2 hi)
theorem Turns.none (q n i : Nat) {w w' : World} (h : Chg [] w w') : Turns q n i w w' := ⟨[], fun _ h => (by cases h), h⟩

/-- Operation i is number q, or stands ahead of it. -/
def bq (l : List Oper) (q i : Nat) : Bool := Nat.beq i q || ((l[q]?).map fun o => (predsOf o).contains i).getD false
theorem bq_self (l : List Oper) (q : Nat) : bq l q q = true := by simp [bq]
/-- What is asked of front operation i. -/
def FrontOp (P : Program) (N : Nat) (q j0 : Nat) (A0 : Value → World → Prop) (l : List Oper) (Vs : List VS) (e : Env) (w : World) (i : Nat) (o : Oper) : Prop :=
  ∀ (val : Nat → Value) (w1 : World), Chg [] w w1 → (∀ j, (predsOf o).contains j = true → ∀ oj d, l[j]? = some oj → oj.dst = some d → Tells (bq l q i) (vsAt Vs j) (valOf Vs val j) w1) →
    match o.guard with
    | none => OpW P N o (opEnv l Vs e i o val) w1 (fun v w' => Turns q w.heap.size i w1 w' ∧ (vsAt Vs i).holds v w' ∧ (i = q → A0 (valOf Vs val j0) w'))
    | some (j, want) => ∃ b, (predsOf o).contains j = true ∧ ((l[j]?).bind (·.dst)).isSome = true ∧ (valOf Vs val j = .bool b ∨ (b = (!want) ∧ valOf Vs val j = undef)) ∧
        (b = want → OpW P N o (opEnv l Vs e i o val) w1 (fun v w' => Turns q w.heap.size i w1 w' ∧ (vsAt Vs i).holds v w' ∧ (i = q → A0 (valOf Vs val j0) w'))) ∧ (b = !want → (vsAt Vs i).holds undef w1 ∧ i ≠ q)
def Front (P : Program) (N : Nat) (q j0 : Nat) (A0 : Value → World → Prop) (l : List Oper) (Vs : List VS) (e : Env) (w : World) : Nat → Nat → List Oper → Prop
  | _, 0, _ => True
  | _, _ + 1, [] => True
  | i, m + 1, o :: r => FrontOp P N q j0 A0 l Vs e w i o ∧ Front P N q j0 A0 l Vs e w (i + 1) m r

theorem Front.get {P : Program} {N : Nat} {q j0 : Nat} {A0 : Value → World → Prop} {l : List Oper} {Vs : List VS} {e : Env} {w : World} :
    ∀ (r : List Oper) (i m : Nat), Front P N q j0 A0 l Vs e w i m r → ∀ k o, k < m → r[k]? = some o → FrontOp P N q j0 A0 l Vs e w (i + k) o
  | [], i, m, h, k, o, hk, ho => by simp at ho
  | p :: r, i, 0, h, k, o, hk, ho => by omega
  | p :: r, i, m + 1, h, 0, o, hk, ho => by simp at ho; subst ho; exact h.1
  | p :: r, i, m + 1, h, k + 1, o, hk, ho => by
    have := Front.get r (i + 1) m h.2 k o (by omega) (by simpa using ho)
    rw [show i + (k + 1) = i + 1 + k from by omega]; exact this

/-- The state in the middle of a region. -/
structure Mid (N : Nat) (q j0 : Nat) (A0 : Value → World → Prop) (l : List Oper) (m : Nat) (Vs : List VS) (e : Env) (w0 : World) (listed : Array Bool) (a : Act) (w : World) : Prop where
  size : a.tmps.size = N
  defers : a.defers = []
  chg : Chg [] w0 w
  lsize : listed.size = l.length
  front : ∀ i, i < l.length → m ≤ i → listed.getD i true = false
  down : ∀ i o, l[i]? = some o → listed.getD i true = true → ∀ j, (predsOf o).contains j = true → listed.getD j false = true
  old : ∀ t v, look e t = some v → (∀ i o, l[i]? = some o → o.dst = some t → listed.getD i true = false) → a.tmps[t]? = some v
  new : ∀ i o d, l[i]? = some o → o.dst = some d → listed.getD i true = true → ∃ v, a.tmps[d]? = some v ∧ Tells (Nat.beq i q || !listed.getD q false) (vsAt Vs i) v w
  noval : ∀ i o, l[i]? = some o → o.dst = none → listed.getD i true = true → ∃ v, Tells (Nat.beq i q || !listed.getD q false) (vsAt Vs i) v w
  behind : listed.getD q false = true → ∀ o d, l[j0]? = some o → o.dst = some d → listed.getD j0 true = true ∧ ∃ v, a.tmps[d]? = some v ∧ A0 v w

section
variable {P : Program} {N : Nat} {q j0 : Nat} {A0 : Value → World → Prop} {l : List Oper} {m : Nat} {Vs : List VS} {e : Env} {w0 : World} {listed : Array Bool} {a : Act} {w : World}

/-- The values that the listed front operations have left, as a function of their numbers. -/
theorem Mid.vals (hM : Mid N q j0 A0 l m Vs e w0 listed a w) : ∃ val : Nat → Value, ∀ i o d, l[i]? = some o → o.dst = some d → listed.getD i true = true → a.tmps[d]? = some (valOf Vs val i) ∧ Tells (Nat.beq i q || !listed.getD q false) (vsAt Vs i) (valOf Vs val i) w := by
  refine ⟨fun i => ((l[i]?).bind (·.dst)).elim undef fun d => a.tmps.getD d undef, fun i o d ho hd hl => ?_⟩
  obtain ⟨v, hv, hh⟩ := hM.new i o d ho hd hl
  unfold valOf
  cases hvs : Vs[i]? with
  | none => simp [ho, hd, Array.getD_eq_getD_getElem?, hv]; simpa [vsAt, hvs] using hh
  | some s =>
    cases s with
    | c u =>
      have : v = u := by simpa [vsAt, hvs, Tells] using hh
      subst this
      exact ⟨hv, by simp [vsAt, hvs, Tells]⟩
    | r R => simp [ho, hd, Array.getD_eq_getD_getElem?, hv]; simpa [vsAt, hvs] using hh

/-- One front operation more. -/
theorem Mid.step (hdst : dstsOk N l = true) (hM : Mid N q j0 A0 l m Vs e w0 listed a w) {i : Nat} {o : Oper} (ho : l[i]? = some o) (him : i < m) (hun : listed.getD i true = false)
    (hpre : ∀ j, (predsOf o).contains j = true → listed.getD j false = true) (hfirm : ∀ i, (vsAt Vs i).firm []) {v : Value} {w' : World} (hc : Turns q w0.heap.size i w w') (hv : (vsAt Vs i).holds v w') (hA : ∀ v w w', A0 v w → Chg [] w w' → A0 v w') (hq : i = q → ∀ o d, l[j0]? = some o → o.dst = some d → listed.getD j0 true = true ∧ ∃ u, a.tmps[d]? = some u ∧ A0 u w') :
    Mid N q j0 A0 l m Vs e w0 (listed.setIfInBounds i true) (a.put o.dst v) w' := by
  have hi : i < listed.size := by rw [hM.lsize]; exact (List.getElem?_eq_some_iff.1 ho).1
  refine ⟨by cases hd : o.dst <;> simp [Act.put, hM.size], by cases hd : o.dst <;> simp [Act.put, hM.defers], ?_, by simp [hM.lsize], fun k hk hmk => ?_, fun k ok hok hlk j hj => ?_, fun t u hu hall => ?_, fun k ok d hok hd hlk => ?_, fun k ok hok hd hlk => ?_, fun hlq o0 d0 ho0 hd0 => ?_⟩
  · obtain ⟨S, h1, h2⟩ := hc
    exact hM.chg.trans h2 (fun k hk hlt => by have := (h1 k hk).1; omega)
  · rw [getD_set hi, if_neg (by omega)]; exact hM.front k hk hmk
  · rw [getD_set hi] at hlk ⊢
    by_cases hij : i = j
    · rw [if_pos hij]
    · rw [if_neg hij]
      by_cases hik : i = k
      · subst hik
        rw [ho] at hok; injection hok with hok; subst hok
        exact hpre j hj
      · rw [if_neg hik] at hlk
        exact hM.down k ok hok hlk j hj
  · have h1 := hM.old t u hu (fun k ok hok hd => by
      have := hall k ok hok hd
      rw [getD_set hi] at this
      split at this
      · cases this
      · exact this)
    cases hd : o.dst with
    | none => simpa [Act.put] using h1
    | some d =>
      have hne : d ≠ t := fun h => by
        subst h
        have := hall i o ho hd
        rw [getD_set hi, if_pos rfl] at this
        cases this
      simp only [Act.put, Array.getElem?_setIfInBounds_ne hne]
      exact h1
  · rw [getD_set hi] at hlk
    by_cases hik : i = k
    · subst hik
      rw [ho] at hok; injection hok with hok; subst hok
      have := (dsts_spec hdst ho hd).1
      exact ⟨v, by simp [Act.put, hd, hM.size, this], Tells.of hv⟩
    · rw [if_neg hik] at hlk
      obtain ⟨u, hu, hh⟩ := hM.new k ok d hok hd hlk
      refine ⟨u, ?_, ?_⟩
      · cases hdo : o.dst with
        | none => simpa [Act.put] using hu
        | some d' =>
          have hne : d' ≠ d := fun h => by
            subst h
            exact hik ((dsts_spec hdst ho hdo).2 k ok hok hd).symm
          simp only [Act.put, Array.getElem?_setIfInBounds_ne hne]
          exact hu
      · by_cases hiq : i = q
        · subst hiq
          have hkq : Nat.beq k i = false := by
            cases hx : Nat.beq k i with
            | false => rfl
            | true => exact absurd (Nat.eq_of_beq_eq_true hx).symm hik
          rw [getD_set hi, if_pos rfl, hkq]
          revert hh
          cases vsAt Vs k with
          | c u' => exact fun h => h
          | r R => exact fun h => ⟨fun h' => absurd h' (by simp), h.2⟩
        · have hc0 := hc.chg hiq
          rw [getD_set hi, if_neg hiq]
          have hf := hfirm k
          revert hh hf
          cases vsAt Vs k with
          | c u' => exact fun h _ => h
          | r R => exact fun h hf => ⟨fun hb => hf _ _ _ (h.1 hb) hc0, h.2⟩
  · rw [getD_set hi] at hlk
    by_cases hik : i = k
    · subst hik; exact ⟨v, Tells.of hv⟩
    · rw [if_neg hik] at hlk
      obtain ⟨u, hh⟩ := hM.noval k ok hok hd hlk
      refine ⟨u, ?_⟩
      by_cases hiq : i = q
      · subst hiq
        have hkq : Nat.beq k i = false := by
          cases hx : Nat.beq k i with
          | false => rfl
          | true => exact absurd (Nat.eq_of_beq_eq_true hx).symm hik
        rw [getD_set hi, if_pos rfl, hkq]
        revert hh
        cases vsAt Vs k with
        | c u' => exact fun h => h
        | r R => exact fun h => ⟨fun h' => absurd h' (by simp), h.2⟩
      · have hc0 := hc.chg hiq
        rw [getD_set hi, if_neg hiq]
        have hf := hfirm k
        revert hh hf
        cases vsAt Vs k with
        | c u' => exact fun h _ => h
        | r R => exact fun h hf => ⟨fun hb => hf _ _ _ (h.1 hb) hc0, h.2⟩
  · have hput : ∀ u, listed.getD j0 true = true → a.tmps[d0]? = some u → (a.put o.dst v).tmps[d0]? = some u := fun u hl0 hu => by
      cases hdo : o.dst with
      | none => simpa [Act.put] using hu
      | some d' =>
        have hne : d' ≠ d0 := fun h => by
          subst h
          have := (dsts_spec hdst ho hdo).2 j0 o0 ho0 hd0
          subst this
          rw [hl0] at hun
          cases hun
        simp only [Act.put, Array.getElem?_setIfInBounds_ne hne]
        exact hu
    have hl' : listed.getD j0 true = true → (listed.setIfInBounds i true).getD j0 true = true := fun h => by
      rw [getD_set hi]
      split
      · rfl
      · exact h
    by_cases hiq : i = q
    · obtain ⟨h1, u, h2, h3⟩ := hq hiq o0 d0 ho0 hd0
      exact ⟨hl' h1, u, hput u h1 h2, h3⟩
    · rw [getD_set hi, if_neg hiq] at hlq
      obtain ⟨h1, u, h2, h3⟩ := hM.behind hlq o0 d0 ho0 hd0
      exact ⟨hl' h1, u, hput u h1 h2, hA _ _ _ h3 (hc.chg hiq)⟩

theorem Mid.fits (hdst : dstsOk N l = true) (hM : Mid N q j0 A0 l m Vs e w0 listed a w) {i : Nat} {o : Oper} (ho : l[i]? = some o) (hun : listed.getD i true = false)
    (hpre : ∀ j, (predsOf o).contains j = true → listed.getD j false = true) {val : Nat → Value}
    (hval : ∀ i o d, l[i]? = some o → o.dst = some d → listed.getD i true = true → a.tmps[d]? = some (valOf Vs val i) ∧ Tells (Nat.beq i q || !listed.getD q false) (vsAt Vs i) (valOf Vs val i) w) :
    Fits N (opEnv l Vs e i o val) a := by
  refine ⟨hM.size, hM.defers, fun t v hv => ?_⟩
  unfold opEnv at hv
  rw [look_append] at hv
  cases hp : look (predEnv l Vs val (predsOf o)) t with
  | some u =>
    rw [hp] at hv
    simp at hv
    subst hv
    obtain ⟨j, oj, hj, hoj, hd, rfl⟩ := look_predEnv val _ _ _ hp
    have h1 := hpre j (by simpa using hj)
    have h2 : listed.getD j true = true := by
      have : j < listed.size := by rw [hM.lsize]; exact (List.getElem?_eq_some_iff.1 hoj).1
      simpa [Array.getD_eq_getD_getElem?, this] using h1
    exact (hval j oj t hoj hd h2).1
  | none =>
    rw [hp] at hv
    simp at hv
    obtain ⟨h1, h2⟩ := look_filter hv
    refine hM.old t v h1 (fun k ok hok hd => ?_)
    unfold freeAt at h2
    have h3 := List.all_eq_true.1 h2 (ok, k) (by rw [List.mem_zipIdx_iff_getElem?]; exact hok)
    simp only [hd, Bool.or_eq_true] at h3
    rcases h3 with (h3 | h3) | h3
    · simp at h3
    · cases hlk : listed.getD k true with
      | false => rfl
      | true =>
        have := hM.down k ok hok hlk i h3
        have hi : i < listed.size := by rw [hM.lsize]; exact (List.getElem?_eq_some_iff.1 ho).1
        simp [Array.getD_eq_getD_getElem?, hi] at this hun
        rw [this] at hun; cases hun
    · have : k = i := Nat.eq_of_beq_eq_true h3
      subst this
      exact hun

/-- Once operation m may come up, all front operations have. -/
theorem tail_all (h : tailOk m l = true) (hM : Mid N q j0 A0 l m Vs e w0 listed a w) {o : Oper} (ho : l[m]? = some o) (hpre : ∀ j, (predsOf o).contains j = true → listed.getD j false = true) :
    ∀ k, k < m → listed.getD k false = true := by
  unfold tailOk at h
  rw [ho] at h
  simp only [Bool.and_eq_true] at h
  have hc := h.1.2
  have key : ∀ n k, m - k ≤ n → k < m → listed.getD k false = true := by
    intro n
    induction n with
    | zero => intro k h1 h2; omega
    | succ n ih =>
      intro k h1 h2
      have h3 := List.all_eq_true.1 hc k (by simpa using h2)
      obtain ⟨c, hcm, h4⟩ := List.any_eq_true.1 h3
      simp only [Bool.and_eq_true] at h4
      have hkc : k < c := by simpa [Nat.blt_eq] using h4.1
      have hcm' : c < m + 1 := by simpa using hcm
      cases hoc : l[c]? with
      | none => simp [hoc] at h4
      | some oc =>
        simp only [hoc] at h4
        by_cases hcc : c = m
        · subst hcc
          rw [ho] at hoc; injection hoc with hoc; subst hoc
          exact hpre k h4.2
        · have h5 := ih c (by omega) (by omega)
          have hlt : c < listed.size := by rw [hM.lsize]; exact (List.getElem?_eq_some_iff.1 hoc).1
          have h6 : listed.getD c true = true := by
            simp [Array.getD_eq_getD_getElem?, hlt] at h5 ⊢; exact h5
          exact hM.down c oc hoc h6 k h4.2
  exact fun k hk => key (m - k) k (Nat.le_refl _) hk

theorem Mid.full (hM : Mid N q j0 A0 l m Vs e w0 listed a w) (hall : ∀ k, k < m → listed.getD k true = true) {val : Nat → Value}
    (hval : ∀ i o d, l[i]? = some o → o.dst = some d → listed.getD i true = true → a.tmps[d]? = some (valOf Vs val i) ∧ Tells (Nat.beq i q || !listed.getD q false) (vsAt Vs i) (valOf Vs val i) w) :
    Fits N (frontEnv Vs val 0 m l ++ e) a := by
  refine ⟨hM.size, hM.defers, fun t v hv => ?_⟩
  rw [look_append] at hv
  cases hp : look (frontEnv Vs val 0 m l) t with
  | some u =>
    rw [hp] at hv; simp at hv; subst hv
    obtain ⟨j, o, hj, ho, hd, rfl⟩ := look_frontEnv val _ _ _ _ _ hp
    rw [Nat.zero_add]
    exact (hval j o t ho hd (hall j hj)).1
  | none =>
    rw [hp] at hv; simp at hv
    refine hM.old t v hv (fun i o ho hd => ?_)
    by_cases hi : i < m
    · exact absurd hd (look_front_none l 0 m hp i o hi ho)
    · exact hM.front i (List.getElem?_eq_some_iff.1 ho).1 (by omega)

theorem mid_any {Q : Post} (hdst : dstsOk N l = true) (htl : tailOk m l = true) (hfirm : ∀ i, (vsAt Vs i).firm []) (hA : ∀ v w w', A0 v w → Chg [] w w' → A0 v w') (hqm : q < m) (hpj : ∀ o, l[q]? = some o → (predsOf o).contains j0 = true)
    (hfront : ∀ i o, i < m → l[i]? = some o → FrontOp P N q j0 A0 l Vs e w0 i o)
    (hend : ∀ (val : Nat → Value) (w1 : World), Chg [] w0 w1 → (∀ i, i < m → ∀ o d, l[i]? = some o → o.dst = some d → Tells (Nat.beq i q) (vsAt Vs i) (valOf Vs val i) w1) → (∀ i, i < m → ∀ o, l[i]? = some o → o.dst = none → ∃ v, Tells (Nat.beq i q) (vsAt Vs i) v w1) → (∀ o d, l[j0]? = some o → o.dst = some d → A0 (valOf Vs val j0) w1) → WL P N l.toArray (l.drop m) Q (frontEnv Vs val 0 m l ++ e) w1) :
    ∀ (fuel : Nat) (listed : Array Bool) (a : Act) (w : World), openCount listed l.length = fuel → Mid N q j0 A0 l m Vs e w0 listed a w → wpAny P .any l.toArray (Lift N Q) fuel listed a w := by
  have hml : m ≤ l.length := by
    unfold tailOk at htl
    simp only [Bool.and_eq_true] at htl
    exact Nat.le_of_ble_eq_true htl.1.1
  -- all front operations have come up: the tail
  have hdone : ∀ (listed : Array Bool) (a : Act) (w : World), Mid N q j0 A0 l m Vs e w0 listed a w → (∀ k, k < m → listed.getD k true = true) → wpAny P .any l.toArray (Lift N Q) (l.drop m).length listed a w := by
    intro listed a w hM hall
    obtain ⟨val, hval⟩ := hM.vals
    have hW := hend val w hM.chg (fun i hi o d ho hd => (hval i o d ho hd (hall i hi)).2.less (fun h => by rw [h]; rfl)) (fun i hi o ho hd => let ⟨v, hv⟩ := hM.noval i o ho hd (hall i hi); ⟨v, hv.less (fun h => by rw [h]; rfl)⟩) (fun o d ho hd => by
      have hq0 := hall q hqm
      have hqs : q < listed.size := by rw [hM.lsize]; omega
      obtain ⟨h1, u, h2, h3⟩ := hM.behind (by simp [Array.getD_eq_getD_getElem?, hqs] at hq0 ⊢; exact hq0) o d ho hd
      have h4 := (hval j0 o d ho hd h1).1
      rw [h2] at h4
      injection h4 with h4
      rw [← h4]; exact h3)
    unfold WL at hW
    refine tail_any htl (l.drop m) m listed a w (Nat.le_refl _) rfl hM.lsize (fun k hk => ?_) (hW a (hM.full hall hval))
    by_cases hkm : k < m
    · rw [hall k hkm]; simp [hkm]
    · rw [hM.front k hk (by omega)]; simp [hkm]
  have hcount : ∀ (listed : Array Bool), (∀ k, k < m → listed.getD k true = true) → (∀ i, i < l.length → m ≤ i → listed.getD i true = false) → openCount listed l.length = (l.drop m).length := by
    intro listed h1 h2
    have : ∀ n, n ≤ l.length → openCount listed n = n - m := by
      intro n
      induction n with
      | zero => intro _; simp [openCount]
      | succ n ih =>
        intro hn
        simp only [openCount]
        rw [ih (by omega)]
        by_cases hnm : n < m
        · rw [h1 n hnm]; simp; omega
        · rw [h2 n (by omega) (by omega)]; simp; omega
    rw [this _ (Nat.le_refl _)]; simp
  intro fuel
  induction fuel with
  | zero =>
    intro listed a w hcnt hM
    have hall : ∀ k, k < l.length → listed.getD k true = true := by
      have : ∀ n, openCount listed n = 0 → ∀ k, k < n → listed.getD k true = true := by
        intro n
        induction n with
        | zero => intro _ k hk; omega
        | succ n ih =>
          intro h k hk
          simp only [openCount] at h
          by_cases hkn : k = n
          · subst hkn
            cases hx : listed.getD k true with
            | true => rfl
            | false => rw [hx] at h; simp at h
          · exact ih (by omega) k (by omega)
      exact this _ hcnt
    have hd := hdone listed a w hM (fun k hk => hall k (by omega))
    rw [← hcount listed (fun k hk => hall k (by omega)) hM.front, hcnt] at hd
    exact hd
  | succ fuel ih =>
    intro listed a w hcnt hM
    by_cases hall : ∀ k, k < m → listed.getD k true = true
    · have hd := hdone listed a w hM hall
      rw [← hcount listed hall hM.front, hcnt] at hd
      exact hd
    · -- some front operation is open: the least one may come up; and whatever may come up is a front operation
      have hready : ∀ i, i ∈ Region.ready .any l.toArray listed → i < m := by
        intro i hi
        obtain ⟨o, ho, hun, hpre⟩ := ready_spec hi
        rcases Nat.lt_or_ge i m with h | h
        · exact h
        · exfalso
          have hil := (List.getElem?_eq_some_iff.1 ho).1
          rcases Nat.lt_or_ge m i with h2 | h2
          · have h3 := hpre (i - 1) ((tail_preds htl ho).1 h2)
            have h4 := hM.front (i - 1) (by omega) (by omega)
            have hsz : i - 1 < listed.size := by rw [hM.lsize]; omega
            simp [Array.getD_eq_getD_getElem?, hsz] at h3 h4
            rw [h3] at h4; cases h4
          · have hmi : i = m := by omega
            subst hmi
            refine hall (fun k hk => ?_)
            have h3 := tail_all htl hM ho hpre k hk
            have hsz : k < listed.size := by rw [hM.lsize]; omega
            simp [Array.getD_eq_getD_getElem?, hsz] at h3 ⊢; exact h3
      refine ⟨fun hnil => ?_, fun i hi => ?_⟩
      · exfalso
        have hmin : ∃ k, k < m ∧ listed.getD k true = false ∧ ∀ j, j < k → listed.getD j true = true := by
          have : ∀ n, (∃ k, k < n ∧ ¬ listed.getD k true = true) → ∃ k, k < n ∧ listed.getD k true = false ∧ ∀ j, j < k → listed.getD j true = true := by
            intro n
            induction n with
            | zero => rintro ⟨k, hk, _⟩; omega
            | succ n ih =>
              rintro ⟨k, hk, hx⟩
              by_cases hex : ∃ k, k < n ∧ ¬ listed.getD k true = true
              · obtain ⟨k', h1, h2, h3⟩ := ih hex
                exact ⟨k', by omega, h2, h3⟩
              · have hkn : k = n := by
                  rcases Nat.lt_or_ge k n with h | h
                  · exact absurd ⟨k, h, hx⟩ hex
                  · omega
                subst hkn
                refine ⟨k, by omega, by simpa using hx, fun j hj => ?_⟩
                cases hxj : listed.getD j true with
                | true => rfl
                | false => exact absurd ⟨j, hj, by simp [hxj]⟩ hex
          have hex : ∃ k, k < m ∧ ¬ listed.getD k true = true := by
            refine Classical.byContradiction fun hno => hall fun k hk => ?_
            cases hx : listed.getD k true with
            | true => rfl
            | false => exact absurd ⟨k, hk, by simp [hx]⟩ hno
          exact this m hex
        obtain ⟨k, hkm, hku, hkl⟩ := hmin
        have hkl' : k < l.length := by omega
        have ho : l[k]? = some l[k] := List.getElem?_eq_getElem hkl'
        have : k ∈ Region.ready .any l.toArray listed := by
          unfold Region.ready
          simp only [List.mem_filter, List.mem_range, Bool.and_eq_true, Bool.not_eq_true']
          refine ⟨by simpa using hkl', hku, ?_⟩
          simp [hkl']
          intro q hq
          by_cases hb : Region.binds .any l[k].after[q] = true
          · refine .inr ?_
            have hlt := (tail_preds htl ho).2 (l[k].after[q]).on (by
              simp only [predsOf, List.contains_eq_mem, List.mem_map, List.mem_filter, decide_eq_true_eq]
              exact ⟨l[k].after[q], ⟨by simp, hb⟩, rfl⟩)
            have h2 := hkl (l[k].after[q]).on hlt
            have hsz : (l[k].after[q]).on < listed.size := by rw [hM.lsize]; omega
            simp [Array.getD_eq_getD_getElem?, hsz] at h2 ⊢
            exact h2
          · exact .inl (by simpa using hb)
        rw [hnil] at this; cases this
      · have him := hready i hi
        obtain ⟨o, ho, hun, hpre⟩ := ready_spec hi
        have hlit : l.toArray[i]? = some o := by simpa using ho
        obtain ⟨val, hval⟩ := hM.vals
        have hfit := hM.fits hdst ho hun hpre hval
        have hisz : i < listed.size := by rw [hM.lsize]; exact (List.getElem?_eq_some_iff.1 ho).1
        have hil := (List.getElem?_eq_some_iff.1 ho).1
        have hpv : ∀ j, (predsOf o).contains j = true → ∀ oj, l[j]? = some oj → ∀ d, oj.dst = some d → a.tmps[d]? = some (valOf Vs val j) ∧ Tells (bq l q i) (vsAt Vs j) (valOf Vs val j) w := fun j hj oj hoj d hd => by
          have h1 := hpre j hj
          have hsz : j < listed.size := by rw [hM.lsize]; exact (List.getElem?_eq_some_iff.1 hoj).1
          obtain ⟨h2, h3⟩ := hval j oj d hoj hd (by simp [Array.getD_eq_getD_getElem?, hsz] at h1 ⊢; exact h1)
          refine ⟨h2, h3.less (fun h => ?_)⟩
          have hun' : listed.getD q false = false := by
            unfold bq at h
            rw [Bool.or_eq_true] at h
            rcases h with h | h
            · have hiq : i = q := Nat.eq_of_beq_eq_true h
              subst hiq
              simp [Array.getD_eq_getD_getElem?, hisz] at hun ⊢; exact hun
            · cases hoq : l[q]? with
              | none => rw [hoq] at h; cases h
              | some oq =>
                rw [hoq] at h
                have h : (predsOf oq).contains i = true := h
                cases hlq : listed.getD q false with
                | false => rfl
                | true =>
                  have hqs : q < listed.size := by rw [hM.lsize]; exact (List.getElem?_eq_some_iff.1 hoq).1
                  have h5 := hM.down q oq hoq (by simp [Array.getD_eq_getD_getElem?, hqs] at hlq ⊢; exact hlq) i h
                  simp [Array.getD_eq_getD_getElem?, hisz] at h5 hun; rw [hun] at h5; cases h5
          rw [hun']; simp
        have hF := hfront i o him ho val w hM.chg (fun j hj oj d hoj hd => (hpv j hj oj hoj d hd).2)
        have hgo : ∀ v w', Turns q w0.heap.size i w w' ∧ (vsAt Vs i).holds v w' ∧ (i = q → A0 (valOf Vs val j0) w') → wpAny P .any l.toArray (Lift N Q) fuel (listed.setIfInBounds i true) (a.put o.dst v) w' := fun v w' ⟨hc, hv, ha⟩ =>
          ih _ _ _ (by have := openCount_set hisz hun l.length hil; omega) (hM.step hdst ho him hun hpre hfirm hc hv hA (fun hiq oj d hoj hd => by
            subst hiq
            have hj := hpj o ho
            have h1 := hpre j0 hj
            have hsz : j0 < listed.size := by rw [hM.lsize]; exact (List.getElem?_eq_some_iff.1 hoj).1
            exact ⟨by simp [Array.getD_eq_getD_getElem?, hsz] at h1 ⊢; exact h1, _, (hpv j0 hj oj hoj d hd).1, ha rfl⟩))
        unfold wpOp
        rw [hlit]
        simp only
        cases hg : o.guard with
        | none =>
          rw [hg] at hF
          have hwa : Region.wanted o (yielded l.toArray a.tmps) = true := by simp [Region.wanted, hg]
          rw [if_pos hwa]
          unfold OpW at hF
          exact .inl (hF a hfit _ _ hgo)
        | some g =>
          obtain ⟨j, want⟩ := g
          rw [hg] at hF
          obtain ⟨b, hj, hjd, hb, h1, h2⟩ := hF
          have hwa : Region.wanted o (yielded l.toArray a.tmps) = (b == want) := by
            cases hoj : l[j]? with
            | none => simp [hoj] at hjd
            | some oj =>
              cases hd : oj.dst with
              | none => simp [hoj, hd] at hjd
              | some d =>
                have := (hpv j hj oj hoj d hd).1
                unfold Region.wanted yielded
                rcases hb with hb | ⟨hbw, hb⟩
                · rw [hb] at this
                  simp only [hg, List.getElem?_toArray, hoj, Option.bind_some, hd, this]
                  cases b <;> cases want <;> rfl
                · rw [hb] at this
                  simp only [hg, List.getElem?_toArray, hoj, Option.bind_some, hd, this]
                  subst hbw
                  cases want <;> rfl
          rw [hwa]
          by_cases hbw : b = want
          · subst hbw
            rw [if_pos (by simp)]
            have h3 := h1 rfl
            unfold OpW at h3
            exact .inl (h3 a hfit _ _ hgo)
          · have hbn : b = !want := by cases b <;> cases want <;> first | rfl | exact absurd rfl hbw
            rw [if_neg (by simpa using hbw)]
            exact hgo undef w ⟨Turns.none _ _ _ (Chg.refl _ _), (h2 hbn).1, fun h => absurd h (h2 hbn).2⟩

def Firms : List VS → Prop
  | [] => True
  | s :: r => s.firm [] ∧ Firms r
theorem Firms.at : ∀ {Vs : List VS}, Firms Vs → ∀ i, (vsAt Vs i).firm []
  | [], _, i => by simp [vsAt, VS.firm]
  | s :: r, h, 0 => h.1
  | s :: r, h, i + 1 => Firms.at h.2 i
theorem Firms.snoc {s : VS} : ∀ {Vs : List VS}, Firms Vs → s.firm [] → Firms (Vs ++ [s])
  | [], _, h => ⟨h, trivial⟩
  | a :: A, hf, h => ⟨hf.1, Firms.snoc hf.2 h⟩

/-- **A region that draws its order.** m: how many operations stand in front; Vs: what they leave; -/
theorem W_draw {id : Nat} {Q : Post} (m q j0 : Nat) (A0 : Value → World → Prop) (Vs : List VS) (hfol : P.follows .mixedOrders = true) (hdst : dstsOk N l = true) (htl : tailOk m l = true) (hfirms : Firms Vs) (hA : ∀ v w w', A0 v w → Chg [] w w' → A0 v w') (hqm : q < m) (hpj : ∀ o, l[q]? = some o → (predsOf o).contains j0 = true)
    (hfront : Front P N q j0 A0 l Vs e w 0 m l)
    (hend : ∀ (val : Nat → Value) (w1 : World), Chg [] w w1 → (∀ i, i < m → ∀ o d, l[i]? = some o → o.dst = some d → Tells (Nat.beq i q) (vsAt Vs i) (valOf Vs val i) w1) → (∀ i, i < m → ∀ o, l[i]? = some o → o.dst = none → ∃ v, Tells (Nat.beq i q) (vsAt Vs i) v w1) → (∀ o d, l[j0]? = some o → o.dst = some d → A0 (valOf Vs val j0) w1) → WL P N l.toArray (l.drop m) Q (frontEnv Vs val 0 m l ++ e) w1) :
    W P N (.region id l.toArray true) Q e w := by
  have hfirm : ∀ i, (vsAt Vs i).firm [] := fun i => hfirms.at i
  unfold W
  intro a ha
  refine wp_region_any hfol ?_
  have hc0 : openCount (Array.replicate l.length false) l.length = l.length := by
    have : ∀ n, n ≤ l.length → openCount (Array.replicate l.length false) n = n := by
      intro n
      induction n with
      | zero => intro _; rfl
      | succ n ih =>
        intro hn
        have h1 : (Array.replicate l.length false).getD n true = false := by rw [Array.getD_eq_getD_getElem?, Array.getElem?_replicate, if_pos (by omega)]; rfl
        simp only [openCount]; rw [ih (by omega), h1]; rfl
    exact this _ (Nat.le_refl _)
  have hM : Mid N q j0 A0 l m Vs e w (Array.replicate l.length false) a { w with drawn := w.drawn + 1 } := by
    refine ⟨ha.size, ha.defers, Chg.drawn [] w _, by simp, fun i hi _ => by simp [Array.getD_eq_getD_getElem?, hi], fun i o ho hl => ?_, fun t v hv _ => ha.look t v hv, fun i o d ho _ hl => ?_, fun i o ho _ hl => ?_, fun hlq => ?_⟩
    · have hi := (List.getElem?_eq_some_iff.1 ho).1
      simp [Array.getD_eq_getD_getElem?, hi] at hl
    · have hi := (List.getElem?_eq_some_iff.1 ho).1
      simp [Array.getD_eq_getD_getElem?, hi] at hl
    · have hi := (List.getElem?_eq_some_iff.1 ho).1
      simp [Array.getD_eq_getD_getElem?, hi] at hl
    · exfalso
      by_cases hx : q < l.length <;> simp [Array.getD_eq_getD_getElem?, hx] at hlq
  have := mid_any (P := P) (Q := Q) hdst htl hfirm hA hqm hpj (fun i o him ho => by simpa using Front.get l 0 m hfront i o him ho) hend l.length _ _ _ hc0 hM
  simpa using this

/-! ### The same, walked in the text's order: what an operation leaves is found on the way -/
/-- Operation i, what the elder ones leave being Vs; it leaves s. -/
def StepP (P : Program) (N : Nat) (q j0 : Nat) (A0 : Value → World → Prop) (l : List Oper) (Vs : List VS) (e : Env) (w : World) (i : Nat) (o : Oper) (s : VS) : Prop :=
  ∀ (val : Nat → Value) (w1 : World), Chg [] w w1 → (∀ j, (predsOf o).contains j = true → ∀ oj d, l[j]? = some oj → oj.dst = some d → Tells (bq l q i) (vsAt Vs j) (valOf Vs val j) w1) →
    match o.guard with
    | none => OpW P N o (opEnv l Vs e i o val) w1 (fun v w' => Turns q w.heap.size i w1 w' ∧ s.holds v w' ∧ (i = q → A0 (valOf Vs val j0) w'))
    | some (j, want) => ∃ b, (predsOf o).contains j = true ∧ ((l[j]?).bind (·.dst)).isSome = true ∧ (valOf Vs val j = .bool b ∨ (b = (!want) ∧ valOf Vs val j = undef)) ∧
        (b = want → OpW P N o (opEnv l Vs e i o val) w1 (fun v w' => Turns q w.heap.size i w1 w' ∧ s.holds v w' ∧ (i = q → A0 (valOf Vs val j0) w'))) ∧ (b = !want → s.holds undef w1 ∧ i ≠ q)
def Walk (P : Program) (N : Nat) (q j0 : Nat) (A0 : Value → World → Prop) (l : List Oper) (e : Env) (w : World) (fin : List VS → Prop) : Nat → List Oper → List VS → Prop
  | _, [], Vs => fin Vs
  | i, o :: r, Vs => ∃ s : VS, s.firm [] ∧ StepP P N q j0 A0 l Vs e w i o s ∧ Walk P N q j0 A0 l e w fin (i + 1) r (Vs ++ [s])

theorem walk_front (htl : tailOk m l = true) (hml : m ≤ l.length) (hpj : ∀ o, l[q]? = some o → (predsOf o).contains j0 = true) {fin : List VS → Prop} : ∀ (r : List Oper) (i : Nat) (Vs : List VS), Vs.length = i → (l.take m).drop i = r → Firms Vs → Walk P N q j0 A0 l e w fin i r Vs →
    ∃ rest : List VS, rest.length = r.length ∧ Firms (Vs ++ rest) ∧ fin (Vs ++ rest) ∧ ∀ k o, r[k]? = some o → FrontOp P N q j0 A0 l (Vs ++ rest) e w (i + k) o
  | [], i, Vs, hi, hr, hf, h => ⟨[], rfl, by simpa using hf, by simpa [Walk] using h, fun k o hk => by simp at hk⟩
  | o :: r, i, Vs, hi, hr, hf, h => by
    obtain ⟨s, hs, hst, hw⟩ := h
    have hr' : (l.take m).drop (i + 1) = r := by rw [← List.drop_drop, hr]; rfl
    have hf' : Firms (Vs ++ [s]) := hf.snoc hs
    obtain ⟨rest, hl, h1, h2, h3⟩ := walk_front htl hml hpj r (i + 1) (Vs ++ [s]) (by simp [hi]) hr' hf' hw
    rw [List.append_assoc] at h1 h2 h3
    refine ⟨s :: rest, by simp [hl], h1, h2, fun k ok hk => ?_⟩
    cases k with
    | zero =>
      simp at hk
      subst hk
      rw [Nat.add_zero]
      have ho : l[i]? = some o := by
        have h4 : ((l.take m).drop i)[0]? = some o := by rw [hr]; rfl
        rw [List.getElem?_drop, Nat.add_zero, List.getElem?_take] at h4
        split at h4
        · exact h4
        · cases h4
      have hpl : ∀ j, (predsOf o).contains j = true → j < Vs.length := fun j hj => by rw [hi]; exact (tail_preds htl ho).2 j hj
      have hpe : ∀ val, opEnv l (Vs ++ s :: rest) e i o val = opEnv l Vs e i o val := fun val => by
        unfold opEnv; rw [predEnv_append _ (fun j hj => hpl j (by simpa using hj))]
      have hvs : vsAt (Vs ++ s :: rest) i = s := by rw [← hi]; exact vsAt_at
      intro val w1 hc hp
      have hq := hst val w1 hc (fun j hj oj d h5 h6 => by
        have := hp j hj oj d h5 h6
        rw [vsAt_append (hpl j hj), valOf_append (hpl j hj)] at this; exact this)
      rw [hpe val, hvs]
      have hA0 : ∀ val w', i = q → A0 (valOf Vs val j0) w' → A0 (valOf (Vs ++ s :: rest) val j0) w' := fun val w' hiq h => by
        subst hiq
        rw [valOf_append (hpl j0 (hpj o ho))]; exact h
      cases hg : o.guard with
      | none => rw [hg] at hq; exact OpW_mono' hq (fun v w' hh => ⟨hh.1, hh.2.1, fun hi => hA0 val w' hi (hh.2.2 hi)⟩)
      | some g =>
        obtain ⟨j, want⟩ := g
        rw [hg] at hq
        obtain ⟨b, h5, h6, h7, h8, h9⟩ := hq
        exact ⟨b, h5, h6, by rw [valOf_append (hpl j h5)]; exact h7, fun hb => OpW_mono' (h8 hb) (fun v w' hh => ⟨hh.1, hh.2.1, fun hi => hA0 val w' hi (hh.2.2 hi)⟩), h9⟩
    | succ k =>
      have := h3 k ok (by simpa using hk)
      rw [show i + (k + 1) = i + 1 + k from by omega]; exact this

theorem front_of {Vs : List VS} : ∀ (r : List Oper) (i k : Nat), (∀ j o, j < k → r[j]? = some o → FrontOp P N q j0 A0 l Vs e w (i + j) o) → Front P N q j0 A0 l Vs e w i k r
  | [], i, k, h => by cases k <;> exact trivial
  | o :: r, i, 0, h => trivial
  | o :: r, i, k + 1, h => ⟨h 0 o (by omega) rfl, front_of r (i + 1) k (fun j oj hj hoj => by
      have := h (j + 1) oj (by omega) (by simpa using hoj)
      rw [show i + 1 + j = i + (j + 1) from by omega]; exact this)⟩

/-- **A region that draws, walked in the text's order.** -/
theorem W_walkrf {id : Nat} {Q : Post} (m q j0 : Nat) (A0 : Value → World → Prop) (hA : ∀ v w w', A0 v w → Chg [] w w' → A0 v w') (hqm : q < m) (hpj : ∀ o, l[q]? = some o → (predsOf o).contains j0 = true) (hfol : P.follows .mixedOrders = true) (hdst : dstsOk N l = true) (htl : tailOk m l = true)
    (h : Walk P N q j0 A0 l e w (fun Vs => ∀ (val : Nat → Value) (w1 : World), Chg [] w w1 → (∀ i, i < m → ∀ o d, l[i]? = some o → o.dst = some d → Tells (Nat.beq i q) (vsAt Vs i) (valOf Vs val i) w1) → (∀ i, i < m → ∀ o, l[i]? = some o → o.dst = none → ∃ v, Tells (Nat.beq i q) (vsAt Vs i) v w1) → (∀ o d, l[j0]? = some o → o.dst = some d → A0 (valOf Vs val j0) w1) → WL P N l.toArray (l.drop m) Q (frontEnv Vs val 0 m l ++ e) w1) 0 (l.take m) []) :
    W P N (.region id l.toArray true) Q e w := by
  have hml : m ≤ l.length := by
    have h2 := htl
    unfold tailOk at h2
    simp only [Bool.and_eq_true] at h2
    exact Nat.le_of_ble_eq_true h2.1.1
  obtain ⟨rest, hl, h1, h2, h3⟩ := walk_front htl hml hpj (l.take m) 0 [] rfl (by simp) trivial h
  rw [List.nil_append] at h1 h2 h3
  refine W_draw m q j0 A0 rest hfol hdst htl h1 hA hqm hpj (front_of l 0 m fun j o hj ho => ?_) h2
  exact h3 j o (by rw [List.getElem?_take, if_pos hj]; exact ho)

theorem Walk.mono {fin fin' : List VS → Prop} (hf : ∀ Vs, fin Vs → fin' Vs) : ∀ (r : List Oper) (i : Nat) (Vs : List VS), Walk P N q j0 A0 l e w fin i r Vs → Walk P N q j0 A0 l e w fin' i r Vs
  | [], _, Vs, h => hf Vs h
  | _ :: r, i, Vs, ⟨s, h1, h2, h3⟩ => ⟨s, h1, h2, Walk.mono hf r (i + 1) (Vs ++ [s]) h3⟩
theorem Walk.plain {fin : List VS → Prop} {i : Nat} {r : List Oper} {Vs : List VS} {o : Oper} {v : Value} (hiq : i ≠ q) (hg : o.guard = none)
    (h : ∀ (val : Nat → Value) (w1 : World), Chg [] w w1 → (∀ j, (predsOf o).contains j = true → ∀ oj d, l[j]? = some oj → oj.dst = some d → Tells (bq l q i) (vsAt Vs j) (valOf Vs val j) w1) → OpW P N o (opEnv l Vs e i o val) w1 (fun u w' => Chg [] w1 w' ∧ u = v))
    (hr : Walk P N q j0 A0 l e w fin (i + 1) r (Vs ++ [.c v])) : Walk P N q j0 A0 l e w fin i (o :: r) Vs := by
  refine ⟨.c v, trivial, fun val w1 hc hp => ?_, hr⟩
  rw [hg]
  exact OpW_mono' (h val w1 hc hp) (fun u w' ⟨h1, h2⟩ => ⟨Turns.none _ _ _ h1, h2, fun h => absurd h hiq⟩)
theorem Walk.guardT {fin : List VS → Prop} {i j : Nat} {want : Bool} {r : List Oper} {Vs : List VS} {o : Oper} {v : Value} (hiq : i ≠ q) (hg : o.guard = some (j, want)) (hj : (predsOf o).contains j = true) (hjd : ((l[j]?).bind (·.dst)).isSome = true) (hb : ∀ val, valOf Vs val j = .bool want)
    (h : ∀ (val : Nat → Value) (w1 : World), Chg [] w w1 → (∀ j, (predsOf o).contains j = true → ∀ oj d, l[j]? = some oj → oj.dst = some d → Tells (bq l q i) (vsAt Vs j) (valOf Vs val j) w1) → OpW P N o (opEnv l Vs e i o val) w1 (fun u w' => Chg [] w1 w' ∧ u = v))
    (hr : Walk P N q j0 A0 l e w fin (i + 1) r (Vs ++ [.c v])) : Walk P N q j0 A0 l e w fin i (o :: r) Vs := by
  refine ⟨.c v, trivial, fun val w1 hc hp => ?_, hr⟩
  rw [hg]
  exact ⟨want, hj, hjd, .inl (hb val), (fun _ => OpW_mono' (h val w1 hc hp) (fun u w' ⟨h1, h2⟩ => ⟨Turns.none _ _ _ h1, h2, fun h => absurd h hiq⟩)), (fun hn => by cases want <;> cases hn)⟩
/-- The one that turns what the region has made. -/
theorem Walk.turnQ {fin : List VS → Prop} {i : Nat} {r : List Oper} {Vs : List VS} {o : Oper} (hi : i = q) (R : Value → World → Prop) (hg : o.guard = none) (hR : ∀ v w w', R v w → Chg [] w w' → R v w')
    (h : ∀ (val : Nat → Value) (w1 : World), Chg [] w w1 → (∀ j, (predsOf o).contains j = true → ∀ oj d, l[j]? = some oj → oj.dst = some d → (vsAt Vs j).holds (valOf Vs val j) w1) → OpW P N o (opEnv l Vs e i o val) w1 (fun u w' => (∃ S : List Nat, (∀ k ∈ S, w.heap.size ≤ k) ∧ Chg S w1 w') ∧ R u w' ∧ A0 (valOf Vs val j0) w'))
    (hr : Walk P N q j0 A0 l e w fin (i + 1) r (Vs ++ [.r R])) : Walk P N q j0 A0 l e w fin i (o :: r) Vs := by
  refine ⟨.r R, hR, fun val w1 hc hp => ?_, hr⟩
  rw [hg]
  have hp' : ∀ j, (predsOf o).contains j = true → ∀ oj d, l[j]? = some oj → oj.dst = some d → (vsAt Vs j).holds (valOf Vs val j) w1 := fun j h1 oj d h2 h3 => by
    have h4 := hp j h1 oj d h2 h3
    have hb : bq l q i = true := by rw [hi]; exact bq_self l q
    revert h4
    cases vsAt Vs j with
    | c u => exact fun h => h
    | r R => exact fun h => h.1 hb
  exact OpW_mono' (h val w1 hc hp') (fun u w' ⟨⟨S, h1, h2⟩, h3, h4⟩ => ⟨⟨S, fun k hk => ⟨h1 k hk, hi⟩, h2⟩, h3, fun _ => h4⟩)
theorem Walk.rel {fin : List VS → Prop} {i : Nat} {r : List Oper} {Vs : List VS} {o : Oper} (R : Value → World → Prop) (hiq : i ≠ q) (hg : o.guard = none) (hR : ∀ v w w', R v w → Chg [] w w' → R v w')
    (h : ∀ (val : Nat → Value) (w1 : World), Chg [] w w1 → (∀ j, (predsOf o).contains j = true → ∀ oj d, l[j]? = some oj → oj.dst = some d → Tells (bq l q i) (vsAt Vs j) (valOf Vs val j) w1) → OpW P N o (opEnv l Vs e i o val) w1 (fun u w' => Chg [] w1 w' ∧ R u w'))
    (hr : Walk P N q j0 A0 l e w fin (i + 1) r (Vs ++ [.r R])) : Walk P N q j0 A0 l e w fin i (o :: r) Vs := by
  refine ⟨.r R, hR, fun val w1 hc hp => ?_, hr⟩
  rw [hg]
  exact OpW_mono' (h val w1 hc hp) (fun u w' ⟨h1, h2⟩ => ⟨Turns.none _ _ _ h1, h2, fun h => absurd h hiq⟩)
theorem Walk.fin {fin : List VS → Prop} {i : Nat} {Vs : List VS} (h : fin Vs) : Walk P N q j0 A0 l e w fin i [] Vs := h
attribute [irreducible] Walk
end
end Go.Vc.G
/-! Manifests of the call's own; Commit of an edit that applies. -/
set_option linter.unusedVariables false
namespace Go.Vc
open Go
/-- What a manifest's two rows read as. -/
structure StRd (w : World) (vs vp : Value) (st : StM) : Prop where
  segs : SliceK 6 (RdL segL) w vs st.segs
  pars : SliceK 5 (RdL parSL) w vp st.pars
  prd : ∀ q ∈ st.pars, PRd w q.1
theorem StRd.keep0 {w w' : World} {vs vp : Value} {st : StM} (h : StRd w vs vp st) (hc : Chg [] w w') : StRd w' vs vp st := ⟨h.segs.keepR hc, h.pars.keepR hc, fun q hq => (h.prd q hq).keep0 hc⟩
theorem putK_mem {α : Type} {key : α → Int} {xs L L' : List α} (h : putK key xs L = some L') {x : α} (hx : x ∈ L') : x ∈ L ∨ x ∈ xs := by
  rw [(putK_eq h).1] at hx
  exact List.mem_append.1 hx
theorem applyM_pars {st st' : StM} {e : EditM} {X : List ParS} {first : Bool} (h : applyM st e X first = some st') {q : ParS} (hq : q ∈ st'.pars) : q ∈ st.pars ∨ q ∈ X := by
  unfold applyM at h
  dsimp only at h
  obtain ⟨hc, h⟩ := ite_some h
  subst h
  dsimp only at hq
  cases h2 : putK parKey X ((takeK parKey e.drops st.pars).getD []) with
  | none => rw [h2] at hq; simp at hq
  | some M =>
    rw [h2] at hq
    have hq : q ∈ sortK parKey M := hq
    rcases putK_mem h2 ((sortK_perm parKey M).mem_iff.1 hq) with h3 | h3
    · cases h4 : takeK parKey e.drops st.pars with
      | none => rw [h4] at h3; simp at h3
      | some L => rw [h4] at h3; exact .inl ((takeK_sub h4).mem h3)
    · exact .inr h3
theorem appendM_callsG (s : FsM) (k : Nm) (b : List UInt8) : (appendM s k b).1.calls = s.calls + 1 := by
  unfold appendM; simp only; (repeat' split) <;> rfl
/-- Append, then sync. -/
def commitF (s : FsM) (b : List UInt8) : FsM × Int := if (appendM s manNm b).2 = 0 then syncM (appendM s manNm b).1 manNm else appendM s manNm b
end Go.Vc
namespace Go.Proofs.YtiadjkjlifnopaaGreatDoor.Tryz
open Go Go.Vc
/-- A manifest, and its files, that were made since w0. -/
structure ManO (w0 w : World) (gm g : Nat) (s : FsM) (p : FsP) (st : StM) (cl : Bool) : Prop where
  fs : FsO w0 w g s p
  rows : ∃ vs vp, ManB w gm g vs vp st.next st.seq cl ∧ Firm (gm :: p.fp g) w (fun w => StRd w vs vp st)
  out : gm ∉ p.fp g
  fresh : w0.heap.size ≤ gm
section
variable {w0 w w' : World} {gm g : Nat} {s : FsM} {p p' : FsP} {st : StM} {cl : Bool}
theorem ManO.lt (x : ManO w0 w gm g s p st cl) : gm < w.heap.size := let ⟨_, _, h, _⟩ := x.rows; Blk.lt h
theorem ManO.keep0 (x : ManO w0 w gm g s p st cl) (hc : Chg [] w w') : ManO w0 w' gm g s p st cl := by
  obtain ⟨vs, vp, h1, h2⟩ := x.rows
  exact ⟨x.fs.keep0 hc, ⟨vs, vp, Blk.keep0 h1 hc, h2.step0 hc⟩, x.out, x.fresh⟩
theorem ManO.base {w1 : World} (x : ManO w1 w gm g s p st cl) (hc : Chg [] w0 w1) : ManO w0 w gm g s p st cl := ⟨x.fs.base hc, x.rows, x.out, by have := x.fresh; have := hc.size; omega⟩
theorem firm_grow {φ : World → Prop} (h : Firm (gm :: p.fp g) w φ) (hc : Chg (gm :: p.fp g) w w') (hg : Grows w g p p') : Firm (gm :: p'.fp g) w' φ := fun w1 h1 => h w1 (hc.trans h1 (fun k hk hlt => by
  rcases List.mem_cons.1 hk with rfl | hk
  · simp
  · rcases hg k hk with h | h
    · simp [h]
    · omega))
theorem own_firm {S : List Nat} {t : TypeId} {k n : Nat} {v : Value} {xs : List Value} (h : Own w t k v n xs) (hb : ∀ i, v.ownBlock = some i → i ∉ S) : Firm S w (fun w => Own w t k v n xs) := fun w1 h1 => h.keep h1 (fun i hi hm => hb i hi hm)
end
def a0M (w : World) (st' : StM) (v : Value) (w' : World) : Prop := ∃ g5 ua up, v = .pointer (some ⟨g5, 0, none⟩) ∧ w.heap.size ≤ g5 ∧ Blk w' g5 99 [ua, up, .int .i64 st'.next, .int .i64 st'.seq] ∧ Own w' 26 6 ua st'.segs.length (st'.segs.flatMap segL) ∧ Own w' 70 5 up st'.pars.length (st'.pars.flatMap parSL) ∧ (∀ g, ua.ownBlock = some g → w.heap.size ≤ g) ∧ ∀ g, up.ownBlock = some g → w.heap.size ≤ g
def stV (w : World) (st' : StM) (v : Value) (w' : World) : Prop := ∃ ua up, v = .agg #[ua, up, .int .i64 st'.next, .int .i64 st'.seq] ∧ Own w' 26 6 ua st'.segs.length (st'.segs.flatMap segL) ∧ Own w' 70 5 up st'.pars.length (st'.pars.flatMap parSL) ∧ (∀ g, ua.ownBlock = some g → w.heap.size ≤ g) ∧ ∀ g, up.ownBlock = some g → w.heap.size ≤ g
theorem stV_firm {w : World} {st' : StM} (v : Value) (w1 w2 : World) (h : stV w st' v w1) (hc : Chg [] w1 w2) : stV w st' v w2 := by
  obtain ⟨ua, up, h1, h2, h3, h4⟩ := h
  exact ⟨ua, up, h1, h2.keep0 hc, h3.keep0 hc, h4⟩
theorem a0M_firm {w : World} {st' : StM} (v : Value) (w1 w2 : World) (h : a0M w st' v w1) (hc : Chg [] w1 w2) : a0M w st' v w2 := by
  obtain ⟨g5, ua, up, h1, h0, hb, h2, h3, h4⟩ := h
  exact ⟨g5, ua, up, h1, h0, hb.keep0 hc, h2.keep0 hc, h3.keep0 hc, h4⟩
set_option maxHeartbeats 4000000 in
theorem commit_has {w0 w : World} {gm g : Nat} {s : FsM} {p : FsP} {st st' : StM} (x : ManO w0 w gm g s p st false) {e : EditM} {xa xd xp xr : Value} {X : List ParS} (hI : EdI e) (hr : Firm (gm :: p.fp g) w (fun w => ERd w ⟨e, xa, xd, xp, xr, X.map (·.1)⟩))
    (hn1 : (st.segs.map numK).Nodup) (hn2 : (st.pars.map parKey).Nodup) (hb1 : st.segs.length ≤ 1000) (hb2 : st.pars.length ≤ 1000) (hap : applyM st e X false = some st') (hcalls : s.calls < 1000000000 - 10) :
    Has Go.Proofs.Tryz.prog 21 #[.pointer (some ⟨gm, 0, none⟩), .agg #[.int .i64 e.next, .int .i64 e.seq, xa, xd, xp, xr]] w (fun v w' => v = .int .i64 (commitF s (encE e).1).2 ∧ Chg (gm :: p.fp g) w w' ∧ ∃ p', Grows w g p p' ∧ ManO w0 w' gm g (commitF s (encE e).1).1 p' (if (commitF s (encE e).1).2 = 0 then st' else st) (decide ((commitF s (encE e).1).2 ≠ 0))) := by
  obtain ⟨vs, vp, hm, hst⟩ := x.rows
  refine enter Go.Proofs.Tryz.func21 rfl rfl (by decide) rfl (e := [(0, .pointer (some ⟨gm, 0, none⟩)), (1, .agg #[.int .i64 e.next, .int .i64 e.seq, xa, xd, xp, xr])]) ⟨rfl, rfl, trivial⟩ ?_
  unfold ManB at hm
  refine run ?_
  refine go T 2 rfl ?_
  refine o1 rfl ?_
  refine op_box rfl rfl (fun g3 w1 hs1 hc1 hg3 => ?_)
  have hg3 : Blk w1 g3 49 [.int .i64 e.next, .int .i64 e.seq, xa, xd, xp, xr] := hg3
  have hgl := hm.lt
  replace hm := hm.keep0 hc1
  replace hst := hst.step0 hc1
  replace hr := hr.step0 hc1
  have xf := x.fs.keep0 hc1
  refine go T 12 rfl ?_
  refine ldB T hm rfl rfl rfl rfl rfl rfl ?_
  refine go T 7 rfl ?_
  refine G.W_walkrf 11 10 9 (a0M w1 st') (fun v a b h hc => a0M_firm v a b h hc) (by decide) (by intro o ho; cases ho; rfl) fol (by kernel_rfl) (by kernel_rfl) ?_
  refine G.Walk.plain (v := .pointer (some ⟨gm, 0, none⟩)) (by decide) rfl (by intro val w_ hR hp; exact op_move rfl rfl ⟨Chg.refl _ _, rfl⟩) ?_; dsimp only [List.nil_append, List.cons_append]
  refine G.Walk.plain (v := .pointer (some ⟨gm, 0, none⟩)) (by decide) rfl (by intro val w_ hR hp; exact op_nilCheck rfl rfl ⟨Chg.refl _ _, rfl⟩) ?_; dsimp only [List.nil_append, List.cons_append]
  refine G.Walk.plain (v := .pointer (some ⟨gm, 1, none⟩)) (by decide) rfl (by intro val w_ hR hp; exact op_fieldAddr T rfl rfl rfl rfl rfl rfl rfl rfl ⟨Chg.refl _ _, rfl⟩) ?_; dsimp only [List.nil_append, List.cons_append]
  refine G.Walk.plain (v := .agg #[vs, vp, .int .i64 st.next, .int .i64 st.seq]) (by decide) rfl (by intro val w_ hR hp; exact op_load_agg T rfl rfl rfl rfl (hm.keep0 hR) (by exact Nat.le_of_ble_eq_true rfl) (by exact rfl) ⟨Chg.refl _ _, rfl⟩) ?_; dsimp only [List.nil_append, List.cons_append]
  refine G.Walk.plain (v := .agg #[.int .i64 e.next, .int .i64 e.seq, xa, xd, xp, xr]) (by decide) rfl (by intro val w_ hR hp; exact op_load_agg T rfl rfl rfl rfl (hg3.keep0 hR) (by exact Nat.le_of_ble_eq_true rfl) (by exact rfl) ⟨Chg.refl _ _, rfl⟩) ?_; dsimp only [List.nil_append, List.cons_append]
  refine G.Walk.rel (fun v w' => ∃ u, v = .tuple #[u, .bool true] ∧ stV w1 st' u w') (by decide) rfl (fun v a b h hab => let ⟨u, h1, h2⟩ := h; ⟨u, h1, stV_firm u a b h2 hab⟩) ?_ ?_
  · intro val w_ hR hp
    have h0 := hst.now
    have hcall := apply_has st vs vp ⟨e, xa, xd, xp, xr, X.map (·.1)⟩ X false w_ (h0.segs.keepR hR) (h0.pars.keepR hR) hI (hr.now.keep0 hR) rfl hb1 hb2 hn1 hn2
    refine op_call rfl rfl rfl hcall ?_
    rintro v w' ⟨h1, _, h2⟩
    obtain ⟨ua, up, h3, h4, h5, h6, h7⟩ := h2 st' hap
    have hz := hR.size
    exact ⟨h1, _, h3, ua, up, rfl, h4, h5, fun k hk => by have := h6 k hk; omega, fun k hk => by have := h7 k hk; omega⟩
  dsimp only [List.nil_append, List.cons_append]
  refine G.Walk.rel (fun v w' => ∃ u, v = .tuple #[u, .bool true] ∧ stV w1 st' u w') (by decide) rfl (fun v a b h hab => let ⟨u, h1, h2⟩ := h; ⟨u, h1, stV_firm u a b h2 hab⟩) ?_ ?_
  · intro val w_ hR hp
    obtain ⟨h5, _⟩ := hp 5 rfl _ _ rfl rfl
    exact op_move rfl rfl ⟨Chg.refl _ _, h5 rfl⟩
  dsimp only [List.nil_append, List.cons_append]
  refine G.Walk.rel (stV w1 st') (by decide) rfl (fun v a b h hab => stV_firm v a b h hab) ?_ ?_
  · intro val w_ hR hp
    obtain ⟨h6, _⟩ := hp 6 rfl _ _ rfl rfl
    obtain ⟨u, h1, h2⟩ := h6 rfl
    have h1 : val 6 = .tuple #[u, .bool true] := h1
    exact op_extract rfl (show some (val 6) = _ by rw [h1]) rfl ⟨Chg.refl _ _, h2⟩
  dsimp only [List.nil_append, List.cons_append]
  refine G.Walk.plain (v := .bool true) (by decide) rfl ?_ ?_
  · intro val w_ hR hp
    obtain ⟨_, w2, h6⟩ := hp 6 rfl _ _ rfl rfl
    obtain ⟨u, h1, h2⟩ := h6
    have h1 : val 6 = .tuple #[u, .bool true] := h1
    exact op_extract rfl (show some (val 6) = _ by rw [h1]) rfl ⟨Chg.refl _ _, rfl⟩
  dsimp only [List.nil_append, List.cons_append]
  refine G.Walk.rel (fun v w' => ∃ g5, v = .pointer (some ⟨g5, 0, none⟩) ∧ w1.heap.size ≤ g5 ∧ Blk w' g5 99 [.slice none 0 0, .slice none 0 0, .int .i64 0, .int .i64 0]) (by decide) rfl (fun v a b h hab => let ⟨g5, h1, h2, h3⟩ := h; ⟨g5, h1, h2, h3.keep0 hab⟩) ?_ ?_
  · intro val w_ hR hp
    refine op_alloc T rfl rfl (fun g5 w5 hs5 hc5 hg5 => ⟨hc5, g5, rfl, by have := hR.size; omega, hg5⟩)
  dsimp only [List.nil_append, List.cons_append]
  refine G.Walk.turnQ rfl (fun _ _ => True) rfl (fun _ _ _ _ _ => trivial) ?_ ?_
  · intro val w_ hR hp
    obtain ⟨ua, up, h7, h8, h9, h10, h11⟩ := hp 7 rfl _ _ rfl rfl
    obtain ⟨g5, h12, h13, h14⟩ := hp 9 rfl _ _ rfl rfl
    have h7 : val 7 = .agg #[ua, up, .int .i64 st'.next, .int .i64 st'.seq] := h7
    have h12 : val 9 = .pointer (some ⟨g5, 0, none⟩) := h12
    have hall : ([ua, up, Value.int .i64 st'.next, Value.int .i64 st'.seq].all (·.oneCell')) = true := by
      simp only [List.all_cons, List.all_nil, own_one h8, own_one h9, Bool.true_and]; rfl
    refine op_store_agg T rfl (show some (val 9) = some (.pointer (some ⟨g5, 0, none⟩)) by rw [h12]) (show some (val 7) = some (.agg #[ua, up, .int .i64 st'.next, .int .i64 st'.seq]) by rw [h7]) rfl rfl hall h14 (by exact Nat.le_of_ble_eq_true rfl) (fun w6 hc6 hn _ => ?_)
    refine ⟨⟨[g5], fun k hk => by simp at hk; omega, hc6⟩, trivial, g5, ua, up, h12, h13, hn, ?_, ?_, h10, h11⟩
    · refine h8.keep hc6 (fun k hk hm => ?_)
      obtain ⟨c1, hr1⟩ := h8.row hk
      simp only [List.mem_singleton] at hm
      subst hm
      exact hr1.ne_ h14 (by decide) rfl
    · refine h9.keep hc6 (fun k hk hm => ?_)
      obtain ⟨c1, hr1⟩ := h9.row hk
      simp only [List.mem_singleton] at hm
      subst hm
      exact hr1.ne_ h14 (by decide) rfl
  dsimp only [List.nil_append, List.cons_append]
  refine G.Walk.fin ?_
  intro val w2 hc2 hp1 hp2 hA0
  clear hp1 hp2
  obtain ⟨g5, ua, up, hv9, hs5, hg5, ho1, ho2, hf1, hf2⟩ := hA0 _ _ rfl rfl
  have hv9 : val 9 = .pointer (some ⟨g5, 0, none⟩) := hv9
  refine WL_sub (e' := [(0, .pointer (some ⟨gm, 0, none⟩)), (3, .pointer (some ⟨g3, 0, none⟩)), (5, .pointer (some ⟨g5, 0, none⟩)), (26, .bool true)]) ⟨rfl, rfl, congrArg some hv9, rfl, trivial⟩ ?_
  have hg3l := hg3.lt
  replace hm := hm.keep0 hc2
  replace hst := hst.step0 hc2
  replace hr := hr.step0 hc2
  replace hg3 := hg3.keep0 hc2
  replace xf := xf.keep0 hc2
  have hc02 := hc1.trans' hc2
  clear hA0 hv9 hc2 hc1
  refine runL ?_
  refine go T 15 rfl ?_
  refine o1 rfl (op_load_agg T rfl rfl rfl rfl hg3 (by exact Nat.le_of_ble_eq_true rfl) (by exact rfl) ?_)
  refine o1 rfl ?_
  have hcall := encodeE_has (w := w2) ⟨e, xa, xd, xp, xr, X.map (·.1)⟩ hI hr.now
  dsimp only at hcall
  generalize encE e = en at *
  obtain ⟨b, er⟩ := en
  dsimp only at hcall ⊢
  refine op_call rfl rfl rfl hcall ?_
  rintro _ w3 ⟨u, rfl, m3, hbl⟩
  obtain ⟨Au, cu, rfl, _, _⟩ := m3.form
  have hfirm := m3.firm (fun k (hk : k ∈ p.fp g) => by have := xf.at_.lt k hk; omega)
  have hc3 := m3.chg
  have hz23 := hc3.size
  have hg5l := hg5.lt
  have hg32 := hg3.lt
  have hgm2 := hm.lt
  replace hm := hm.keep0 hc3
  replace hst := hst.step0 hc3
  replace hr := hr.step0 hc3
  replace hg5 := hg5.keep0 hc3
  replace xf := xf.keep0 hc3
  replace ho1 := ho1.keep0 hc3
  replace ho2 := ho2.keep0 hc3
  have hc03 := hc02.trans' hc3
  have hz03 := hc03.size
  clear hcall m3
  refine go T 12 rfl ?_
  refine ldB T hm rfl rfl rfl rfl rfl rfl ?_
  refine go T 1 rfl ?_
  refine o1 rfl ?_
  refine op_call rfl rfl rfl (append_has g s p manNm Au b.length cu b w3 xf.at_ hfirm (by omega) (by omega)) ?_
  intro v4 w4 hd4
  obtain ⟨hv4, hc4, p4, x4, hg4⟩ := fsDoneO xf hd4
  have hnew : Firm (gm :: p.fp g) w3 (fun w => StRd w ua up st') := fun w1 h1 => by
    have hin : ∀ i, w.heap.size ≤ i → i ∉ gm :: p.fp g := fun i hi hm' => by
      rcases List.mem_cons.1 hm' with rfl | hm'
      · omega
      · have := x.fs.at_.lt i hm'; omega
    refine ⟨(own_firm ho1 (fun i hi => hin i (by have := hf1 i hi; omega)) w1 h1).readsK (fun s => rfl), (own_firm ho2 (fun i hi => hin i (by have := hf2 i hi; omega)) w1 h1).readsK (fun s => rfl), fun q hq => ?_⟩
    rcases applyM_pars hap hq with h | h
    · exact (hst w1 h1).prd q h
    · exact (hr w1 h1).prd q.1 (List.mem_map.2 ⟨q, h, rfl⟩)
  have hc4' : Chg (gm :: p.fp g) w3 w4 := hc4.mono (fun k hk _ => by simp [hk])
  have hout4 : gm ∉ p4.fp g := fun h => by
    rcases hg4 gm h with h | h
    · exact x.out h
    · omega
  replace hm := hm.keep hc4 x.out
  replace hg5 := hg5.keep hc4 (fun h => by have := x.fs.at_.lt g5 h; omega)
  have hst4 := firm_grow hst hc4' hg4
  have hnew4 := firm_grow hnew hc4' hg4
  by_cases ha : (appendM s manNm b).2 = 0
  · have hcf : commitF s b = syncM (appendM s manNm b).1 manNm := by unfold commitF; rw [if_pos ha]
    rw [ha] at hv4
    subst hv4
    refine go T 7 rfl ?_
    refine eqT rfl rfl rfl rfl (by omega) ?_
    refine go T 7 rfl ?_
    refine ldB T hm rfl rfl rfl rfl rfl rfl ?_
    refine o1 rfl ?_
    refine op_call rfl rfl rfl (sync_has g _ p4 manNm w4 x4.at_ (by rw [appendM_callsG]; omega)) ?_
    intro v5 w5 hd5
    obtain ⟨hv5, hc5, p5, x5, hg5'⟩ := fsDoneO x4 hd5
    rw [hcf]
    have hc5' : Chg (gm :: p4.fp g) w4 w5 := hc5.mono (fun k hk _ => by simp [hk])
    have hz4 := hc4.size
    have hout5 : gm ∉ p5.fp g := fun h => by
      rcases hg5' gm h with h | h
      · exact hout4 h
      · omega
    have hg5p : g5 ∉ p4.fp g := fun h => by
      rcases hg4 g5 h with h | h
      · have := x.fs.at_.lt g5 h; omega
      · have := hg5.lt; omega
    replace hm := hm.keep hc5 hout4
    replace hg5 := hg5.keep hc5 hg5p
    have hst5 := firm_grow hst4 hc5' hg5'
    have hnew5 := firm_grow hnew4 hc5' hg5'
    have hgr : Grows w g p p5 := fun k hk => by
      rcases hg5' k hk with h | h
      · rcases hg4 k h with h | h
        · exact .inl h
        · exact .inr (by omega)
      · exact .inr (by omega)
    have hc05 : Chg (gm :: p.fp g) w w5 := ((hc03.mono (fun k hk _ => by cases hk)).trans hc4' (fun k hk _ => hk)).trans hc5' (fun k hk hlt => by
      rcases List.mem_cons.1 hk with rfl | hk
      · simp
      · rcases hg4 k hk with h | h
        · simp [h]
        · omega)
    have hz5 := hc5.size
    generalize (syncM (appendM s manNm b).1 manNm) = r5 at *
    obtain ⟨s5, e5⟩ := r5
    dsimp only at hv5 x5 ⊢
    subst hv5
    by_cases h5 : e5 = 0
    · subst h5
      refine go T 7 rfl ?_
      refine neF rfl rfl rfl rfl (by omega) ?_
      refine go T 8 rfl ?_
      refine o1 rfl (op_load_agg T rfl rfl rfl rfl hg5 (by exact Nat.le_of_ble_eq_true rfl) (by exact rfl) ?_)
      refine go T 2 rfl ?_
      refine op0 rfl rfl ?_
      have hall : ([ua, up, Value.int .i64 st'.next, Value.int .i64 st'.seq].all (·.oneCell')) = true := by
        simp only [List.all_cons, List.all_nil, own_one ho1, own_one ho2, Bool.true_and]; rfl
      refine op_store_agg T rfl rfl rfl rfl rfl hall hm (by exact Nat.le_of_ble_eq_true rfl) (fun w6 hc6 hn6 _ => ?_)
      refine go T 8 rfl ?_
      have hc6' : Chg (gm :: p5.fp g) w5 w6 := hc6.mono (fun k hk _ => by simp at hk; simp [hk])
      refine post1 (.inl rfl) rfl rfl ⟨rfl, hc05.trans hc6 (fun k hk _ => by simp at hk; simp [hk]), p5, hgr, ?_⟩
      refine ⟨⟨x5.chg.trans hc6 (fun k hk hlt => by simp at hk; have := x.fresh; omega), x5.at_.keep hc6 (fun k hk hm => by simp at hm; subst hm; exact hout5 hk), x5.fresh⟩, ⟨ua, up, hn6, hnew5.step hc6 (fun k hk _ => by simp at hk; simp [hk])⟩, hout5, x.fresh⟩
    · refine go T 7 rfl ?_
      refine neT rfl rfl rfl rfl (by omega) ?_
      refine go T 8 rfl ?_
      refine op0 rfl rfl ?_
      refine op_store T rfl rfl rfl rfl rfl rfl hm (by simp) (fun w6 hc6 hn6 _ => ?_)
      refine go T 10 rfl ?_
      rw [if_neg h5, decide_eq_true h5]
      refine post1 (.inl rfl) rfl rfl ⟨rfl, hc05.trans hc6 (fun k hk _ => by simp at hk; simp [hk]), p5, hgr, ?_⟩
      refine ⟨⟨x5.chg.trans hc6 (fun k hk hlt => by simp at hk; have := x.fresh; omega), x5.at_.keep hc6 (fun k hk hm => by simp at hm; subst hm; exact hout5 hk), x5.fresh⟩, ⟨vs, vp, hn6, hst5.step hc6 (fun k hk _ => by simp at hk; simp [hk])⟩, hout5, x.fresh⟩
  · have hcf : commitF s b = appendM s manNm b := by unfold commitF; rw [if_neg ha]
    rw [hcf]
    have hgr : Grows w g p p4 := fun k hk => by
      rcases hg4 k hk with h | h
      · exact .inl h
      · exact .inr (by omega)
    have hc05 : Chg (gm :: p.fp g) w w4 := (hc03.mono (fun k hk _ => by cases hk)).trans hc4' (fun k hk _ => hk)
    have hz5 := hc4.size
    generalize (appendM s manNm b) = r5 at *
    obtain ⟨s5, e5⟩ := r5
    dsimp only at hv4 x4 ha ⊢
    subst hv4
    refine go T 7 rfl ?_
    refine eqF rfl rfl rfl rfl (by omega) ?_
    refine go T 9 rfl ?_
    refine neT rfl rfl rfl rfl (by omega) ?_
    refine go T 8 rfl ?_
    refine op0 rfl rfl ?_
    refine op_store T rfl rfl rfl rfl rfl rfl hm (by simp) (fun w6 hc6 hn6 _ => ?_)
    refine go T 10 rfl ?_
    rw [if_neg ha, decide_eq_true ha]
    refine post1 (.inl rfl) rfl rfl ⟨rfl, hc05.trans hc6 (fun k hk _ => by simp at hk; simp [hk]), p4, hgr, ?_⟩
    refine ⟨⟨x4.chg.trans hc6 (fun k hk hlt => by simp at hk; have := x.fresh; omega), x4.at_.keep hc6 (fun k hk hm => by simp at hm; subst hm; exact hout4 hk), x4.fresh⟩, ⟨vs, vp, hn6, hst4.step hc6 (fun k hk _ => by simp at hk; simp [hk])⟩, hout4, x.fresh⟩
end Go.Proofs.YtiadjkjlifnopaaGreatDoor.Tryz
/-! Manifests in plain words: what a state keeps; the edit that makes it; what is loaded. -/
set_option linter.unusedVariables false
namespace Go.Vc
open Go
structure POk (st : PSt) : Prop where
  segs : ∀ x ∈ st.segs, SegOk x ∧ x.sum < 4294967296
  pars : ∀ x ∈ st.pars, ParOk x ∧ x.sum < 4294967296
  ns : (st.segs.map numK).Nodup
  np : (st.pars.map gKey).Nodup
  ls : st.segs.length ≤ 60
  lp : st.pars.length ≤ 60
  next : 1 ≤ st.next ∧ st.next ≤ 1125899906842624
  seq : 1 ≤ st.seq ∧ st.seq ≤ 1125899906842624
  below : ∀ x ∈ st.segs, x.num < st.next
  belowP : ∀ x ∈ st.pars, x.group < st.next
  ss : st.segs.Pairwise fun x y => numK x ≤ numK y
  sp : st.pars.Pairwise fun x y => gKey x ≤ gKey y
/-- An edit that makes a state of none. -/
def wholeP (st : PSt) : EditM := { next := st.next, seq := st.seq, adds := st.segs, dels := [], pars := st.pars, drops := [] }
def p0 : PSt := ⟨[], [], 1, 1⟩
theorem p0_ok : POk p0 := ⟨by simp [p0], by simp [p0], by simp [p0], by simp [p0], by simp [p0], by simp [p0], by simp [p0], by simp [p0], by simp [p0], by simp [p0], by simp [p0], by simp [p0]⟩
theorem wholeP_ok {st : PSt} (h : POk st) : EditOk (wholeP st) := by
  refine ⟨?_, ?_, h.ls, by simp [wholeP], h.lp, by simp [wholeP], by simp [wholeP], by simp [wholeP], fun s hs => (h.segs s hs).1, fun s hs => (h.pars s hs).1⟩
  · have := h.next; unfold wholeP; dsimp only; omega
  · have := h.seq; unfold wholeP; dsimp only; omega
theorem wholeP_sums {st : PSt} (h : POk st) : Sums (wholeP st) := ⟨fun s hs => (h.segs s hs).2, fun s hs => (h.pars s hs).2⟩
theorem took_mem {α : Type} {key : α → Int} {ns : List Int} {L : List α} {x : α} (h : x ∈ (takeK key ns L).getD []) : x ∈ L := by
  cases ht : takeK key ns L with
  | none => rw [ht] at h; simp at h
  | some L' => rw [ht] at h; exact (takeK_sub ht).mem h
theorem puts_mem {α : Type} {key : α → Int} {xs M : List α} {x : α} (h : x ∈ ((putK key xs M).map (sortK key)).getD []) : x ∈ M ∨ x ∈ xs := by
  cases ht : putK key xs M with
  | none => rw [ht] at h; simp at h
  | some M' =>
    rw [ht] at h
    have h : x ∈ sortK key M' := h
    rw [(sortK_perm key M').mem_iff, (putK_eq ht).1] at h
    exact List.mem_append.1 h
theorem sortK_sorted {α : Type} (key : α → Int) (L : List α) : (sortK key L).Pairwise (fun x y => key x ≤ key y) :=
  (isM_sorted (le := leK key) (fun x y => by unfold leK; simp; omega) (fun x y z h1 h2 => by unfold leK at *; simp at *; omega) L).imp (fun h => by unfold leK at h; simpa using h)
theorem puts_sorted {α : Type} {key : α → Int} {xs M : List α} : (((putK key xs M).map (sortK key)).getD []).Pairwise (fun x y => key x ≤ key y) := by
  cases putK key xs M with
  | none => exact List.Pairwise.nil
  | some M' => exact sortK_sorted key M'
theorem later_le {was is_ : Int} (h : (laterM was is_).2 = true) : was ≤ (laterM was is_).1 := by
  unfold laterM at *
  split
  · omega
  · rename_i h0
    rw [if_neg h0] at h
    simpa using h
theorem later_most {was is_ m : Int} (h1 : was ≤ m) (h2 : is_ ≤ m) : (laterM was is_).1 ≤ m := by
  unfold laterM
  split
  · exact h1
  · exact h2
theorem applyP_ok {st st' : PSt} {e : EditM} {first : Bool} (h : POk st) (hs : Sums e) (ha : applyP st e first = some st') : POk st' := by
  unfold applyP at ha
  dsimp only at ha
  obtain ⟨hc, ha⟩ := ite_some ha
  simp only [Bool.and_eq_true] at hc
  obtain ⟨hB, ht1, hp1, ht2, hp2, hn, hq, hf⟩ := hc
  have hE := editB_ok.1 hB
  have hn1 := later_le hn
  have hn2 := later_most (was := st.next) (is_ := e.next) h.next.2 hE.next.2
  have hq1 := later_le hq
  have hq2 := later_most (was := st.seq) (is_ := e.seq) h.seq.2 hE.seq.2
  have h1 := h.next.1
  have h2 := h.seq.1
  unfold finePM at hf
  simp only [Bool.and_eq_true, decide_eq_true_eq, Bool.not_eq_true', List.any_eq_false] at hf
  obtain ⟨_, hl, hb1, hb2⟩ := hf
  have g1 : (((putK numK e.adds ((takeK numK e.dels st.segs).getD [])).map (sortK numK)).getD []).map numK |>.Nodup := puts_nodup (took_nodup h.ns)
  have g2 : (((putK gKey e.pars ((takeK gKey e.drops st.pars).getD [])).map (sortK gKey)).getD []).map gKey |>.Nodup := puts_nodup (took_nodup h.np)
  have o1 := puts_sorted (key := numK) (xs := e.adds) (M := (takeK numK e.dels st.segs).getD [])
  have o2 := puts_sorted (key := gKey) (xs := e.pars) (M := (takeK gKey e.drops st.pars).getD [])
  have m1 : ∀ x ∈ ((putK numK e.adds ((takeK numK e.dels st.segs).getD [])).map (sortK numK)).getD [], SegOk x ∧ x.sum < 4294967296 := fun x hx => by
    rcases puts_mem hx with h3 | h3
    · exact h.segs x (took_mem h3)
    · exact ⟨hE.adds1 x h3, hs.1 x h3⟩
  have m2 : ∀ x ∈ ((putK gKey e.pars ((takeK gKey e.drops st.pars).getD [])).map (sortK gKey)).getD [], ParOk x ∧ x.sum < 4294967296 := fun x hx => by
    rcases puts_mem hx with h3 | h3
    · exact h.pars x (took_mem h3)
    · exact ⟨hE.pars1 x h3, hs.2 x h3⟩
  generalize ((putK numK e.adds ((takeK numK e.dels st.segs).getD [])).map (sortK numK)).getD [] = S at *
  generalize ((putK gKey e.pars ((takeK gKey e.drops st.pars).getD [])).map (sortK gKey)).getD [] = Q at *
  generalize (laterM st.next e.next).1 = nx at *
  generalize (laterM st.seq e.seq).1 = sq at *
  subst ha
  refine ⟨m1, m2, g1, g2, by dsimp only; omega, by dsimp only; omega, by dsimp only; omega, by dsimp only; omega, fun x hx => ?_, fun x hx => ?_, o1, o2⟩
  · have := hb1 x hx
    simp at this
    exact this
  · have := hb2 x hx
    simp at this
    exact this
/-! ### What is loaded -/
def loadP : List EditM → Bool → PSt → Bool → PSt × Bool
  | [], _, st, ok => (st, ok)
  | e :: l, first, st, ok => match applyP st e first with
    | some st' => loadP l false st' ok
    | none => loadP l false st false
def loadM (b : List UInt8) : Option PSt :=
  if (loadP (scanE b).1 true p0 (scanE b).2.2).2 = true ∧ (scanE b).1 ≠ [] then some (loadP (scanE b).1 true p0 (scanE b).2.2).1 else none
theorem loadP_snoc : ∀ (l : List EditM) (e : EditM) (first : Bool) (st : PSt) (ok : Bool), loadP (l ++ [e]) first st ok = (match applyP (loadP l first st ok).1 e (first && l.isEmpty) with
    | some st' => (st', (loadP l first st ok).2)
    | none => ((loadP l first st ok).1, false))
  | [], e, first, st, ok => by
    rw [List.nil_append, loadP, loadP]
    simp only [List.isEmpty_nil, Bool.and_true]
    cases applyP st e first <;> rfl
  | a :: l, e, first, st, ok => by
    rw [List.cons_append, loadP, loadP]
    simp only [List.isEmpty_cons, Bool.and_false]
    cases applyP st a first with
    | none => simp only; rw [loadP_snoc l e false st false]; simp only [Bool.false_and]
    | some st' => simp only; rw [loadP_snoc l e false st' ok]; simp only [Bool.false_and]
end Go.Vc
/-! Manifests: Load. -/
set_option linter.unusedVariables false
namespace Go.Vc
open Go
theorem plain_keys {st : StM} (h : POk st.plain) : (st.segs.map numK).Nodup ∧ (st.pars.map parKey).Nodup ∧ st.segs.length ≤ 60 ∧ st.pars.length ≤ 60 := by
  refine ⟨h.ns, ?_, h.ls, ?_⟩
  · have := h.np
    unfold StM.plain at this
    dsimp only at this
    rw [List.map_map] at this
    exact this
  · have := h.lp
    unfold StM.plain at this
    dsimp only at this
    rw [List.length_map] at this
    exact this
end Go.Vc
namespace Go.Proofs.YtiadjkjlifnopaaGreatDoor.Tryz
open Go Go.Vc
theorem EdI.sums {e : EditM} (h : EdI e) : Sums e := ⟨fun s hs => (h.adds s hs).sum, fun q hq => (h.pars q hq).sum⟩
end Go.Proofs.YtiadjkjlifnopaaGreatDoor.Tryz
/-! Files that have one file, in plain words; a file of other bytes takes its place. -/
set_option linter.unusedVariables false
namespace Go.Vc
open Go
/-! ### Files that have one file -/
structure OneAt (s : FsM) (room calls : Int) (nm : Nm) (b : List UInt8) (sy i : Nat) : Prop where
  room : s.room = room
  calls : s.calls = calls
  fail : s.fail = -1
  dir : s.dir = [(nm, i)]
  file : s.files[i]? = some ⟨b, sy⟩
/-- .. whose directory lasts. -/
structure Lasts (s : FsM) (nm : Nm) (i : Nat) : Prop where
  last : s.lasts = [(nm, i)]
  wait : s.waits = []
section
variable {s : FsM} {room calls : Int} {nm : Nm} {b c : List UInt8} {sy i : Nat}
theorem OneAt.lt (h : OneAt s room calls nm b sy i) : i < s.files.length := (List.getElem?_eq_some_iff.1 h.file).1
theorem OneAt.nofail (h : OneAt s room calls nm b sy i) : failsM s = false := by unfold failsM; rw [h.fail]; rfl
theorem OneAt.used (h : OneAt s room calls nm b sy i) : usedM s = b.length := by simp [usedM, h.dir, lenOf, h.file]
theorem OneAt.looks (h : OneAt s room calls nm b sy i) : Go.Vc.looks s.dir nm = some i := by rw [h.dir]; simp [Go.Vc.looks]
theorem OneAt.read (h : OneAt s room calls nm b sy i) : readM s nm = some b := by simp [readM, h.looks, h.file]
theorem one_append (h : OneAt s room calls nm b sy i) (hr : (b.length : Int) + c.length ≤ room) : (appendM s nm c).2 = 0 ∧ OneAt (appendM s nm c).1 room (calls + 1) nm (b ++ c) sy i ∧ (∀ j, Lasts s nm j → Lasts (appendM s nm c).1 nm j) := by
  have hu : usedM (callM s) = b.length := h.used
  have hl : Go.Vc.looks (callM s).dir nm = some i := h.looks
  have hrm : (callM s).room = room := h.room
  have e : appendM s nm c = ({ callM s with files := (callM s).files.modify i fun f => { f with b := f.b ++ c } }, 0) := by
    unfold appendM
    dsimp only
    rw [h.nofail, hl, hu]
    dsimp only
    rw [if_neg (by simp), if_neg (by rw [hrm]; omega)]
  rw [e]
  refine ⟨rfl, ⟨h.room, by show s.calls + 1 = _; rw [h.calls], by show max (s.fail - 1) (-1) = -1; rw [h.fail]; rfl, h.dir, ?_⟩, fun j hj => ⟨hj.last, hj.wait⟩⟩
  show (s.files.modify i _)[i]? = _
  rw [List.getElem?_modify, h.file]; simp
theorem one_sync (h : OneAt s room calls nm b sy i) : (syncM s nm).2 = 0 ∧ OneAt (syncM s nm).1 room (calls + 1) nm b b.length i ∧ (∀ j, Lasts s nm j → Lasts (syncM s nm).1 nm j) := by
  have hl : Go.Vc.looks (callM s).dir nm = some i := h.looks
  have e : syncM s nm = ({ callM s with files := (callM s).files.modify i fun f => { f with synced := f.b.length } }, 0) := by
    unfold syncM
    dsimp only
    rw [h.nofail, hl]
    dsimp only
    rw [if_neg (by simp)]
  rw [e]
  refine ⟨rfl, ⟨h.room, by show s.calls + 1 = _; rw [h.calls], by show max (s.fail - 1) (-1) = -1; rw [h.fail]; rfl, h.dir, ?_⟩, fun j hj => ⟨hj.last, hj.wait⟩⟩
  show (s.files.modify i _)[i]? = _
  rw [List.getElem?_modify, h.file]; simp
theorem one_syncDir (h : OneAt s room calls nm b sy i) : (syncDirM s).2 = 0 ∧ OneAt (syncDirM s).1 room (calls + 1) nm b sy i ∧ Lasts (syncDirM s).1 nm i := by
  have e : syncDirM s = ({ callM s with lasts := (callM s).dir, waits := [] }, 0) := by
    unfold syncDirM
    dsimp only
    rw [h.nofail, if_neg (by simp)]
  rw [e]
  exact ⟨rfl, ⟨h.room, by show s.calls + 1 = _; rw [h.calls], by show max (s.fail - 1) (-1) = -1; rw [h.fail]; rfl, h.dir, h.file⟩, h.dir, rfl⟩
theorem one_crash (h : OneAt s room calls nm b sy i) (hl : Lasts s nm i) : OneAt (crashM s 0 []) room 0 nm (b.take sy) sy 0 := by
  have ed : crashDir s 0 = [(nm, i)] := by unfold crashDir; rw [hl.last]; rfl
  unfold crashM
  rw [ed]
  refine ⟨h.room, rfl, rfl, rfl, ?_⟩
  simp [crashFiles, h.file, cutM, tailOf]
/-- Files that have at most this one. -/
def AtMost (s : FsM) (nm : Nm) (u : Nat) : Prop := (s.dir = [] ∧ u = 0) ∨ ∃ i f, s.dir = [(nm, i)] ∧ s.files[i]? = some f ∧ f.b.length = u
theorem OneAt.most (h : OneAt s room calls nm b sy i) : AtMost s nm b.length := .inr ⟨i, _, h.dir, h.file, rfl⟩
/-- A file of other bytes takes its place. -/
theorem most_write {u : Nat} (h0 : AtMost s nm u) (hr0 : s.room = room) (hc0 : s.calls = calls) (hf0 : s.fail = -1) (bes : Nm) (hne : nm ≠ bes) (hm1 : mayM nm = true) (hm2 : mayM bes = true) (hr : (u : Int) + c.length ≤ room) : (writeM s nm bes c).2 = 0 ∧ OneAt (writeM s nm bes c).1 room (calls + 5) nm c c.length s.files.length ∧ Lasts (writeM s nm bes c).1 nm s.files.length := by
  have hfl : ∀ t : FsM, t.fail = -1 → failsM t = false := fun t e => by unfold failsM; rw [e]; rfl
  have hcf : ∀ t : FsM, t.fail = -1 → (callM t).fail = -1 := fun t e => by show max (t.fail - 1) (-1) = -1; rw [e]; rfl
  have hne' : ¬ bes = nm := fun e => hne e.symm
  have hfew : (callM s).dir.length < 150 := by
    show s.dir.length < 150
    rcases h0 with ⟨h, _⟩ | ⟨i, f, h, _⟩ <;> rw [h] <;> simp
  -- made
  have e1 : createM s bes = (changeM { callM s with files := (callM s).files ++ [⟨[], 0⟩] } ⟨0, bes, [], some (callM s).files.length⟩, 0) := by
    unfold createM
    dsimp only
    rw [hfl s hf0, if_neg (by simp), hm2, if_neg (by simp), if_neg (by simp; omega)]
  obtain ⟨s1, hs1⟩ : ∃ s1, s1 = changeM { callM s with files := (callM s).files ++ [⟨[], 0⟩] } ⟨0, bes, [], some (callM s).files.length⟩ := ⟨_, rfl⟩
  rw [← hs1] at e1
  have d1 : s1.dir = ins s.dir bes s.files.length := by rw [hs1]; rfl
  have f1 : s1.files = s.files ++ [⟨[], 0⟩] := by rw [hs1]; rfl
  have r1 : s1.room = room := by rw [hs1]; exact hr0
  have c1 : s1.calls = calls + 1 := by rw [hs1]; show s.calls + 1 = _; rw [hc0]
  have l1 : s1.fail = -1 := by rw [hs1]; exact hcf s hf0
  have fn1 : s1.files[s.files.length]? = some ⟨[], 0⟩ := by rw [f1, List.getElem?_append_right (Nat.le_refl _), Nat.sub_self]; rfl
  have u1 : usedM s1 = u := by
    rcases h0 with ⟨h, hu⟩ | ⟨i, f, h, hf, hu⟩
    · simp [usedM, d1, h, ins, lenOf, fn1, hu]
    · have fi1 : s1.files[i]? = some f := by rw [f1, List.getElem?_append_left (List.getElem?_eq_some_iff.1 hf).1]; exact hf
      rw [usedM, d1, h]
      simp only [ins, if_neg hne]
      split
      · simp [lenOf, fi1, fn1, hu]
      · simp [lenOf, fi1, fn1, hu]
  have k1 : Go.Vc.looks s1.dir bes = some s.files.length := by
    rw [d1]
    rcases h0 with ⟨h, hu⟩ | ⟨i, f, h, hf, hu⟩
    · simp [h, ins, Go.Vc.looks]
    · rw [h]
      simp only [ins, if_neg hne]
      split
      · simp [Go.Vc.looks]
      · simp [Go.Vc.looks, hne]
  have dd : doM s1.dir ⟨1, bes, nm, none⟩ = [(nm, s.files.length)] := by
    have k1' := k1
    unfold doM
    dsimp only
    rw [if_neg (by decide), if_pos rfl, k1']
    dsimp only
    rw [d1]
    rcases h0 with ⟨h, hu⟩ | ⟨i, f, h, hf, hu⟩
    · simp [h, ins, del]
    · rw [h]
      simp only [ins, if_neg hne]
      split
      · simp [del, ins, hne, nm_lt_irrefl]
      · simp [del, ins, hne, nm_lt_irrefl]
  clear hs1
  generalize s.files.length = n at *
  -- appended
  have e2 : appendM s1 bes c = ({ callM s1 with files := (callM s1).files.modify n fun f => { f with b := f.b ++ c } }, 0) := by
    unfold appendM
    dsimp only
    rw [hfl s1 l1, show Go.Vc.looks (callM s1).dir bes = some n from k1, show usedM (callM s1) = u from u1]
    dsimp only
    rw [if_neg (by simp), if_neg (by show ¬ s1.room - _ < _; rw [r1]; omega)]
  obtain ⟨s2, hs2⟩ : ∃ s2, s2 = { callM s1 with files := (callM s1).files.modify n fun f => { f with b := f.b ++ c } } := ⟨_, rfl⟩
  rw [← hs2] at e2
  have d2 : s2.dir = s1.dir := by rw [hs2]; rfl
  have r2 : s2.room = room := by rw [hs2]; exact r1
  have c2 : s2.calls = calls + 2 := by rw [hs2]; show s1.calls + 1 = _; rw [c1]; omega
  have l2 : s2.fail = -1 := by rw [hs2]; exact hcf s1 l1
  have fn2 : s2.files[n]? = some ⟨c, 0⟩ := by
    rw [hs2]
    show (s1.files.modify n _)[n]? = _
    rw [List.getElem?_modify, fn1]; simp
  clear hs2
  -- synced
  have e3 : syncM s2 bes = ({ callM s2 with files := (callM s2).files.modify n fun f => { f with synced := f.b.length } }, 0) := by
    unfold syncM
    dsimp only
    rw [hfl s2 l2, show Go.Vc.looks (callM s2).dir bes = some n from by show Go.Vc.looks s2.dir bes = _; rw [d2]; exact k1]
    dsimp only
    rw [if_neg (by simp)]
  obtain ⟨s3, hs3⟩ : ∃ s3, s3 = { callM s2 with files := (callM s2).files.modify n fun f => { f with synced := f.b.length } } := ⟨_, rfl⟩
  rw [← hs3] at e3
  have d3 : s3.dir = s1.dir := by rw [hs3]; exact d2
  have r3 : s3.room = room := by rw [hs3]; exact r2
  have c3 : s3.calls = calls + 3 := by rw [hs3]; show s2.calls + 1 = _; rw [c2]; omega
  have l3 : s3.fail = -1 := by rw [hs3]; exact hcf s2 l2
  have fn3 : s3.files[n]? = some ⟨c, c.length⟩ := by
    rw [hs3]
    show (s2.files.modify n _)[n]? = _
    rw [List.getElem?_modify, fn2]; simp
  clear hs3
  -- named
  have e4 : renameM s3 bes nm = (changeM (callM s3) ⟨1, bes, nm, none⟩, 0) := by
    unfold renameM
    dsimp only
    rw [hfl s3 l3, if_neg (by simp), show Go.Vc.looks (callM s3).dir bes = some n from by show Go.Vc.looks s3.dir bes = _; rw [d3]; exact k1, if_neg (by simp), hm1, if_neg (by simp)]
  obtain ⟨s4, hs4⟩ : ∃ s4, s4 = changeM (callM s3) ⟨1, bes, nm, none⟩ := ⟨_, rfl⟩
  rw [← hs4] at e4
  have o4 : OneAt s4 room (calls + 4) nm c c.length n := by
    refine ⟨by rw [hs4]; exact r3, by rw [hs4]; show s3.calls + 1 = _; rw [c3]; omega, by rw [hs4]; exact hcf s3 l3, ?_, by rw [hs4]; exact fn3⟩
    rw [hs4]
    show doM s3.dir ⟨1, bes, nm, none⟩ = _
    rw [d3]; exact dd
  obtain ⟨a5, o5, las5⟩ := one_syncDir o4
  have e : writeM s nm bes c = syncDirM s4 := by
    unfold writeM
    simp [writeG, writeK, e1, e2, e3, e4, a5]
    rw [← a5]
  rw [e]
  refine ⟨a5, ?_, las5⟩
  rw [show calls + 5 = calls + 4 + 1 from by omega]
  exact o5
end
end Go.Vc
/-! Manifests in plain words: what is laid is loaded. -/
set_option linter.unusedVariables false
namespace Go.Vc
open Go
def fileE (l : List EditM) : List UInt8 := l.flatMap fun e => sealM (textE e)
structure EdGood (e : EditM) : Prop where
  ok : EditOk e
  sums : Sums e
  len : (textE e).length ≤ 100000
theorem fileE_cons (e : EditM) (l : List EditM) : fileE (e :: l) = sealM (textE e) ++ fileE l := rfl
theorem fileE_snoc (l : List EditM) (e : EditM) : fileE (l ++ [e]) = fileE l ++ sealM (textE e) := by unfold fileE; rw [List.flatMap_append]; simp
theorem scanM_file : ∀ {l : List EditM}, (∀ e ∈ l, EdGood e) → scanM (fileE l) = (l.map textE, (fileE l).length, true)
  | [], _ => scanM_nil
  | e :: l, h => by
    have he := (h e (by simp)).len
    rw [fileE_cons, scanM_sealM _ _ (by omega), scanM_file (fun x hx => h x (by simp [hx]))]
    simp [sealM_length]
theorem edGo_file : ∀ {l : List EditM} (k : Nat) (cut : Bool), (∀ e ∈ l, EdGood e) → edGo (l.map textE) k cut = (l, k + (fileE l).length, cut)
  | [], k, cut, _ => rfl
  | e :: l, k, cut, h => by
    have he := h e (by simp)
    rw [List.map_cons, edGo, decE_textE he.ok he.sums, edGo_file _ _ (fun x hx => h x (by simp [hx])), fileE_cons, List.length_append]
    simp; omega
theorem scanE_file {l : List EditM} (h : ∀ e ∈ l, EdGood e) : scanE (fileE l) = (l, (fileE l).length, true) := by
  unfold scanE
  rw [scanM_file h, edGo_file _ _ h]
  simp
/-- A manifest's file says a state. -/
def FileOk (b : List UInt8) (st : PSt) : Prop := ∃ l, l ≠ [] ∧ (∀ e ∈ l, EdGood e) ∧ b = fileE l ∧ loadP l true p0 true = (st, true)
theorem FileOk.load {b : List UInt8} {st : PSt} (h : FileOk b st) : loadM b = some st ∧ (scanE b).2.1 = b.length := by
  obtain ⟨l, h1, h2, rfl, h4⟩ := h
  unfold loadM
  rw [scanE_file h2]
  dsimp only
  rw [h4]
  exact ⟨if_pos ⟨rfl, h1⟩, rfl⟩
theorem encE_good {e : EditM} (h : EdGood e) : encE e = (sealM (textE e), 0) := by unfold encE; rw [if_pos (editB_ok.2 h.ok)]
theorem FileOk.commit {b : List UInt8} {st st' : PSt} {e : EditM} (h : FileOk b st) (he : EdGood e) (ha : applyP st e false = some st') : FileOk (b ++ (encE e).1) st' := by
  obtain ⟨l, h1, h2, rfl, h4⟩ := h
  refine ⟨l ++ [e], by simp, fun x hx => ?_, ?_, ?_⟩
  · rcases List.mem_append.1 hx with hx | hx
    · exact h2 x hx
    · rw [List.mem_singleton.1 hx]; exact he
  · rw [fileE_snoc, encE_good he]
  · rw [loadP_snoc, h4]
    have : (true && l.isEmpty) = false := by simpa using h1
    rw [this, ha]
theorem putK_all {α : Type} {key : α → Int} : ∀ {xs L : List α}, ((L ++ xs).map key).Nodup → putK key xs L = some (L ++ xs)
  | [], L, _ => by simp [putK]
  | x :: xs, L, h => by
    rw [putK, if_neg, putK_all (by simpa using h)]
    · simp
    · intro hc
      obtain ⟨y, hy, hk⟩ := List.any_eq_true.1 hc
      simp at hk
      rw [List.map_append, List.nodup_append] at h
      exact h.2.2 _ (List.mem_map.2 ⟨y, hy, rfl⟩) _ (List.mem_map.2 ⟨x, by simp, rfl⟩) hk.symm
theorem sortK_id {α : Type} {key : α → Int} {L : List α} (hn : (L.map key).Nodup) (hs : L.Pairwise (fun x y => key x ≤ key y)) : sortK key L = L := (sortK_unique hn (List.Perm.refl _) hs).symm
theorem apply_whole {st : PSt} (h : POk st) : applyP p0 (wholeP st) true = some st := by
  have h1 : putK numK st.segs [] = some st.segs := by rw [putK_all (by simpa using h.ns)]; simp
  have h2 : putK gKey st.pars [] = some st.pars := by rw [putK_all (by simpa using h.np)]; simp
  have hn := h.next
  have hq := h.seq
  have l1 : laterM 1 st.next = (st.next, true) := by unfold laterM; rw [if_neg (by omega), decide_eq_true (by omega)]
  have l2 : laterM 1 st.seq = (st.seq, true) := by unfold laterM; rw [if_neg (by omega), decide_eq_true (by omega)]
  have hf : finePM st.segs st.pars st.next [] = true := by
    unfold finePM
    simp only [List.all_nil, Bool.true_and, Bool.and_eq_true, decide_eq_true_eq, Bool.not_eq_true', List.any_eq_false]
    have := h.ls
    have := h.lp
    refine ⟨by omega, fun x hx => ?_, fun x hx => ?_⟩
    · have := h.below x hx; simp; omega
    · have := h.belowP x hx; simp; omega
  have hB : editB (wholeP st) = true := editB_ok.2 (wholeP_ok h)
  unfold applyP
  rw [hB]
  unfold wholeP p0
  dsimp only [takeK, Option.getD]
  rw [h1, h2, l1, l2]
  dsimp only [Option.map, Option.isSome]
  simp only [sortK_id h.ns h.ss, sortK_id h.np h.sp, if_true, hf]
  simp
theorem flat_len {α : Type} {f : α → List UInt8} {m : Nat} : ∀ {l : List α}, (∀ x ∈ l, (f x).length ≤ m) → (l.flatMap f).length ≤ m * l.length
  | [], _ => by simp
  | x :: l, h => by
    have h1 := h x (by simp)
    have h2 := flat_len (l := l) (fun y hy => h y (by simp [hy]))
    rw [List.flatMap_cons, List.length_append, List.length_cons, Nat.mul_add]
    omega
theorem pairE_len : ∀ (ns zs : List Int), (∀ n ∈ ns, n < 18446744073709551616) → (∀ n ∈ zs, n < 18446744073709551616) → (pairE ns zs).length ≤ 20 * ns.length
  | [], zs, _, _ => by simp [pairE]
  | n :: ns, [], _, _ => by simp [pairE]
  | n :: ns, z :: zs, h1, h2 => by
    have i := pairE_len ns zs (fun x hx => h1 x (by simp [hx])) (fun x hx => h2 x (by simp [hx]))
    have k := numsE_len [n, z] (fun x hx => by
      simp only [List.mem_cons, List.not_mem_nil, or_false] at hx
      rcases hx with rfl | rfl
      · exact h1 _ (by simp)
      · exact h2 _ (by simp))
    rw [pairE, List.length_append, List.length_cons]
    simp only [List.length_cons, List.length_nil] at k
    omega
theorem textE_len {e : EditM} (h : EditOk e) (hs : Sums e) : (textE e).length ≤ 100000 := by
  have a := flat_len (f := segE) (m := 60) (l := e.adds) (fun s hx => by
    obtain ⟨⟨a, a'⟩, ⟨b, b'⟩, ⟨c, c'⟩, ⟨d, d'⟩⟩ := h.adds1 s hx
    have hsum := hs.1 s hx
    have ht : truthI s.sealed ≤ 1 := by unfold truthI; split <;> omega
    have := numsE_len [s.num, truthI s.sealed, s.group, s.member, s.size, s.sum] (fun x hx => by
      simp only [List.mem_cons, List.not_mem_nil, or_false] at hx
      rcases hx with rfl | rfl | rfl | rfl | rfl | rfl <;> omega)
    simpa [segE] using this)
  have b := flat_len (f := parE) (m := 100) (l := e.pars) (fun p hx => by
    have ho := h.pars1 p hx
    have hsum := hs.2 p hx
    have h1 := ho.group
    have h2 := ho.size
    have h3 := ho.len3
    have k1 := numsE_len [p.group, p.nums.length] (fun x hx => by
      simp only [List.mem_cons, List.not_mem_nil, or_false] at hx
      rcases hx with rfl | rfl <;> omega)
    have k2 := numsE_len [p.size, p.sum] (fun x hx => by
      simp only [List.mem_cons, List.not_mem_nil, or_false] at hx
      rcases hx with rfl | rfl <;> omega)
    have k3 := pairE_len p.nums p.sizes (fun n hn => by have := ho.nums n hn; omega) (fun n hn => by have := ho.sizes n hn; omega)
    simp only [List.length_cons, List.length_nil] at k1 k2
    unfold parE
    rw [List.length_append, List.length_append]
    omega)
  have c := numsE_len e.dels (fun n hn => by have := h.dels1 n hn; omega)
  have d := numsE_len e.drops (fun n hn => by have := h.drops1 n hn; omega)
  have h1 := h.next
  have h2 := h.seq
  have h3 := h.adds
  have h4 := h.dels
  have h5 := h.pars
  have h6 := h.drops
  have k1 := numsE_len [e.next, e.seq, e.adds.length] (fun x hx => by
    simp only [List.mem_cons, List.not_mem_nil, or_false] at hx
    rcases hx with rfl | rfl | rfl <;> omega)
  have one : ∀ n : Int, n < 18446744073709551616 → (numsE [n]).length ≤ 10 := fun n hn => by
    have := numsE_len [n] (fun x hx => by rw [List.mem_singleton.1 hx]; exact hn)
    simpa using this
  have k2 := one e.dels.length (by omega)
  have k3 := one e.pars.length (by omega)
  have k4 := one e.drops.length (by omega)
  simp only [List.length_cons, List.length_nil] at k1
  unfold textE
  simp only [List.length_append]
  omega
theorem edGood {e : EditM} (h : EditOk e) (hs : Sums e) : EdGood e := ⟨h, hs, textE_len h hs⟩
theorem FileOk.lay {st : PSt} (h : POk st) : FileOk (encE (wholeP st)).1 st := by
  have hg : EdGood (wholeP st) := edGood (wholeP_ok h) (wholeP_sums h)
  refine ⟨[wholeP st], by simp, fun x hx => by rw [List.mem_singleton.1 hx]; exact hg, ?_, ?_⟩
  · rw [encE_good hg]; simp [fileE]
  · rw [loadP, apply_whole h]; rfl
end Go.Vc
/-! Manifests: files that have a manifest alone; begun. -/
set_option linter.unusedVariables false
namespace Go.Vc
open Go
/-- Files that have just a manifest, which says q, all synced. -/
structure MSt (s : FsM) (calls : Int) (b : List UInt8) (i : Nat) (q : PSt) : Prop where
  one : OneAt s 1048576 calls manNm b b.length i
  last : Lasts s manNm i
  file : FileOk b q
  ok : POk q
theorem man0_whole : man0 = wholeP p0 := rfl
theorem encE_len {e : EditM} (h : EditOk e) (hs : Sums e) : (encE e).1.length ≤ 100012 := by
  rw [encE_good (edGood h hs)]
  have := textE_len h hs
  rw [sealM_length]; omega
theorem mst_new : (writeM (newM 1048576) manNm neuNm (encE man0).1).2 = 0 ∧ MSt (writeM (newM 1048576) manNm neuNm (encE man0).1).1 5 (encE man0).1 0 p0 := by
  have hl := encE_len (wholeP_ok p0_ok) (wholeP_sums p0_ok)
  rw [man0_whole]
  obtain ⟨h1, h2, h3⟩ := most_write (s := newM 1048576) (room := 1048576) (calls := 0) (nm := manNm) (c := (encE (wholeP p0)).1) (u := 0) (.inl ⟨rfl, rfl⟩) rfl rfl rfl neuNm (by decide) (by decide) (by decide) (by omega)
  exact ⟨h1, h2, h3, FileOk.lay p0_ok, p0_ok⟩
section
variable {s : FsM} {calls : Int} {b : List UInt8} {i : Nat} {q q' : PSt} {e : EditM}
theorem MSt.commit (h : MSt s calls b i q) (hg : EdGood e) (ha : applyP q e false = some q') (hr : (b.length : Int) + (encE e).1.length ≤ 1048576) : (commitF s (encE e).1).2 = 0 ∧ MSt (commitF s (encE e).1).1 (calls + 2) (b ++ (encE e).1) i q' := by
  obtain ⟨h1, h2, h3⟩ := one_append h.one hr
  obtain ⟨h4, h5, h6⟩ := one_sync h2
  unfold commitF
  rw [if_pos h1]
  refine ⟨h4, ?_, h6 _ (h3 _ h.last), h.file.commit hg ha, applyP_ok h.ok hg.sums ha⟩
  rw [show calls + 2 = calls + 1 + 1 from by omega]
  exact h5
theorem MSt.lay (h : MSt s calls b i q) (hr : b.length ≤ 900000) : (writeM s manNm neuNm (encE (wholeP q)).1).2 = 0 ∧ MSt (writeM s manNm neuNm (encE (wholeP q)).1).1 (calls + 5) (encE (wholeP q)).1 s.files.length q := by
  have hl := encE_len (wholeP_ok h.ok) (wholeP_sums h.ok)
  obtain ⟨h1, h2, h3⟩ := most_write (c := (encE (wholeP q)).1) h.one.most h.one.room h.one.calls h.one.fail neuNm (by decide) (by decide) (by decide) (by omega)
  exact ⟨h1, h2, h3, FileOk.lay h.ok, h.ok⟩
theorem MSt.crash (h : MSt s calls b i q) : MSt (crashM s 0 []) 0 b 0 q := by
  have h1 := one_crash h.one h.last
  rw [List.take_length] at h1
  exact ⟨h1, ⟨h1.dir, rfl⟩, h.file, h.ok⟩
end
end Go.Vc
namespace Go.Proofs.YtiadjkjlifnopaaGreatDoor.Tryz
open Go Go.Vc
def stM0 : StM := ⟨[], [], 1, 1⟩
/-- Create where there are no files. -/
theorem createNew_has {w0 w : World} {g : Nat} {p : FsP} (x : FsO w0 w g (newM 1048576) p) :
    Has Go.Proofs.Tryz.prog 19 #[ptrV g] w (fun v w' => ∃ gm p' s, v = .tuple #[.pointer (some ⟨gm, 0, none⟩), .int .i64 0] ∧ Chg (p.fp g) w w' ∧ ManO w0 w' gm g s p' stM0 false ∧ MSt s 5 (encE man0).1 0 p0 ∧ Grows w g p p') :=
  (createMan_has x (by decide) rfl mst_new.1).mono fun v w' ⟨gm, p', h1, h2, h3, h4, h5, h6, h7⟩ => ⟨gm, p', _, h1, h2, ⟨h3, ⟨_, _, h5, fun w1 _ => ⟨SliceK.nil _ _ _, SliceK.nil _ _ _, fun q hq => by cases hq⟩⟩, h6, by have := x.chg.size; omega⟩, mst_new.2, h4⟩
/-- Commit of an edit that applies, where the files take it. -/
theorem commitOk_has {w0 w : World} {gm g : Nat} {s : FsM} {p : FsP} {st : StM} {q' : PSt} (x : ManO w0 w gm g s p st false) (hok : POk st.plain) {e : EditM} {xa xd xp xr : Value} {X : List ParS} (hI : EdI e) (hr : Firm (gm :: p.fp g) w (fun w => ERd w ⟨e, xa, xd, xp, xr, X.map (·.1)⟩)) (hap : applyP st.plain e false = some q') (hz : (commitF s (encE e).1).2 = 0) (hcalls : s.calls < 1000000000 - 10) :
    Has Go.Proofs.Tryz.prog 21 #[.pointer (some ⟨gm, 0, none⟩), .agg #[.int .i64 e.next, .int .i64 e.seq, xa, xd, xp, xr]] w (fun v w' => v = .int .i64 0 ∧ Chg (gm :: p.fp g) w w' ∧ ∃ p' st', Grows w g p p' ∧ st'.plain = q' ∧ ManO w0 w' gm g (commitF s (encE e).1).1 p' st' false) := by
  have hX : X.map (·.1.p) = e.pars := by
    have := hr.now.parsE
    dsimp only at this
    rw [← this, List.map_map]; rfl
  obtain ⟨k1, k2, k3, k4⟩ := plain_keys hok
  have h1 := applyM_plain (st := st) (first := false) hX
  rw [hap] at h1
  cases ha : applyM st e X false with
  | none => rw [ha] at h1; cases h1
  | some st' =>
    rw [ha] at h1
    injection h1 with h1
    refine (commit_has x hI hr k1 k2 (by omega) (by omega) ha hcalls).mono fun v w' ⟨h2, h3, p', h4, h5⟩ => ?_
    rw [hz] at h2 h5
    exact ⟨h2, h3, p', st', h4, h1, h5⟩
/-- A row of a literal reads so, whatever else turns. -/
theorem row_firm {α : Type} {f : α → List Value} {k : Nat} (hk : ∀ x, (f x).length = k) {w : World} {S : List Nat} {gb : Nat} {t : TypeId} {L : List α} (hb : Blk w gb t (L.flatMap f)) (hl : L.length ≤ 1000000) (hS : gb ∉ S) : Firm S w (fun w => SliceK k (RdL f) w (.slice (some ⟨gb, 0, none⟩) L.length L.length) L) := fun w1 h1 => by
  have h2 := hb.keep h1 hS
  refine (Own.mk h2 (Nat.le_refl _) (by unfold maxLen; omega) (by rw [rk_len hk]) (by rw [List.take_of_length_le (by rw [rk_len hk]; exact Nat.le_refl _)])).readsK hk
end Go.Proofs.YtiadjkjlifnopaaGreatDoor.Tryz
/-! Manifests: begun. -/
set_option linter.unusedVariables false
namespace Go.Vc
open Go
end Go.Vc
namespace Go.Proofs.YtiadjkjlifnopaaGreatDoor.Tryz
open Go Go.Vc
end Go.Proofs.YtiadjkjlifnopaaGreatDoor.Tryz
/-! Names of files: numbers below a hundred. -/
set_option linter.unusedVariables false
namespace Go.Vc
open Go
def dig2 (n : Nat) : List UInt8 := if n < 10 then [UInt8.ofNat (48 + n)] else [UInt8.ofNat (48 + n / 10), UInt8.ofNat (48 + n % 10)]
def decs : List UInt8 := [48, 48, 48, 49, 48, 50, 48, 51, 48, 52, 48, 53, 48, 54, 48, 55, 48, 56, 48, 57, 49, 48, 49, 49, 49, 50, 49, 51, 49, 52, 49, 53, 49, 54, 49, 55, 49, 56, 49, 57, 50, 48, 50, 49, 50, 50, 50, 51, 50, 52, 50, 53, 50, 54, 50, 55, 50, 56, 50, 57, 51, 48, 51, 49, 51, 50, 51, 51, 51, 52, 51, 53, 51, 54, 51, 55, 51, 56, 51, 57, 52, 48, 52, 49, 52, 50, 52, 51, 52, 52, 52, 53, 52, 54, 52, 55, 52, 56, 52, 57, 53, 48, 53, 49, 53, 50, 53, 51, 53, 52, 53, 53, 53, 54, 53, 55, 53, 56, 53, 57, 54, 48, 54, 49, 54, 50, 54, 51, 54, 52, 54, 53, 54, 54, 54, 55, 54, 56, 54, 57, 55, 48, 55, 49, 55, 50, 55, 51, 55, 52, 55, 53, 55, 54, 55, 55, 55, 56, 55, 57, 56, 48, 56, 49, 56, 50, 56, 51, 56, 52, 56, 53, 56, 54, 56, 55, 56, 56, 56, 57, 57, 48, 57, 49, 57, 50, 57, 51, 57, 52, 57, 53, 57, 54, 57, 55, 57, 56, 57, 57]
theorem decs_len : decs.length = 200 := by decide +kernel
theorem decs_at {n : Nat} (hn : n < 100) (h : ¬ n < 10) : (decs.take (2 * n + 2)).drop (2 * n) = dig2 n := by
  have key : ∀ a : Fin 100, ¬ a.val < 10 → (decs.take (2 * a.val + 2)).drop (2 * a.val) = dig2 a.val := by decide +kernel
  exact key ⟨n, hn⟩ h
def endRaw : List UInt8 := [46, 114, 97, 119]
def endSeg : List UInt8 := [46, 115, 101, 103]
def endPar : List UInt8 := [46, 112, 97, 114]
theorem dig2_len (n : Nat) : 1 ≤ (dig2 n).length ∧ (dig2 n).length ≤ 2 := by unfold dig2; split <;> simp
theorem dig2_inj {n m : Nat} (hn : n < 100) (hm : m < 100) (h : dig2 n = dig2 m) : n = m := by
  have key : ∀ a b : Fin 100, dig2 a = dig2 b → a = b := by decide +kernel
  have := key ⟨n, hn⟩ ⟨m, hm⟩ h
  injection this
end Go.Vc
namespace Go.Proofs.YtiadjkjlifnopaaGreatDoor.Tryz
open Go Go.Vc
theorem small2_has (n : Nat) (w : World) (hn : n < 100) : Has Go.Proofs.Tryz.prog 171 #[.int .i64 (n : Int)] w (fun v w' => w' = w ∧ v = .string (str (dig2 n))) := by
  by_cases h10 : n < 10
  · exact (small_has n w h10).mono fun v w' ⟨h1, h2⟩ => ⟨h1, by rw [h2]; unfold dig2; rw [if_pos h10]⟩
  refine enter Go.Proofs.Tryz.func171 rfl rfl (by decide) rfl (e := [(0, .int .i64 (n : Int))]) ⟨rfl, trivial⟩ ?_
  refine run ?_
  refine go T 9 rfl ?_
  refine ltF rfl rfl rfl rfl (by omega) ?_
  refine go T 8 rfl ?_
  refine o1 rfl (op_mul rfl rfl rfl (wrap_i64_in (by omega) (by omega)) ?_)
  refine go T 1 rfl ?_
  refine o1 rfl (op_mul rfl rfl rfl (wrap_i64_in (by omega) (by omega)) ?_)
  refine adI rfl rfl rfl rfl (by omega) (by omega) ?_
  refine o1 rfl ?_
  refine op_slice_str (s := decs) T (l := 2 * n) (h' := 2 * n + 2) rfl rfl rfl (some_int (by omega)) (some_int (by omega)) (by omega) (by rw [decs_len]; omega) ?_
  refine go T 4 rfl ?_
  refine post1 (.inl rfl) rfl rfl ⟨rfl, ?_⟩
  rw [decs_at hn h10]
theorem formatInt2_has' (n : Nat) (w : World) (hn : n < 100) : Has Go.Proofs.Tryz.prog 130 #[.int .i64 (n : Int), .int .i64 10] w (fun v w' => w' = w ∧ v = .string (str (dig2 n))) := by
  refine enter Go.Proofs.Tryz.func130 rfl rfl (by decide) rfl (e := [(0, .int .i64 (n : Int)), (1, .int .i64 10)]) ⟨rfl, rfl, trivial⟩ ?_
  refine run ?_
  refine go T 9 rfl ?_
  refine eqT rfl rfl rfl rfl (by omega) ?_
  refine go T 7 rfl ?_
  refine leT rfl rfl rfl rfl (by omega) ?_
  refine go T 2 rfl ?_
  refine ltT rfl rfl rfl rfl (by omega) ?_
  refine go T 7 rfl ?_
  refine o1 rfl ?_
  refine op_call rfl rfl rfl (small2_has n w hn) ?_
  rintro _ _ ⟨rfl, rfl⟩
  refine go T 6 rfl ?_
  exact post1 (.inl rfl) rfl rfl ⟨rfl, rfl⟩
theorem formatInt2_has (n : Nat) (w : World) (hn : n < 100) : Has Go.Proofs.Tryz.prog 84 #[.int .i64 (n : Int), .int .i64 10] w (fun v w' => w' = w ∧ v = .string (str (dig2 n))) := by
  refine enter Go.Proofs.Tryz.func84 rfl rfl (by decide) rfl (e := [(0, .int .i64 (n : Int)), (1, .int .i64 10)]) ⟨rfl, rfl, trivial⟩ ?_
  refine run ?_
  refine go T 9 rfl ?_
  refine o1 rfl ?_
  refine op_call rfl rfl rfl (formatInt2_has' n w hn) ?_
  rintro _ _ ⟨rfl, rfl⟩
  refine go T 4 rfl ?_
  exact post1 (.inl rfl) rfl rfl ⟨rfl, rfl⟩
theorem rawName2_has (n : Nat) (w : World) (hn : n < 100) : Has Go.Proofs.Tryz.prog 83 #[.int .i64 (n : Int)] w (fun v w' => w' = w ∧ v = .string (str (dig2 n ++ endRaw))) := by
  have hl := dig2_len n
  refine enter Go.Proofs.Tryz.func83 rfl rfl (by decide) rfl (e := [(0, .int .i64 (n : Int))]) ⟨rfl, trivial⟩ ?_
  refine run ?_
  refine go T 8 rfl ?_
  refine o1 rfl ?_
  refine op_call rfl rfl rfl (formatInt2_has n w hn) ?_
  rintro _ _ ⟨rfl, rfl⟩
  refine o1 rfl ?_
  refine op_str_add (a := dig2 n) (b := endRaw) rfl rfl rfl (by simp [endRaw]; omega) ?_
  refine go T 4 rfl ?_
  exact post1 (.inl rfl) rfl rfl ⟨rfl, rfl⟩
theorem segName2_has (n : Nat) (w : World) (hn : n < 100) : Has Go.Proofs.Tryz.prog 82 #[.int .i64 (n : Int)] w (fun v w' => w' = w ∧ v = .string (str (dig2 n ++ endSeg))) := by
  have hl := dig2_len n
  refine enter Go.Proofs.Tryz.func82 rfl rfl (by decide) rfl (e := [(0, .int .i64 (n : Int))]) ⟨rfl, trivial⟩ ?_
  refine run ?_
  refine go T 8 rfl ?_
  refine o1 rfl ?_
  refine op_call rfl rfl rfl (formatInt2_has n w hn) ?_
  rintro _ _ ⟨rfl, rfl⟩
  refine o1 rfl ?_
  refine op_str_add (a := dig2 n) (b := endSeg) rfl rfl rfl (by simp [endSeg]; omega) ?_
  refine go T 4 rfl ?_
  exact post1 (.inl rfl) rfl rfl ⟨rfl, rfl⟩
theorem parName2_has (n : Nat) (w : World) (hn : n < 100) : Has Go.Proofs.Tryz.prog 46 #[.int .i64 (n : Int)] w (fun v w' => w' = w ∧ v = .string (str (dig2 n ++ endPar))) := by
  have hl := dig2_len n
  refine enter Go.Proofs.Tryz.func46 rfl rfl (by decide) rfl (e := [(0, .int .i64 (n : Int))]) ⟨rfl, trivial⟩ ?_
  refine run ?_
  refine go T 8 rfl ?_
  refine o1 rfl ?_
  refine op_call rfl rfl rfl (formatInt2_has n w hn) ?_
  rintro _ _ ⟨rfl, rfl⟩
  refine o1 rfl ?_
  refine op_str_add (a := dig2 n) (b := endPar) rfl rfl rfl (by simp [endPar]; omega) ?_
  refine go T 4 rfl ?_
  exact post1 (.inl rfl) rfl rfl ⟨rfl, rfl⟩
end Go.Proofs.YtiadjkjlifnopaaGreatDoor.Tryz
/-! Strings: Index, Contains, DeleteFunc. -/
set_option linter.unusedVariables false
namespace Go.Vc
open Go
/-- A string as one cell. -/
def strL (x : Nm) : List Value := [.string (str x)]
end Go.Vc
namespace Go.Proofs.YtiadjkjlifnopaaGreatDoor.Tryz
open Go Go.Vc
end Go.Proofs.YtiadjkjlifnopaaGreatDoor.Tryz
/-! Manifests: File, Old. -/
set_option linter.unusedVariables false
namespace Go.Vc
open Go
def fileNm (s : SegM) : Nm := dig2 s.num.toNat ++ (if s.sealed = true then endSeg else endRaw)
def parNm (q : ParM) : Nm := dig2 q.group.toNat ++ endPar
end Go.Vc
namespace Go.Proofs.YtiadjkjlifnopaaGreatDoor.Tryz
open Go Go.Vc
theorem file_has (s : SegM) (w : World) (h0 : 0 ≤ s.num) (h1 : s.num < 100) : Has Go.Proofs.Tryz.prog 45 #[.agg (segL s).toArray] w (fun v w' => Chg [] w w' ∧ v = .string (str (fileNm s))) := by
  obtain ⟨num, sl, gr, me, sz, su⟩ := s
  dsimp only at h0 h1
  obtain ⟨n, rfl⟩ := Int.eq_ofNat_of_zero_le h0
  refine enter Go.Proofs.Tryz.func45 rfl rfl (by decide) rfl (e := [(0, .agg #[.int .i64 (n : Int), .bool sl, .int .i64 gr, .int .i64 me, .int .i64 sz, .int .u32 (su : Int)])]) ⟨rfl, trivial⟩ ?_
  refine run ?_
  refine go T 2 rfl ?_
  refine o1 rfl ?_
  refine op_box rfl rfl (fun g1 w1 hs1 hc1 hg1 => ?_)
  have hg1 : Blk w1 g1 26 [.int .i64 (n : Int), .bool sl, .int .i64 gr, .int .i64 me, .int .i64 sz, .int .u32 (su : Int)] := hg1
  unfold fileNm
  dsimp only
  rw [Int.toNat_natCast]
  cases sl with
  | true =>
    refine go T 7 rfl ?_
    refine ldB T hg1 rfl rfl rfl rfl rfl rfl ?_
    refine go T 6 rfl ?_
    refine ldB T hg1 rfl rfl rfl rfl rfl rfl ?_
    refine o1 rfl ?_
    refine op_call rfl rfl rfl (segName2_has n w1 (by omega)) ?_
    rintro _ _ ⟨rfl, rfl⟩
    refine go T 5 rfl ?_
    exact post1 (.inl rfl) rfl rfl ⟨hc1, rfl⟩
  | false =>
    refine go T 7 rfl ?_
    refine ldB T hg1 rfl rfl rfl rfl rfl rfl ?_
    refine go T 8 rfl ?_
    refine ldB T hg1 rfl rfl rfl rfl rfl rfl ?_
    refine o1 rfl ?_
    refine op_call rfl rfl rfl (rawName2_has n w1 (by omega)) ?_
    rintro _ _ ⟨rfl, rfl⟩
    refine go T 4 rfl ?_
    exact post1 (.inl rfl) rfl rfl ⟨hc1, rfl⟩
end Go.Proofs.YtiadjkjlifnopaaGreatDoor.Tryz
/-! Manifests of the call's own: Rewrite, Segs, Next, Old. -/
set_option linter.unusedVariables false
namespace Go.Proofs.YtiadjkjlifnopaaGreatDoor.Tryz
open Go Go.Vc
section
variable {w0 w w' : World} {gm g : Nat} {s s' : FsM} {p p' : FsP} {st : StM} {cl : Bool}
/-- A call of the files turns nothing of a manifest's. -/
theorem ManO.step (x : ManO w0 w gm g s p st cl) (hc : Chg (p.fp g) w w') (x' : FsO w0 w' g s' p') (hg : Grows w g p p') : ManO w0 w' gm g s' p' st cl := by
  obtain ⟨vs, vp, hm, hst⟩ := x.rows
  have hl := Blk.lt hm
  exact ⟨x', ⟨vs, vp, Blk.keep hm hc x.out, firm_grow hst (hc.mono (fun k hk _ => by simp [hk])) hg⟩, fun h => by
    rcases hg gm h with h | h
    · exact x.out h
    · omega, x.fresh⟩
end
section
variable {w0 w : World} {gm g : Nat} {s : FsM} {p : FsP} {st : StM}
theorem segsO_has (x : ManO w0 w gm g s p st false) (hb : st.segs.length ≤ 1000000) : Has Go.Proofs.Tryz.prog 27 #[.pointer (some ⟨gm, 0, none⟩)] w (fun v w' => Chg [] w w' ∧ Own w' 26 6 v st.segs.length (st.segs.flatMap segL) ∧ ∀ h, v.ownBlock = some h → w.heap.size ≤ h) := by
  obtain ⟨vs, vp, hm, hst⟩ := x.rows
  exact segsM_has hm st.segs hst.now.segs hb
theorem nextO_has (x : ManO w0 w gm g s p st false) : Has Go.Proofs.Tryz.prog 28 #[.pointer (some ⟨gm, 0, none⟩)] w (fun v w' => w' = w ∧ v = .int .i64 st.next) := by
  obtain ⟨vs, vp, hm, hst⟩ := x.rows
  exact nextM_has hm
end
end Go.Proofs.YtiadjkjlifnopaaGreatDoor.Tryz
/-! Regions that draw their order, several of whose operations turn blocks, one behind the other (the chain); the others turn none. J: what holds behind the first of the chain, their values being told; G: what one of the chain may do. -/
set_option linter.unusedSimpArgs false
set_option linter.unusedVariables false
namespace Go.Vc.H
open Go Go.RowKit Go.Vc

theorem OpW_mono' {P : Program} {N : Nat} {o : Oper} {e : Env} {w : World} {K K' : Value → World → Prop} (h : OpW P N o e w K) (hk : ∀ v w', K v w' → K' v w') : OpW P N o e w K' := by
  unfold OpW at *
  intro a ha K1 Q1 h1
  exact h a ha K1 Q1 (fun v w' hv => h1 v w' (hk v w' hv))
def VS.steady (G : World → World → Prop) : VS → Prop
  | .c _ => True
  | .r R => ∀ v w w', R v w → (Chg [] w w' ∨ G w w') → R v w'
/-- The place of an operation in the chain. -/
def place (chain : List Nat) (i : Nat) : Option Nat := chain.findIdx? (Nat.beq i)
theorem place_none {chain : List Nat} {i : Nat} (h : place chain i = none) : ∀ (k c : Nat), chain[k]? = some c → c ≠ i := fun k c hk e => by
  subst e
  have := List.findIdx?_eq_none_iff.1 h c (List.mem_of_getElem? hk)
  simp at this
theorem place_some {chain : List Nat} {i k : Nat} (h : place chain i = some k) : chain[k]? = some i := by
  obtain ⟨hk, h1, _⟩ := List.findIdx?_eq_some_iff_getElem.1 h
  rw [List.getElem?_eq_getElem hk]
  have := Nat.eq_of_beq_eq_true h1
  rw [← this]
/-- Each of the chain stands behind the one ahead of it, and none twice. -/
def chainOk (l : List Oper) (m : Nat) (chain : List Nat) : Bool :=
  (chain.zipIdx.all fun (c, k) => Nat.blt c m && (match l[c]? with
    | some o => (match k with
      | 0 => true
      | k + 1 => (match chain[k]? with
        | some c' => (predsOf o).contains c'
        | none => false))
    | none => false) && (chain.zipIdx.all fun (c', k') => Nat.beq k k' || !(Nat.beq c c')))
theorem chain_spec {l : List Oper} {m : Nat} {chain : List Nat} (h : chainOk l m chain = true) {k c : Nat} (hk : chain[k]? = some c) : c < m ∧ (∃ o, l[c]? = some o ∧ ∀ (k' c' : Nat), k = k' + 1 → chain[k']? = some c' → (predsOf o).contains c' = true) ∧ ∀ (k' c' : Nat), chain[k']? = some c' → c = c' → k = k' := by
  unfold chainOk at h
  have h1 := List.all_eq_true.1 h (c, k) (by rw [List.mem_zipIdx_iff_getElem?]; exact hk)
  simp only [Bool.and_eq_true] at h1
  obtain ⟨⟨h2, h3⟩, h4⟩ := h1
  refine ⟨by simpa [Nat.blt_eq] using h2, ?_, fun k' c' hk' e => ?_⟩
  · cases ho : l[c]? with
    | none => rw [ho] at h3; cases h3
    | some o =>
      rw [ho] at h3
      refine ⟨o, rfl, fun k' c' hk1 hc' => ?_⟩
      subst hk1
      dsimp only at h3
      rw [hc'] at h3
      exact h3
  · have h5 := List.all_eq_true.1 h4 (c', k') (by rw [List.mem_zipIdx_iff_getElem?]; exact hk')
    simp only [Bool.or_eq_true, Bool.not_eq_true'] at h5
    rcases h5 with h5 | h5
    · exact Nat.eq_of_beq_eq_true h5
    · rw [e] at h5; simp at h5

/-- How far the chain may be when operation i comes up. -/
def Far (l : List Oper) (chain : List Nat) (i : Nat) (o : Oper) (n : Nat) : Prop :=
  n ≤ chain.length ∧ (∀ (k c : Nat), chain[k]? = some c → (predsOf o).contains c = true → k < n) ∧ (∀ (k c : Nat) (oc : Oper), chain[k]? = some c → l[c]? = some oc → (predsOf oc).contains i = true → n ≤ k) ∧ ∀ (k : Nat), chain[k]? = some i → n ≤ k
/-- What is known when operation i comes up. -/
structure Here (l : List Oper) (chain : List Nat) (B : World → Prop) (J : List Value → World → Prop) (Vs : List VS) (i : Nat) (o : Oper) (val : Nat → Value) (us : List Value) (w : World) : Prop where
  base : B w
  inv : J us w
  far : Far l chain i o us.length
  vals : ∀ (k c : Nat) (u : Value), chain[k]? = some c → us[k]? = some u → val c = u
  hp : ∀ j, (predsOf o).contains j = true → ∀ oj, l[j]? = some oj → (vsAt Vs j).holds (valOf Vs val j) w
/-- What is asked of front operation i. -/
def FrontOp (P : Program) (N : Nat) (chain : List Nat) (G : World → World → Prop) (B : World → Prop) (J : List Value → World → Prop) (l : List Oper) (Vs : List VS) (e : Env) (i : Nat) (o : Oper) : Prop :=
  ∀ (val : Nat → Value) (us : List Value) (w1 : World), Here l chain B J Vs i o val us w1 →
    match place chain i with
    | some k => vsAt Vs i = .r (fun _ _ => True) ∧ o.guard = none ∧ OpW P N o (opEnv l Vs e i o val) w1 (fun v w' => G w1 w' ∧ B w' ∧ J (us ++ [v]) w')
    | none => match o.guard with
      | none => OpW P N o (opEnv l Vs e i o val) w1 (fun v w' => Chg [] w1 w' ∧ (vsAt Vs i).holds v w')
      | some (j, want) => ∃ b, (predsOf o).contains j = true ∧ ((l[j]?).bind (·.dst)).isSome = true ∧ (valOf Vs val j = .bool b ∨ (b = (!want) ∧ valOf Vs val j = undef)) ∧
          (b = want → OpW P N o (opEnv l Vs e i o val) w1 (fun v w' => Chg [] w1 w' ∧ (vsAt Vs i).holds v w')) ∧ (b = !want → (vsAt Vs i).holds undef w1)

/-- The state in the middle of a region. -/
structure Mid (N : Nat) (chain : List Nat) (B : World → Prop) (J : List Value → World → Prop) (l : List Oper) (m : Nat) (Vs : List VS) (e : Env) (listed : Array Bool) (a : Act) (w : World) : Prop where
  size : a.tmps.size = N
  defers : a.defers = []
  base : B w
  lsize : listed.size = l.length
  front : ∀ i, i < l.length → m ≤ i → listed.getD i true = false
  down : ∀ i o, l[i]? = some o → listed.getD i true = true → ∀ j, (predsOf o).contains j = true → listed.getD j false = true
  old : ∀ t v, look e t = some v → (∀ i o, l[i]? = some o → o.dst = some t → listed.getD i true = false) → a.tmps[t]? = some v
  vals : ∃ (val : Nat → Value) (us : List Value), J us w ∧ us.length ≤ chain.length ∧ (∀ (k c : Nat), chain[k]? = some c → (listed.getD c false = true ↔ k < us.length)) ∧ (∀ (k c : Nat) (u : Value), chain[k]? = some c → us[k]? = some u → val c = u) ∧
    (∀ i o d, l[i]? = some o → o.dst = some d → listed.getD i true = true → a.tmps[d]? = some (valOf Vs val i)) ∧ ∀ i o, l[i]? = some o → listed.getD i true = true → (vsAt Vs i).holds (valOf Vs val i) w

section
variable {P : Program} {N : Nat} {chain : List Nat} {G : World → World → Prop} {B : World → Prop} {J : List Value → World → Prop} {l : List Oper} {m : Nat} {Vs : List VS} {e : Env} {listed : Array Bool} {a : Act} {w : World}

theorem steady_holds {s : VS} (hs : VS.steady G s) {v : Value} {w w' : World} (h : s.holds v w) (hc : Chg [] w w' ∨ G w w') : s.holds v w' := by
  cases s with
  | c u => exact h
  | r R => exact hs v w w' h hc
theorem valOf_upd {Vs : List VS} {val : Nat → Value} {i j : Nat} {v : Value} (h : j ≠ i) : valOf Vs (fun k => if k = i then v else val k) j = valOf Vs val j := by
  unfold valOf
  split <;> simp [h]
theorem valOf_new {Vs : List VS} {val : Nat → Value} {i : Nat} {v : Value} {w : World} (h : (vsAt Vs i).holds v w) : valOf Vs (fun k => if k = i then v else val k) i = v := by
  unfold valOf
  unfold vsAt at h
  split
  · rename_i u hu
    rw [hu] at h
    exact h.symm
  · simp

/-- One front operation more. -/
theorem Mid.step (hdst : dstsOk N l = true) (hch : chainOk l m chain = true) (hJ : ∀ us w w', J us w → Chg [] w w' → J us w') (hB : ∀ w w', B w → Chg [] w w' → B w') (hst : ∀ i, VS.steady G (vsAt Vs i)) (hM : Mid N chain B J l m Vs e listed a w) {i : Nat} {o : Oper} (ho : l[i]? = some o) (him : i < m) (hun : listed.getD i true = false)
    (hpre : ∀ j, (predsOf o).contains j = true → listed.getD j false = true) {v : Value} {w' : World} {val : Nat → Value} {us : List Value}
    (h1 : us.length ≤ chain.length) (h2 : ∀ (k c : Nat), chain[k]? = some c → (listed.getD c false = true ↔ k < us.length)) (h3 : ∀ (k c : Nat) (u : Value), chain[k]? = some c → us[k]? = some u → val c = u)
    (h4 : ∀ i o d, l[i]? = some o → o.dst = some d → listed.getD i true = true → a.tmps[d]? = some (valOf Vs val i)) (h5 : ∀ i o, l[i]? = some o → listed.getD i true = true → (vsAt Vs i).holds (valOf Vs val i) w)
    (hnew : (vsAt Vs i).holds v w') (hgo : (place chain i = none ∧ Chg [] w w' ∧ J us w) ∨ (∃ k, place chain i = some k ∧ us.length = k ∧ G w w' ∧ B w' ∧ J (us ++ [v]) w')) :
    Mid N chain B J l m Vs e (listed.setIfInBounds i true) (a.put o.dst v) w' := by
  have hi : i < listed.size := by rw [hM.lsize]; exact (List.getElem?_eq_some_iff.1 ho).1
  have hcg : Chg [] w w' ∨ G w w' := by
    rcases hgo with h | ⟨k, h⟩
    · exact .inl h.2.1
    · exact .inr h.2.2.1
  have hput : ∀ k ok d u, l[k]? = some ok → ok.dst = some d → k ≠ i → a.tmps[d]? = some u → (a.put o.dst v).tmps[d]? = some u := fun k ok d u hok hd hki hu => by
    cases hdo : o.dst with
    | none => simpa [Act.put] using hu
    | some d' =>
      have hne : d' ≠ d := fun h => by
        subst h
        exact hki ((dsts_spec hdst ho hdo).2 k ok hok hd)
      simp only [Act.put, Array.getElem?_setIfInBounds_ne hne]
      exact hu
  refine ⟨by cases hd : o.dst <;> simp [Act.put, hM.size], by cases hd : o.dst <;> simp [Act.put, hM.defers], ?_, by simp [hM.lsize], fun k hk hmk => ?_, fun k ok hok hlk j hj => ?_, fun t u hu hall => ?_, ?_⟩
  · rcases hgo with h | ⟨k, h⟩
    · exact hB _ _ hM.base h.2.1
    · exact h.2.2.2.1
  · rw [getD_set hi, if_neg (by omega)]; exact hM.front k hk hmk
  · rw [getD_set hi] at hlk ⊢
    by_cases hij : i = j
    · rw [if_pos hij]
    · rw [if_neg hij]
      by_cases hik : i = k
      · subst hik
        rw [ho] at hok; injection hok with hok; subst hok
        exact hpre j hj
      · rw [if_neg hik] at hlk
        exact hM.down k ok hok hlk j hj
  · have h1 := hM.old t u hu (fun k ok hok hd => by
      have := hall k ok hok hd
      rw [getD_set hi] at this
      split at this
      · cases this
      · exact this)
    cases hd : o.dst with
    | none => simpa [Act.put] using h1
    | some d =>
      have hne : d ≠ t := fun h => by
        subst h
        have := hall i o ho hd
        rw [getD_set hi, if_pos rfl] at this
        cases this
      simp only [Act.put, Array.getElem?_setIfInBounds_ne hne]
      exact h1
  · have hval : ∀ k ok d, l[k]? = some ok → ok.dst = some d → (listed.setIfInBounds i true).getD k true = true → (a.put o.dst v).tmps[d]? = some (valOf Vs (fun k => if k = i then v else val k) k) := fun k ok d hok hd hlk => by
      rw [getD_set hi] at hlk
      by_cases hik : i = k
      · subst hik
        rw [ho] at hok; injection hok with hok; subst hok
        have := (dsts_spec hdst ho hd).1
        rw [valOf_new hnew]
        simp [Act.put, hd, hM.size, this]
      · rw [if_neg hik] at hlk
        rw [valOf_upd (fun h => hik h.symm)]
        exact hput k ok d _ hok hd (fun h => hik h.symm) (h4 k ok d hok hd hlk)
    have hhold : ∀ k ok, l[k]? = some ok → (listed.setIfInBounds i true).getD k true = true → (vsAt Vs k).holds (valOf Vs (fun k => if k = i then v else val k) k) w' := fun k ok hok hlk => by
      rw [getD_set hi] at hlk
      by_cases hik : i = k
      · subst hik
        rw [valOf_new hnew]; exact hnew
      · rw [if_neg hik] at hlk
        rw [valOf_upd (fun h => hik h.symm)]
        exact steady_holds (hst k) (h5 k ok hok hlk) hcg
    rcases hgo with ⟨hn, hc, hj⟩ | ⟨k0, hk0, hus, hg, hb, hj⟩
    · have hne := place_none hn
      refine ⟨fun k => if k = i then v else val k, us, hJ _ _ _ hj hc, h1, fun k c hkc => ?_, fun k c u hkc hu => ?_, hval, hhold⟩
      · rw [getD_set hi, if_neg (fun h => hne k c hkc h.symm)]
        exact h2 k c hkc
      · simp only [if_neg (hne k c hkc)]
        exact h3 k c u hkc hu
    · have hki := place_some hk0
      have hlen := (List.getElem?_eq_some_iff.1 hki).1
      refine ⟨fun k => if k = i then v else val k, us ++ [v], hj, by rw [List.length_append, List.length_singleton]; omega, fun k c hkc => ?_, fun k c u hkc hu => ?_, hval, hhold⟩
      · rw [getD_set hi, List.length_append, List.length_singleton]
        by_cases hic : i = c
        · subst hic
          have := (chain_spec hch hkc).2.2 k0 i hki rfl
          rw [if_pos rfl]
          simp; omega
        · rw [if_neg hic, h2 k c hkc]
          have : k ≠ k0 := fun h => by
            subst h
            rw [hki] at hkc
            injection hkc with hkc
            exact hic hkc
          omega
      · by_cases hic : c = i
        · subst hic
          have hk := (chain_spec hch hkc).2.2 k0 c hki rfl
          subst hk
          rw [List.getElem?_append_right (by omega), hus, Nat.sub_self] at hu
          injection hu with hu
          simp [hu]
        · simp only [if_neg hic]
          have hkk : k ≠ k0 := fun h => by
            subst h
            rw [hki] at hkc
            injection hkc with hkc
            exact hic hkc.symm
          have hklt : k < us.length := by
            have := (List.getElem?_eq_some_iff.1 hu).1
            rw [List.length_append, List.length_singleton] at this
            omega
          rw [List.getElem?_append_left hklt] at hu
          exact h3 k c u hkc hu

theorem Mid.fits (hdst : dstsOk N l = true) (hM : Mid N chain B J l m Vs e listed a w) {i : Nat} {o : Oper} (ho : l[i]? = some o) (hun : listed.getD i true = false)
    (hpre : ∀ j, (predsOf o).contains j = true → listed.getD j false = true) {val : Nat → Value}
    (hval : ∀ i o d, l[i]? = some o → o.dst = some d → listed.getD i true = true → a.tmps[d]? = some (valOf Vs val i)) :
    Fits N (opEnv l Vs e i o val) a := by
  refine ⟨hM.size, hM.defers, fun t v hv => ?_⟩
  unfold opEnv at hv
  rw [look_append] at hv
  cases hp : look (predEnv l Vs val (predsOf o)) t with
  | some u =>
    rw [hp] at hv
    simp at hv
    subst hv
    obtain ⟨j, oj, hj, hoj, hd, rfl⟩ := look_predEnv val _ _ _ hp
    have h1 := hpre j (by simpa using hj)
    have h2 : listed.getD j true = true := by
      have : j < listed.size := by rw [hM.lsize]; exact (List.getElem?_eq_some_iff.1 hoj).1
      simpa [Array.getD_eq_getD_getElem?, this] using h1
    exact hval j oj t hoj hd h2
  | none =>
    rw [hp] at hv
    simp at hv
    obtain ⟨h1, h2⟩ := look_filter hv
    refine hM.old t v h1 (fun k ok hok hd => ?_)
    unfold freeAt at h2
    have h3 := List.all_eq_true.1 h2 (ok, k) (by rw [List.mem_zipIdx_iff_getElem?]; exact hok)
    simp only [hd, Bool.or_eq_true] at h3
    rcases h3 with (h3 | h3) | h3
    · simp at h3
    · cases hlk : listed.getD k true with
      | false => rfl
      | true =>
        have := hM.down k ok hok hlk i h3
        have hi : i < listed.size := by rw [hM.lsize]; exact (List.getElem?_eq_some_iff.1 ho).1
        simp [Array.getD_eq_getD_getElem?, hi] at this hun
        rw [this] at hun; cases hun
    · have : k = i := Nat.eq_of_beq_eq_true h3
      subst this
      exact hun

/-- Once operation m may come up, all front operations have. -/
theorem tail_all (h : tailOk m l = true) (hM : Mid N chain B J l m Vs e listed a w) {o : Oper} (ho : l[m]? = some o) (hpre : ∀ j, (predsOf o).contains j = true → listed.getD j false = true) :
    ∀ k, k < m → listed.getD k false = true := by
  unfold tailOk at h
  rw [ho] at h
  simp only [Bool.and_eq_true] at h
  have hc := h.1.2
  have key : ∀ n k, m - k ≤ n → k < m → listed.getD k false = true := by
    intro n
    induction n with
    | zero => intro k h1 h2; omega
    | succ n ih =>
      intro k h1 h2
      have h3 := List.all_eq_true.1 hc k (by simpa using h2)
      obtain ⟨c, hcm, h4⟩ := List.any_eq_true.1 h3
      simp only [Bool.and_eq_true] at h4
      have hkc : k < c := by simpa [Nat.blt_eq] using h4.1
      have hcm' : c < m + 1 := by simpa using hcm
      cases hoc : l[c]? with
      | none => simp [hoc] at h4
      | some oc =>
        simp only [hoc] at h4
        by_cases hcc : c = m
        · subst hcc
          rw [ho] at hoc; injection hoc with hoc; subst hoc
          exact hpre k h4.2
        · have h5 := ih c (by omega) (by omega)
          have hlt : c < listed.size := by rw [hM.lsize]; exact (List.getElem?_eq_some_iff.1 hoc).1
          have h6 : listed.getD c true = true := by
            simp [Array.getD_eq_getD_getElem?, hlt] at h5 ⊢; exact h5
          exact hM.down c oc hoc h6 k h4.2
  exact fun k hk => key (m - k) k (Nat.le_refl _) hk

theorem Mid.full (hM : Mid N chain B J l m Vs e listed a w) (hall : ∀ k, k < m → listed.getD k true = true) {val : Nat → Value}
    (hval : ∀ i o d, l[i]? = some o → o.dst = some d → listed.getD i true = true → a.tmps[d]? = some (valOf Vs val i)) :
    Fits N (frontEnv Vs val 0 m l ++ e) a := by
  refine ⟨hM.size, hM.defers, fun t v hv => ?_⟩
  rw [look_append] at hv
  cases hp : look (frontEnv Vs val 0 m l) t with
  | some u =>
    rw [hp] at hv; simp at hv; subst hv
    obtain ⟨j, o, hj, ho, hd, rfl⟩ := look_frontEnv val _ _ _ _ _ hp
    rw [Nat.zero_add]
    exact hval j o t ho hd (hall j hj)
  | none =>
    rw [hp] at hv; simp at hv
    refine hM.old t v hv (fun i o ho hd => ?_)
    by_cases hi : i < m
    · exact absurd hd (look_front_none l 0 m hp i o hi ho)
    · exact hM.front i (List.getElem?_eq_some_iff.1 ho).1 (by omega)

/-- The end: all of the chain has come up. -/
def EndOk (P : Program) (N : Nat) (chain : List Nat) (B : World → Prop) (J : List Value → World → Prop) (l : List Oper) (m : Nat) (e : Env) (Q : Post) (Vs : List VS) : Prop :=
  ∀ (val : Nat → Value) (us : List Value) (w1 : World), B w1 → J us w1 → us.length = chain.length → (∀ (k c : Nat) (u : Value), chain[k]? = some c → us[k]? = some u → val c = u) → (∀ i, i < m → ∀ o, l[i]? = some o → (vsAt Vs i).holds (valOf Vs val i) w1) → WL P N l.toArray (l.drop m) Q (frontEnv Vs val 0 m l ++ e) w1
theorem mid_any {Q : Post} (hdst : dstsOk N l = true) (htl : tailOk m l = true) (hch : chainOk l m chain = true) (hJ : ∀ us w w', J us w → Chg [] w w' → J us w') (hB : ∀ w w', B w → Chg [] w w' → B w') (hst : ∀ i, VS.steady G (vsAt Vs i))
    (hfront : ∀ i o, i < m → l[i]? = some o → FrontOp P N chain G B J l Vs e i o) (hend : EndOk P N chain B J l m e Q Vs) :
    ∀ (fuel : Nat) (listed : Array Bool) (a : Act) (w : World), openCount listed l.length = fuel → Mid N chain B J l m Vs e listed a w → wpAny P .any l.toArray (Lift N Q) fuel listed a w := by
  have hml : m ≤ l.length := by
    unfold tailOk at htl
    simp only [Bool.and_eq_true] at htl
    exact Nat.le_of_ble_eq_true htl.1.1
  -- all front operations have come up: the tail
  have hdone : ∀ (listed : Array Bool) (a : Act) (w : World), Mid N chain B J l m Vs e listed a w → (∀ k, k < m → listed.getD k true = true) → wpAny P .any l.toArray (Lift N Q) (l.drop m).length listed a w := by
    intro listed a w hM hall
    obtain ⟨val, us, h0, h1, h2, h3, h4, h5⟩ := hM.vals
    have hlen : us.length = chain.length := by
      rcases Nat.lt_or_ge us.length chain.length with hlt | hge
      · exfalso
        have hc := List.getElem?_eq_getElem hlt
        have hcm := (chain_spec hch hc).1
        have hl := hall _ hcm
        have hsz : chain[us.length] < listed.size := by rw [hM.lsize]; omega
        have := (h2 _ _ hc).1 (by simp [Array.getD_eq_getD_getElem?, hsz] at hl ⊢; exact hl)
        omega
      · omega
    have hW := hend val us w hM.base h0 hlen h3 (fun i hi o ho => h5 i o ho (hall i hi))
    unfold WL at hW
    refine tail_any htl (l.drop m) m listed a w (Nat.le_refl _) rfl hM.lsize (fun k hk => ?_) (hW a (hM.full hall h4))
    by_cases hkm : k < m
    · rw [hall k hkm]; simp [hkm]
    · rw [hM.front k hk (by omega)]; simp [hkm]
  have hcount : ∀ (listed : Array Bool), (∀ k, k < m → listed.getD k true = true) → (∀ i, i < l.length → m ≤ i → listed.getD i true = false) → openCount listed l.length = (l.drop m).length := by
    intro listed h1 h2
    have : ∀ n, n ≤ l.length → openCount listed n = n - m := by
      intro n
      induction n with
      | zero => intro _; simp [openCount]
      | succ n ih =>
        intro hn
        simp only [openCount]
        rw [ih (by omega)]
        by_cases hnm : n < m
        · rw [h1 n hnm]; simp; omega
        · rw [h2 n (by omega) (by omega)]; simp; omega
    rw [this _ (Nat.le_refl _)]; simp
  intro fuel
  induction fuel with
  | zero =>
    intro listed a w hcnt hM
    have hall : ∀ k, k < l.length → listed.getD k true = true := by
      have : ∀ n, openCount listed n = 0 → ∀ k, k < n → listed.getD k true = true := by
        intro n
        induction n with
        | zero => intro _ k hk; omega
        | succ n ih =>
          intro h k hk
          simp only [openCount] at h
          by_cases hkn : k = n
          · subst hkn
            cases hx : listed.getD k true with
            | true => rfl
            | false => rw [hx] at h; simp at h
          · exact ih (by omega) k (by omega)
      exact this _ hcnt
    have hd := hdone listed a w hM (fun k hk => hall k (by omega))
    rw [← hcount listed (fun k hk => hall k (by omega)) hM.front, hcnt] at hd
    exact hd
  | succ fuel ih =>
    intro listed a w hcnt hM
    by_cases hall : ∀ k, k < m → listed.getD k true = true
    · have hd := hdone listed a w hM hall
      rw [← hcount listed hall hM.front, hcnt] at hd
      exact hd
    · -- some front operation is open: the least one may come up; and whatever may come up is a front operation
      have hready : ∀ i, i ∈ Region.ready .any l.toArray listed → i < m := by
        intro i hi
        obtain ⟨o, ho, hun, hpre⟩ := ready_spec hi
        rcases Nat.lt_or_ge i m with h | h
        · exact h
        · exfalso
          have hil := (List.getElem?_eq_some_iff.1 ho).1
          rcases Nat.lt_or_ge m i with h2 | h2
          · have h3 := hpre (i - 1) ((tail_preds htl ho).1 h2)
            have h4 := hM.front (i - 1) (by omega) (by omega)
            have hsz : i - 1 < listed.size := by rw [hM.lsize]; omega
            simp [Array.getD_eq_getD_getElem?, hsz] at h3 h4
            rw [h3] at h4; cases h4
          · have hmi : i = m := by omega
            subst hmi
            refine hall (fun k hk => ?_)
            have h3 := tail_all htl hM ho hpre k hk
            have hsz : k < listed.size := by rw [hM.lsize]; omega
            simp [Array.getD_eq_getD_getElem?, hsz] at h3 ⊢; exact h3
      refine ⟨fun hnil => ?_, fun i hi => ?_⟩
      · exfalso
        have hmin : ∃ k, k < m ∧ listed.getD k true = false ∧ ∀ j, j < k → listed.getD j true = true := by
          have : ∀ n, (∃ k, k < n ∧ ¬ listed.getD k true = true) → ∃ k, k < n ∧ listed.getD k true = false ∧ ∀ j, j < k → listed.getD j true = true := by
            intro n
            induction n with
            | zero => rintro ⟨k, hk, _⟩; omega
            | succ n ih =>
              rintro ⟨k, hk, hx⟩
              by_cases hex : ∃ k, k < n ∧ ¬ listed.getD k true = true
              · obtain ⟨k', h1, h2, h3⟩ := ih hex
                exact ⟨k', by omega, h2, h3⟩
              · have hkn : k = n := by
                  rcases Nat.lt_or_ge k n with h | h
                  · exact absurd ⟨k, h, hx⟩ hex
                  · omega
                subst hkn
                refine ⟨k, by omega, by simpa using hx, fun j hj => ?_⟩
                cases hxj : listed.getD j true with
                | true => rfl
                | false => exact absurd ⟨j, hj, by simp [hxj]⟩ hex
          have hex : ∃ k, k < m ∧ ¬ listed.getD k true = true := by
            refine Classical.byContradiction fun hno => hall fun k hk => ?_
            cases hx : listed.getD k true with
            | true => rfl
            | false => exact absurd ⟨k, hk, by simp [hx]⟩ hno
          exact this m hex
        obtain ⟨k, hkm, hku, hkl⟩ := hmin
        have hkl' : k < l.length := by omega
        have ho : l[k]? = some l[k] := List.getElem?_eq_getElem hkl'
        have : k ∈ Region.ready .any l.toArray listed := by
          unfold Region.ready
          simp only [List.mem_filter, List.mem_range, Bool.and_eq_true, Bool.not_eq_true']
          refine ⟨by simpa using hkl', hku, ?_⟩
          simp [hkl']
          intro q hq
          by_cases hb : Region.binds .any l[k].after[q] = true
          · refine .inr ?_
            have hlt := (tail_preds htl ho).2 (l[k].after[q]).on (by
              simp only [predsOf, List.contains_eq_mem, List.mem_map, List.mem_filter, decide_eq_true_eq]
              exact ⟨l[k].after[q], ⟨by simp, hb⟩, rfl⟩)
            have h2 := hkl (l[k].after[q]).on hlt
            have hsz : (l[k].after[q]).on < listed.size := by rw [hM.lsize]; omega
            simp [Array.getD_eq_getD_getElem?, hsz] at h2 ⊢
            exact h2
          · exact .inl (by simpa using hb)
        rw [hnil] at this; cases this
      · have him := hready i hi
        obtain ⟨o, ho, hun, hpre⟩ := ready_spec hi
        have hlit : l.toArray[i]? = some o := by simpa using ho
        obtain ⟨val, us, h0, h1, h2, h3, h4, h5⟩ := hM.vals
        have hfit := hM.fits hdst ho hun hpre h4
        have hisz : i < listed.size := by rw [hM.lsize]; exact (List.getElem?_eq_some_iff.1 ho).1
        have hil := (List.getElem?_eq_some_iff.1 ho).1
        have hun' : listed.getD i false = false := by simp [Array.getD_eq_getD_getElem?, hisz] at hun ⊢; exact hun
        have hpt : ∀ j, (predsOf o).contains j = true → ∀ oj, l[j]? = some oj → listed.getD j true = true := fun j hj oj hoj => by
          have h := hpre j hj
          have hsz : j < listed.size := by rw [hM.lsize]; exact (List.getElem?_eq_some_iff.1 hoj).1
          simp [Array.getD_eq_getD_getElem?, hsz] at h ⊢; exact h
        have hhere : Here l chain B J Vs i o val us w := by
          refine ⟨hM.base, h0, ⟨h1, fun k c hkc hcp => ?_, fun k c oc hkc hoc hic => ?_, fun k hki => ?_⟩, h3, fun j hj oj hoj => h5 j oj hoj (hpt j hj oj hoj)⟩
          · exact (h2 k c hkc).1 (hpre c hcp)
          · rcases Nat.lt_or_ge k us.length with hlt | hge
            · exfalso
              have hl := (h2 k c hkc).2 hlt
              have hsz : c < listed.size := by rw [hM.lsize]; exact (List.getElem?_eq_some_iff.1 hoc).1
              have := hM.down c oc hoc (by simp [Array.getD_eq_getD_getElem?, hsz] at hl ⊢; exact hl) i hic
              rw [hun'] at this; cases this
            · exact hge
          · rcases Nat.lt_or_ge k us.length with hlt | hge
            · have := (h2 k i hki).2 hlt
              rw [hun'] at this; cases this
            · exact hge
        have hF := hfront i o him ho val us w hhere
        cases hpl : place chain i with
        | some k =>
          rw [hpl] at hF
          obtain ⟨hvs, hg, hop⟩ := hF
          have hki := place_some hpl
          have hlen : us.length = k := by
            have hle := hhere.far.2.2.2 k hki
            rcases Nat.lt_or_ge us.length k with hlt | hge
            · exfalso
              obtain ⟨k', rfl⟩ : ∃ k', k = k' + 1 := ⟨k - 1, by omega⟩
              obtain ⟨o', ho', hprev⟩ := (chain_spec hch hki).2.1
              rw [ho] at ho'; injection ho' with ho'; subst ho'
              have hkl := (List.getElem?_eq_some_iff.1 hki).1
              have hc' := List.getElem?_eq_getElem (show k' < chain.length by omega)
              have := hhere.far.2.1 k' _ hc' (hprev k' _ rfl hc')
              omega
            · omega
          have hgo : ∀ v w', (G w w' ∧ B w' ∧ J (us ++ [v]) w') → wpAny P .any l.toArray (Lift N Q) fuel (listed.setIfInBounds i true) (a.put o.dst v) w' := fun v w' ⟨hG, hB', hJ'⟩ =>
            ih _ _ _ (by have := openCount_set hisz hun l.length hil; omega) (hM.step hdst hch hJ hB hst ho him hun hpre h1 h2 h3 h4 h5 (by rw [hvs]; trivial) (.inr ⟨k, hpl, hlen, hG, hB', hJ'⟩))
          unfold wpOp
          rw [hlit]
          simp only
          have hwa : Region.wanted o (yielded l.toArray a.tmps) = true := by simp [Region.wanted, hg]
          rw [if_pos hwa]
          unfold OpW at hop
          exact .inl (hop a hfit _ _ hgo)
        | none =>
        rw [hpl] at hF
        have hgo : ∀ v w', Chg [] w w' ∧ (vsAt Vs i).holds v w' → wpAny P .any l.toArray (Lift N Q) fuel (listed.setIfInBounds i true) (a.put o.dst v) w' := fun v w' ⟨hc, hv⟩ =>
          ih _ _ _ (by have := openCount_set hisz hun l.length hil; omega) (hM.step hdst hch hJ hB hst ho him hun hpre h1 h2 h3 h4 h5 hv (.inl ⟨hpl, hc, h0⟩))
        unfold wpOp
        rw [hlit]
        simp only
        cases hg : o.guard with
        | none =>
          rw [hg] at hF
          have hwa : Region.wanted o (yielded l.toArray a.tmps) = true := by simp [Region.wanted, hg]
          rw [if_pos hwa]
          unfold OpW at hF
          exact .inl (hF a hfit _ _ hgo)
        | some g =>
          obtain ⟨j, want⟩ := g
          rw [hg] at hF
          obtain ⟨b, hj, hjd, hb, hq1, hq2⟩ := hF
          have hwa : Region.wanted o (yielded l.toArray a.tmps) = (b == want) := by
            cases hoj : l[j]? with
            | none => simp [hoj] at hjd
            | some oj =>
              cases hd : oj.dst with
              | none => simp [hoj, hd] at hjd
              | some d =>
                have := h4 j oj d hoj hd (hpt j hj oj hoj)
                unfold Region.wanted yielded
                rcases hb with hb | ⟨hbw, hb⟩
                · rw [hb] at this
                  simp only [hg, List.getElem?_toArray, hoj, Option.bind_some, hd, this]
                  cases b <;> cases want <;> rfl
                · rw [hb] at this
                  simp only [hg, List.getElem?_toArray, hoj, Option.bind_some, hd, this]
                  subst hbw
                  cases want <;> rfl
          rw [hwa]
          by_cases hbw : b = want
          · subst hbw
            rw [if_pos (by simp)]
            have hq3 := hq1 rfl
            unfold OpW at hq3
            exact .inl (hq3 a hfit _ _ hgo)
          · have hbn : b = !want := by cases b <;> cases want <;> first | rfl | exact absurd rfl hbw
            rw [if_neg (by simpa using hbw)]
            exact hgo undef w ⟨Chg.refl _ _, hq2 hbn⟩


def Steadys (G : World → World → Prop) : List VS → Prop
  | [] => True
  | s :: r => VS.steady G s ∧ Steadys G r
theorem Steadys.at : ∀ {Vs : List VS}, Steadys G Vs → ∀ i, VS.steady G (vsAt Vs i)
  | [], _, i => by simp [vsAt, VS.steady]
  | s :: r, h, 0 => h.1
  | s :: r, h, i + 1 => Steadys.at h.2 i
theorem Steadys.snoc {s : VS} : ∀ {Vs : List VS}, Steadys G Vs → VS.steady G s → Steadys G (Vs ++ [s])
  | [], _, h => ⟨h, trivial⟩
  | a :: A, hf, h => ⟨hf.1, Steadys.snoc hf.2 h⟩
/-- Operation i, what the elder ones leave being Vs; it leaves s. -/
def StepP (P : Program) (N : Nat) (chain : List Nat) (G : World → World → Prop) (B : World → Prop) (J : List Value → World → Prop) (l : List Oper) (Vs : List VS) (e : Env) (i : Nat) (o : Oper) (s : VS) : Prop :=
  ∀ (val : Nat → Value) (us : List Value) (w1 : World), Here l chain B J Vs i o val us w1 →
    match place chain i with
    | some k => s = .r (fun _ _ => True) ∧ o.guard = none ∧ OpW P N o (opEnv l Vs e i o val) w1 (fun v w' => G w1 w' ∧ B w' ∧ J (us ++ [v]) w')
    | none => match o.guard with
      | none => OpW P N o (opEnv l Vs e i o val) w1 (fun v w' => Chg [] w1 w' ∧ s.holds v w')
      | some (j, want) => ∃ b, (predsOf o).contains j = true ∧ ((l[j]?).bind (·.dst)).isSome = true ∧ (valOf Vs val j = .bool b ∨ (b = (!want) ∧ valOf Vs val j = undef)) ∧
          (b = want → OpW P N o (opEnv l Vs e i o val) w1 (fun v w' => Chg [] w1 w' ∧ s.holds v w')) ∧ (b = !want → s.holds undef w1)
def Walk (P : Program) (N : Nat) (chain : List Nat) (G : World → World → Prop) (B : World → Prop) (J : List Value → World → Prop) (l : List Oper) (e : Env) (fin : List VS → Prop) : Nat → List Oper → List VS → Prop
  | _, [], Vs => fin Vs
  | i, o :: r, Vs => ∃ s : VS, VS.steady G s ∧ StepP P N chain G B J l Vs e i o s ∧ Walk P N chain G B J l e fin (i + 1) r (Vs ++ [s])
theorem walk_front (htl : tailOk m l = true) (hml : m ≤ l.length) {fin : List VS → Prop} : ∀ (r : List Oper) (i : Nat) (Vs : List VS), Vs.length = i → (l.take m).drop i = r → Steadys G Vs → Walk P N chain G B J l e fin i r Vs →
    ∃ rest : List VS, rest.length = r.length ∧ Steadys G (Vs ++ rest) ∧ fin (Vs ++ rest) ∧ ∀ k o, r[k]? = some o → FrontOp P N chain G B J l (Vs ++ rest) e (i + k) o
  | [], i, Vs, hi, hr, hf, h => ⟨[], rfl, by simpa using hf, by simpa [Walk] using h, fun k o hk => by simp at hk⟩
  | o :: r, i, Vs, hi, hr, hf, h => by
    obtain ⟨s, hs, hst, hw⟩ := h
    have hr' : (l.take m).drop (i + 1) = r := by rw [← List.drop_drop, hr]; rfl
    have hf' : Steadys G (Vs ++ [s]) := hf.snoc hs
    obtain ⟨rest, hl, h1, h2, h3⟩ := walk_front htl hml r (i + 1) (Vs ++ [s]) (by simp [hi]) hr' hf' hw
    rw [List.append_assoc] at h1 h2 h3
    refine ⟨s :: rest, by simp [hl], h1, h2, fun k ok hk => ?_⟩
    cases k with
    | zero =>
      simp at hk
      subst hk
      rw [Nat.add_zero]
      have ho : l[i]? = some o := by
        have h4 : ((l.take m).drop i)[0]? = some o := by rw [hr]; rfl
        rw [List.getElem?_drop, Nat.add_zero, List.getElem?_take] at h4
        split at h4
        · exact h4
        · cases h4
      have hpl : ∀ j, (predsOf o).contains j = true → j < Vs.length := fun j hj => by rw [hi]; exact (tail_preds htl ho).2 j hj
      have hpe : ∀ val, opEnv l (Vs ++ s :: rest) e i o val = opEnv l Vs e i o val := fun val => by
        unfold opEnv; rw [predEnv_append _ (fun j hj => hpl j (by simpa using hj))]
      have hvs : vsAt (Vs ++ s :: rest) i = s := by rw [← hi]; exact vsAt_at
      intro val us w1 hh
      have hq := hst val us w1 ⟨hh.base, hh.inv, hh.far, hh.vals, fun j hj oj h5 => by
        have := hh.hp j hj oj h5
        rw [vsAt_append (hpl j hj), valOf_append (hpl j hj)] at this; exact this⟩
      rw [hpe val, hvs]
      cases hplc : place chain i with
      | some k => rw [hplc] at hq; exact hq
      | none =>
        rw [hplc] at hq
        cases hg : o.guard with
        | none => rw [hg] at hq; exact hq
        | some g =>
          obtain ⟨j, want⟩ := g
          rw [hg] at hq
          obtain ⟨b, h5, h6, h7, h8, h9⟩ := hq
          exact ⟨b, h5, h6, by rw [valOf_append (hpl j h5)]; exact h7, h8, h9⟩
    | succ k =>
      have := h3 k ok (by simpa using hk)
      rw [show i + (k + 1) = i + 1 + k from by omega]; exact this
/-- **A region that draws, walked in the text's order.** -/
theorem W_walkc {id : Nat} {Q : Post} (m : Nat) (chain : List Nat) (G : World → World → Prop) (B : World → Prop) (J : List Value → World → Prop) (hfol : P.follows .mixedOrders = true) (hdst : dstsOk N l = true) (htl : tailOk m l = true) (hch : chainOk l m chain = true)
    (hJ : ∀ us w w', J us w → Chg [] w w' → J us w') (hB : ∀ w w', B w → Chg [] w w' → B w') (hB0 : B w) (hJ0 : J [] w) (h : Walk P N chain G B J l e (EndOk P N chain B J l m e Q) 0 (l.take m) []) :
    W P N (.region id l.toArray true) Q e w := by
  have hml : m ≤ l.length := by
    have h2 := htl
    unfold tailOk at h2
    simp only [Bool.and_eq_true] at h2
    exact Nat.le_of_ble_eq_true h2.1.1
  obtain ⟨rest, hl, h1, h2, h3⟩ := walk_front htl hml (l.take m) 0 [] rfl (by simp) trivial h
  rw [List.nil_append] at h1 h2 h3
  unfold W
  intro a ha
  refine wp_region_any hfol ?_
  have hc0 : openCount (Array.replicate l.length false) l.length = l.length := by
    have : ∀ n, n ≤ l.length → openCount (Array.replicate l.length false) n = n := by
      intro n
      induction n with
      | zero => intro _; rfl
      | succ n ih =>
        intro hn
        have h1 : (Array.replicate l.length false).getD n true = false := by rw [Array.getD_eq_getD_getElem?, Array.getElem?_replicate, if_pos (by omega)]; rfl
        simp only [openCount]; rw [ih (by omega), h1]; rfl
    exact this _ (Nat.le_refl _)
  have hno : ∀ i o, l[i]? = some o → (Array.replicate l.length false).getD i true = false := fun i o ho => by
    have hi := (List.getElem?_eq_some_iff.1 ho).1
    simp [Array.getD_eq_getD_getElem?, hi]
  have hM : Mid N chain B J l m rest e (Array.replicate l.length false) a { w with drawn := w.drawn + 1 } := by
    refine ⟨ha.size, ha.defers, hB _ _ hB0 (Chg.drawn [] w _), by simp, fun i hi _ => by simp [Array.getD_eq_getD_getElem?, hi], fun i o ho hl => ?_, fun t v hv _ => ha.look t v hv, fun _ => undef, [], hJ _ _ _ hJ0 (Chg.drawn [] w _), Nat.zero_le _, fun k c hkc => ?_, fun k c u _ hu => by simp at hu, fun i o d ho _ hl => ?_, fun i o ho hl => ?_⟩
    · rw [hno i o ho] at hl; cases hl
    · have hcm := (chain_spec hch hkc).1
      have : c < l.length := by omega
      simp [Array.getD_eq_getD_getElem?, this]
    · rw [hno i o ho] at hl; cases hl
    · rw [hno i o ho] at hl; cases hl
  have := mid_any (P := P) (Q := Q) hdst htl hch hJ hB (fun i => h1.at i) (fun i o him ho => by
    have := h3 i o (by rw [List.getElem?_take, if_pos him]; exact ho)
    rwa [Nat.zero_add] at this) h2 l.length _ _ _ hc0 hM
  simpa using this
theorem Walk.plain {fin : List VS → Prop} {i : Nat} {r : List Oper} {Vs : List VS} {o : Oper} {v : Value} (hc : place chain i = none) (hg : o.guard = none)
    (h : ∀ (val : Nat → Value) (us : List Value) (w1 : World), Here l chain B J Vs i o val us w1 → OpW P N o (opEnv l Vs e i o val) w1 (fun u w' => Chg [] w1 w' ∧ u = v))
    (hr : Walk P N chain G B J l e fin (i + 1) r (Vs ++ [.c v])) : Walk P N chain G B J l e fin i (o :: r) Vs := by
  refine ⟨.c v, trivial, fun val us w1 hh => ?_, hr⟩
  rw [hc, hg]
  exact h val us w1 hh
theorem Walk.rel {fin : List VS → Prop} {i : Nat} {r : List Oper} {Vs : List VS} {o : Oper} (hc : place chain i = none) (R : Value → World → Prop) (hg : o.guard = none) (hR : ∀ v w w', R v w → (Chg [] w w' ∨ G w w') → R v w')
    (h : ∀ (val : Nat → Value) (us : List Value) (w1 : World), Here l chain B J Vs i o val us w1 → OpW P N o (opEnv l Vs e i o val) w1 (fun u w' => Chg [] w1 w' ∧ R u w'))
    (hr : Walk P N chain G B J l e fin (i + 1) r (Vs ++ [.r R])) : Walk P N chain G B J l e fin i (o :: r) Vs := by
  refine ⟨.r R, hR, fun val us w1 hh => ?_, hr⟩
  rw [hc, hg]
  exact h val us w1 hh
/-- One of the chain. -/
theorem Walk.turn {fin : List VS → Prop} {i k : Nat} {r : List Oper} {Vs : List VS} {o : Oper} (hc : place chain i = some k) (hg : o.guard = none)
    (h : ∀ (val : Nat → Value) (us : List Value) (w1 : World), Here l chain B J Vs i o val us w1 → OpW P N o (opEnv l Vs e i o val) w1 (fun v w' => G w1 w' ∧ B w' ∧ J (us ++ [v]) w'))
    (hr : Walk P N chain G B J l e fin (i + 1) r (Vs ++ [.r fun _ _ => True])) : Walk P N chain G B J l e fin i (o :: r) Vs := by
  refine ⟨.r fun _ _ => True, fun _ _ _ _ _ => trivial, fun val us w1 hh => ?_, hr⟩
  rw [hc]
  exact ⟨rfl, hg, h val us w1 hh⟩
theorem Walk.guardT {fin : List VS → Prop} {i j : Nat} {want : Bool} {r : List Oper} {Vs : List VS} {o : Oper} {v : Value} (hc : place chain i = none) (hg : o.guard = some (j, want)) (hj : (predsOf o).contains j = true) (hjd : ((l[j]?).bind (·.dst)).isSome = true) (hb : ∀ val, valOf Vs val j = .bool want)
    (h : ∀ (val : Nat → Value) (us : List Value) (w1 : World), Here l chain B J Vs i o val us w1 → OpW P N o (opEnv l Vs e i o val) w1 (fun u w' => Chg [] w1 w' ∧ u = v))
    (hr : Walk P N chain G B J l e fin (i + 1) r (Vs ++ [.c v])) : Walk P N chain G B J l e fin i (o :: r) Vs := by
  refine ⟨.c v, trivial, fun val us w1 hh => ?_, hr⟩
  rw [hc, hg]
  exact ⟨want, hj, hjd, .inl (hb val), (fun _ => h val us w1 hh), (fun hn => by cases want <;> cases hn)⟩
theorem Walk.guardF {fin : List VS → Prop} {i j : Nat} {want b : Bool} {r : List Oper} {Vs : List VS} {o : Oper} (hc : place chain i = none) (hg : o.guard = some (j, want)) (hj : (predsOf o).contains j = true) (hjd : ((l[j]?).bind (·.dst)).isSome = true) (hb : ∀ val, valOf Vs val j = .bool b) (hbw : b = !want)
    (hr : Walk P N chain G B J l e fin (i + 1) r (Vs ++ [.c undef])) : Walk P N chain G B J l e fin i (o :: r) Vs := by
  refine ⟨.c undef, trivial, fun val us w1 hh => ?_, hr⟩
  rw [hc, hg]
  exact ⟨b, hj, hjd, .inl (hb val), (fun h => by subst hbw; cases want <;> cases h), fun _ => rfl⟩
theorem Walk.fin {fin : List VS → Prop} {i : Nat} {Vs : List VS} (h : fin Vs) : Walk P N chain G B J l e fin i [] Vs := h
theorem endC {Q : Post} {Vs : List VS} (h : ∀ (val : Nat → Value) (us : List Value) (w1 : World), B w1 → J us w1 → us.length = chain.length → (∀ (k c : Nat) (u : Value), chain[k]? = some c → us[k]? = some u → val c = u) → (∀ i, i < m → ∀ o, l[i]? = some o → (vsAt Vs i).holds (valOf Vs val i) w1) → WL P N l.toArray (l.drop m) Q (frontEnv Vs val 0 m l ++ e) w1) : EndOk P N chain B J l m e Q Vs := h
/-- How far the chain is: no operation of it ahead of place k is passed, if i stands ahead of that. -/
theorem Here.le {i c k : Nat} {o oc : Oper} {val : Nat → Value} {us : List Value} {w : World} (h : Here l chain B J Vs i o val us w) (hk : chain[k]? = some c) (hc : l[c]? = some oc) (hp : (predsOf oc).contains i = true) : us.length ≤ k := h.far.2.2.1 k c oc hk hc hp
theorem Here.lt {i c k : Nat} {o : Oper} {val : Nat → Value} {us : List Value} {w : World} (h : Here l chain B J Vs i o val us w) (hk : chain[k]? = some c) (hp : (predsOf o).contains c = true) : k < us.length := h.far.2.1 k c hk hp
theorem Here.self {i k : Nat} {o : Oper} {val : Nat → Value} {us : List Value} {w : World} (h : Here l chain B J Vs i o val us w) (hk : chain[k]? = some i) : us.length ≤ k := h.far.2.2.2 k hk
attribute [irreducible] Walk
end
end Go.Vc.H
/-! Scrub: find, read. -/
set_option linter.unusedVariables false
namespace Go.Vc
open Go
def seg0 : SegM := ⟨0, false, 0, 0, 0, 0⟩
def findM (L : List SegM) (n : Int) : SegM := (L.find? fun s => decide (s.num = n)).getD seg0
/-- A file's bytes are what they were. -/
def readOk (s : FsM) (nm : Nm) (size : Int) (sum : Nat) : Bool := match readM s nm with
  | some b => decide ((b.length : Int) = size) && decide (crcN b = sum)
  | none => false
def bytesOf (s : FsM) (nm : Nm) : List UInt8 := (readM s nm).getD []
theorem find_idxM {α : Type} (p : α → Bool) : ∀ L : List α, (idxM p L < 0 → L.find? p = none) ∧ ∀ x, ¬ idxM p L < 0 → L[(idxM p L).toNat]? = some x → L.find? p = some x
  | [] => by simp [idxM]
  | a :: l => by
    have ih := find_idxM p l
    unfold idxM
    by_cases h : p a = true
    · rw [if_pos h]
      refine ⟨fun h => by omega, fun x _ hx => ?_⟩
      simp at hx
      rw [List.find?_cons_of_pos h, hx]
    · rw [if_neg h, List.find?_cons_of_neg h]
      split
      · rename_i h1
        refine ⟨fun _ => ih.1 h1, fun x hx => by omega⟩
      · rename_i h1
        refine ⟨fun h2 => by have := idxM_lt p l; omega, fun x _ hx => ih.2 x h1 ?_⟩
        have := idxM_lt p l
        rw [show (idxM p l + 1).toNat = (idxM p l).toNat + 1 from by omega] at hx
        simpa using hx
end Go.Vc
namespace Go.Proofs.YtiadjkjlifnopaaGreatDoor.Tryz
open Go Go.Vc
theorem findC_has (y : SegM) {w : World} {g : Nat} {n : Int} (hg : w.cell? ⟨g, 0, none⟩ = some (.int .i64 n)) :
    Has Go.Proofs.Tryz.prog 127 #[.agg (segL y).toArray, .pointer (some ⟨g, 0, none⟩)] w (fun v w' => Chg [] w w' ∧ v = .bool (decide (y.num = n))) := by
  refine enter Go.Proofs.Tryz.func127 rfl rfl (by decide) rfl (e := [(0, .agg (segL y).toArray), (1, .pointer (some ⟨g, 0, none⟩))]) ⟨rfl, rfl, trivial⟩ ?_
  refine run ?_
  refine go T 2 rfl ?_
  refine o1 rfl ?_
  refine op_box rfl rfl (fun g2 w1 hs1 hc1 hg1 => ?_)
  have hg1 : Blk w1 g2 26 (segL y) := hg1
  unfold segL at hg1
  have hg' := hc1.cell0 hg
  refine go T 6 rfl ?_
  refine ldB T hg1 rfl rfl rfl rfl rfl rfl ?_
  refine o1 rfl (op_load T rfl rfl rfl rfl (by assumption) ?_)
  refine o1 rfl ?_
  refine op_eql_d rfl rfl rfl ?_
  refine go T 4 rfl ?_
  exact post1 (.inl rfl) rfl rfl ⟨hc1, rfl⟩
theorem find_has (A : Option Addr) (n c : Nat) (L : List SegM) (num : Int) (w : World) (hs : SliceK 6 (RdL segL) w (.slice A n c) L) :
    Has Go.Proofs.Tryz.prog 76 #[.slice A n c, .int .i64 num] w (fun v w' => Chg [] w w' ∧ ∃ b, v = .tuple #[.agg (segL (findM L num)).toArray, .bool b]) := by
  obtain ⟨rfl, hl1, hl2⟩ := hs.len
  unfold maxLen at hl2
  refine enter Go.Proofs.Tryz.func76 rfl rfl (by decide) rfl (e := [(0, .slice A L.length c), (1, .int .i64 num)]) ⟨rfl, rfl, trivial⟩ ?_
  refine run ?_
  refine go T 2 rfl ?_
  refine o1 rfl ?_
  refine op_box rfl rfl (fun g3 w1 hs1 hc1 hg3 => ?_)
  have hg3 : Blk w1 g3 2 [.int .i64 num] := hg3
  have hs1 : w.heap.size ≤ g3 := hs1
  refine o1 rfl ?_
  refine op_alloc T rfl rfl (fun g4 w2 hs2 hc2 hg4 => ?_)
  have hg4 : Blk w2 g4 26 [.int .i64 0, .bool false, .int .i64 0, .int .i64 0, .int .i64 0, .int .u32 0] := hg4
  have hs2 : w1.heap.size ≤ g4 := hs2
  replace hg3 := hg3.keep0 hc2
  have hc02 := hc1.trans' hc2
  have hz := hc1.size
  refine go T 6 rfl ?_
  refine o1 rfl ?_
  refine op_makeFunc (fv := #[]) (cv := #[.pointer (some ⟨g3, 0, none⟩)]) rfl rfl rfl ?_
  refine o1 rfl ?_
  refine op_call rfl rfl rfl (indexSeg_has A L.length c L _ _ (fun s => decide (s.num = num)) (hs.keepR hc02) (fun w3 y hc3 _ => findC_has y (hc3.cell0 (hg3.cell rfl)))) ?_
  rintro _ w3 ⟨hc3, rfl⟩
  obtain ⟨hf1, hf2⟩ := find_idxM (fun s : SegM => decide (s.num = num)) L
  have hlt := idxM_lt (fun s : SegM => decide (s.num = num)) L
  replace hg4 := hg4.keep0 hc3
  have hc03 := hc02.trans' hc3
  unfold findM
  by_cases hneg : idxM (fun s : SegM => decide (s.num = num)) L < 0
  · rw [hf1 hneg]
    refine go T 7 rfl ?_
    refine ltT rfl rfl rfl rfl (by omega) ?_
    refine go T 5 rfl ?_
    refine o1 rfl (op_build T rfl rfl rfl rfl rfl rfl ?_)
    refine op0 rfl rfl ?_
    refine op_store_agg T rfl rfl rfl rfl rfl rfl hg4 (by exact Nat.le_of_ble_eq_true rfl) (fun w4 hc4 hg4n _ => ?_)
    refine go T 5 rfl ?_
    exact post2c T (.inl rfl) rfl rfl rfl rfl rfl hg4n rfl ⟨hc03.trans hc4 (fun k hk hlt => by simp at hk; omega), _, rfl⟩
  · obtain ⟨k, hk⟩ := Int.eq_ofNat_of_zero_le (show 0 ≤ idxM (fun s : SegM => decide (s.num = num)) L by omega)
    obtain ⟨x0, hx0, hpx0⟩ := idxM_at hneg
    rw [hf2 x0 hneg hx0, hk]
    rw [hk, Int.toNat_natCast] at hx0
    have hkl := (List.getElem?_eq_some_iff.1 hx0).1
    obtain ⟨ad, rfl, he⟩ := (hs.keepR hc03).at hx0
    refine go T 7 rfl ?_
    refine ltF rfl rfl rfl rfl (by omega) ?_
    refine go T 9 rfl ?_
    refine o1 rfl (op_indexK T rfl rfl rfl rfl rfl (by omega) ?_)
    refine o1 rfl (op_loadE T he rfl rfl rfl rfl rfl ?_)
    refine op0 rfl rfl ?_
    refine op_store_agg T rfl rfl rfl rfl rfl rfl hg4 (by exact Nat.le_of_ble_eq_true rfl) (fun w4 hc4 hg4n _ => ?_)
    refine go T 4 rfl ?_
    exact post2c T (.inl rfl) rfl rfl rfl rfl rfl hg4n rfl ⟨hc03.trans hc4 (fun k hk hlt => by simp at hk; omega), _, rfl⟩
theorem readS_has {w : World} {g : Nat} {s : FsM} {p : FsP} (x : FsAt w g s p) (nm : Nm) (size : Int) (sum : Nat) (hb : ∀ b, readM s nm = some b → b.length ≤ 4194304) :
    Has Go.Proofs.Tryz.prog 44 #[ptrV g, .string (str nm), .int .i64 size, .int .u32 (sum : Int)] w (fun v w' => Chg [] w w' ∧ ∃ u, v = .tuple #[u, .bool (readOk s nm size sum)] ∧ Own w' 5 1 u (bytesOf s nm).length (u8s (bytesOf s nm)) ∧ ∀ h, u.ownBlock = some h → w.heap.size ≤ h) := by
  refine enter Go.Proofs.Tryz.func44 rfl rfl (by decide) rfl (e := [(0, ptrV g), (1, .string (str nm)), (2, .int .i64 size), (3, .int .u32 (sum : Int))]) ⟨rfl, rfl, rfl, rfl, trivial⟩ ?_
  unfold ptrV
  refine run ?_
  refine go T 10 rfl ?_
  refine o1 rfl ?_
  refine op_call rfl rfl rfl (read_has g s p nm w x) ?_
  rintro v1 w1 ⟨hc1, h1⟩
  unfold readOk bytesOf
  cases hr : readM s nm with
  | none =>
    rw [hr] at h1
    obtain rfl : v1 = .tuple #[.slice none 0 0, .int .i64 3] := h1
    refine go T 11 rfl ?_
    refine eqF rfl rfl rfl rfl (by omega) ?_
    refine go T 17 rfl ?_
    exact post2 (.inl rfl) rfl rfl rfl ⟨hc1, _, rfl, Own.nil _ _ _, fun h hh => by simp [Value.ownBlock] at hh⟩
  | some b =>
    rw [hr] at h1
    have hbl := hb b hr
    obtain ⟨ub, rfl, hob, hfb⟩ : ∃ u, v1 = .tuple #[u, .int .i64 0] ∧ Own w1 5 1 u b.length (u8s b) ∧ ∀ h, u.ownBlock = some h → _ ≤ h := h1
    have hsb := hob.bytes
    obtain ⟨Ab, cb, rfl, _, _⟩ := hsb.form
    dsimp only
    by_cases hsz : (b.length : Int) = size
    · rw [decide_eq_true hsz]
      refine go T 11 rfl ?_
      refine eqT rfl rfl rfl rfl (by omega) ?_
      refine go T 4 rfl ?_
      refine eqT rfl rfl rfl rfl (by omega) ?_
      refine go T 3 rfl ?_
      refine o1 rfl ?_
      refine op_call rfl rfl rfl (sumN_has Ab b.length cb b w1 hsb) ?_
      rintro _ w2 ⟨hc2, rfl⟩
      have hob2 := hob.keep0 hc2
      have hc02 := hc1.trans' hc2
      by_cases hsm : crcN b = sum
      · rw [decide_eq_true hsm]
        refine go T 1 rfl ?_
        refine eqT rfl rfl rfl rfl (by omega) ?_
        refine go T 6 rfl ?_
        exact post2 (.inl rfl) rfl rfl rfl ⟨hc02, _, rfl, hob2, hfb⟩
      · rw [decide_eq_false hsm]
        refine go T 1 rfl ?_
        refine eqF rfl rfl rfl rfl (by omega) ?_
        refine go T 6 rfl ?_
        exact post2 (.inl rfl) rfl rfl rfl ⟨hc02, _, rfl, hob2, hfb⟩
    · rw [decide_eq_false hsz]
      refine go T 11 rfl ?_
      refine eqT rfl rfl rfl rfl (by omega) ?_
      refine go T 4 rfl ?_
      refine eqF rfl rfl rfl rfl (by omega) ?_
      refine go T 12 rfl ?_
      exact post2 (.inl rfl) rfl rfl rfl ⟨hc1, _, rfl, hob, hfb⟩
end Go.Proofs.YtiadjkjlifnopaaGreatDoor.Tryz
/-! Scrub: a group in memory. -/
set_option linter.unusedVariables false
namespace Go.Vc
open Go
/-- What is known of a member: its segment, its bytes, whether they are what they were. -/
structure GItem where
  seg : SegM
  b : List UInt8
  ok : Bool
def itemM (s : FsM) (L : List SegM) (n : Int) : GItem := ⟨findM L n, bytesOf s (fileNm (findM L n)), readOk s (fileNm (findM L n)) (findM L n).size (findM L n).sum⟩
def badM (I : List GItem) : Nat := (I.filter fun i => !i.ok).length
def boolV (b : Bool) : Value := .bool b
end Go.Vc
namespace Go.Proofs.YtiadjkjlifnopaaGreatDoor.Tryz
open Go Go.Vc
/-- Rows of bytes of the call's own, each in a block that was made since b0. -/
def OwnB (b0 : Nat) (w : World) (v : Value) (L : List (List UInt8)) : Prop :=
  ∃ us : List Value, us.length = L.length ∧ Own w 51 1 v us.length (us.map id) ∧ ∀ (i : Nat) b u, L[i]? = some b → us[i]? = some u → Own w 5 1 u b.length (u8s b) ∧ ∀ h, u.ownBlock = some h → b0 ≤ h
theorem OwnB.nil (b0 : Nat) (w : World) : OwnB b0 w (.slice none 0 0) [] := ⟨[], rfl, Own.nil _ _ _, fun i b u h => by simp at h⟩
theorem OwnB.keep {b0 : Nat} {w w' : World} {v : Value} {L : List (List UInt8)} {S : List Nat} (h : OwnB b0 w v L) (hc : Chg S w w') (h1 : ∀ k, v.ownBlock = some k → k ∉ S) (h2 : ∀ k ∈ S, ∀ cs, ¬ Blk w k 5 cs ∨ k < b0) : OwnB b0 w' v L := by
  obtain ⟨us, h3, h4, h5⟩ := h
  refine ⟨us, h3, h4.keep hc h1, fun i b u hb hu => ?_⟩
  obtain ⟨h6, h7⟩ := h5 i b u hb hu
  refine ⟨h6.keep hc (fun k hk hm => ?_), h7⟩
  obtain ⟨cs, hcs⟩ := h6.row hk
  rcases h2 k hm cs with h | h
  · exact h hcs
  · have := h7 k hk; omega
theorem OwnB.keep0 {b0 : Nat} {w w' : World} {v : Value} {L : List (List UInt8)} (h : OwnB b0 w v L) (hc : Chg [] w w') : OwnB b0 w' v L := h.keep hc (fun k _ => by simp) (fun k hk => by cases hk)
theorem OwnB.lt {b0 : Nat} {w : World} {v : Value} {L : List (List UInt8)} (h : OwnB b0 w v L) {k : Nat} (hk : v.ownBlock = some k) : k < w.heap.size := let ⟨_, _, h, _⟩ := h; h.lt hk
theorem OwnB.row {b0 : Nat} {w : World} {v : Value} {L : List (List UInt8)} (h : OwnB b0 w v L) {k : Nat} (hk : v.ownBlock = some k) : ∃ cs, Blk w k 51 cs := let ⟨_, _, h, _⟩ := h; h.row hk
theorem OwnB.reads {b0 : Nat} {w : World} {v : Value} {L : List (List UInt8)} (h : OwnB b0 w v L) : SliceOf (SliceOf Ru8) w v L := by
  obtain ⟨us, h3, h4, h5⟩ := h
  rw [h3] at h4
  refine h4.reads rfl (fun i x u hx hu => ?_)
  rw [List.map_id] at hu
  exact (h5 i x u hx hu).1.bytes
theorem OwnB.one {b0 : Nat} {w : World} {v : Value} {L : List (List UInt8)} (h : OwnB b0 w v L) : v.oneCell' = true := let ⟨_, _, h, _⟩ := h; own_one h
/-- The four rows of a group. -/
structure R4 (b0 : Nat) (w : World) (vs vl vz vo : Value) (Ls : List SegM) (Lb : List (List UInt8)) (Lz : List Int) (Lo : List Bool) : Prop where
  segs : Own w 26 6 vs Ls.length (Ls.flatMap segL)
  rows : OwnB b0 w vl Lb
  sizes : Own w 3 1 vz Lz.length (Lz.map i64V)
  lost : Own w 4 1 vo Lo.length (Lo.map boolV)
  frs : ∀ k, vs.ownBlock = some k → b0 ≤ k
  frl : ∀ k, vl.ownBlock = some k → b0 ≤ k
  frz : ∀ k, vz.ownBlock = some k → b0 ≤ k
  fro : ∀ k, vo.ownBlock = some k → b0 ≤ k
section
variable {b0 : Nat} {w w' : World} {vs vl vz vo v : Value} {Ls Ls' : List SegM} {Lb Lb' : List (List UInt8)} {Lz Lz' : List Int} {Lo Lo' : List Bool}
theorem R4.keep0 (h : R4 b0 w vs vl vz vo Ls Lb Lz Lo) (hc : Chg [] w w') : R4 b0 w' vs vl vz vo Ls Lb Lz Lo := ⟨h.segs.keep0 hc, h.rows.keep0 hc, h.sizes.keep0 hc, h.lost.keep0 hc, h.frs, h.frl, h.frz, h.fro⟩
/-- Blocks of other types, or older ones, turn. -/
theorem R4.keepO {S : List Nat} (h : R4 b0 w vs vl vz vo Ls Lb Lz Lo) (hc : Chg S w w') (hS : ∀ k ∈ S, k < b0 ∨ ∃ t cs, Blk w k t cs ∧ t ≠ 26 ∧ t ≠ 51 ∧ t ≠ 5 ∧ t ≠ 3 ∧ t ≠ 4) : R4 b0 w' vs vl vz vo Ls Lb Lz Lo := by
  have out : ∀ {t : TypeId} {k : Nat} {u : Value} {cs : List Value}, Blk w k t cs → b0 ≤ k → t = 26 ∨ t = 51 ∨ t = 5 ∨ t = 3 ∨ t = 4 → k ∉ S := fun {t k u cs} hb hk ht hm => by
    rcases hS k hm with h | ⟨t', cs', hb', h1, h2, h3, h4, h5⟩
    · omega
    · have hne : t ≠ t' := by rcases ht with rfl | rfl | rfl | rfl | rfl <;> (intro e; subst e; contradiction)
      exact hb.ne_ hb' hne rfl
  refine ⟨h.segs.keep hc (fun k hk => ?_), h.rows.keep hc (fun k hk => ?_) (fun k hk cs => ?_), h.sizes.keep hc (fun k hk => ?_), h.lost.keep hc (fun k hk => ?_), h.frs, h.frl, h.frz, h.fro⟩
  · obtain ⟨cs, hb⟩ := h.segs.row hk
    exact out (u := vs) hb (h.frs k hk) (.inl rfl)
  · obtain ⟨cs, hb⟩ := h.rows.row hk
    exact out (u := vs) hb (h.frl k hk) (.inr (.inl rfl))
  · rcases Nat.lt_or_ge k b0 with hlt | hge
    · exact .inr hlt
    · refine .inl fun hb => out (u := vs) hb hge (.inr (.inr (.inl rfl))) hk
  · obtain ⟨cs, hb⟩ := h.sizes.row hk
    exact out (u := vs) hb (h.frz k hk) (.inr (.inr (.inr (.inl rfl))))
  · obtain ⟨cs, hb⟩ := h.lost.row hk
    exact out (u := vs) hb (h.fro k hk) (.inr (.inr (.inr (.inr rfl))))
/-- One of the rows turns into another. -/
theorem R4.pushS (h : R4 b0 w vs vl vz vo Ls Lb Lz Lo) (ho : Own w' 26 6 v Ls'.length (Ls'.flatMap segL)) (hc : Chg vs.ownBlock.toList w w') (hb : v.ownBlock = vs.ownBlock ∨ ∃ k, v.ownBlock = some k ∧ w.heap.size ≤ k) (hz : b0 ≤ w.heap.size) : R4 b0 w' v vl vz vo Ls' Lb Lz Lo := by
  have mine : ∀ k ∈ vs.ownBlock.toList, ∃ cs, Blk w k 26 cs := fun k hk => h.segs.row (by simpa using hk)
  refine ⟨ho, h.rows.keep hc (fun k hk hm => ?_) (fun k hk cs => .inl fun hx => ?_), h.sizes.keep hc (fun k hk hm => ?_), h.lost.keep hc (fun k hk hm => ?_), fun k hk => ?_, h.frl, h.frz, h.fro⟩
  · obtain ⟨c1, h1⟩ := mine k hm; obtain ⟨c2, h2⟩ := h.rows.row hk; exact h1.ne_ h2 (by decide) rfl
  · obtain ⟨c1, h1⟩ := mine k hk; exact h1.ne_ hx (by decide) rfl
  · obtain ⟨c1, h1⟩ := mine k hm; obtain ⟨c2, h2⟩ := h.sizes.row hk; exact h1.ne_ h2 (by decide) rfl
  · obtain ⟨c1, h1⟩ := mine k hm; obtain ⟨c2, h2⟩ := h.lost.row hk; exact h1.ne_ h2 (by decide) rfl
  · rcases hb with h1 | ⟨k', h1, h2⟩
    · exact h.frs k (by rw [← h1]; exact hk)
    · rw [h1] at hk; injection hk with hk; omega
theorem R4.pushB (h : R4 b0 w vs vl vz vo Ls Lb Lz Lo) (ho : OwnB b0 w' v Lb') (hc : Chg vl.ownBlock.toList w w') (hb : v.ownBlock = vl.ownBlock ∨ ∃ k, v.ownBlock = some k ∧ w.heap.size ≤ k) (hz : b0 ≤ w.heap.size) : R4 b0 w' vs v vz vo Ls Lb' Lz Lo := by
  have mine : ∀ k ∈ vl.ownBlock.toList, ∃ cs, Blk w k 51 cs := fun k hk => h.rows.row (by simpa using hk)
  refine ⟨h.segs.keep hc (fun k hk hm => ?_), ho, h.sizes.keep hc (fun k hk hm => ?_), h.lost.keep hc (fun k hk hm => ?_), h.frs, fun k hk => ?_, h.frz, h.fro⟩
  · obtain ⟨c1, h1⟩ := mine k hm; obtain ⟨c2, h2⟩ := h.segs.row hk; exact h1.ne_ h2 (by decide) rfl
  · obtain ⟨c1, h1⟩ := mine k hm; obtain ⟨c2, h2⟩ := h.sizes.row hk; exact h1.ne_ h2 (by decide) rfl
  · obtain ⟨c1, h1⟩ := mine k hm; obtain ⟨c2, h2⟩ := h.lost.row hk; exact h1.ne_ h2 (by decide) rfl
  · rcases hb with h1 | ⟨k', h1, h2⟩
    · exact h.frl k (by rw [← h1]; exact hk)
    · rw [h1] at hk; injection hk with hk; omega
theorem R4.pushZ (h : R4 b0 w vs vl vz vo Ls Lb Lz Lo) (ho : Own w' 3 1 v Lz'.length (Lz'.map i64V)) (hc : Chg vz.ownBlock.toList w w') (hb : v.ownBlock = vz.ownBlock ∨ ∃ k, v.ownBlock = some k ∧ w.heap.size ≤ k) (hz : b0 ≤ w.heap.size) : R4 b0 w' vs vl v vo Ls Lb Lz' Lo := by
  have mine : ∀ k ∈ vz.ownBlock.toList, ∃ cs, Blk w k 3 cs := fun k hk => h.sizes.row (by simpa using hk)
  refine ⟨h.segs.keep hc (fun k hk hm => ?_), h.rows.keep hc (fun k hk hm => ?_) (fun k hk cs => .inl fun hx => ?_), ho, h.lost.keep hc (fun k hk hm => ?_), h.frs, h.frl, fun k hk => ?_, h.fro⟩
  · obtain ⟨c1, h1⟩ := mine k hm; obtain ⟨c2, h2⟩ := h.segs.row hk; exact h1.ne_ h2 (by decide) rfl
  · obtain ⟨c1, h1⟩ := mine k hm; obtain ⟨c2, h2⟩ := h.rows.row hk; exact h1.ne_ h2 (by decide) rfl
  · obtain ⟨c1, h1⟩ := mine k hk; exact h1.ne_ hx (by decide) rfl
  · obtain ⟨c1, h1⟩ := mine k hm; obtain ⟨c2, h2⟩ := h.lost.row hk; exact h1.ne_ h2 (by decide) rfl
  · rcases hb with h1 | ⟨k', h1, h2⟩
    · exact h.frz k (by rw [← h1]; exact hk)
    · rw [h1] at hk; injection hk with hk; omega
theorem R4.pushO (h : R4 b0 w vs vl vz vo Ls Lb Lz Lo) (ho : Own w' 4 1 v Lo'.length (Lo'.map boolV)) (hc : Chg vo.ownBlock.toList w w') (hb : v.ownBlock = vo.ownBlock ∨ ∃ k, v.ownBlock = some k ∧ w.heap.size ≤ k) (hz : b0 ≤ w.heap.size) : R4 b0 w' vs vl vz v Ls Lb Lz Lo' := by
  have mine : ∀ k ∈ vo.ownBlock.toList, ∃ cs, Blk w k 4 cs := fun k hk => h.lost.row (by simpa using hk)
  refine ⟨h.segs.keep hc (fun k hk hm => ?_), h.rows.keep hc (fun k hk hm => ?_) (fun k hk cs => .inl fun hx => ?_), h.sizes.keep hc (fun k hk hm => ?_), ho, h.frs, h.frl, h.frz, fun k hk => ?_⟩
  · obtain ⟨c1, h1⟩ := mine k hm; obtain ⟨c2, h2⟩ := h.segs.row hk; exact h1.ne_ h2 (by decide) rfl
  · obtain ⟨c1, h1⟩ := mine k hm; obtain ⟨c2, h2⟩ := h.rows.row hk; exact h1.ne_ h2 (by decide) rfl
  · obtain ⟨c1, h1⟩ := mine k hk; exact h1.ne_ hx (by decide) rfl
  · obtain ⟨c1, h1⟩ := mine k hm; obtain ⟨c2, h2⟩ := h.sizes.row hk; exact h1.ne_ h2 (by decide) rfl
  · rcases hb with h1 | ⟨k', h1, h2⟩
    · exact h.fro k (by rw [← h1]; exact hk)
    · rw [h1] at hk; injection hk with hk; omega
end
end Go.Proofs.YtiadjkjlifnopaaGreatDoor.Tryz
