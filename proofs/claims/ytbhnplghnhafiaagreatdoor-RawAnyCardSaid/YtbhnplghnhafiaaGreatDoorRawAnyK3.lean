/- Part 3 of the texts that the law of the last one leans on: steps of the walk and contracts of functions. Its conditions stand in each theorem. -/
import Derived.Test.YtbhnplghnhafiaaGreatDoorRawAnyK2
import Derived.Test.YtbhnplghnhafiaaGreatDoorRawAnyK1
import Derived.Test.YtbhnplghnhafiaaGreatDoorProg
import Derived.Shelf.SlIter.Nil
import Derived.Shelf.SortM.Plain
import Derived.Shelf.SortM.SortNone
import Derived.Shelf.SlMaps.Clone
import Derived.Ground.GgzProg
import Derived.Ground.SlmcProg
import Derived.Ground.SlgmProg
/-! The reference's records, walked: one. -/
set_option linter.unusedVariables false
namespace Go.Proofs.YtbhnplghnhafiaaGreatDoor.Tryz
open Go Go.Vc
set_option maxHeartbeats 4000000 in
/-- What the reference reads of a seal. -/
theorem one_has (A : Option Addr) (n c : Nat) (b : List UInt8) (w : World) (hl : SliceOf Ru8 w (.slice A n c) b) :
    Has Go.Proofs.Tryz.prog 35 #[.slice A n c] w (fun v w' => Chg [] w w' ∧ v = .tuple #[.agg (recL ((oneP b).getD nullR)).toArray, .bool (oneP b).isSome]) := by
  obtain ⟨rfl, hl1, hl2⟩ := hl.len
  unfold maxLen at hl2
  refine enter Go.Proofs.Tryz.func35 rfl rfl (by decide) rfl (e := [(0, .slice A b.length c)]) ⟨rfl, trivial⟩ ?_
  refine run ?_
  refine go T 2 rfl ?_
  refine o1 rfl ?_
  refine op_alloc T rfl rfl (fun g2 w1 hs1 hc1 hg2 => ?_)
  have hg2 : Blk w1 g2 32 [.int .i64 0, .int .i64 0, .string (str []), .string (str [])] := hg2
  have hs1 : w.heap.size ≤ g2 := hs1
  match b, hl, hl1, hl2 with
  | [], hl, hl1, hl2 =>
    simp only [List.length_nil] at *
    refine go T 8 rfl ?_
    refine eqT rfl rfl rfl rfl (by omega) ?_
    refine go T 11 rfl ?_
    refine o1 rfl (op_build T rfl rfl rfl rfl rfl rfl ?_)
    refine op0 rfl rfl ?_
    refine op_store_agg T rfl rfl rfl rfl rfl rfl hg2 (by exact Nat.le_of_ble_eq_true rfl) (fun w3 hc3 hb3 _ => ?_)
    refine go T 5 rfl ?_
    exact post2c T (.inl rfl) rfl rfl rfl rfl rfl hb3 rfl ⟨hc1.trans hc3 (fun k hk hlt => by simp at hk; omega), rfl⟩
  | ch :: t, hl, hl1, hl2 =>
    simp only [List.length_cons] at *
    obtain ⟨ad, u, rfl, hu0, rfl⟩ := hl.get (i := 0) rfl
    have hch := ch.toNat_lt
    have hu := hc1.cell0 hu0
    have hdrop : ∀ k, k ≤ t.length + 1 → ((ch :: t).take (t.length + 1)).drop k = (ch :: t).drop k := fun k _ => by rw [List.take_of_length_le (by simp)]
    unfold oneP
    dsimp only
    by_cases h1 : 1 < ch.toNat
    · rw [if_pos h1]
      refine go T 8 rfl ?_
      refine eqF rfl rfl rfl rfl (by omega) ?_
      refine go T 2 rfl ?_
      refine o1 rfl (op_index_nat (i := 0) T rfl rfl rfl rfl rfl rfl (by omega) ?_)
      refine o1 rfl (op_load T rfl rfl rfl rfl (by assumption) ?_)
      refine gtT rfl rfl rfl rfl (by omega) ?_
      refine go T 6 rfl ?_
      refine o1 rfl (op_build T rfl rfl rfl rfl rfl rfl ?_)
      refine op0 rfl rfl ?_
      refine op_store_agg T rfl rfl rfl rfl rfl rfl hg2 (by exact Nat.le_of_ble_eq_true rfl) (fun w3 hc3 hb3 _ => ?_)
      refine go T 5 rfl ?_
      exact post2c T (.inl rfl) rfl rfl rfl rfl rfl hb3 rfl ⟨hc1.trans hc3 (fun k hk hlt => by simp at hk; omega), rfl⟩
    rw [if_neg h1]
    refine go T 8 rfl ?_
    refine eqF rfl rfl rfl rfl (by omega) ?_
    refine go T 2 rfl ?_
    refine o1 rfl (op_index_nat (i := 0) T rfl rfl rfl rfl rfl rfl (by omega) ?_)
    refine o1 rfl (op_load T rfl rfl rfl rfl (by assumption) ?_)
    refine gtF rfl rfl rfl rfl (by omega) ?_
    refine go T 9 rfl ?_
    refine o1 rfl (op_index_nat (i := 0) T rfl rfl rfl rfl rfl rfl (by omega) ?_)
    refine o1 rfl (op_load T rfl rfl rfl rfl (by assumption) ?_)
    refine o1 rfl (op_convert_fit T rfl rfl rfl rfl (wrap_i64_in (by omega) (by omega)) ?_)
    refine o1 rfl (op_build T rfl rfl rfl rfl rfl rfl ?_)
    refine o1 rfl ?_
    refine op_alloc T rfl rfl (fun g4 w2 hs2 hc2 hg4 => ?_)
    have hg4 : Blk w2 g4 32 [.int .i64 0, .int .i64 0, .string (str []), .string (str [])] := hg4
    have hs2 : w1.heap.size ≤ g4 := hs2
    have hge1 := hc1.size
    refine op0 rfl rfl ?_
    refine op_store_agg T rfl rfl rfl rfl rfl rfl hg4 (by exact Nat.le_of_ble_eq_true rfl) (fun w3 hc3 hg43 _ => ?_)
    have hg43 : Blk w3 g4 32 [.int .i64 (ch.toNat : Int), .int .i64 0, .string (str []), .string (str [])] := hg43
    have hne : g2 ∉ [g4] := by simp; have := hg2.lt; omega
    have hne4 : g2 ≠ g4 := by simpa using hne
    have hg23 := (hg2.keep0 hc2).keep hc3 hne
    have hcw3 : Chg [] w w3 := (hc1.trans' hc2).trans hc3 (fun k hk hlt => by simp at hk; omega)
    have hl3 := SliceOf.kept Ru8.kept _ _ _ _ hcw3 hl
    have fin : ∀ w4, Chg [] w3 w4 → ∀ w5, Chg [g2] w4 w5 → Chg [] w w5 := fun w4 h4 w5 h5 => (hcw3.trans' h4).trans h5 (fun k hk hlt => by simp at hk; omega)
    have hgb := getM_bound t
    refine go T 5 rfl ?_
    refine o1 rfl ?_
    refine op_cut T (l := 1) (h' := t.length + 1) rfl rfl rfl rfl rfl ⟨_, rfl⟩ rfl hl3 (by omega) (Nat.le_refl _) (fun A1 hA1 => ?_)
    have ht := hA1 _ hl3
    rw [hdrop 1 (by omega)] at ht
    have ht : SliceOf Ru8 w3 (.slice A1 (t.length + 1 - 1) (c - 1)) t := ht
    refine o1 rfl ?_
    refine op_call rfl rfl rfl (rget_has A1 _ _ t w3 ht) ?_
    rintro _ w3 ⟨rfl, rfl⟩
    generalize hq : getM t = q at *
    obtain ⟨m, k⟩ := q
    dsimp only at *
    by_cases h2 : k = 0 ∨ 1125899906842624 < m
    · rw [if_pos h2]
      by_cases hk : k = 0
      · refine go T 11 rfl ?_
        refine eqT rfl rfl rfl rfl (by omega) ?_
        refine go T 9 rfl ?_
        refine o1 rfl (op_build T rfl rfl rfl rfl rfl rfl ?_)
        refine op0 rfl rfl ?_
        refine op_store_agg T rfl rfl rfl rfl rfl rfl hg23 (by exact Nat.le_of_ble_eq_true rfl) (fun w5 hc5 hb5 _ => ?_)
        refine go T 5 rfl ?_
        exact post2c T (.inl rfl) rfl rfl rfl rfl rfl hb5 rfl ⟨fin _ (Chg.refl _ _) _ hc5, rfl⟩
      · refine go T 11 rfl ?_
        refine eqF rfl rfl rfl rfl (by omega) ?_
        refine go T 2 rfl ?_
        refine gtT rfl rfl rfl rfl (by omega) ?_
        refine go T 6 rfl ?_
        refine o1 rfl (op_build T rfl rfl rfl rfl rfl rfl ?_)
        refine op0 rfl rfl ?_
        refine op_store_agg T rfl rfl rfl rfl rfl rfl hg23 (by exact Nat.le_of_ble_eq_true rfl) (fun w5 hc5 hb5 _ => ?_)
        refine go T 5 rfl ?_
        exact post2c T (.inl rfl) rfl rfl rfl rfl rfl hb5 rfl ⟨fin _ (Chg.refl _ _) _ hc5, rfl⟩
    rw [if_neg h2]
    refine go T 11 rfl ?_
    refine eqF rfl rfl rfl rfl (by omega) ?_
    refine go T 2 rfl ?_
    refine gtF rfl rfl rfl rfl (by omega) ?_
    refine go T 9 rfl ?_
    refine o1 rfl (op_convert_fit T rfl rfl rfl rfl (wrap_i64_in (by omega) (by omega)) ?_)
    refine go T 1 rfl ?_
    refine op0 rfl rfl ?_
    refine op_store T rfl rfl rfl rfl rfl rfl hg43 (by simp) (fun w4 hc4 hg44 _ => ?_)
    have hg44 : Blk w4 g4 32 [.int .i64 (ch.toNat : Int), .int .i64 (m : Int), .string (str []), .string (str [])] := hg44
    have hg24 := hg23.keep hc4 hne
    have hc04 : Chg [] w w4 := hcw3.trans hc4 (fun k hk hlt => by simp at hk; omega)
    have hl4 := SliceOf.kept Ru8.kept _ _ _ _ hc04 hl
    refine go T 6 rfl ?_
    refine adI rfl rfl rfl rfl (by omega) (by omega) ?_
    refine o1 rfl ?_
    refine op_cut T (l := 1 + k) (h' := t.length + 1) rfl rfl rfl rfl rfl ⟨_, some_int (by omega)⟩ rfl hl4 (by omega) (Nat.le_refl _) (fun A2 hA2 => ?_)
    have ht2 := hA2 _ hl
    rw [hdrop (1 + k) (by omega), Nat.add_comm 1 k, List.drop_succ_cons] at ht2
    have hz2 : t.length + 1 - (k + 1) = (t.drop k).length := by rw [List.length_drop]; omega
    rw [hz2] at ht2
    rw [Nat.add_comm 1 k, hz2]
    generalize hc2' : c - (k + 1) = c2 at *
    generalize t.drop k = t2 at *
    unfold one2
    have hbd2 := getTextM_bound t2
    have hlen2 := ht2.len
    unfold maxLen at hlen2
    refine go T 6 rfl ?_
    refine o1 rfl ?_
    refine op_call rfl rfl rfl (rgetText_has A2 _ _ t2 w4 (SliceOf.kept Ru8.kept _ _ _ _ hc04 ht2)) ?_
    rintro _ w4 ⟨rfl, rfl⟩
    generalize hq2 : getTextM t2 = q2 at *
    obtain ⟨s, k2⟩ := q2
    dsimp only at *
    by_cases h3 : k2 = 0
    · rw [if_pos h3]
      refine go T 11 rfl ?_
      refine eqT rfl rfl rfl rfl (by omega) ?_
      refine go T 5 rfl ?_
      refine o1 rfl (op_build T rfl rfl rfl rfl rfl rfl ?_)
      refine op0 rfl rfl ?_
      refine op_store_agg T rfl rfl rfl rfl rfl rfl hg24 (by exact Nat.le_of_ble_eq_true rfl) (fun w5 hc5 hb5 _ => ?_)
      refine go T 5 rfl ?_
      exact post2c T (.inl rfl) rfl rfl rfl rfl rfl hb5 rfl ⟨hc04.trans hc5 (fun k hk hlt => by simp at hk; omega), rfl⟩
    rw [if_neg h3]
    refine go T 11 rfl ?_
    refine eqF rfl rfl rfl rfl (by omega) ?_
    refine go T 9 rfl ?_
    refine op0 rfl rfl ?_
    refine op_store T rfl rfl rfl rfl rfl rfl hg44 (by simp) (fun w5 hc5 hg45 _ => ?_)
    have hg45 : Blk w5 g4 32 [.int .i64 (ch.toNat : Int), .int .i64 (m : Int), .string (str s), .string (str [])] := hg45
    have hg25 := hg24.keep hc5 hne
    have hc05 : Chg [] w w5 := hc04.trans hc5 (fun k hk hlt => by simp at hk; omega)
    refine go T 6 rfl ?_
    refine o1 rfl ?_
    refine op_cut T (l := k2) (h' := t2.length) rfl rfl rfl rfl rfl ⟨_, rfl⟩ rfl (SliceOf.kept Ru8.kept _ _ _ _ hc05 ht2) (by omega) (Nat.le_refl _) (fun A3 hA3 => ?_)
    have ht3 := hA3 _ ht2
    rw [List.take_length] at ht3
    have hz3 : t2.length - k2 = (t2.drop k2).length := by rw [List.length_drop]
    rw [hz3] at ht3
    rw [hz3]
    clear hA3 hA2 hA1
    generalize c2 - k2 = c3 at *
    generalize t2.drop k2 = t3 at *
    have hlen3 := ht3.len
    have hbd3 := getTextM_bound t3
    unfold maxLen at hlen3
    have hfin : ∀ w6, Chg [] w w6 → ∀ w7, Chg [g2] w6 w7 → Chg [] w w7 := fun w6 h6 w7 h7 => h6.trans h7 (fun k hk hlt => by simp at hk; omega)
    unfold one3
    by_cases hk1 : ch.toNat = 1
    · rw [if_pos hk1]
      refine go T 7 rfl ?_
      refine ldB T hg45 rfl rfl rfl rfl rfl rfl ?_
      refine eqT rfl rfl rfl rfl (by omega) ?_
      refine go T 6 rfl ?_
      refine o1 rfl ?_
      refine op_call rfl rfl rfl (rgetText_has A3 _ _ t3 w5 (SliceOf.kept Ru8.kept _ _ _ _ hc05 ht3)) ?_
      rintro _ w5 ⟨rfl, rfl⟩
      generalize hq3 : getTextM t3 = q3 at *
      obtain ⟨vl, k3⟩ := q3
      dsimp only at *
      by_cases h4 : k3 = 0
      · rw [if_pos h4]
        refine go T 11 rfl ?_
        refine eqT rfl rfl rfl rfl (by omega) ?_
        refine go T 5 rfl ?_
        refine o1 rfl (op_build T rfl rfl rfl rfl rfl rfl ?_)
        refine op0 rfl rfl ?_
        refine op_store_agg T rfl rfl rfl rfl rfl rfl hg25 (by exact Nat.le_of_ble_eq_true rfl) (fun w7 hc7 hb7 _ => ?_)
        refine go T 6 rfl ?_
        exact post2c T (.inl rfl) rfl rfl rfl rfl rfl hb7 rfl ⟨hfin _ hc05 _ hc7, rfl⟩
      rw [if_neg h4]
      refine go T 11 rfl ?_
      refine eqF rfl rfl rfl rfl (by omega) ?_
      refine go T 9 rfl ?_
      refine op0 rfl rfl ?_
      refine op_store T rfl rfl rfl rfl rfl rfl hg45 (by simp) (fun w6 hc6 hg46 _ => ?_)
      have hg46 : Blk w6 g4 32 [.int .i64 (ch.toNat : Int), .int .i64 (m : Int), .string (str s), .string (str vl)] := hg46
      have hg26 := hg25.keep hc6 hne
      have hc06 : Chg [] w w6 := hc05.trans hc6 (fun k hk hlt => by simp at hk; omega)
      refine go T 5 rfl ?_
      refine o1 rfl ?_
      refine op_cut T (l := k3) (h' := t3.length) rfl rfl rfl rfl rfl ⟨_, rfl⟩ rfl (SliceOf.kept Ru8.kept _ _ _ _ hc06 ht3) (by omega) (Nat.le_refl _) (fun A4 hA4 => ?_)
      clear hA4
      unfold fin1
      by_cases h5 : t3.drop k3 = []
      · have hl5 := congrArg List.length h5
        rw [List.length_drop, List.length_nil] at hl5
        by_cases h6 : checkM ⟨(ch.toNat : Int), (m : Int), s, vl⟩ = 0
        · rw [if_neg (by simp [h5, h6])]
          refine go T 8 rfl ?_
          refine gtF rfl rfl rfl rfl (by omega) ?_
          refine go T 1 rfl ?_
          refine o1 rfl (op_load_agg T rfl rfl rfl rfl hg46 (by exact Nat.le_of_ble_eq_true rfl) (by exact rfl) ?_)
          refine o1 rfl ?_
          refine op_call rfl rfl rfl (rcheck_has ⟨(ch.toNat : Int), (m : Int), s, vl⟩ w6) ?_
          rintro _ w7 ⟨hc7, rfl⟩
          have hg47 := hg46.keep0 hc7
          have hg27 := hg26.keep0 hc7
          refine neF rfl rfl rfl rfl (by omega) ?_
          refine go T 8 rfl ?_
          refine o1 rfl (op_load_agg T rfl rfl rfl rfl hg47 (by exact Nat.le_of_ble_eq_true rfl) (by exact rfl) ?_)
          refine op0 rfl rfl ?_
          refine op_store_agg T rfl rfl rfl rfl rfl rfl hg27 (by exact Nat.le_of_ble_eq_true rfl) (fun w8 hc8 hb8 _ => ?_)
          refine go T 4 rfl ?_
          exact post2c T (.inl rfl) rfl rfl rfl rfl rfl hb8 rfl ⟨hfin _ (hc06.trans' hc7) _ hc8, rfl⟩
        · rw [if_pos (.inr h6)]
          refine go T 8 rfl ?_
          refine gtF rfl rfl rfl rfl (by omega) ?_
          refine go T 1 rfl ?_
          refine o1 rfl (op_load_agg T rfl rfl rfl rfl hg46 (by exact Nat.le_of_ble_eq_true rfl) (by exact rfl) ?_)
          refine o1 rfl ?_
          refine op_call rfl rfl rfl (rcheck_has ⟨(ch.toNat : Int), (m : Int), s, vl⟩ w6) ?_
          rintro _ w7 ⟨hc7, rfl⟩
          have hg27 := hg26.keep0 hc7
          refine neT rfl rfl rfl rfl (by omega) ?_
          refine go T 6 rfl ?_
          refine o1 rfl (op_build T rfl rfl rfl rfl rfl rfl ?_)
          refine op0 rfl rfl ?_
          refine op_store_agg T rfl rfl rfl rfl rfl rfl hg27 (by exact Nat.le_of_ble_eq_true rfl) (fun w8 hc8 hb8 _ => ?_)
          refine go T 5 rfl ?_
          exact post2c T (.inl rfl) rfl rfl rfl rfl rfl hb8 rfl ⟨hfin _ (hc06.trans' hc7) _ hc8, rfl⟩
      · have hl5 : ¬ t3.length - k3 = 0 := fun h => h5 (List.drop_eq_nil_of_le (by omega))
        rw [if_pos (.inl h5)]
        refine go T 8 rfl ?_
        refine gtT rfl rfl rfl rfl (by omega) ?_
        refine go T 10 rfl ?_
        refine o1 rfl (op_build T rfl rfl rfl rfl rfl rfl ?_)
        refine op0 rfl rfl ?_
        refine op_store_agg T rfl rfl rfl rfl rfl rfl hg26 (by exact Nat.le_of_ble_eq_true rfl) (fun w8 hc8 hb8 _ => ?_)
        refine go T 5 rfl ?_
        exact post2c T (.inl rfl) rfl rfl rfl rfl rfl hb8 rfl ⟨hfin _ hc06 _ hc8, rfl⟩
    · rw [if_neg hk1]
      refine go T 7 rfl ?_
      refine ldB T hg45 rfl rfl rfl rfl rfl rfl ?_
      refine eqF rfl rfl rfl rfl (by omega) ?_
      refine go T 10 rfl ?_
      unfold fin1
      by_cases h5 : t3 = []
      · have hl5 := congrArg List.length h5
        rw [List.length_nil] at hl5
        by_cases h6 : checkM ⟨(ch.toNat : Int), (m : Int), s, []⟩ = 0
        · rw [if_neg (by simp [h5, h6])]
          refine gtF rfl rfl rfl rfl (by omega) ?_
          refine go T 1 rfl ?_
          refine o1 rfl (op_load_agg T rfl rfl rfl rfl hg45 (by exact Nat.le_of_ble_eq_true rfl) (by exact rfl) ?_)
          refine o1 rfl ?_
          refine op_call rfl rfl rfl (rcheck_has ⟨(ch.toNat : Int), (m : Int), s, []⟩ w5) ?_
          rintro _ w7 ⟨hc7, rfl⟩
          have hg47 := hg45.keep0 hc7
          have hg27 := hg25.keep0 hc7
          refine neF rfl rfl rfl rfl (by omega) ?_
          refine go T 8 rfl ?_
          refine o1 rfl (op_load_agg T rfl rfl rfl rfl hg47 (by exact Nat.le_of_ble_eq_true rfl) (by exact rfl) ?_)
          refine op0 rfl rfl ?_
          refine op_store_agg T rfl rfl rfl rfl rfl rfl hg27 (by exact Nat.le_of_ble_eq_true rfl) (fun w8 hc8 hb8 _ => ?_)
          refine go T 4 rfl ?_
          exact post2c T (.inl rfl) rfl rfl rfl rfl rfl hb8 rfl ⟨hfin _ (hc05.trans' hc7) _ hc8, rfl⟩
        · rw [if_pos (.inr h6)]
          refine gtF rfl rfl rfl rfl (by omega) ?_
          refine go T 1 rfl ?_
          refine o1 rfl (op_load_agg T rfl rfl rfl rfl hg45 (by exact Nat.le_of_ble_eq_true rfl) (by exact rfl) ?_)
          refine o1 rfl ?_
          refine op_call rfl rfl rfl (rcheck_has ⟨(ch.toNat : Int), (m : Int), s, []⟩ w5) ?_
          rintro _ w7 ⟨hc7, rfl⟩
          have hg27 := hg25.keep0 hc7
          refine neT rfl rfl rfl rfl (by omega) ?_
          refine go T 6 rfl ?_
          refine o1 rfl (op_build T rfl rfl rfl rfl rfl rfl ?_)
          refine op0 rfl rfl ?_
          refine op_store_agg T rfl rfl rfl rfl rfl rfl hg27 (by exact Nat.le_of_ble_eq_true rfl) (fun w8 hc8 hb8 _ => ?_)
          refine go T 5 rfl ?_
          exact post2c T (.inl rfl) rfl rfl rfl rfl rfl hb8 rfl ⟨hfin _ (hc05.trans' hc7) _ hc8, rfl⟩
      · have hl5 : ¬ t3.length = 0 := fun h => h5 (List.eq_nil_of_length_eq_zero h)
        rw [if_pos (.inl h5)]
        refine gtT rfl rfl rfl rfl (by omega) ?_
        refine go T 10 rfl ?_
        refine o1 rfl (op_build T rfl rfl rfl rfl rfl rfl ?_)
        refine op0 rfl rfl ?_
        refine op_store_agg T rfl rfl rfl rfl rfl rfl hg25 (by exact Nat.le_of_ble_eq_true rfl) (fun w8 hc8 hb8 _ => ?_)
        refine go T 5 rfl ?_
        exact post2c T (.inl rfl) rfl rfl rfl rfl rfl hb8 rfl ⟨hfin _ hc05 _ hc8, rfl⟩
end Go.Proofs.YtbhnplghnhafiaaGreatDoor.Tryz
/-! The references' seals and records, one behind the other, walked. -/
set_option linter.unusedVariables false
namespace Go.Vc
open Go
theorem fourM_getFourM {l : List UInt8} (h : 4 ≤ l.length) : fourM (getFourM l) = l.take 4 := by
  match l with
  | a :: b :: c :: d :: t =>
    have := a.toNat_lt; have := b.toNat_lt; have := c.toNat_lt; have := d.toNat_lt
    simp only [getFourM, fourM, List.take_succ_cons, List.take_zero]
    have e : ∀ (x : UInt8) (n : Nat), n % 256 = x.toNat → UInt8.ofNat n = x := fun x n hn => by
      apply UInt8.toNat_inj.1
      rw [UInt8.toNat_ofNat']
      exact hn
    rw [e a _ (by omega), e b _ (by omega), e c _ (by omega), e d _ (by omega)]
  | [] => simp at h
  | [_] => simp at h
  | [_, _] => simp at h
  | [_, _, _] => simp at h
theorem getFourM_take {l : List UInt8} (n : Nat) (h : 4 ≤ n) : getFourM (l.take n) = getFourM l := by
  match l, n, h with
  | a :: b :: c :: d :: t, n + 4, _ => simp [getFourM]
  | [], _, _ => simp [getFourM]
  | [_], n + 4, _ => simp [getFourM]
  | [_, _], n + 4, _ => simp [getFourM]
  | [_, _, _], n + 4, _ => simp [getFourM]
theorem sum_ne {x : List UInt8} {m : Nat} (h : 4 ≤ x.length) (hm : m < 4294967296) : fourM m ≠ x.take 4 ↔ getFourM x ≠ m := by
  constructor
  · intro h1 h2; exact h1 (by rw [← h2, fourM_getFourM h])
  · intro h1 h2
    have := getFourM_fourM m [] hm
    rw [List.append_nil, h2, getFourM_take 4 (Nat.le_refl _)] at this
    exact h1 this
theorem getFour_lt {l : List UInt8} : getFourM l < 4294967296 := getFourM_lt l
end Go.Vc
namespace Go.Proofs.YtbhnplghnhafiaaGreatDoor.Tryz
open Go Go.Vc
set_option maxHeartbeats 2000000 in
theorem rscan1_has (A : Option Addr) (n c : Nat) (b : List UInt8) (w : World) (hl : SliceOf Ru8 w (.slice A n c) b) (hb : b.length ≤ 1000000000) :
    Has Go.Proofs.Tryz.prog 34 #[.slice A n c] w (fun v w' => ∃ u, v = .tuple #[u, .int .i64 ((scanM b).2.1 : Nat), .bool (scanM b).2.2] ∧ Chg [] w w' ∧ OwnOf Rbs 23 [] w' u (scanM b).1 ∧ ∀ h, u.ownBlock = some h → w.heap.size ≤ h) := by
  obtain ⟨rfl, hl1, hl2⟩ := hl.len
  unfold maxLen at hl2
  refine enter Go.Proofs.Tryz.func34 rfl rfl (by decide) rfl (e := [(0, .slice A b.length c)]) ⟨rfl, trivial⟩ ?_
  refine run ?_
  refine go T 18 rfl ?_
  refine W_loop (σ := Nat × List (List UInt8) × Value) (fun s => [(0, .slice A b.length c), (5, s.2.2), (6, .int .i64 s.1)])
    (fun s w' => s.1 ≤ b.length ∧ 12 * s.2.1.length ≤ s.1 ∧ scanM b = (s.2.1 ++ (scanM (b.drop s.1)).1, s.1 + (scanM (b.drop s.1)).2.1, (scanM (b.drop s.1)).2.2) ∧ Chg [] w w' ∧ OwnOf Rbs 23 [] w' s.2.2 s.2.1 ∧ ∀ h, s.2.2.ownBlock = some h → w.heap.size ≤ h)
    (fun s => b.length - s.1) (0, [], .slice none 0 0) ⟨rfl, rfl, rfl, trivial⟩ ⟨Nat.zero_le _, Nat.zero_le _, by simp, Chg.refl _ _, OwnOf.nil _ _ _ _, fun h hh => by simp [Value.ownBlock] at hh⟩ ?_
  rintro ⟨at_, l, v⟩ w1 ⟨h1, h2, h3, hc, ho, hf⟩
  dsimp only at h1 h2 h3 hc ho hf ⊢
  have hdl : (b.drop at_).length = b.length - at_ := List.length_drop
  by_cases hshort : b.length - at_ < 12
  · have hfirst : firstM (b.drop at_) = ([], 0, true) := by unfold firstM; rw [if_pos (by omega)]
    rw [h3, scanM_end (by rw [hfirst]), hfirst]
    refine run ?_
    refine go T 6 rfl ?_
    refine sbI rfl rfl rfl rfl (by omega) (by omega) ?_
    refine go T 7 rfl ?_
    refine ltT rfl rfl rfl rfl (by omega) ?_
    refine go T 15 rfl ?_
    refine rndR ?_
    refine go T 1 rfl ?_
    refine post3 (.inl rfl) rfl rfl rfl rfl ⟨v, by simp, hc, by simpa using ho, hf⟩
  refine run ?_
  refine go T 6 rfl ?_
  refine sbI rfl rfl rfl rfl (by omega) (by omega) ?_
  refine go T 7 rfl ?_
  refine ltF rfl rfl rfl rfl (by omega) ?_
  refine go T 10 rfl ?_
  refine adI rfl rfl rfl rfl (by omega) (by omega) ?_
  refine o1 rfl ?_
  refine op_cut T (l := at_) (h' := at_ + 12) rfl rfl rfl rfl rfl ⟨_, rfl⟩ ⟨_, some_int (by omega)⟩ (SliceOf.kept Ru8.kept _ _ _ _ hc hl) (by omega) (by omega) (fun A8 hA8 => ?_)
  have h8 := hA8 _ hl
  rw [show (b.take (at_ + 12)).drop at_ = (b.drop at_).take 12 from by rw [List.drop_take]; congr 1; omega] at h8
  rw [show at_ + 12 - at_ = 12 from by omega]
  rw [show at_ + 12 - at_ = 12 from by omega] at h8
  clear hA8
  have hx12 : ((b.drop at_).take 12).length = 12 := by rw [List.length_take]; omega
  have e4 : ((b.drop at_).take 12).take 4 = (b.drop at_).take 4 := by rw [List.take_take]; rfl
  have e8 : (((b.drop at_).take 12).take 8).drop 4 = ((b.drop at_).drop 4).take 4 := by rw [List.take_take, List.drop_take]; rfl
  have e12 : (((b.drop at_).take 12).take 12).drop 8 = ((b.drop at_).drop 8).take 4 := by rw [List.take_take, List.drop_take]; rfl
  have hs4 : ∀ w', Chg [] w w' → SliceOf Ru8 w' (cutV A8 (c - at_) 0 4) ((b.drop at_).take 4) := fun w' hc => by have := cutV_reads (SliceOf.kept Ru8.kept _ _ _ _ hc h8) (Nat.zero_le 4) (by omega); rwa [e4] at this
  have hs8 : ∀ w', Chg [] w w' → SliceOf Ru8 w' (cutV A8 (c - at_) 4 8) (((b.drop at_).drop 4).take 4) := fun w' hc => by have := cutV_reads (SliceOf.kept Ru8.kept _ _ _ _ hc h8) (show 4 ≤ 8 by decide) (by omega); rwa [e8] at this
  have hs12 : ∀ w', Chg [] w w' → SliceOf Ru8 w' (cutV A8 (c - at_) 8 12) (((b.drop at_).drop 8).take 4) := fun w' hc => by have := cutV_reads (SliceOf.kept Ru8.kept _ _ _ _ hc h8) (show 8 ≤ 12 by decide) (by omega); rwa [e12] at this
  have hd4 : 4 ≤ ((b.drop at_).drop 4).length := by rw [List.length_drop]; omega
  have hd8 : 4 ≤ ((b.drop at_).drop 8).length := by rw [List.length_drop]; omega
  have hcat : 12 ≤ c - at_ := by omega
  refine go T 5 rfl ?_
  refine W_walk 8 [] fol (by kernel_rfl) (by kernel_rfl) ?_
  refine Walk.plain rfl (by intro val w_ hR hp; exact op_move rfl rfl ⟨Chg.refl _ _, rfl⟩) ?_; dsimp only [List.nil_append, List.cons_append]
  refine Walk.plain (v := cutV A8 (c - at_) 0 4) rfl (by intro val w_ hR hp; exact op_cutV (l := 0) (h' := 4) T rfl rfl rfl rfl rfl rfl ⟨_, rfl⟩ (by omega) (by omega) ⟨Chg.refl _ _, rfl⟩) ?_; dsimp only [List.nil_append, List.cons_append]
  refine Walk.plain (v := .int .u32 (crcN ((b.drop at_).take 4) : Nat)) rfl (by intro val w_ hR hp; exact op_call rfl rfl rfl (rsum_has _ _ _ _ _ (hs4 _ (hc.trans' hR))) (fun v w' ⟨h1, h2⟩ => ⟨h1 ▸ Chg.refl _ _, h2⟩)) ?_; dsimp only [List.nil_append, List.cons_append]
  refine Walk.rel (fun v w' => SliceOf Ru8 w' v (fourM (crcN ((b.drop at_).take 4)))) rfl (fun v w w' h hab => SliceOf.kept Ru8.kept _ _ _ _ hab h) (by intro val w_ hR hp; exact op_call rfl rfl rfl (rfour_has _ _ (crcN_lt _)) (fun v w' m => ⟨m.chg, m.reads⟩)) ?_; dsimp only [List.nil_append, List.cons_append]
  refine Walk.plain (v := .string (str (fourM (crcN ((b.drop at_).take 4))))) rfl ?_ ?_
  · intro val w_ hR hp
    have h3 : SliceOf Ru8 w_ (val 3) (fourM (crcN ((b.drop at_).take 4))) := hp 3 rfl _ _ rfl rfl
    obtain ⟨A3, c3, e3, _, _⟩ := h3.form
    rw [e3] at h3
    exact op_string T rfl (congrArg some e3) rfl rfl rfl h3 ⟨Chg.refl _ _, rfl⟩
  dsimp only [List.nil_append, List.cons_append]
  refine Walk.plain rfl (by intro val w_ hR hp; exact op_move rfl rfl ⟨Chg.refl _ _, rfl⟩) ?_; dsimp only [List.nil_append, List.cons_append]
  refine Walk.plain (v := cutV A8 (c - at_) 4 8) rfl (by intro val w_ hR hp; exact op_cutV (l := 4) (h' := 8) T rfl rfl rfl rfl rfl ⟨_, rfl⟩ ⟨_, rfl⟩ (by omega) (by omega) ⟨Chg.refl _ _, rfl⟩) ?_; dsimp only [List.nil_append, List.cons_append]
  refine Walk.plain (v := .string (str (((b.drop at_).drop 4).take 4))) rfl (by intro val w_ hR hp; exact op_string T rfl rfl rfl rfl rfl (hs8 _ (hc.trans' hR)) ⟨Chg.refl _ _, rfl⟩) ?_; dsimp only [List.nil_append, List.cons_append]
  refine Walk.fin ?_
  intro val w2 hc2 hp
  clear hp
  replace hc := hc.trans' hc2
  replace ho := ho.keep0 hc2
  have hfirst : firstM (b.drop at_) = if getFourM ((b.drop at_).drop 4) ≠ crcN ((b.drop at_).take 4) then ([], 0, false)
      else if (b.drop at_).length - 12 < getFourM (b.drop at_) then ([], 0, true)
      else if getFourM ((b.drop at_).drop 8) ≠ crcN (((b.drop at_).drop 12).take (getFourM (b.drop at_))) then ([], 0, false)
      else (((b.drop at_).drop 12).take (getFourM (b.drop at_)), 12 + getFourM (b.drop at_), true) := by
    unfold firstM; rw [if_neg (by omega)]
  refine runL ?_
  refine o1 rfl ?_
  refine op_str_neq (a := fourM (crcN ((b.drop at_).take 4))) (b := ((b.drop at_).drop 4).take 4) rfl rfl rfl (fun h => ?_) (fun h => ?_)
  · rw [if_pos ((sum_ne hd4 (crcN_lt _)).1 h)] at hfirst
    rw [h3, scanM_end (by rw [hfirst]), hfirst]
    refine go T 15 rfl ?_
    refine rndR ?_
    refine go T 1 rfl ?_
    exact post3 (.inl rfl) rfl rfl rfl rfl ⟨v, by simp, hc, by simpa using ho, hf⟩
  rw [if_neg (fun h' => (sum_ne hd4 (crcN_lt _)).2 h' h)] at hfirst
  obtain ⟨x0, x1, x2, x3, xs, hx⟩ : ∃ x0 x1 x2 x3 xs, (b.drop at_).take 12 = x0 :: x1 :: x2 :: x3 :: xs := by
    match hq : (b.drop at_).take 12 with
    | x0 :: x1 :: x2 :: x3 :: xs => exact ⟨x0, x1, x2, x3, xs, rfl⟩
    | [] => rw [hq] at hx12; simp at hx12
    | [_] => rw [hq] at hx12; simp at hx12
    | [_, _] => rw [hq] at hx12; simp at hx12
    | [_, _, _] => rw [hq] at hx12; simp at hx12
  have hg4 : getFourM (b.drop at_) = x0.toNat + 256 * x1.toNat + 65536 * x2.toNat + 16777216 * x3.toNat := by
    rw [← getFourM_take 12 (by decide), hx]; rfl
  have h82 := SliceOf.kept Ru8.kept _ _ _ _ hc h8
  rw [hx] at h82
  have hlen82 := h82.len
  obtain ⟨ad, u0, rfl, hu0, rfl⟩ := h82.get (i := 0) rfl
  obtain ⟨ad1, u1, e1, hu1, rfl⟩ := h82.get (i := 1) rfl
  cases e1
  obtain ⟨ad2, u2, e2, hu2, rfl⟩ := h82.get (i := 2) rfl
  cases e2
  obtain ⟨ad3, u3, e3, hu3, rfl⟩ := h82.get (i := 3) rfl
  cases e3
  have b0 := x0.toNat_lt; have b1 := x1.toNat_lt; have b2 := x2.toNat_lt; have b3 := x3.toNat_lt
  clear h82 hlen82
  refine go T 6 rfl ?_
  refine W_walk 21 [] fol (by kernel_rfl) (by kernel_rfl) ?_
  refine Walk.plain rfl (by intro val w_ hR hp; exact op_move rfl rfl ⟨Chg.refl _ _, rfl⟩) ?_; dsimp only [List.nil_append, List.cons_append]
  refine Walk.plain rfl (by intro val w_ hR hp; exact op_index_nat (i := 0) T rfl rfl rfl rfl rfl rfl (by omega) ⟨Chg.refl _ _, rfl⟩) ?_; dsimp only [List.nil_append, List.cons_append]
  refine Walk.plain rfl (by intro val w_ hR hp; exact op_load T rfl rfl rfl rfl (hR.cell0 (by assumption)) ⟨Chg.refl _ _, rfl⟩) ?_; dsimp only [List.nil_append, List.cons_append]
  refine Walk.plain rfl (by intro val w_ hR hp; exact op_convert_fit T rfl rfl rfl rfl (wrap_u64_in (by omega) (by omega)) ⟨Chg.refl _ _, rfl⟩) ?_; dsimp only [List.nil_append, List.cons_append]
  refine Walk.plain rfl (by intro val w_ hR hp; exact op_move rfl rfl ⟨Chg.refl _ _, rfl⟩) ?_; dsimp only [List.nil_append, List.cons_append]
  refine Walk.plain rfl (by intro val w_ hR hp; exact op_index_nat (i := 1) T rfl rfl rfl rfl rfl rfl (by omega) ⟨Chg.refl _ _, rfl⟩) ?_; dsimp only [List.nil_append, List.cons_append]
  refine Walk.plain rfl (by intro val w_ hR hp; exact op_load T rfl rfl rfl rfl (hR.cell0 (by assumption)) ⟨Chg.refl _ _, rfl⟩) ?_; dsimp only [List.nil_append, List.cons_append]
  refine Walk.plain rfl (by intro val w_ hR hp; exact op_convert_fit T rfl rfl rfl rfl (wrap_u64_in (by omega) (by omega)) ⟨Chg.refl _ _, rfl⟩) ?_; dsimp only [List.nil_append, List.cons_append]
  refine Walk.plain rfl (by intro val w_ hR hp; exact op_shl_fit (s := 8) rfl (by decide) (show _ < 18446744073709551616 by omega) rfl rfl rfl ⟨Chg.refl _ _, rfl⟩) ?_; dsimp only [List.nil_append, List.cons_append]
  refine Walk.plain rfl (by intro val w_ hR hp; exact op_add rfl rfl rfl (wrap_u64_in (by omega) (by omega)) ⟨Chg.refl _ _, rfl⟩) ?_; dsimp only [List.nil_append, List.cons_append]
  refine Walk.plain rfl (by intro val w_ hR hp; exact op_move rfl rfl ⟨Chg.refl _ _, rfl⟩) ?_; dsimp only [List.nil_append, List.cons_append]
  refine Walk.plain rfl (by intro val w_ hR hp; exact op_index_nat (i := 2) T rfl rfl rfl rfl rfl rfl (by omega) ⟨Chg.refl _ _, rfl⟩) ?_; dsimp only [List.nil_append, List.cons_append]
  refine Walk.plain rfl (by intro val w_ hR hp; exact op_load T rfl rfl rfl rfl (hR.cell0 (by assumption)) ⟨Chg.refl _ _, rfl⟩) ?_; dsimp only [List.nil_append, List.cons_append]
  refine Walk.plain rfl (by intro val w_ hR hp; exact op_convert_fit T rfl rfl rfl rfl (wrap_u64_in (by omega) (by omega)) ⟨Chg.refl _ _, rfl⟩) ?_; dsimp only [List.nil_append, List.cons_append]
  refine Walk.plain rfl (by intro val w_ hR hp; exact op_shl_fit (s := 16) rfl (by decide) (show _ < 18446744073709551616 by omega) rfl rfl rfl ⟨Chg.refl _ _, rfl⟩) ?_; dsimp only [List.nil_append, List.cons_append]
  refine Walk.plain rfl (by intro val w_ hR hp; exact op_add rfl rfl rfl (wrap_u64_in (by omega) (by omega)) ⟨Chg.refl _ _, rfl⟩) ?_; dsimp only [List.nil_append, List.cons_append]
  refine Walk.plain rfl (by intro val w_ hR hp; exact op_move rfl rfl ⟨Chg.refl _ _, rfl⟩) ?_; dsimp only [List.nil_append, List.cons_append]
  refine Walk.plain rfl (by intro val w_ hR hp; exact op_index_nat (i := 3) T rfl rfl rfl rfl rfl rfl (by omega) ⟨Chg.refl _ _, rfl⟩) ?_; dsimp only [List.nil_append, List.cons_append]
  refine Walk.plain rfl (by intro val w_ hR hp; exact op_load T rfl rfl rfl rfl (hR.cell0 (by assumption)) ⟨Chg.refl _ _, rfl⟩) ?_; dsimp only [List.nil_append, List.cons_append]
  refine Walk.plain rfl (by intro val w_ hR hp; exact op_convert_fit T rfl rfl rfl rfl (wrap_u64_in (by omega) (by omega)) ⟨Chg.refl _ _, rfl⟩) ?_; dsimp only [List.nil_append, List.cons_append]
  refine Walk.plain rfl (by intro val w_ hR hp; exact op_shl_fit (s := 24) rfl (by decide) (show _ < 18446744073709551616 by omega) rfl rfl rfl ⟨Chg.refl _ _, rfl⟩) ?_; dsimp only [List.nil_append, List.cons_append]
  refine Walk.fin ?_
  intro val2 w3 hc3 hp
  clear hp
  replace hc := hc.trans' hc3
  replace ho := ho.keep0 hc3
  have hsum : (x0.toNat : Int) + ((x1.toNat * 2 ^ 8 : Nat) : Int) + ((x2.toNat * 2 ^ 16 : Nat) : Int) + ((x3.toNat * 2 ^ 24 : Nat) : Int) = (getFourM (b.drop at_) : Nat) := by rw [hg4]; omega
  refine runL ?_
  refine o1 rfl (op_add rfl rfl rfl (wrap_u64_in (by omega) (by omega)) ?_)
  refine go T 8 rfl ?_
  refine sbI rfl rfl rfl rfl (by omega) (by omega) ?_
  refine o1 rfl (op_convert_fit T rfl rfl rfl rfl (wrap_u64_in (by omega) (by omega)) ?_)
  rw [hsum]
  clear hsum
  have hlt4 := getFourM_lt (b.drop at_)
  rw [hdl] at hfirst
  generalize getFourM (b.drop at_) = m at *
  clear hu0 hu1 hu2 hu3 hg4
  by_cases hm : b.length - at_ - 12 < m
  · rw [if_pos hm] at hfirst
    rw [h3, scanM_end (by rw [hfirst]), hfirst]
    refine gtT rfl rfl rfl rfl (by omega) ?_
    refine go T 15 rfl ?_
    refine rndR ?_
    refine go T 1 rfl ?_
    exact post3 (.inl rfl) rfl rfl rfl rfl ⟨v, by simp, hc, by simpa using ho, hf⟩
  rw [if_neg hm] at hfirst
  refine gtF rfl rfl rfl rfl (by omega) ?_
  refine go T 9 rfl ?_
  refine adI rfl rfl rfl rfl (by omega) (by omega) ?_
  refine go T 1 rfl ?_
  refine adI rfl rfl rfl rfl (by omega) (by omega) ?_
  refine go T 1 rfl ?_
  refine o1 rfl (op_convert_fit T rfl rfl rfl rfl (wrap_i64_in (by omega) (by omega)) ?_)
  refine adI rfl rfl rfl rfl (by omega) (by omega) ?_
  refine o1 rfl ?_
  refine op_cut T (l := at_ + 12) (h' := at_ + 12 + m) rfl rfl rfl rfl rfl ⟨_, rfl⟩ ⟨_, some_int (by omega)⟩ (SliceOf.kept Ru8.kept _ _ _ _ hc hl) (by omega) (by omega) (fun A10 hA10 => ?_)
  have h10 := hA10 _ hl
  rw [show (b.take (at_ + 12 + m)).drop (at_ + 12) = ((b.drop at_).drop 12).take m from by rw [List.drop_take, List.drop_drop]; congr 1; omega] at h10
  clear hA10
  rw [show at_ + 12 + m - (at_ + 12) = m from by omega]
  rw [show at_ + 12 + m - (at_ + 12) = m from by omega] at h10
  have hxl : (((b.drop at_).drop 12).take m).length = m := by rw [List.length_take, List.length_drop, hdl]; omega
  refine go T 5 rfl ?_
  refine W_walk 7 [] fol (by kernel_rfl) (by kernel_rfl) ?_
  refine Walk.plain rfl (by intro val w_ hR hp; exact op_move rfl rfl ⟨Chg.refl _ _, rfl⟩) ?_; dsimp only [List.nil_append, List.cons_append]
  refine Walk.plain (v := .int .u32 (crcN (((b.drop at_).drop 12).take m) : Nat)) rfl (by intro val w_ hR hp; exact op_call rfl rfl rfl (rsum_has _ _ _ _ _ (SliceOf.kept Ru8.kept _ _ _ _ (hc.trans' hR) h10)) (fun v w' ⟨h1, h2⟩ => ⟨h1 ▸ Chg.refl _ _, h2⟩)) ?_; dsimp only [List.nil_append, List.cons_append]
  refine Walk.rel (fun v w' => SliceOf Ru8 w' v (fourM (crcN (((b.drop at_).drop 12).take m)))) rfl (fun v w w' h hab => SliceOf.kept Ru8.kept _ _ _ _ hab h) (by intro val w_ hR hp; exact op_call rfl rfl rfl (rfour_has _ _ (crcN_lt _)) (fun v w' m => ⟨m.chg, m.reads⟩)) ?_; dsimp only [List.nil_append, List.cons_append]
  refine Walk.plain (v := .string (str (fourM (crcN (((b.drop at_).drop 12).take m))))) rfl ?_ ?_
  · intro val w_ hR hp
    have h3 : SliceOf Ru8 w_ (val 2) (fourM (crcN (((b.drop at_).drop 12).take m))) := hp 2 rfl _ _ rfl rfl
    obtain ⟨A3, c3, e3, _, _⟩ := h3.form
    rw [e3] at h3
    exact op_string T rfl (congrArg some e3) rfl rfl rfl h3 ⟨Chg.refl _ _, rfl⟩
  dsimp only [List.nil_append, List.cons_append]
  refine Walk.plain rfl (by intro val w_ hR hp; exact op_move rfl rfl ⟨Chg.refl _ _, rfl⟩) ?_; dsimp only [List.nil_append, List.cons_append]
  refine Walk.plain (v := cutV (some ad) (c - at_) 8 12) rfl (by intro val w_ hR hp; exact op_cutV (l := 8) (h' := 12) T rfl rfl rfl rfl rfl ⟨_, rfl⟩ ⟨_, rfl⟩ (by omega) (by omega) ⟨Chg.refl _ _, rfl⟩) ?_; dsimp only [List.nil_append, List.cons_append]
  refine Walk.plain (v := .string (str (((b.drop at_).drop 8).take 4))) rfl (by intro val w_ hR hp; exact op_string T rfl rfl rfl rfl rfl (hs12 _ (hc.trans' hR)) ⟨Chg.refl _ _, rfl⟩) ?_; dsimp only [List.nil_append, List.cons_append]
  refine Walk.fin ?_
  intro val3 w4 hc4 hp
  clear hp
  replace hc := hc.trans' hc4
  replace ho := ho.keep0 hc4
  refine runL ?_
  refine o1 rfl ?_
  refine op_str_neq (a := fourM (crcN (((b.drop at_).drop 12).take m))) (b := ((b.drop at_).drop 8).take 4) rfl rfl rfl (fun h => ?_) (fun h => ?_)
  · rw [if_pos ((sum_ne hd8 (crcN_lt _)).1 h)] at hfirst
    rw [h3, scanM_end (by rw [hfirst]), hfirst]
    refine go T 15 rfl ?_
    refine rndR ?_
    refine go T 1 rfl ?_
    exact post3 (.inl rfl) rfl rfl rfl rfl ⟨v, by simp, hc, by simpa using ho, hf⟩
  rw [if_neg (fun h' => (sum_ne hd8 (crcN_lt _)).2 h' h)] at hfirst
  have hstep := scanM_step (l := b.drop at_) (by rw [hfirst]; simp)
  rw [hfirst] at hstep
  dsimp only at hstep
  rw [List.drop_drop, List.drop_drop] at hstep
  rw [hstep] at h3
  dsimp only at h3
  rw [List.drop_drop] at h10 hxl
  generalize (b.drop (at_ + 12)).take m = x at *
  refine go T 9 rfl ?_
  refine o1 rfl ?_
  refine op_buildSlice T rfl rfl rfl rfl rfl rfl rfl (fun g w5 hgs hc5 hg5 => ?_)
  replace ho := ho.keep0 hc5
  have hfirm : Firm (v.ownBlock.toList ++ []) w5 (fun w => Rbs w (.slice A10 m (c - (at_ + 12))) x) := Firm.old (fun a b hab h => SliceOf.kept Ru8.kept _ _ _ _ hab h) h10 (hc.trans' hc5) (fun k hk => hf k (by simpa using hk))
  refine o1 rfl ?_
  refine op_push T (xa := x) rfl rfl rfl rfl rfl rfl rfl rfl ho hg5 (by exact rfl) hfirm (by omega) rfl (fun v' w6 ho6 hc6 hb6 => ?_)
  have hc06 : Chg [] w w6 := (hc.trans' hc5).trans hc6 (fun k hk hlt => by have := hf k (by simpa using hk); omega)
  refine go T 6 rfl ?_
  refine o1 rfl (op_convert_fit T rfl rfl rfl rfl (wrap_i64_in (by omega) (by omega)) ?_)
  refine adI rfl rfl rfl rfl (by omega) (by omega) ?_
  refine adI rfl rfl rfl rfl (by omega) (by omega) ?_
  refine go T 3 rfl ?_
  refine Round_n (at_ + (12 + m), l ++ [x], v') ⟨rfl, rfl, some_int (by dsimp only; omega), trivial⟩ ⟨by dsimp only; omega, by dsimp only; simp; omega, ?_, hc06, ho6, fun h hh => ?_⟩ (by dsimp only; omega)
  · dsimp only
    rw [h3, List.append_assoc, Nat.add_assoc at_]; rfl
  · rcases hb6 with hb | ⟨g', hb, hge⟩
    · exact hf h (by rw [← hb]; exact hh)
    · rw [hb] at hh; injection hh with hh
      have := hc.size; have := hc5.size; omega
end Go.Proofs.YtbhnplghnhafiaaGreatDoor.Tryz
/-! Files: what a file system is, in plain words. -/
set_option linter.unusedVariables false
namespace Go.Vc
open Go

abbrev Nm := List UInt8
abbrev Dir := List (Nm × Nat)
theorem nm_lt_irrefl (a : Nm) : ¬ a < a := List.lt_irrefl a
theorem nm_lt_trans {a b c : Nm} (h : a < b) (k : b < c) : a < c := List.lt_trans h k
theorem nm_tri {a b : Nm} (h1 : ¬ a < b) (h2 : a ≠ b) : b < a := by
  have h3 : b ≤ a := List.not_lt.1 h1
  exact List.not_le.1 fun h4 => h2 (List.le_antisymm h4 h3)
def looks : Dir → Nm → Option Nat
  | [], _ => none
  | (k', i) :: d, k => if k' = k then some i else looks d k
def ins : Dir → Nm → Nat → Dir
  | [], k, i => [(k, i)]
  | (k', i') :: d, k, i => if k < k' then (k, i) :: (k', i') :: d else if k' = k then (k, i) :: d else (k', i') :: ins d k i
def del : Dir → Nm → Dir
  | [], _ => []
  | (k', i') :: d, k => if k' = k then del d k else (k', i') :: del d k
def Rising (d : Dir) : Prop := (d.map (·.1)).Pairwise (fun x y => x < y)
theorem looks_mem {d : Dir} {k : Nm} {i : Nat} (h : looks d k = some i) : (k, i) ∈ d := by
  induction d with
  | nil => cases h
  | cons p d ih =>
    obtain ⟨k', i'⟩ := p
    simp only [looks] at h
    split at h
    · injection h with h; rename_i e; subst e; subst h; simp
    · simp [ih h]
theorem looks_isSome {d : Dir} {k : Nm} : (looks d k).isSome = true ↔ k ∈ d.map (·.1) := by
  induction d with
  | nil => simp [looks]
  | cons p d ih =>
    obtain ⟨k', i'⟩ := p
    simp only [looks]
    split
    · rename_i e; subst e; simp
    · rename_i e; rw [ih, List.map_cons, List.mem_cons]; exact ⟨.inr, fun h => h.resolve_left (fun e' => e e'.symm)⟩
theorem Rising.nodup {d : Dir} (h : Rising d) : (d.map (·.1)).Nodup := by
  unfold List.Nodup
  exact h.imp (fun {a b} hlt e => by subst e; exact nm_lt_irrefl _ hlt)
theorem Rising.tail {p : Nm × Nat} {d : Dir} (h : Rising (p :: d)) : Rising d := (List.pairwise_cons.1 h).2
theorem Rising.head {p : Nm × Nat} {d : Dir} (h : Rising (p :: d)) : ∀ q ∈ d, p.1 < q.1 := fun q hq => (List.pairwise_cons.1 h).1 _ (List.mem_map.2 ⟨q, hq, rfl⟩)
theorem Rising.cons {p : Nm × Nat} {d : Dir} (h : Rising d) (hp : ∀ q ∈ d, p.1 < q.1) : Rising (p :: d) := List.pairwise_cons.2 ⟨fun k hk => by obtain ⟨q, hq, rfl⟩ := List.mem_map.1 hk; exact hp q hq, h⟩
theorem looks_of_mem {d : Dir} (hr : Rising d) {k : Nm} {i : Nat} (h : (k, i) ∈ d) : looks d k = some i := by
  induction d with
  | nil => cases h
  | cons p d ih =>
    obtain ⟨k', i'⟩ := p
    simp only [looks]
    rcases List.mem_cons.1 h with h | h
    · injection h with h1 h2; rw [if_pos h1.symm, h2]
    · rw [if_neg (fun e => ?_)]
      · exact ih hr.tail h
      · have := hr.head _ h; simp only at this; rw [e] at this; exact nm_lt_irrefl _ this
theorem ins_mem {d : Dir} {k : Nm} {i : Nat} {q : Nm × Nat} (h : q ∈ ins d k i) : q = (k, i) ∨ q ∈ d := by
  induction d with
  | nil => simpa [ins] using h
  | cons p d ih =>
    obtain ⟨k', i'⟩ := p
    simp only [ins] at h
    split at h
    · rcases List.mem_cons.1 h with h | h
      · exact .inl h
      · exact .inr h
    · split at h
      · rcases List.mem_cons.1 h with h | h
        · exact .inl h
        · exact .inr (by simp [h])
      · rcases List.mem_cons.1 h with h | h
        · exact .inr (by simp [h])
        · exact (ih h).imp id (fun h => by simp [h])
theorem looks_ins {d : Dir} (hr : Rising d) (k : Nm) (i : Nat) (k' : Nm) : looks (ins d k i) k' = if k' = k then some i else looks d k' := by
  induction d with
  | nil => simp only [ins, looks]; by_cases h : k = k' <;> simp [h, eq_comm]
  | cons p d ih =>
    obtain ⟨k0, i0⟩ := p
    simp only [ins]
    split
    · simp only [looks]
      by_cases h : k = k'
      · subst h; simp
      · rw [if_neg h]; rw [if_neg (show ¬ k' = k from fun e => h e.symm)]
    · split
      · rename_i e
        subst e
        simp only [looks]
        by_cases h : k0 = k'
        · subst h; simp
        · rw [if_neg h, if_neg (fun e => h e.symm), if_neg h]
      · rename_i h1 h2
        simp only [looks]
        by_cases h : k0 = k'
        · subst h; rw [if_pos rfl, if_neg h2, if_pos rfl]
        · rw [if_neg h, if_neg h]; exact ih hr.tail
theorem ins_rising {d : Dir} (hr : Rising d) (k : Nm) (i : Nat) : Rising (ins d k i) := by
  induction d with
  | nil => simp [ins, Rising]
  | cons p d ih =>
    obtain ⟨k0, i0⟩ := p
    simp only [ins]
    split
    · rename_i h
      exact hr.cons fun q hq => by
        rcases List.mem_cons.1 hq with rfl | hq
        · exact h
        · exact nm_lt_trans h (hr.head q hq)
    · split
      · rename_i e
        subst e
        exact hr.tail.cons (fun q hq => hr.head q hq)
      · rename_i h1 h2
        refine (ih hr.tail).cons fun q hq => ?_
        rcases ins_mem hq with rfl | hq
        · exact nm_tri h1 (fun e => h2 e.symm)
        · exact hr.head q hq
theorem del_mem {d : Dir} {k : Nm} {q : Nm × Nat} (h : q ∈ del d k) : q ∈ d := by
  induction d with
  | nil => cases h
  | cons p d ih =>
    obtain ⟨k', i'⟩ := p
    simp only [del] at h
    split at h
    · simp [ih h]
    · rcases List.mem_cons.1 h with h | h
      · simp [h]
      · simp [ih h]
theorem looks_del (d : Dir) (k k' : Nm) : looks (del d k) k' = if k' = k then none else looks d k' := by
  induction d with
  | nil => simp [del, looks]
  | cons p d ih =>
    obtain ⟨k0, i0⟩ := p
    simp only [del]
    split
    · rename_i e
      subst e
      rw [ih]
      simp only [looks]
      by_cases h : k' = k0
      · rw [if_pos h, if_pos h]
      · rw [if_neg h, if_neg h, if_neg (fun e => h e.symm)]
    · rename_i e
      simp only [looks]
      by_cases h : k0 = k'
      · subst h; rw [if_pos rfl, if_neg e, if_pos rfl]
      · rw [if_neg h, if_neg h]; exact ih
theorem del_rising {d : Dir} (hr : Rising d) (k : Nm) : Rising (del d k) := by
  induction d with
  | nil => simp [del, Rising]
  | cons p d ih =>
    obtain ⟨k0, i0⟩ := p
    simp only [del]
    split
    · exact ih hr.tail
    · exact (ih hr.tail).cons fun q hq => hr.head q (del_mem hq)
theorem ins_length (d : Dir) (k : Nm) (i : Nat) : (ins d k i).length ≤ d.length + 1 := by
  induction d with
  | nil => simp [ins]
  | cons p d ih =>
    obtain ⟨k0, i0⟩ := p
    simp only [ins]
    split
    · simp
    · split
      · simp
      · simp; omega
theorem ins_length_in {d : Dir} (hr : Rising d) {k : Nm} {i j : Nat} (h : looks d k = some j) : (ins d k i).length = d.length := by
  induction d with
  | nil => cases h
  | cons p d ih =>
    obtain ⟨k0, i0⟩ := p
    simp only [ins]
    split
    · rename_i hlt
      have := looks_mem h
      rcases List.mem_cons.1 this with h | h
      · injection h with h1 h2; rw [h1] at hlt; exact absurd hlt (nm_lt_irrefl _)
      · have := nm_lt_trans hlt (hr.head _ h)
        exact absurd this (nm_lt_irrefl _)
    · split
      · simp
      · rename_i h1 h2
        simp only [looks] at h
        rw [if_neg h2] at h
        simp [ih hr.tail h]
theorem del_length (d : Dir) (k : Nm) : (del d k).length ≤ d.length := by
  induction d with
  | nil => simp [del]
  | cons p d ih =>
    obtain ⟨k0, i0⟩ := p
    simp only [del]
    split
    · simp; omega
    · simp; omega
theorem del_length_in {d : Dir} {k : Nm} {j : Nat} (h : looks d k = some j) : (del d k).length + 1 ≤ d.length := by
  induction d with
  | nil => cases h
  | cons p d ih =>
    obtain ⟨k0, i0⟩ := p
    simp only [del]
    split
    · have := del_length d k; simp; omega
    · rename_i h2
      simp only [looks] at h
      rw [if_neg h2] at h
      have := ih h
      simp; omega

structure FileM where
  b : List UInt8
  synced : Nat
structure ChM where
  kind : Nat
  name : Nm
  to : Nm
  id : Option Nat
structure FsM where
  room : Int
  calls : Int
  fail : Int
  files : List FileM
  dir : Dir
  lasts : Dir
  waits : List ChM
def doM (d : Dir) (c : ChM) : Dir :=
  if c.kind = 0 then (match c.id with | some i => ins d c.name i | none => d)
  else if c.kind = 1 then (match looks d c.name with | some i => ins (del d c.name) c.to i | none => del d c.name)
  else del d c.name
/-- A change that may be done. -/
def Fit1 (d : Dir) (c : ChM) : Prop := (c.kind = 0 → c.id ≠ none) ∧ (c.kind = 1 → looks d c.name ≠ none)
structure DirOk (n : Nat) (d : Dir) : Prop where
  up : Rising d
  few : d.length ≤ 150
  name : ∀ p ∈ d, p.1.length ≤ 20 ∧ p.2 < n
def Replay (n : Nat) : Dir → List ChM → Dir → Prop
  | d, [], d' => d = d' ∧ DirOk n d
  | d, c :: cs, d' => DirOk n d ∧ Fit1 d c ∧ (∀ i, c.id = some i → i < n) ∧ c.name.length ≤ 20 ∧ c.to.length ≤ 20 ∧ Replay n (doM d c) cs d'
theorem DirOk.more {n m : Nat} {d : Dir} (h : DirOk n d) (hm : n ≤ m) : DirOk m d := ⟨h.up, h.few, fun p hp => ⟨(h.name p hp).1, Nat.lt_of_lt_of_le (h.name p hp).2 hm⟩⟩
theorem Replay.more {n m : Nat} (hm : n ≤ m) : ∀ {cs : List ChM} {d d' : Dir}, Replay n d cs d' → Replay m d cs d'
  | [], d, d', h => ⟨h.1, h.2.more hm⟩
  | c :: cs, d, d', h => ⟨h.1.more hm, h.2.1, fun i hi => Nat.lt_of_lt_of_le (h.2.2.1 i hi) hm, h.2.2.2.1, h.2.2.2.2.1, Replay.more hm h.2.2.2.2.2⟩
theorem Replay.last {n : Nat} : ∀ {cs : List ChM} {d d' : Dir}, Replay n d cs d' → DirOk n d'
  | [], d, d', h => h.1 ▸ h.2
  | c :: cs, d, d', h => Replay.last h.2.2.2.2.2
theorem Replay.first {n : Nat} : ∀ {cs : List ChM} {d d' : Dir}, Replay n d cs d' → DirOk n d
  | [], d, d', h => h.2
  | c :: cs, d, d', h => h.1
theorem Replay.snoc {n : Nat} {c : ChM} (hi : ∀ i, c.id = some i → i < n) (hn : c.name.length ≤ 20) (ht : c.to.length ≤ 20) : ∀ {cs : List ChM} {d d' : Dir}, Replay n d cs d' → Fit1 d' c → DirOk n (doM d' c) → Replay n d (cs ++ [c]) (doM d' c)
  | [], d, d', h, hf, ho => by obtain ⟨rfl, h2⟩ := h; exact ⟨h2, hf, hi, hn, ht, rfl, ho⟩
  | c' :: cs, d, d', h, hf, ho => ⟨h.1, h.2.1, h.2.2.1, h.2.2.2.1, h.2.2.2.2.1, Replay.snoc hi hn ht h.2.2.2.2.2 hf ho⟩
/-- All but the first k changes are still to come. -/
theorem Replay.at {n : Nat} : ∀ (k : Nat) {cs : List ChM} {d d' : Dir}, Replay n d cs d' → k ≤ cs.length → Replay n ((cs.take k).foldl doM d) (cs.drop k) d'
  | 0, cs, d, d', h, _ => h
  | k + 1, [], d, d', h, hk => by simp at hk
  | k + 1, c :: cs, d, d', h, hk => by
    simp only [List.take_succ_cons, List.foldl_cons, List.drop_succ_cons]
    exact Replay.at k h.2.2.2.2.2 (by simpa using hk)

structure FsOk (s : FsM) : Prop where
  room0 : 0 ≤ s.room
  room1 : s.room ≤ 4194304
  calls0 : 0 ≤ s.calls
  fail0 : -1 ≤ s.fail
  fail1 : s.fail ≤ 9223372036854775807
  files : ∀ f ∈ s.files, f.synced ≤ f.b.length ∧ f.b.length ≤ 4194304
  replay : Replay s.files.length s.lasts s.waits s.dir
  waits : (s.waits.length : Int) ≤ s.calls
theorem FsOk.dir {s : FsM} (h : FsOk s) : DirOk s.files.length s.dir := h.replay.last
theorem FsOk.lasts {s : FsM} (h : FsOk s) : DirOk s.files.length s.lasts := h.replay.first

/-! ### What the calls do -/
def mayM (k : Nm) : Bool := k.all (fun c => (decide (97 ≤ c.toNat) && decide (c.toNat ≤ 122)) || (decide (65 ≤ c.toNat) && decide (c.toNat ≤ 90)) || (decide (48 ≤ c.toNat) && decide (c.toNat ≤ 57)) || decide (c.toNat = 46)) && decide (1 ≤ k.length) && decide (k.length ≤ 20)
def lenOf (s : FsM) (i : Nat) : Nat := (s.files[i]?.map (·.b.length)).getD 0
def usedM (s : FsM) : Nat := (s.dir.map fun p => lenOf s p.2).sum
def roomM (n : Int) : Int := min (max n 0) 4194304
def newM (n : Int) : FsM := ⟨roomM n, 0, -1, [], [], [], []⟩
/-- A call is counted; 5: it fails. -/
def callM (s : FsM) : FsM := { s with calls := s.calls + 1, fail := max (s.fail - 1) (-1) }
def failsM (s : FsM) : Bool := s.fail == 0
def changeM (s : FsM) (c : ChM) : FsM := { s with dir := doM s.dir c, waits := s.waits ++ [c] }
def createM (s0 : FsM) (k : Nm) : FsM × Int :=
  let s := callM s0
  if failsM s0 then (s, 5) else if !mayM k then (s, 10) else if (looks s.dir k).isNone && decide (150 ≤ s.dir.length) then (s, 4)
  else (changeM { s with files := s.files ++ [⟨[], 0⟩] } ⟨0, k, [], some s.files.length⟩, 0)
def appendM (s0 : FsM) (k : Nm) (b : List UInt8) : FsM × Int :=
  let s := callM s0
  if failsM s0 then (s, 5) else match looks s.dir k with
  | none => (s, 3)
  | some i => if s.room - usedM s < b.length then (s, 4) else ({ s with files := s.files.modify i fun f => { f with b := f.b ++ b } }, 0)
def syncM (s0 : FsM) (k : Nm) : FsM × Int :=
  let s := callM s0
  if failsM s0 then (s, 5) else match looks s.dir k with
  | none => (s, 3)
  | some i => ({ s with files := s.files.modify i fun f => { f with synced := f.b.length } }, 0)
def syncDirM (s0 : FsM) : FsM × Int :=
  let s := callM s0
  if failsM s0 then (s, 5) else ({ s with lasts := s.dir, waits := [] }, 0)
def renameM (s0 : FsM) (k k' : Nm) : FsM × Int :=
  let s := callM s0
  if failsM s0 then (s, 5) else if (looks s.dir k).isNone then (s, 3) else if !mayM k' then (s, 10) else (changeM s ⟨1, k, k', none⟩, 0)
def removeM (s0 : FsM) (k : Nm) : FsM × Int :=
  let s := callM s0
  if failsM s0 then (s, 5) else if (looks s.dir k).isNone then (s, 3) else (changeM s ⟨2, k, [], none⟩, 0)
def readM (s : FsM) (k : Nm) : Option (List UInt8) := (looks s.dir k).bind fun i => (s.files[i]?).map (·.b)
def rotB (b : List UInt8) (sec : Nat) (x : UInt8) : List UInt8 := b.mapIdx fun i c => if sec * 64 ≤ i ∧ i < (sec + 1) * 64 then c ^^^ (x + UInt8.ofNat (i % 64)) else c
def rotM (s : FsM) (k : Nm) (sec : Int) (x : UInt8) : FsM × Int := match looks s.dir k with
  | none => (s, 3)
  | some i => if sec < 0 ∨ (((lenOf s i + 63) / 64 : Nat) : Int) ≤ sec then (s, 7) else ({ s with files := s.files.modify i fun f => { f with b := rotB f.b sec.toNat x } }, 0)
def crashDir (s : FsM) (n : Int) : Dir := (s.waits.take n.toNat).foldl doM s.lasts
/-- What of a file lasts. -/
def tailOf (f : FileM) (tails : List Int) (j : Nat) : Nat := f.synced + (match tails[j]? with | some t => min (max t 0).toNat (f.b.length - f.synced) | none => 0)
def cutM (f : FileM) (tails : List Int) (j : Nat) : FileM := ⟨f.b.take (tailOf f tails j), tailOf f tails j⟩
def crashFiles (s : FsM) (d : Dir) (tails : List Int) : List FileM := d.mapIdx fun j p => cutM ((s.files[p.2]?).getD ⟨[], 0⟩) tails j
def crashM (s : FsM) (n : Int) (tails : List Int) : FsM :=
  let d := crashDir s n
  let d' := d.mapIdx fun j p => (p.1, j)
  ⟨s.room, 0, -1, crashFiles s d tails, d', d', []⟩

/-! ### .. keeps it well -/
theorem newM_ok (n : Int) : FsOk (newM n) := by
  refine ⟨by simp [newM, roomM]; omega, by simp [newM, roomM]; omega, by simp [newM], by simp [newM], by simp [newM], by simp [newM], ?_, by simp [newM]⟩
  exact ⟨rfl, ⟨List.Pairwise.nil, by simp [newM], by simp [newM]⟩⟩
theorem callM_ok {s : FsM} (h : FsOk s) : FsOk (callM s) := ⟨h.room0, h.room1, by have := h.calls0; simp [callM]; omega, by simp [callM]; omega, by have := h.fail1; simp [callM]; omega, h.files, h.replay, by have := h.waits; simp [callM]; omega⟩
theorem mayM_len {k : Nm} (h : mayM k = true) : k.length ≤ 20 := by
  unfold mayM at h
  simp only [Bool.and_eq_true, decide_eq_true_eq] at h
  exact h.2
theorem looks_name {n : Nat} {d : Dir} (h : DirOk n d) {k : Nm} {i : Nat} (hl : looks d k = some i) : k.length ≤ 20 ∧ i < n := h.name _ (looks_mem hl)
theorem ins_ok {n : Nat} {d : Dir} (h : DirOk n d) {k : Nm} {i : Nat} (hk : k.length ≤ 20) (hi : i < n) (hfew : (ins d k i).length ≤ 150) : DirOk n (ins d k i) :=
  ⟨ins_rising h.up k i, hfew, fun p hp => by
    rcases ins_mem hp with rfl | hp
    · exact ⟨hk, hi⟩
    · exact h.name p hp⟩
theorem del_ok {n : Nat} {d : Dir} (h : DirOk n d) (k : Nm) : DirOk n (del d k) := ⟨del_rising h.up k, Nat.le_trans (del_length d k) h.few, fun p hp => h.name p (del_mem hp)⟩
theorem changeM_ok {s : FsM} (h : FsOk s) {c : ChM} (hf : Fit1 s.dir c) (hi : ∀ i, c.id = some i → i < s.files.length) (hn : c.name.length ≤ 20) (ht : c.to.length ≤ 20) (ho : DirOk s.files.length (doM s.dir c)) (hw : (s.waits.length : Int) + 1 ≤ s.calls) : FsOk (changeM s c) :=
  ⟨h.room0, h.room1, h.calls0, h.fail0, h.fail1, h.files, h.replay.snoc hi hn ht hf ho, by simp [changeM]; exact hw⟩
theorem usedM_callM (s : FsM) : usedM (callM s) = usedM s := rfl
theorem createM_ok {s : FsM} (h : FsOk s) (k : Nm) : FsOk (createM s k).1 := by
  have h1 := callM_ok h
  unfold createM
  simp only
  split
  · exact h1
  split
  · exact h1
  split
  · exact h1
  rename_i h2 h3 h4
  have hm : mayM k = true := by simpa using h3
  have h5 : FsOk { callM s with files := (callM s).files ++ [⟨[], 0⟩] } := ⟨h1.room0, h1.room1, h1.calls0, h1.fail0, h1.fail1, fun f hf => by
    rcases List.mem_append.1 hf with hf | hf
    · exact h1.files f hf
    · simp at hf; subst hf; simp, h1.replay.more (by simp), h1.waits⟩
  refine changeM_ok h5 ⟨fun _ => by simp, fun e => by simp at e⟩ (fun i hi => by simp at hi; subst hi; simp) (mayM_len hm) (by simp) ?_ (by have := h.waits; simp [callM]; omega)
  show DirOk _ (ins (callM s).dir k (callM s).files.length)
  refine ins_ok h5.dir (mayM_len hm) (by simp) ?_
  show (ins (callM s).dir k (callM s).files.length).length ≤ 150
  cases hl : looks (callM s).dir k with
  | none =>
    rw [hl] at h4
    simp at h4
    have := ins_length (callM s).dir k (callM s).files.length
    omega
  | some j => rw [ins_length_in h1.dir.up hl]; exact h1.dir.few
theorem modify_ok {s : FsM} (h : FsOk s) (i : Nat) (g : FileM → FileM) (hg : ∀ f, s.files[i]? = some f → (g f).synced ≤ (g f).b.length ∧ (g f).b.length ≤ 4194304) : FsOk { s with files := s.files.modify i g } :=
  ⟨h.room0, h.room1, h.calls0, h.fail0, h.fail1, fun f hf => by
    obtain ⟨j, hj⟩ := List.getElem?_of_mem hf
    rw [List.getElem?_modify] at hj
    by_cases e : i = j
    · subst e
      cases hf' : s.files[i]? with
      | none => simp [hf'] at hj
      | some f' => simp [hf'] at hj; subst hj; exact hg f' hf'
    · simp [e] at hj
      exact h.files f (List.mem_of_getElem? hj), by
    show Replay (s.files.modify i g).length _ _ _
    rw [List.length_modify]; exact h.replay, h.waits⟩
theorem lenOf_le {s : FsM} (h : FsOk s) (i : Nat) : lenOf s i ≤ 4194304 := by
  unfold lenOf
  cases hf : s.files[i]? with
  | none => simp
  | some f => exact (h.files f (List.mem_of_getElem? hf)).2
theorem usedM_ge {s : FsM} {k : Nm} {i : Nat} (hl : looks s.dir k = some i) : lenOf s i ≤ usedM s := by
  unfold usedM
  have hm := looks_mem hl
  generalize s.dir = d at hm
  induction d with
  | nil => cases hm
  | cons p d ih =>
    rcases List.mem_cons.1 hm with h | h
    · subst h; simp
    · have := ih h; simp; omega
theorem sum_le {α : Type} (f : α → Nat) (B : Nat) (hf : ∀ x, f x ≤ B) : ∀ l : List α, (l.map f).sum ≤ l.length * B
  | [] => by simp
  | a :: l => by
    have := sum_le f B hf l
    have := hf a
    simp only [List.map_cons, List.sum_cons, List.length_cons, Nat.succ_mul]
    omega
theorem usedM_le {s : FsM} (h : FsOk s) : usedM s ≤ 629145600 := by
  unfold usedM
  have := sum_le (fun p : Nm × Nat => lenOf s p.2) 4194304 (fun p => lenOf_le h p.2) s.dir
  have := h.dir.few
  omega
theorem appendM_ok {s : FsM} (h : FsOk s) (k : Nm) (b : List UInt8) : FsOk (appendM s k b).1 := by
  have h1 := callM_ok h
  unfold appendM
  simp only
  split
  · exact h1
  split
  · exact h1
  rename_i i hl
  split
  · exact h1
  rename_i hr
  refine modify_ok h1 i _ fun f hf => ?_
  have h2 := h1.files f (List.mem_of_getElem? hf)
  have h3 : lenOf (callM s) i ≤ usedM (callM s) := usedM_ge hl
  have h4 : lenOf (callM s) i = f.b.length := by unfold lenOf; rw [hf]; rfl
  have := h1.room1
  simp only [List.length_append]
  omega
theorem syncM_ok {s : FsM} (h : FsOk s) (k : Nm) : FsOk (syncM s k).1 := by
  have h1 := callM_ok h
  unfold syncM
  simp only
  split
  · exact h1
  split
  · exact h1
  exact modify_ok h1 _ _ fun f hf => ⟨Nat.le_refl _, (h1.files f (List.mem_of_getElem? hf)).2⟩
theorem syncDirM_ok {s : FsM} (h : FsOk s) : FsOk (syncDirM s).1 := by
  have h1 := callM_ok h
  unfold syncDirM
  simp only
  split
  · exact h1
  exact ⟨h1.room0, h1.room1, h1.calls0, h1.fail0, h1.fail1, h1.files, ⟨rfl, h1.dir⟩, by have := h1.calls0; simpa using this⟩
theorem renameM_ok {s : FsM} (h : FsOk s) (k k' : Nm) : FsOk (renameM s k k').1 := by
  have h1 := callM_ok h
  unfold renameM
  simp only
  split
  · exact h1
  split
  · exact h1
  split
  · exact h1
  rename_i h2 h3 h4
  cases hl : looks (callM s).dir k with
  | none => rw [hl] at h3; simp at h3
  | some i =>
    obtain ⟨hk, hi⟩ := looks_name h1.dir hl
    have hk' := mayM_len (k := k') (by simpa using h4)
    refine changeM_ok h1 ⟨fun e => by simp at e, fun _ => by simp [hl]⟩ (fun i hi => by cases hi) hk hk' ?_ (by have := h.waits; simp [callM]; omega)
    have : doM (callM s).dir ⟨1, k, k', none⟩ = ins (del (callM s).dir k) k' i := by simp [doM, hl]
    rw [this]
    refine ins_ok (del_ok h1.dir k) hk' hi ?_
    have := ins_length (del (callM s).dir k) k' i
    have := del_length_in hl
    have := h1.dir.few
    omega
theorem removeM_ok {s : FsM} (h : FsOk s) (k : Nm) : FsOk (removeM s k).1 := by
  have h1 := callM_ok h
  unfold removeM
  simp only
  split
  · exact h1
  split
  · exact h1
  rename_i h2 h3
  cases hl : looks (callM s).dir k with
  | none => rw [hl] at h3; simp at h3
  | some i =>
    refine changeM_ok h1 ⟨fun e => by simp at e, fun e => by simp at e⟩ (fun i hi => by cases hi) (looks_name h1.dir hl).1 (by simp) ?_ (by have := h.waits; simp [callM]; omega)
    exact del_ok h1.dir k
theorem rotB_length (b : List UInt8) (sec : Nat) (x : UInt8) : (rotB b sec x).length = b.length := by simp [rotB]
theorem rotM_ok {s : FsM} (h : FsOk s) (k : Nm) (sec : Int) (x : UInt8) : FsOk (rotM s k sec x).1 := by
  unfold rotM
  split
  · exact h
  split
  · exact h
  exact modify_ok h _ _ fun f hf => by rw [rotB_length]; exact h.files f (List.mem_of_getElem? hf)
theorem failM_ok {s : FsM} (h : FsOk s) (n : Int) (hn : n ≤ 9223372036854775807) : FsOk { s with fail := max n (-1) } := ⟨h.room0, h.room1, h.calls0, by simp; omega, by simp; omega, h.files, h.replay, h.waits⟩
theorem roomM_ok {s : FsM} (h : FsOk s) (n : Int) : FsOk { s with room := roomM n } := ⟨by simp [roomM]; omega, by simp [roomM]; omega, h.calls0, h.fail0, h.fail1, h.files, h.replay, h.waits⟩
theorem tailOf_le (f : FileM) (tails : List Int) (j : Nat) (h : f.synced ≤ f.b.length) : tailOf f tails j ≤ f.b.length := by
  unfold tailOf
  split
  · exact Nat.add_le_of_le_sub' h (Nat.min_le_right _ _)
  · exact h
theorem crashDir_ok {s : FsM} (h : FsOk s) (n : Int) : DirOk s.files.length (crashDir s n) := by
  unfold crashDir
  by_cases hn : n.toNat ≤ s.waits.length
  · exact (h.replay.at n.toNat hn).first
  · rw [List.take_of_length_le (by omega)]
    have := (h.replay.at s.waits.length (Nat.le_refl _)).first
    rw [List.take_length] at this; exact this
theorem crashM_ok {s : FsM} (h : FsOk s) (n : Int) (tails : List Int) : FsOk (crashM s n tails) := by
  have hd := crashDir_ok h n
  refine ⟨h.room0, h.room1, by simp [crashM], by simp [crashM], by simp [crashM], fun f hf => ?_, ⟨rfl, ?_⟩, by simp [crashM]⟩
  · simp only [crashM, crashFiles, List.mem_mapIdx] at hf
    obtain ⟨j, hj, rfl⟩ := hf
    have hk : ∀ f : FileM, f.synced ≤ f.b.length ∧ f.b.length ≤ 4194304 → (cutM f tails j).synced ≤ (cutM f tails j).b.length ∧ (cutM f tails j).b.length ≤ 4194304 := fun f hf => by
      have := tailOf_le f tails j hf.1
      simp only [cutM, List.length_take]
      omega
    apply hk
    cases hf : s.files[((crashDir s n)[j]).2]? with
    | none => simp
    | some f => exact h.files f (List.mem_of_getElem? hf)
  · refine ⟨?_, by simpa [crashM] using hd.few, fun p hp => ?_⟩
    · have : ((crashDir s n).mapIdx fun j p => (p.1, j)).map (·.1) = (crashDir s n).map (·.1) := by
        apply List.ext_getElem?
        intro i
        simp [List.getElem?_map, List.getElem?_mapIdx]
        cases (crashDir s n)[i]? <;> simp
      unfold Rising crashM
      simp only
      rw [this]; exact hd.up
    · simp only [crashM, List.mem_mapIdx] at hp
      obtain ⟨j, hj, rfl⟩ := hp
      exact ⟨(hd.name _ (List.getElem_mem hj)).1, by simpa [crashM, crashFiles] using hj⟩
end Go.Vc
/-
  DERIVED: THE SHELF's CONTRACTS AT THIS DUMP, IN PLAIN WORDS (tools/lay-plain.mjs out of 'TryzShelf.lean', which tools/lay-shelf.mjs wrote): THE SAME DECLARATIONS UNDER THE SAME NAMES: 'import', 'namespace', 'open', 'def', 'theorem' AND NOTHING ELSE: no command of the shelf's: FOR A HAND-IN. Each laying: the table of numbers ('.._ren') and one theorem, a field a fact of the dump's own or the kernel's comparison; each contract: ONE APPLICATION.
-/
namespace Go.Proofs
open Go.Shelf
def Tryz.keysA_ren : Go.Shelf.Ren := ⟨fun | 7 => 45 | 10 => 65 | n => n, fun | 23 => 52 | 26 => 9 | 3 => 57 | 28 => 86 | 0 => 0 | 27 => 85 | 33 => 56 | 4 => 4 | n => n, fun | n => n⟩
theorem Tryz.keysA : Go.Proofs.SlLaysZ.n7 Tryz.prog Tryz.keysA_ren := {
  mixed := by kernel_rfl
  f7 := ⟨Tryz.f45.name, by decide, Tryz.func45.trans (congrArg some (by kernel_rfl))⟩
  f10 := ⟨Tryz.f65.name, by decide, Tryz.func65.trans (congrArg some (by kernel_rfl))⟩
  t0 := Tryz.underlying0
  a0 := Tryz.isAgg0
  z0 := Tryz.sizeOf0
  v0 := Tryz.zeroValue0
  t4 := Tryz.underlying4
  a4 := Tryz.isAgg4
  z4 := Tryz.sizeOf4
  v4 := Tryz.zeroValue4
  t23 := Tryz.underlying52
  a23 := Tryz.isAgg52
  z23 := Tryz.sizeOf52
  v23 := Tryz.zeroValue52
  t26 := Tryz.underlying9
  a26 := Tryz.isAgg9
  z26 := Tryz.sizeOf9
  v26 := Tryz.zeroValue9
  t27 := Tryz.underlying85
  a27 := Tryz.isAgg85
  z27 := Tryz.sizeOf85
  v27 := Tryz.zeroValue85
  t28 := Tryz.underlying86
  a28 := Tryz.isAgg86
  z28 := Tryz.sizeOf86
  v28 := Tryz.zeroValue86
  t33 := Tryz.underlying56
  a33 := Tryz.isAgg56
  z33 := Tryz.sizeOf56
  v33 := Tryz.zeroValue56 }
def Tryz.sortedA_ren : Go.Shelf.Ren := ⟨fun | 6 => 44 | 8 => 63 | 9 => 64 | 11 => 77 | 13 => 79 | 12 => 78 | 23 => 98 | 24 => 85 | 14 => 89 | 15 => 90 | 16 => 91 | 17 => 92 | 18 => 93 | 19 => 94 | 20 => 95 | 21 => 96 | 22 => 97 | 25 => 101 | 26 => 102 | 27 => 103 | 28 => 104 | 29 => 105 | 30 => 106 | 31 => 107 | n => n, fun | 26 => 9 | 28 => 86 | 24 => 83 | 0 => 0 | 3 => 3 | 37 => 92 | 48 => 89 | 50 => 65 | 4 => 4 | 40 => 123 | 39 => 122 | 45 => 128 | 5 => 5 | 9 => 9 | 51 => 131 | 55 => 135 | 57 => 139 | 58 => 140 | 33 => 56 | n => n, fun | n => n⟩
theorem Tryz.sortedA : Go.Proofs.SlLaysZ.n6 Tryz.prog Tryz.sortedA_ren := {
  mixed := by kernel_rfl
  f6 := ⟨Tryz.f44.name, by decide, Tryz.func44.trans (congrArg some (by kernel_rfl))⟩
  f8 := ⟨Tryz.f63.name, by decide, Tryz.func63.trans (congrArg some (by kernel_rfl))⟩
  f11 := ⟨Tryz.f77.name, by decide, Tryz.func77.trans (congrArg some (by kernel_rfl))⟩
  t0 := Tryz.underlying0
  a0 := Tryz.isAgg0
  z0 := Tryz.sizeOf0
  v0 := Tryz.zeroValue0
  t24 := Tryz.underlying83
  a24 := Tryz.isAgg83
  z24 := Tryz.sizeOf83
  v24 := Tryz.zeroValue83
  t26 := Tryz.underlying9
  a26 := Tryz.isAgg9
  z26 := Tryz.sizeOf9
  v26 := Tryz.zeroValue9
  t28 := Tryz.underlying86
  a28 := Tryz.isAgg86
  z28 := Tryz.sizeOf86
  v28 := Tryz.zeroValue86
  i26 := by kernel_rfl }
def Tryz.sortA_ren : Go.Shelf.Ren := ⟨fun | 6 => 64 | 8 => 79 | 9 => 78 | 19 => 98 | 20 => 85 | 21 => 89 | 22 => 90 | 23 => 91 | 24 => 92 | 25 => 93 | 26 => 94 | 27 => 95 | 28 => 96 | 29 => 97 | 36 => 101 | 31 => 102 | 32 => 103 | 37 => 104 | 38 => 105 | 39 => 106 | 41 => 107 | n => n, fun | 27 => 83 | 29 => 9 | 3 => 3 | 32 => 92 | 26 => 83 | 0 => 0 | 44 => 89 | 46 => 65 | 4 => 4 | 36 => 123 | 35 => 122 | 41 => 128 | 5 => 5 | 9 => 9 | 53 => 131 | 57 => 135 | 63 => 139 | 64 => 140 | n => n, fun | n => n⟩
theorem Tryz.sortA : Go.Proofs.SlLaysM.n6 Tryz.prog Tryz.sortA_ren := {
  mixed := by kernel_rfl
  f6 := ⟨Tryz.f64.name, by decide, Tryz.func64.trans (congrArg some (by kernel_rfl))⟩
  f8 := Tryz.func79.trans (congrArg some (by kernel_rfl))
  f9 := ⟨Tryz.f78.name, by decide, Tryz.func78.trans (congrArg some (by kernel_rfl))⟩
  f19 := Tryz.func98.trans (congrArg some (by kernel_rfl))
  f20 := Tryz.func85.trans (congrArg some (by kernel_rfl))
  f21 := ⟨Tryz.f89.name, by decide, Tryz.func89.trans (congrArg some (by kernel_rfl))⟩
  f22 := ⟨Tryz.f90.name, by decide, Tryz.func90.trans (congrArg some (by kernel_rfl))⟩
  f23 := ⟨Tryz.f91.name, by decide, Tryz.func91.trans (congrArg some (by kernel_rfl))⟩
  f24 := ⟨Tryz.f92.name, by decide, Tryz.func92.trans (congrArg some (by kernel_rfl))⟩
  f25 := ⟨Tryz.f93.name, by decide, Tryz.func93.trans (congrArg some (by kernel_rfl))⟩
  f26 := ⟨Tryz.f94.name, by decide, Tryz.func94.trans (congrArg some (by kernel_rfl))⟩
  f27 := ⟨Tryz.f95.name, by decide, Tryz.func95.trans (congrArg some (by kernel_rfl))⟩
  f28 := ⟨Tryz.f96.name, by decide, Tryz.func96.trans (congrArg some (by kernel_rfl))⟩
  f29 := ⟨Tryz.f97.name, by decide, Tryz.func97.trans (congrArg some (by kernel_rfl))⟩
  f31 := Tryz.func102.trans (congrArg some (by kernel_rfl))
  f32 := Tryz.func103.trans (congrArg some (by kernel_rfl))
  f36 := ⟨Tryz.f101.name, by decide, Tryz.func101.trans (congrArg some (by kernel_rfl))⟩
  f37 := ⟨Tryz.f104.name, by decide, Tryz.func104.trans (congrArg some (by kernel_rfl))⟩
  f38 := ⟨Tryz.f105.name, by decide, Tryz.func105.trans (congrArg some (by kernel_rfl))⟩
  f39 := ⟨Tryz.f106.name, by decide, Tryz.func106.trans (congrArg some (by kernel_rfl))⟩
  f41 := ⟨Tryz.f107.name, by decide, Tryz.func107.trans (congrArg some (by kernel_rfl))⟩
  t0 := Tryz.underlying0
  a0 := Tryz.isAgg0
  z0 := Tryz.sizeOf0
  v0 := Tryz.zeroValue0
  t3 := Tryz.underlying3
  a3 := Tryz.isAgg3
  z3 := Tryz.sizeOf3
  v3 := Tryz.zeroValue3
  t4 := Tryz.underlying4
  a4 := Tryz.isAgg4
  z4 := Tryz.sizeOf4
  v4 := Tryz.zeroValue4
  t5 := Tryz.underlying5
  a5 := Tryz.isAgg5
  z5 := Tryz.sizeOf5
  v5 := Tryz.zeroValue5
  t9 := Tryz.underlying9
  a9 := Tryz.isAgg9
  z9 := Tryz.sizeOf9
  v9 := Tryz.zeroValue9
  t26 := Tryz.underlying83
  a26 := Tryz.isAgg83
  z26 := Tryz.sizeOf83
  v26 := Tryz.zeroValue83
  t27 := Tryz.underlying83
  a27 := Tryz.isAgg83
  z27 := Tryz.sizeOf83
  v27 := Tryz.zeroValue83
  t29 := Tryz.underlying9
  a29 := Tryz.isAgg9
  z29 := Tryz.sizeOf9
  v29 := Tryz.zeroValue9
  t32 := Tryz.underlying92
  a32 := Tryz.isAgg92
  z32 := Tryz.sizeOf92
  v32 := Tryz.zeroValue92
  t35 := Tryz.underlying122
  a35 := Tryz.isAgg122
  z35 := Tryz.sizeOf122
  v35 := Tryz.zeroValue122
  t36 := Tryz.underlying123
  a36 := Tryz.isAgg123
  z36 := Tryz.sizeOf123
  v36 := Tryz.zeroValue123
  t41 := Tryz.underlying128
  a41 := Tryz.isAgg128
  z41 := Tryz.sizeOf128
  v41 := Tryz.zeroValue128
  t44 := Tryz.underlying89
  a44 := Tryz.isAgg89
  z44 := Tryz.sizeOf89
  v44 := Tryz.zeroValue89
  t46 := Tryz.underlying65
  a46 := Tryz.isAgg65
  z46 := Tryz.sizeOf65
  v46 := Tryz.zeroValue65
  t53 := Tryz.underlying131
  a53 := Tryz.isAgg131
  z53 := Tryz.sizeOf131
  v53 := Tryz.zeroValue131
  t57 := Tryz.underlying135
  a57 := Tryz.isAgg135
  z57 := Tryz.sizeOf135
  v57 := Tryz.zeroValue135
  t63 := Tryz.underlying139
  a63 := Tryz.isAgg139
  z63 := Tryz.sizeOf139
  v63 := Tryz.zeroValue139
  t64 := Tryz.underlying140
  a64 := Tryz.isAgg140
  z64 := Tryz.sizeOf140
  v64 := Tryz.zeroValue140 }
def Tryz.cloneM_ren : Go.Shelf.Ren := ⟨fun | 5 => 33 | 7 => 48 | n => n, fun | 23 => 52 | 25 => 9 | 3 => 57 | 4 => 4 | 20 => 20 | n => n, fun | n => n⟩
theorem Tryz.cloneM : Go.Proofs.SlLaysW.n5 Tryz.prog Tryz.cloneM_ren := {
  mixed := by kernel_rfl
  f5 := ⟨Tryz.f33.name, by decide, Tryz.func33.trans (congrArg some (by kernel_rfl))⟩
  f7 := Tryz.func48.trans (congrArg some (by kernel_rfl))
  t4 := Tryz.underlying4
  a4 := Tryz.isAgg4
  z4 := Tryz.sizeOf4
  v4 := Tryz.zeroValue4
  t20 := Tryz.underlying20
  a20 := Tryz.isAgg20
  z20 := Tryz.sizeOf20
  v20 := Tryz.zeroValue20
  t23 := Tryz.underlying52
  a23 := Tryz.isAgg52
  z23 := Tryz.sizeOf52
  v23 := Tryz.zeroValue52 }
end Go.Proofs
/-! The library: a map's keys sorted; a map's copy. -/
set_option linter.unusedVariables false
namespace Go.Vc
open Go Go.RowKit Go.Maps Go.Proofs
theorem keyV_enc : keyV = Go.Proofs.encStr := funext fun _ => rfl
/-- A map with texts for keys, as the kit's walks over maps ask for it. -/
theorem MapAt.owns {P : Program} {β : Type} {bv : β → Value} {f : List UInt8 → Option β} {w : World} {r : Nat} {kt : TypeId} (hk : P.underlying kt = some .string) (hm : MapAt keyV bv w r f) (B : List (List UInt8))
    (hB : ∀ k, (f k).isSome = true → k ∈ B ∧ k.length ≤ maxLen) (hBl : B.length ≤ 1000000) :
    ∃ (D : DataW Unit) (nn : Nat), w.ownsMap P kt (fun _ => some (.lit (.bool true), [])) r nn D ∧ Maps.size D ≤ B.length ∧ ∀ ss : List (List UInt8), ss.Perm (strKeys D) → ss.Nodup ∧ ∀ k, k ∈ ss ↔ (f k).isSome = true := by
  obtain ⟨es, clk, h1, h2, h3, h4⟩ := hm
  let R : Value → Option (DataW Unit × List MemPlace) := fun _ => some (.lit (.bool true), [])
  have hrd : ∀ e ∈ es.toList, ∃ k, e.key = keyV k ∧ (f k).isSome = true ∧ WideElems.rd P kt R e = some (.string k, .lit (.bool true)) := fun e he => by
    obtain ⟨k, b, e1, e2, e3⟩ := h3 e he
    have hs : (f k).isSome = true := by rw [e3]; rfl
    refine ⟨k, e1, hs, ?_⟩
    have hl := (hB k hs).2
    unfold WideElems.rd keyOf
    rw [hk, e1]
    simp only
    unfold mapKey keyV
    rw [hk]
    simp only [str_size]
    rw [if_pos hl]
    simp [str, R]
  have hL : (es.toList.map fun e => strOf (WideElems.rg P kt R e).1).map keyV = es.toList.map (·.key) := by
    rw [List.map_map]
    refine List.map_congr_left fun e he => ?_
    obtain ⟨k, e1, _, e3⟩ := hrd e he
    simp only [Function.comp]
    rw [WideElems.rg_of e3, e1]
    rfl
  have hnd : (es.toList.map fun e => strOf (WideElems.rg P kt R e).1).Nodup := by
    have := h2.2.2
    rw [← hL] at this
    exact (List.pairwise_map.1 this).imp (fun hne e => hne (by rw [e]))
  have hmem : ∀ k, k ∈ (es.toList.map fun e => strOf (WideElems.rg P kt R e).1) ↔ (f k).isSome = true := fun k => by
    rw [List.mem_map]
    constructor
    · rintro ⟨e, he, rfl⟩
      obtain ⟨k, e1, e2, e3⟩ := hrd e he
      rw [WideElems.rg_of e3]; exact e2
    · intro hk'
      obtain ⟨b, hb⟩ := Option.isSome_iff_exists.1 hk'
      obtain ⟨e, he, hek⟩ := h4 k b hb
      obtain ⟨k', e1, e2, e3⟩ := hrd e he
      refine ⟨e, he, ?_⟩
      rw [WideElems.rg_of e3]
      exact strKey.inj _ _ (e1.symm.trans hek)
  have hlen : es.size ≤ B.length := by
    have := nodup_length _ B hnd (fun k hk' => (hB k ((hmem k).1 hk')).1)
    simpa using this
  refine ⟨.map ((es.toList.map (WideElems.rg P kt R)).foldr DataW.insert []), es.size, ⟨es, clk, h1, ⟨by unfold maxLen; omega, h2, fun x hx => by obtain ⟨k, _, _, e3⟩ := hrd x hx; exact ⟨_, e3⟩⟩, Nat.le_refl _, rfl⟩, ?_, fun ss hss => ?_⟩
  · show List.length _ ≤ _
    rw [(WideShapes.sorted_perm _).length_eq]; simpa using hlen
  · have hp : (strKeys (.map ((es.toList.map (WideElems.rg P kt R)).foldr DataW.insert []))).Perm (es.toList.map fun e => strOf (WideElems.rg P kt R e).1) := by
      show (List.map _ _).Perm _
      have := (WideShapes.sorted_perm (es.toList.map (WideElems.rg P kt R))).map (fun p => strOf p.1)
      rw [List.map_map] at this
      exact this
    have h5 := hss.trans hp
    exact ⟨h5.nodup_iff.2 hnd, fun k => by rw [h5.mem_iff]; exact hmem k⟩
end Go.Vc
namespace Go.Proofs.YtbhnplghnhafiaaGreatDoor.Tryz
open Go Go.Vc Go.RowKit Go.Maps Go.Sort Go.Shelf

theorem keysD_has (b : Nat) (w : World) : Has Go.Proofs.Tryz.prog 45 #[.map (some b)] w
    (fun v w' => v = .func (.func 65) #[] #[.pointer (some ⟨w.heap.size, 0, none⟩)] ∧ w' = w.alloc (.cells #[.map (some b)] 52)) := by
  refine ⟨⟨_, Go.Proofs.Tryz.func45, rfl, by decide⟩, (callsIn_wide.1 (AnyZ.keys_in Go.Proofs.Tryz.keysA Fence.wide 5 trivial rfl (some b) w)).mono ?_⟩
  rintro e w' ⟨rfl, rfl⟩
  exact ⟨_, rfl, rfl, rfl⟩
theorem sortsD (m : Nat) : AnyZ.SortsIn Go.Proofs.Tryz.prog Go.Proofs.Tryz.sortedA_ren Fence.wide m :=
  ⟨fun blk off cap ss W hH hblk hsz => callsIn_wide.2 (AnyM.slices_Sort_string Go.Proofs.Tryz.sortA blk off cap ss W hH hblk hsz),
   fun p cap W => callsIn_wide.2 (AnyM.slices_Sort_string_none Go.Proofs.Tryz.sortA p cap W)⟩
set_option maxHeartbeats 1000000 in
theorem sortedD_has {β : Type} {bv : β → Value} {f : List UInt8 → Option β} {w : World} {b : Nat} (hm : MapAt keyV bv w b f) (B : List (List UInt8)) (hB : ∀ k, (f k).isSome = true → k ∈ B ∧ k.length ≤ maxLen) (hBl : B.length ≤ 1000000) :
    Has Go.Proofs.Tryz.prog 44 #[.func (.func 65) #[] #[.pointer (some ⟨w.heap.size, 0, none⟩)]] (w.alloc (.cells #[.map (some b)] 52))
    (fun v w' => Chg [] w w' ∧ ∃ ss : List (List UInt8), ss.Nodup ∧ (∀ k, k ∈ ss ↔ (f k).isSome = true) ∧ Own w' 9 1 v ss.length ((sorted ss).map keyV) ∧ (∀ g, v.ownBlock = some g → w.heap.size ≤ g)) := by
  obtain ⟨D, nn, hown, hsize, hD⟩ := hm.owns (P := Go.Proofs.Tryz.prog) Go.Proofs.Tryz.underlying9 B hB hBl
  have hbl := hown.lt
  have hseq : SeqGives Fence.wide 2 Go.Proofs.Tryz.prog 65 #[.pointer (some ⟨w.heap.size, 0, none⟩)] encStr (fun ss => ss.Perm (strKeys D)) (Maps.size D) (w.alloc (.cells #[.map (some b)] 52)) :=
    AnyZ.keys_gives (ρ := Go.Proofs.Tryz.keysA_ren) { Go.Proofs.Tryz.keysA with } Fence.wide _ trivial rfl (by omega) w.heap.size b nn D _ (by simp) (by simp) (by
      obtain ⟨es, clock, hb, Ft, hs, hD⟩ := hown
      exact ⟨es, clock, (Below.heap_alloc _ _ b hbl).trans hb, Ft, hs, hD⟩)
  have hc := AnyZ.sorted_in Go.Proofs.Tryz.sortedA Fence.wide 5 trivial trivial trivial trivial rfl (by omega) (sortsD _) (enters_of Go.Proofs.Tryz.func64 (by kernel_rfl) rfl) 65 #[.pointer (some ⟨w.heap.size, 0, none⟩)] trivial (enters_of Go.Proofs.Tryz.func65 (by kernel_rfl) rfl) _ _ (by unfold maxLen; omega) (by omega) _ hseq
  refine ⟨⟨_, Go.Proofs.Tryz.func44, rfl, by decide⟩, (callsIn_wide.1 hc).mono ?_⟩
  rintro e w' ⟨v, ss, rfl, hp, hrow, hnil, hb⟩
  obtain ⟨h1, h2⟩ := hD ss hp
  have hf : ∀ g, v.ownBlock = some g → w.heap.size ≤ g := fun g hg => by
    have := (World.ownsRow.lt hrow g hg).1
    simp at this; omega
  refine ⟨v, rfl, (Chg.alloc w _).trans (Chg.of_below hb) (fun _ h _ => h), ss, h1, h2, ?_, hf⟩
  unfold Own
  rw [keyV_enc]
  exact ⟨hrow.1, hrow.2.imp id (fun ⟨g, cap, cur, e1, e2, e3⟩ => ⟨g, cap, cur, e1, Nat.zero_le _, e3⟩)⟩

theorem cloneD_has {κ β : Type} {kv : κ → Value} {bv : β → Value} {f : κ → Option β} {w : World} {b : Nat} (hm : MapAt kv bv w b f) :
    Has Go.Proofs.Tryz.prog 33 #[.map (some b)] w (fun v w' => ∃ b', v = .map (some b') ∧ w.heap.size ≤ b' ∧ Chg [] w w' ∧ MapAt kv bv w' b' f) := by
  obtain ⟨es, clk, h1, h2⟩ := hm
  refine ⟨⟨_, Go.Proofs.Tryz.func33, rfl, by decide⟩, (AnyW.maps_Clone Go.Proofs.Tryz.cloneM b es clk w h1).mono ?_⟩
  rintro e w' ⟨rfl, rfl⟩
  exact ⟨_, rfl, w.heap.size, rfl, Nat.le_refl _, Chg.alloc w _, es, clk, (MapKept.heap_alloc w _).1, h2⟩
end Go.Proofs.YtbhnplghnhafiaaGreatDoor.Tryz
/-! Files: how a file system lies in memory; its counts. -/
set_option linter.unusedVariables false
set_option linter.unusedSimpArgs false
namespace Go.Vc
open Go
/-- Where a file system lies: its maps, the row of the changes that wait, for each file its block and its bytes. -/
structure FsP where
  md : Nat
  ml : Nat
  wv : Value
  fb : List (Nat × Value)
def FsP.fp (p : FsP) (g : Nat) : List Nat := g :: p.md :: p.ml :: (p.wv.ownBlock.toList ++ p.fb.flatMap fun q => q.1 :: q.2.ownBlock.toList)
def ptrV (b : Nat) : Value := .pointer (some ⟨b, 0, none⟩)
def at2 (fb : List (Nat × Value)) (d : Dir) (k : Nm) : Option Nat := (looks d k).bind fun i => (fb[i]?).map (·.1)
def idV (fb : List (Nat × Value)) (o : Option Nat) : Value := match o.bind fun i => (fb[i]?).map (·.1) with
  | some b => ptrV b
  | none => .pointer none
def chV (fb : List (Nat × Value)) (c : ChM) : List Value := [.int .i64 c.kind, keyV c.name, keyV c.to, idV fb c.id]
theorem FsP.mem_fp {p : FsP} {g k : Nat} : k ∈ p.fp g ↔ k = g ∨ k = p.md ∨ k = p.ml ∨ p.wv.ownBlock = some k ∨ ∃ q ∈ p.fb, k = q.1 ∨ q.2.ownBlock = some k := by
  unfold FsP.fp
  simp [eq_comm]
end Go.Vc
namespace Go.Proofs.YtbhnplghnhafiaaGreatDoor.Tryz
open Go Go.Vc

structure FsAt (w : World) (g : Nat) (s : FsM) (p : FsP) : Prop where
  ok : FsOk s
  blk : Blk w g 55 [.int .i64 s.room, .map (some p.md), .map (some p.ml), p.wv, .int .i64 s.calls, .int .i64 s.fail]
  dirM : MapAt keyV ptrV w p.md (at2 p.fb s.dir)
  lastsM : MapAt keyV ptrV w p.ml (at2 p.fb s.lasts)
  waitsM : Own w 62 4 p.wv s.waits.length (s.waits.flatMap (chV p.fb))
  len : p.fb.length = s.files.length
  fblk : ∀ (i : Nat) q f, p.fb[i]? = some q → s.files[i]? = some f → Blk w q.1 60 [q.2, .int .i64 f.synced]
  fown : ∀ (i : Nat) q f, p.fb[i]? = some q → s.files[i]? = some f → Own w 5 1 q.2 f.b.length (u8s f.b)
  apart1 : p.md ≠ p.ml
  apart2 : (p.fb.map (·.1)).Nodup
  apart3 : ∀ (i j : Nat) q q' h, p.fb[i]? = some q → p.fb[j]? = some q' → q.2.ownBlock = some h → q'.2.ownBlock = some h → i = j

section
variable {w w' : World} {g : Nat} {s : FsM} {p : FsP} {S : List Nat}
theorem FsAt.file (x : FsAt w g s p) {q : Nat × Value} (hq : q ∈ p.fb) : ∃ (i : Nat) (f : FileM), p.fb[i]? = some q ∧ s.files[i]? = some f := by
  obtain ⟨i, hi⟩ := List.getElem?_of_mem hq
  have hil := (List.getElem?_eq_some_iff.1 hi).1
  rw [x.len] at hil
  exact ⟨i, _, hi, List.getElem?_eq_getElem hil⟩
theorem FsAt.lt (x : FsAt w g s p) : ∀ k ∈ p.fp g, k < w.heap.size := fun k hk => by
  rcases FsP.mem_fp.1 hk with rfl | rfl | rfl | h | ⟨q, hq, h⟩
  · exact x.blk.lt
  · exact x.dirM.lt
  · exact x.lastsM.lt
  · exact x.waitsM.lt h
  · obtain ⟨i, f, hi, hf⟩ := x.file hq
    rcases h with rfl | h
    · exact (x.fblk i q f hi hf).lt
    · exact (x.fown i q f hi hf).lt h
theorem FsAt.keep (x : FsAt w g s p) (hc : Chg S w w') (hS : ∀ k ∈ p.fp g, k ∉ S) : FsAt w' g s p := by
  have hm := fun k h => hS k (FsP.mem_fp.2 h)
  exact ⟨x.ok, x.blk.keep hc (hm g (.inl rfl)), x.dirM.keep hc (hm _ (.inr (.inl rfl))), x.lastsM.keep hc (hm _ (.inr (.inr (.inl rfl)))), x.waitsM.keep hc (fun h hh => hm h (.inr (.inr (.inr (.inl hh))))), x.len,
    fun i q f hq hf => (x.fblk i q f hq hf).keep hc (hm _ (.inr (.inr (.inr (.inr ⟨q, List.mem_of_getElem? hq, .inl rfl⟩))))),
    fun i q f hq hf => (x.fown i q f hq hf).keep hc (fun h hh => hm h (.inr (.inr (.inr (.inr ⟨q, List.mem_of_getElem? hq, .inr hh⟩))))), x.apart1, x.apart2, x.apart3⟩
theorem FsAt.keep0 (x : FsAt w g s p) (hc : Chg [] w w') : FsAt w' g s p := x.keep hc (fun _ _ => by simp)
/-- Only the struct's own cells have turned. -/
theorem FsAt.scalars (x : FsAt w g s p) (hc : Chg [g] w w') {room calls fail : Int} (hb : Blk w' g 55 [.int .i64 room, .map (some p.md), .map (some p.ml), p.wv, .int .i64 calls, .int .i64 fail])
    (hok : FsOk { s with room := room, calls := calls, fail := fail }) : FsAt w' g { s with room := room, calls := calls, fail := fail } p := by
  have hw : ∀ h, p.wv.ownBlock = some h → h ∉ [g] := fun h hh hm => by
    simp at hm
    obtain ⟨cur, hr⟩ := x.waitsM.row hh
    rw [hm] at hr
    exact x.blk.ne_ hr (by decide) rfl
  refine ⟨hok, hb, x.dirM.keep hc ?_, x.lastsM.keep hc ?_, x.waitsM.keep hc hw, x.len, fun i q f hq hf => (x.fblk i q f hq hf).keep hc ?_, fun i q f hq hf => (x.fown i q f hq hf).keep hc fun h hh hm => ?_, x.apart1, x.apart2, x.apart3⟩
  · simpa using x.dirM.ne_blk x.blk
  · simpa using x.lastsM.ne_blk x.blk
  · have := (x.fblk i q f hq hf).ne_ x.blk (by decide)
    simpa using this
  · simp at hm
    obtain ⟨cur, hr⟩ := (x.fown i q f hq hf).row hh
    rw [hm] at hr
    exact x.blk.ne_ hr (by decide) rfl
end

theorem room_has (n : Int) (w : World) : Has Go.Proofs.Tryz.prog 23 #[.int .i64 n] w (fun v w' => w' = w ∧ v = .int .i64 (roomM n)) := by
  refine enter Go.Proofs.Tryz.func23 rfl rfl (by decide) rfl (e := [(0, .int .i64 n)]) ⟨rfl, trivial⟩ ?_
  repeat (first | refine W_seq ?_ | refine W_region ?_ | refine W_ret ?_ | refine Then_n ?_ | refine WL_nil ?_ | refine WL_some rfl rfl rfl ?_ | refine op_move rfl rfl ?_ | refine op_assign rfl rfl ?_ | refine op_max rfl rfl rfl ?_ | refine op_min rfl rfl rfl ?_)
  exact post1 (.inl rfl) rfl rfl ⟨rfl, rfl⟩

theorem call_has (g : Nat) (s : FsM) (p : FsP) (w : World) (x : FsAt w g s p) (hcalls : s.calls < 1000000000) :
    Has Go.Proofs.Tryz.prog 24 #[ptrV g] w (fun v w' => Chg [g] w w' ∧ v = .int .i64 (if failsM s then 5 else 0) ∧ FsAt w' g (callM s) p) := by
  have hc0 := x.ok.calls0
  have hf0 := x.ok.fail0
  have hf1 := x.ok.fail1
  have hok := callM_ok x.ok
  refine enter Go.Proofs.Tryz.func24 rfl rfl (by decide) rfl (e := [(0, ptrV g)]) ⟨rfl, trivial⟩ ?_
  unfold ptrV
  have hb := x.blk
  repeat (first | refine W_seq ?_ | refine W_region ?_ | refine W_skip ?_ | refine Then_n ?_ | refine WL_nil ?_ | refine W_condF rfl ?_ | refine WL_some rfl rfl rfl ?_ | refine WL_none rfl rfl ?_ | refine op_move rfl rfl ?_ | refine op_assign rfl rfl ?_ | refine op_add rfl rfl rfl (wrap_i64_in (by omega) (by omega)) ?_ | refine op_nilCheck rfl rfl ?_ | refine op_fieldAddr T rfl rfl rfl rfl rfl rfl rfl rfl ?_ | refine op_eql_nilptr T rfl rfl rfl rfl rfl ?_ | refine op_loadB T rfl rfl rfl rfl (by assumption) (by exact rfl) ?_)
  refine op_store T rfl rfl rfl rfl rfl rfl hb (Nat.le_of_ble_eq_true rfl) (fun w1 hc1 hb1 _ => ?_)
  have hb1 : Blk w1 g 55 [.int .i64 s.room, .map (some p.md), .map (some p.ml), p.wv, .int .i64 (s.calls + 1), .int .i64 s.fail] := hb1
  repeat (first | refine W_seq ?_ | refine W_region ?_ | refine Then_n ?_ | refine WL_nil ?_ | refine WL_some rfl rfl rfl ?_ | refine WL_none rfl rfl ?_ | refine op_move rfl rfl ?_ | refine op_subt rfl rfl rfl (wrap_i64_in (by omega) (by omega)) ?_ | refine op_nilCheck rfl rfl ?_ | refine op_fieldAddr T rfl rfl rfl rfl rfl rfl rfl rfl ?_ | refine op_loadB T rfl rfl rfl rfl (by assumption) (by exact rfl) ?_)
  refine op_store T rfl rfl rfl rfl rfl rfl hb1 (Nat.le_of_ble_eq_true rfl) (fun w2 hc2 hb2 _ => ?_)
  have hb2 : Blk w2 g 55 [.int .i64 s.room, .map (some p.md), .map (some p.ml), p.wv, .int .i64 (s.calls + 1), .int .i64 (s.fail - 1)] := hb2
  have hc02 : Chg [g] w w2 := hc1.trans hc2 (fun _ h _ => h)
  by_cases hz : s.fail = 0
  · have hfm : failsM s = true := by unfold failsM; rw [hz]; rfl
    repeat (first | refine W_seq ?_ | refine W_region ?_ | refine W_ret ?_ | refine Then_n ?_ | refine Then_r ?_ | refine WL_nil ?_ | refine W_condT rfl ?_ | refine WL_some rfl rfl rfl ?_ | refine op_move rfl rfl ?_ | refine op_assign rfl rfl ?_ | refine op_nilCheck rfl rfl ?_ | refine op_eql rfl rfl rfl (fun hc => ?_) (fun hc => False.elim (by omega)) | refine op_fieldAddr T rfl rfl rfl rfl rfl rfl rfl rfl ?_ | refine op_loadB T rfl rfl rfl rfl (by assumption) (by exact rfl) ?_)
    refine post1 (.inl rfl) rfl rfl ⟨hc02, by rw [hfm]; rfl, x.scalars hc02 ?_ hok⟩
    rw [show max (s.fail - 1) (-1) = s.fail - 1 by omega]; exact hb2
  · have hfm : failsM s = false := by unfold failsM; simpa using hz
    repeat (first | refine W_seq ?_ | refine W_region ?_ | refine W_skip ?_ | refine Then_n ?_ | refine WL_nil ?_ | refine W_condF rfl ?_ | refine WL_some rfl rfl rfl ?_ | refine WL_none rfl rfl ?_ | refine op_move rfl rfl ?_ | refine op_max rfl rfl rfl ?_ | refine op_nilCheck rfl rfl ?_ | refine op_eql rfl rfl rfl (fun hc => False.elim (by omega)) (fun hc => ?_) | refine op_fieldAddr T rfl rfl rfl rfl rfl rfl rfl rfl ?_ | refine op_loadB T rfl rfl rfl rfl (by assumption) (by exact rfl) ?_)
    refine op_store T rfl rfl rfl rfl rfl rfl hb2 (Nat.le_of_ble_eq_true rfl) (fun w3 hc3 hb3 _ => ?_)
    have hc03 : Chg [g] w w3 := hc02.trans hc3 (fun _ h _ => h)
    repeat (first | refine W_seq ?_ | refine W_region ?_ | refine W_ret ?_ | refine Then_n ?_ | refine WL_nil ?_ | refine WL_some rfl rfl rfl ?_ | refine op_assign rfl rfl ?_)
    exact post1 (.inl rfl) rfl rfl ⟨hc03, by rw [hfm]; rfl, x.scalars hc03 hb3 hok⟩
end Go.Proofs.YtbhnplghnhafiaaGreatDoor.Tryz
/-! Files: names; changes of a directory. -/
set_option linter.unusedVariables false
set_option linter.unusedSimpArgs false
namespace Go.Vc
open Go
def goodC (c : UInt8) : Bool := (decide (97 ≤ c.toNat) && decide (c.toNat ≤ 122)) || (decide (65 ≤ c.toNat) && decide (c.toNat ≤ 90)) || (decide (48 ≤ c.toNat) && decide (c.toNat ≤ 57)) || decide (c.toNat = 46)
theorem mayM_eq (k : Nm) : mayM k = (k.all goodC && decide (1 ≤ k.length) && decide (k.length ≤ 20)) := rfl
theorem goodC_of {c : UInt8} (h : (97 ≤ c.toNat ∧ c.toNat ≤ 122) ∨ (65 ≤ c.toNat ∧ c.toNat ≤ 90) ∨ (48 ≤ c.toNat ∧ c.toNat ≤ 57) ∨ c.toNat = 46) : goodC c = true := by
  unfold goodC
  simp only [Bool.or_eq_true, Bool.and_eq_true, decide_eq_true_eq]
  omega
theorem goodC_not {c : UInt8} (h : ¬ (97 ≤ c.toNat ∧ c.toNat ≤ 122) ∧ ¬ (65 ≤ c.toNat ∧ c.toNat ≤ 90) ∧ ¬ (48 ≤ c.toNat ∧ c.toNat ≤ 57) ∧ ¬ c.toNat = 46) : goodC c = false := by
  rw [← Bool.not_eq_true]
  unfold goodC
  simp only [Bool.or_eq_true, Bool.and_eq_true, decide_eq_true_eq]
  omega
theorem at2_ins {fb : List (Nat × Value)} {d : Dir} (hr : Rising d) {k : Nm} {i : Nat} {q : Nat × Value} (hq : fb[i]? = some q) (k' : Nm) : at2 fb (ins d k i) k' = upd (at2 fb d) k q.1 k' := by
  unfold at2 upd
  rw [looks_ins hr]
  by_cases h : k' = k
  · rw [if_pos h, if_pos h]; simp [hq]
  · rw [if_neg h, if_neg h]
theorem at2_del (fb : List (Nat × Value)) (d : Dir) (k k' : Nm) : at2 fb (del d k) k' = rid (at2 fb d) k k' := by
  unfold at2 rid
  rw [looks_del]
  by_cases h : k' = k
  · rw [if_pos h, if_pos h]; rfl
  · rw [if_neg h, if_neg h]
theorem at2_some {fb : List (Nat × Value)} {d : Dir} {k : Nm} {i : Nat} {q : Nat × Value} (hl : looks d k = some i) (hq : fb[i]? = some q) : at2 fb d k = some q.1 := by
  unfold at2; rw [hl]; simp [hq]
theorem at2_none {fb : List (Nat × Value)} {d : Dir} {k : Nm} (hl : looks d k = none) : at2 fb d k = none := by
  unfold at2; rw [hl]; rfl
theorem idV_some {fb : List (Nat × Value)} {o : Option Nat} {i : Nat} {q : Nat × Value} (ho : o = some i) (hq : fb[i]? = some q) : idV fb o = ptrV q.1 := by
  unfold idV; rw [ho]; simp [hq]
theorem idV_form (fb : List (Nat × Value)) (o : Option Nat) : ∃ p, idV fb o = .pointer p := by
  unfold idV ptrV
  split <;> exact ⟨_, rfl⟩
end Go.Vc
namespace Go.Proofs.YtbhnplghnhafiaaGreatDoor.Tryz
open Go Go.Vc

set_option maxHeartbeats 1000000 in
theorem may_has (k : Nm) (w : World) (hk : k.length ≤ maxLen) : Has Go.Proofs.Tryz.prog 25 #[.string (str k)] w (fun v w' => w' = w ∧ v = .bool (mayM k)) := by
  unfold maxLen at hk
  refine enter Go.Proofs.Tryz.func25 rfl rfl (by decide) rfl (e := [(0, .string (str k))]) ⟨rfl, trivial⟩ ?_
  repeat (first | refine W_seq ?_ | refine W_block ?_ | refine W_region ?_ | refine Then_n ?_ | refine WL_nil ?_ | refine WL_some rfl rfl rfl ?_ | refine op_len_str T rfl rfl rfl rfl ?_ | refine op_move rfl rfl ?_ | refine op_assign rfl rfl ?_)
  refine W_loop (σ := Nat) (fun i => [(0, .string (str k)), (2, .bool false), (6, .int .i64 k.length), (7, .int .i64 i)])
    (fun (i : Nat) w' => i ≤ k.length ∧ w' = w ∧ ∀ (j : Nat) c, j < i → k[j]? = some c → goodC c = true) (fun i => k.length - i) 0 ⟨rfl, rfl, rfl, rfl, trivial⟩ ⟨by omega, rfl, fun j c h => by omega⟩ ?_
  rintro i w1 ⟨hi, rfl, hgood⟩
  by_cases hil : i < k.length
  · have hkc : k[i]? = some k[i] := List.getElem?_eq_getElem hil
    generalize k[i] = c at hkc
    have hgo : goodC c = true → ∀ (j : Nat) d, j < i + 1 → k[j]? = some d → goodC d = true := fun hg j d hj hd => by
      by_cases e : j = i
      · subst e; rw [hkc] at hd; injection hd with hd; subst hd; exact hg
      · exact hgood j d (by omega) hd
    have hbad : goodC c = false → mayM k = false := fun hg => by
      rw [mayM_eq]
      have : k.all goodC = false := by
        rw [← Bool.not_eq_true, List.all_eq_true]
        intro h
        have := h c (List.mem_of_getElem? hkc)
        rw [hg] at this; cases this
      rw [this]; rfl
    have hways : (97 ≤ c.toNat ∧ c.toNat ≤ 122) ∨ (122 < c.toNat) ∨ (90 < c.toNat ∧ c.toNat < 97) ∨ (65 ≤ c.toNat ∧ c.toNat ≤ 90) ∨ (57 < c.toNat ∧ c.toNat < 65) ∨ (48 ≤ c.toNat ∧ c.toNat ≤ 57) ∨ (c.toNat = 46) ∨ (c.toNat < 48 ∧ c.toNat ≠ 46) := by omega
    repeat (first | refine W_seq ?_ | refine W_block ?_ | refine W_region ?_ | refine W_skip ?_ | refine Then_n ?_ | refine WL_nil ?_ | refine W_condT rfl ?_ | refine WL_some rfl rfl rfl ?_ | refine op_move rfl rfl ?_ | refine op_assign rfl rfl ?_ | refine op_lss rfl rfl rfl (fun hc => ?_) (fun hc => False.elim (by omega)))
    refine op_index_str T rfl rfl rfl rfl hkc ?_
    rcases hways with h | h | h | h | h | h | h | h
    · repeat (first | refine W_seq ?_ | refine W_region ?_ | refine W_skip ?_ | refine Then_n ?_ | refine InBlock_n ?_ | refine WL_nil ?_ | refine W_condF rfl ?_ | refine WL_some rfl rfl rfl ?_ | refine WL_guardT rfl rfl rfl rfl ?_ | refine WL_guardF rfl rfl rfl rfl rfl ?_ | refine WL_guardU rfl rfl rfl rfl ?_ | refine op_move rfl rfl ?_ | refine op_assign rfl rfl ?_ | refine op_pick rfl rfl rfl rfl ?_ | refine op_add rfl rfl rfl (wrap_i64_in (by omega) (by omega)) ?_ | refine op_lss rfl rfl rfl (fun hc => False.elim (by omega)) (fun hc => ?_) | refine op_gtr rfl rfl rfl (fun hc => False.elim (by omega)) (fun hc => ?_))
      exact Round_n (i + 1) ⟨rfl, rfl, rfl, rfl, trivial⟩ ⟨by omega, rfl, hgo (goodC_of (by omega))⟩ (by omega)
    · repeat (first | refine W_seq ?_ | refine W_region ?_ | refine W_ret ?_ | refine Then_n ?_ | refine Then_r ?_ | refine InBlock_r ?_ | refine Round_r ?_ | refine WL_nil ?_ | refine W_condT rfl ?_ | refine WL_some rfl rfl rfl ?_ | refine WL_guardT rfl rfl rfl rfl ?_ | refine op_move rfl rfl ?_ | refine op_assign rfl rfl ?_ | refine op_pick rfl rfl rfl rfl ?_ | refine op_lss rfl rfl rfl (fun hc => False.elim (by omega)) (fun hc => ?_) | refine op_gtr rfl rfl rfl (fun hc => ?_) (fun hc => False.elim (by omega)) | refine op_neq rfl rfl rfl (fun hc => ?_) (fun hc => False.elim (by omega)))
      exact post1 (.inl rfl) rfl rfl ⟨rfl, by rw [hbad (goodC_not (by omega))]⟩
    · repeat (first | refine W_seq ?_ | refine W_region ?_ | refine W_ret ?_ | refine Then_n ?_ | refine Then_r ?_ | refine InBlock_r ?_ | refine Round_r ?_ | refine WL_nil ?_ | refine W_condT rfl ?_ | refine WL_some rfl rfl rfl ?_ | refine WL_guardT rfl rfl rfl rfl ?_ | refine WL_guardF rfl rfl rfl rfl rfl ?_ | refine op_move rfl rfl ?_ | refine op_assign rfl rfl ?_ | refine op_pick rfl rfl rfl rfl ?_ | refine op_lss rfl rfl rfl (fun hc => ?_) (fun hc => False.elim (by omega)) | refine op_lss rfl rfl rfl (fun hc => False.elim (by omega)) (fun hc => ?_) | refine op_gtr rfl rfl rfl (fun hc => ?_) (fun hc => False.elim (by omega)) | refine op_neq rfl rfl rfl (fun hc => ?_) (fun hc => False.elim (by omega)))
      exact post1 (.inl rfl) rfl rfl ⟨rfl, by rw [hbad (goodC_not (by omega))]⟩
    · repeat (first | refine W_seq ?_ | refine W_region ?_ | refine W_skip ?_ | refine Then_n ?_ | refine InBlock_n ?_ | refine WL_nil ?_ | refine W_condF rfl ?_ | refine WL_some rfl rfl rfl ?_ | refine WL_guardT rfl rfl rfl rfl ?_ | refine WL_guardF rfl rfl rfl rfl rfl ?_ | refine WL_guardU rfl rfl rfl rfl ?_ | refine op_move rfl rfl ?_ | refine op_assign rfl rfl ?_ | refine op_pick rfl rfl rfl rfl ?_ | refine op_add rfl rfl rfl (wrap_i64_in (by omega) (by omega)) ?_ | refine op_lss rfl rfl rfl (fun hc => ?_) (fun hc => False.elim (by omega)) | refine op_lss rfl rfl rfl (fun hc => False.elim (by omega)) (fun hc => ?_) | refine op_gtr rfl rfl rfl (fun hc => False.elim (by omega)) (fun hc => ?_))
      exact Round_n (i + 1) ⟨rfl, rfl, rfl, rfl, trivial⟩ ⟨by omega, rfl, hgo (goodC_of (by omega))⟩ (by omega)
    · repeat (first | refine W_seq ?_ | refine W_region ?_ | refine W_ret ?_ | refine Then_n ?_ | refine Then_r ?_ | refine InBlock_r ?_ | refine Round_r ?_ | refine WL_nil ?_ | refine W_condT rfl ?_ | refine WL_some rfl rfl rfl ?_ | refine WL_guardT rfl rfl rfl rfl ?_ | refine WL_guardF rfl rfl rfl rfl rfl ?_ | refine op_move rfl rfl ?_ | refine op_assign rfl rfl ?_ | refine op_pick rfl rfl rfl rfl ?_ | refine op_lss rfl rfl rfl (fun hc => ?_) (fun hc => False.elim (by omega)) | refine op_lss rfl rfl rfl (fun hc => False.elim (by omega)) (fun hc => ?_) | refine op_gtr rfl rfl rfl (fun hc => ?_) (fun hc => False.elim (by omega)) | refine op_neq rfl rfl rfl (fun hc => ?_) (fun hc => False.elim (by omega)))
      exact post1 (.inl rfl) rfl rfl ⟨rfl, by rw [hbad (goodC_not (by omega))]⟩
    · repeat (first | refine W_seq ?_ | refine W_region ?_ | refine W_skip ?_ | refine Then_n ?_ | refine InBlock_n ?_ | refine WL_nil ?_ | refine W_condF rfl ?_ | refine WL_some rfl rfl rfl ?_ | refine WL_guardT rfl rfl rfl rfl ?_ | refine WL_guardF rfl rfl rfl rfl rfl ?_ | refine op_move rfl rfl ?_ | refine op_assign rfl rfl ?_ | refine op_pick rfl rfl rfl rfl ?_ | refine op_add rfl rfl rfl (wrap_i64_in (by omega) (by omega)) ?_ | refine op_lss rfl rfl rfl (fun hc => ?_) (fun hc => False.elim (by omega)) | refine op_lss rfl rfl rfl (fun hc => False.elim (by omega)) (fun hc => ?_) | refine op_gtr rfl rfl rfl (fun hc => False.elim (by omega)) (fun hc => ?_))
      exact Round_n (i + 1) ⟨rfl, rfl, rfl, rfl, trivial⟩ ⟨by omega, rfl, hgo (goodC_of (by omega))⟩ (by omega)
    · repeat (first | refine W_seq ?_ | refine W_region ?_ | refine W_skip ?_ | refine Then_n ?_ | refine InBlock_n ?_ | refine WL_nil ?_ | refine W_condF rfl ?_ | refine WL_some rfl rfl rfl ?_ | refine WL_guardT rfl rfl rfl rfl ?_ | refine WL_guardF rfl rfl rfl rfl rfl ?_ | refine op_move rfl rfl ?_ | refine op_assign rfl rfl ?_ | refine op_pick rfl rfl rfl rfl ?_ | refine op_add rfl rfl rfl (wrap_i64_in (by omega) (by omega)) ?_ | refine op_lss rfl rfl rfl (fun hc => ?_) (fun hc => False.elim (by omega)) | refine op_neq rfl rfl rfl (fun hc => False.elim (by omega)) (fun hc => ?_))
      exact Round_n (i + 1) ⟨rfl, rfl, rfl, rfl, trivial⟩ ⟨by omega, rfl, hgo (goodC_of (by omega))⟩ (by omega)
    · repeat (first | refine W_seq ?_ | refine W_region ?_ | refine W_ret ?_ | refine Then_n ?_ | refine Then_r ?_ | refine InBlock_r ?_ | refine Round_r ?_ | refine WL_nil ?_ | refine W_condT rfl ?_ | refine WL_some rfl rfl rfl ?_ | refine WL_guardT rfl rfl rfl rfl ?_ | refine WL_guardF rfl rfl rfl rfl rfl ?_ | refine op_move rfl rfl ?_ | refine op_assign rfl rfl ?_ | refine op_pick rfl rfl rfl rfl ?_ | refine op_lss rfl rfl rfl (fun hc => ?_) (fun hc => False.elim (by omega)) | refine op_neq rfl rfl rfl (fun hc => ?_) (fun hc => False.elim (by omega)))
      exact post1 (.inl rfl) rfl rfl ⟨rfl, by rw [hbad (goodC_not (by omega))]⟩
  · obtain rfl : i = k.length := by omega
    have hall : k.all goodC = true := List.all_eq_true.2 fun c hc => by
      obtain ⟨j, hj⟩ := List.getElem?_of_mem hc
      exact hgood j c (List.getElem?_eq_some_iff.1 hj).1 hj
    have hm : mayM k = (decide (1 ≤ k.length) && decide (k.length ≤ 20)) := by rw [mayM_eq, hall]; rfl
    repeat (first | refine W_seq ?_ | refine W_region ?_ | refine W_exit ?_ | refine Then_n ?_ | refine Then_x ?_ | refine InBlock_hit ?_ | refine Round_x ?_ | refine WL_nil ?_ | refine W_condF rfl ?_ | refine WL_some rfl rfl rfl ?_ | refine op_move rfl rfl ?_ | refine op_lss rfl rfl rfl (fun hc => False.elim (by omega)) (fun hc => ?_))
    refine op_str_neq (b := []) rfl rfl rfl (fun hne => ?_) (fun he => ?_)
    · have h1 : 1 ≤ k.length := List.length_pos_iff.2 hne
      by_cases h20 : k.length ≤ 20
      · repeat (first | refine W_ret ?_ | refine Then_n ?_ | refine WL_nil ?_ | refine WL_some rfl rfl rfl ?_ | refine WL_guardT rfl rfl rfl rfl ?_ | refine op_len_str T rfl rfl rfl rfl ?_ | refine op_move rfl rfl ?_ | refine op_assign rfl rfl ?_ | refine op_pick rfl rfl rfl rfl ?_ | refine op_leq rfl rfl rfl (fun hc => ?_) (fun hc => False.elim (by omega)))
        exact post1 (.inl rfl) rfl rfl ⟨rfl, by rw [hm]; simp [h1, h20]⟩
      · repeat (first | refine W_ret ?_ | refine Then_n ?_ | refine WL_nil ?_ | refine WL_some rfl rfl rfl ?_ | refine WL_guardT rfl rfl rfl rfl ?_ | refine op_len_str T rfl rfl rfl rfl ?_ | refine op_move rfl rfl ?_ | refine op_assign rfl rfl ?_ | refine op_pick rfl rfl rfl rfl ?_ | refine op_leq rfl rfl rfl (fun hc => False.elim (by omega)) (fun hc => ?_))
        exact post1 (.inl rfl) rfl rfl ⟨rfl, by rw [hm]; simp [h20]⟩
    · subst he
      repeat (first | refine W_ret ?_ | refine Then_n ?_ | refine WL_nil ?_ | refine WL_some rfl rfl rfl ?_ | refine WL_guardF rfl rfl rfl rfl rfl ?_ | refine op_move rfl rfl ?_ | refine op_assign rfl rfl ?_ | refine op_pick rfl rfl rfl rfl ?_)
      exact post1 (.inl rfl) rfl rfl ⟨rfl, rfl⟩

set_option maxHeartbeats 1000000 in
theorem do_has (r : Nat) (fb : List (Nat × Value)) (d : Dir) (c : ChM) (w : World) (hm : MapAt keyV ptrV w r (at2 fb d)) (hd : DirOk fb.length d) (hf : Fit1 d c) (hi : ∀ i, c.id = some i → i < fb.length) :
    Has Go.Proofs.Tryz.prog 43 #[.map (some r), .agg (chV fb c).toArray] w (fun v w' => Chg [r] w w' ∧ MapAt keyV ptrV w' r (at2 fb (doM d c))) := by
  have hr := hd.up
  refine enter Go.Proofs.Tryz.func43 rfl rfl (by decide) rfl (e := [(0, .map (some r)), (1, .agg (chV fb c).toArray)]) ⟨rfl, rfl, trivial⟩ ?_
  repeat (first | refine W_seq ?_ | refine W_region ?_ | refine WL_some rfl rfl rfl ?_)
  refine op_box rfl rfl (fun g1 w1 hs1 hc1 hg1 => ?_)
  have hg1 : Blk w1 g1 62 [.int .i64 c.kind, .string (str c.name), .string (str c.to), idV fb c.id] := hg1
  have hm1 := hm.keep0 hc1
  by_cases h0 : c.kind = 0
  · obtain ⟨i, hci⟩ := Option.ne_none_iff_exists'.1 (hf.1 h0)
    have hil := hi i hci
    have hq : fb[i]? = some fb[i] := List.getElem?_eq_getElem hil
    rw [idV_some hci hq] at hg1
    generalize fb[i] = q at hq hg1
    have hdo : doM d c = ins d c.name i := by unfold doM; rw [if_pos h0, hci]
    repeat (first | refine W_seq ?_ | refine W_block ?_ | refine W_region ?_ | refine Then_n ?_ | refine WL_nil ?_ | refine W_condT rfl ?_ | refine WL_some rfl rfl rfl ?_ | refine WL_none rfl rfl ?_ | refine op_move rfl rfl ?_ | refine op_assign rfl rfl ?_ | refine op_eql rfl rfl rfl (fun hc => ?_) (fun hc => False.elim (by omega)) | refine op_fieldAddr T rfl rfl rfl rfl rfl rfl rfl rfl ?_ | refine op_loadB T rfl rfl rfl rfl (by assumption) (by exact rfl) ?_)
    refine op_mapUpdate T strKey (bv := ptrV) (b := q.1) rfl rfl rfl rfl rfl rfl hm1 (fun w2 hc2 hm2 _ => ?_)
    repeat (first | refine InBlock_n ?_ | refine WL_nil ?_)
    refine post0 (.inr rfl) rfl ⟨((hc1.mono (fun k hk _ => by cases hk)).trans hc2 (fun _ h _ => h)), ?_⟩
    rw [hdo]
    exact hm2.congr (fun k => (at2_ins hr hq k).symm)
  by_cases h1 : c.kind = 1
  · obtain ⟨i, hli⟩ := Option.ne_none_iff_exists'.1 (hf.2 h1)
    have hil := (hd.name _ (looks_mem hli)).2
    have hq : fb[i]? = some fb[i] := List.getElem?_eq_getElem hil
    generalize fb[i] = q at hq
    have hat := at2_some hli hq
    have hdo : doM d c = ins (del d c.name) c.to i := by unfold doM; rw [if_neg h0, if_pos h1, hli]
    repeat (first | refine W_seq ?_ | refine W_block ?_ | refine W_region ?_ | refine Then_n ?_ | refine WL_nil ?_ | refine W_condT rfl ?_ | refine W_condF rfl ?_ | refine WL_some rfl rfl rfl ?_ | refine op_move rfl rfl ?_ | refine op_assign rfl rfl ?_ | refine op_eql rfl rfl rfl (fun hc => ?_) (fun hc => False.elim (by omega)) | refine op_eql rfl rfl rfl (fun hc => False.elim (by omega)) (fun hc => ?_) | refine op_fieldAddr T rfl rfl rfl rfl rfl rfl rfl rfl ?_ | refine op_loadB T rfl rfl rfl rfl (by assumption) (by exact rfl) ?_)
    refine op_lookup_v T strKey rfl rfl rfl rfl rfl rfl hm1 (v := ptrV q.1) (fun b hb => by rw [hat] at hb; injection hb with hb; rw [hb]) (fun hn => by rw [hat] at hn; cases hn) ?_
    repeat (first | refine W_seq ?_ | refine W_region ?_ | refine Then_n ?_ | refine WL_nil ?_ | refine WL_some rfl rfl rfl ?_ | refine WL_none rfl rfl ?_ | refine op_move rfl rfl ?_ | refine op_assign rfl rfl ?_ | refine op_fieldAddr T rfl rfl rfl rfl rfl rfl rfl rfl ?_ | refine op_loadB T rfl rfl rfl rfl (by assumption) (by exact rfl) ?_)
    refine op_delete T strKey rfl rfl rfl rfl rfl rfl hm1 (fun w2 hc2 hm2 _ => ?_)
    have hg2 := hg1.keep hc2 (by simpa using fun e => hm1.ne_blk hg1 e.symm)
    repeat (first | refine W_region ?_ | refine Then_n ?_ | refine WL_nil ?_ | refine WL_some rfl rfl rfl ?_ | refine WL_none rfl rfl ?_ | refine op_move rfl rfl ?_ | refine op_fieldAddr T rfl rfl rfl rfl rfl rfl rfl rfl ?_ | refine op_loadB T rfl rfl rfl rfl (by assumption) (by exact rfl) ?_)
    refine op_mapUpdate T strKey (bv := ptrV) (b := q.1) rfl rfl rfl rfl rfl rfl hm2 (fun w3 hc3 hm3 _ => ?_)
    repeat (first | refine InBlock_n ?_ | refine WL_nil ?_)
    refine post0 (.inr rfl) rfl ⟨((hc1.mono (fun k hk _ => by cases hk)).trans (hc2.trans hc3 (fun _ h _ => h)) (fun _ h _ => h)), ?_⟩
    rw [hdo]
    refine hm3.congr (fun k => ?_)
    rw [at2_ins (del_rising hr c.name) hq k]
    unfold upd
    rw [at2_del]
  · have hdo : doM d c = del d c.name := by unfold doM; rw [if_neg h0, if_neg h1]
    have h0' : ¬ (c.kind : Int) = 0 := by omega
    repeat (first | refine W_seq ?_ | refine W_block ?_ | refine W_region ?_ | refine Then_n ?_ | refine WL_nil ?_ | refine W_condF rfl ?_ | refine WL_some rfl rfl rfl ?_ | refine WL_none rfl rfl ?_ | refine op_move rfl rfl ?_ | refine op_assign rfl rfl ?_ | refine op_eql rfl rfl rfl (fun hc => False.elim (by omega)) (fun hc => ?_) | refine op_fieldAddr T rfl rfl rfl rfl rfl rfl rfl rfl ?_ | refine op_loadB T rfl rfl rfl rfl (by assumption) (by exact rfl) ?_)
    refine op_delete T strKey rfl rfl rfl rfl rfl rfl hm1 (fun w2 hc2 hm2 _ => ?_)
    repeat (first | refine InBlock_n ?_ | refine WL_nil ?_)
    refine post0 (.inr rfl) rfl ⟨((hc1.mono (fun k hk _ => by cases hk)).trans hc2 (fun _ h _ => h)), ?_⟩
    rw [hdo]
    exact hm2.congr (fun k => (at2_del fb d c.name k).symm)
end Go.Proofs.YtbhnplghnhafiaaGreatDoor.Tryz
/-! Files: a change of the directory; new ones. -/
set_option linter.unusedVariables false
set_option linter.unusedSimpArgs false
namespace Go.Vc
open Go
theorem Replay.ids {n : Nat} : ∀ {cs : List ChM} {d d' : Dir}, Replay n d cs d' → ∀ c ∈ cs, ∀ i, c.id = some i → i < n
  | [], d, d', h, c, hc => by cases hc
  | c' :: cs, d, d', h, c, hc => by
    rcases List.mem_cons.1 hc with rfl | hc
    · exact h.2.2.1
    · exact Replay.ids h.2.2.2.2.2 c hc
theorem at2_more {fb : List (Nat × Value)} (q : Nat × Value) {d : Dir} (hd : DirOk fb.length d) (k : Nm) : at2 (fb ++ [q]) d k = at2 fb d k := by
  unfold at2
  cases hl : looks d k with
  | none => rfl
  | some i =>
    have := (hd.name _ (looks_mem hl)).2
    show ((fb ++ [q])[i]?).map _ = (fb[i]?).map _
    rw [List.getElem?_append_left this]
theorem idV_more {fb : List (Nat × Value)} (q : Nat × Value) {o : Option Nat} (h : ∀ i, o = some i → i < fb.length) : idV (fb ++ [q]) o = idV fb o := by
  unfold idV
  cases o with
  | none => rfl
  | some i =>
    simp only [Option.bind_some]
    rw [List.getElem?_append_left (h i rfl)]
theorem chV_more {fb : List (Nat × Value)} (q : Nat × Value) {c : ChM} (h : ∀ i, c.id = some i → i < fb.length) : chV (fb ++ [q]) c = chV fb c := by
  unfold chV; rw [idV_more q h]
theorem flatMap_congr' {α β : Type} {f g : α → List β} : ∀ {l : List α}, (∀ x ∈ l, f x = g x) → l.flatMap f = l.flatMap g
  | [], _ => rfl
  | a :: l, h => by rw [List.flatMap_cons, List.flatMap_cons, h a (by simp), flatMap_congr' (fun x hx => h x (by simp [hx]))]
theorem chV_length (fb : List (Nat × Value)) (l : List ChM) : (l.flatMap (chV fb)).length = l.length * 4 := by
  induction l with
  | nil => rfl
  | cons a l ih => rw [List.flatMap_cons, List.length_append, ih]; simp [chV]; omega
/-- From a world to the next a file system's blocks are the old ones, or new. -/
def Grows (w : World) (g : Nat) (p p' : FsP) : Prop := ∀ k ∈ p'.fp g, k ∈ p.fp g ∨ w.heap.size ≤ k
theorem Grows.refl (w : World) (g : Nat) (p : FsP) : Grows w g p p := fun _ h => .inl h
theorem Grows.trans {w w' : World} {g : Nat} {p p' p'' : FsP} (h : Grows w g p p') (k : Grows w' g p' p'') (hs : w.heap.size ≤ w'.heap.size) : Grows w g p p'' := fun i hi => by
  rcases k i hi with h1 | h1
  · exact h i h1
  · exact .inr (Nat.le_trans hs h1)
theorem Chg.fps {w w1 w2 : World} {g : Nat} {p p' : FsP} (h1 : Chg (p.fp g) w w1) (hg : Grows w g p p') (h2 : Chg (p'.fp g) w1 w2) : Chg (p.fp g) w w2 :=
  h1.trans h2 (fun k hk hlt => by rcases hg k hk with h | h; exact h; omega)
end Go.Vc
namespace Go.Proofs.YtbhnplghnhafiaaGreatDoor.Tryz
open Go Go.Vc
section
variable {w w' : World} {g : Nat} {s : FsM} {p : FsP} {S : List Nat}
/-- A new file's block is taken in. -/
theorem FsAt.addFile (x : FsAt w g s p) {gf : Nat} (hb : Blk w gf 60 [.slice none 0 0, .int .i64 0]) (hf : gf ∉ p.fp g) (hok : FsOk { s with files := s.files ++ [⟨[], 0⟩] }) :
    FsAt w g { s with files := s.files ++ [⟨[], 0⟩] } { p with fb := p.fb ++ [(gf, .slice none 0 0)] } := by
  have hd : DirOk p.fb.length s.dir := by rw [x.len]; exact x.ok.dir
  have hl : DirOk p.fb.length s.lasts := by rw [x.len]; exact x.ok.lasts
  have hget : ∀ (i : Nat) q, (p.fb ++ [(gf, Value.slice none 0 0)])[i]? = some q → (i < p.fb.length ∧ p.fb[i]? = some q) ∨ (i = p.fb.length ∧ q = (gf, .slice none 0 0)) := fun i q hq => by
    by_cases hi : i < p.fb.length
    · rw [List.getElem?_append_left hi] at hq; exact .inl ⟨hi, hq⟩
    · rw [List.getElem?_append_right (by omega)] at hq
      have := (List.getElem?_eq_some_iff.1 hq).1
      simp at this
      obtain rfl : i = p.fb.length := by omega
      simp at hq
      exact .inr ⟨rfl, hq.symm⟩
  have hgf : ∀ (i : Nat) f, (s.files ++ [(⟨[], 0⟩ : FileM)])[i]? = some f → i < p.fb.length → s.files[i]? = some f := fun i f hf hi => by
    rw [List.getElem?_append_left (by rw [← x.len]; exact hi)] at hf; exact hf
  have hgl : ∀ f, (s.files ++ [(⟨[], 0⟩ : FileM)])[p.fb.length]? = some f → f = ⟨[], 0⟩ := fun f hf => by
    rw [x.len, List.getElem?_append_right (Nat.le_refl _)] at hf
    simp at hf; exact hf.symm
  refine ⟨hok, x.blk, x.dirM.congr (fun k => (at2_more _ hd k).symm), x.lastsM.congr (fun k => (at2_more _ hl k).symm), ?_, by simp [x.len], fun i q f hq hf' => ?_, fun i q f hq hf' => ?_, x.apart1, ?_, fun i j q q' h hq hq' h1 h2 => ?_⟩
  · show Own w _ 4 p.wv s.waits.length (s.waits.flatMap (chV (p.fb ++ [_])))
    rw [flatMap_congr' (g := chV p.fb) (fun c hc => chV_more _ (by rw [x.len]; exact x.ok.replay.ids c hc))]
    exact x.waitsM
  · rcases hget i q hq with ⟨hi, hq⟩ | ⟨rfl, rfl⟩
    · exact x.fblk i q f hq (hgf i f hf' hi)
    · obtain rfl := hgl f hf'; exact hb
  · rcases hget i q hq with ⟨hi, hq⟩ | ⟨rfl, rfl⟩
    · exact x.fown i q f hq (hgf i f hf' hi)
    · obtain rfl := hgl f hf'; exact Own.nil _ _ _
  · rw [List.map_append]
    refine List.nodup_append.2 ⟨x.apart2, by simp, fun a ha b hb e => ?_⟩
    obtain ⟨q, hq, rfl⟩ := List.mem_map.1 ha
    simp at hb
    subst hb
    exact hf (FsP.mem_fp.2 (.inr (.inr (.inr (.inr ⟨q, hq, .inl e.symm⟩)))))
  · rcases hget i q hq with ⟨hi, hq⟩ | ⟨rfl, rfl⟩
    · rcases hget j q' hq' with ⟨hj, hq'⟩ | ⟨rfl, rfl⟩
      · exact x.apart3 i j q q' h hq hq' h1 h2
      · cases h2
    · cases h1
/-- Its directory and the row of what waits have turned. -/
theorem FsAt.rest (x : FsAt w g s p) (hc : Chg S w w') (hS : ∀ k ∈ S, k < w.heap.size → k = g ∨ k = p.md ∨ p.wv.ownBlock = some k) {s' : FsM} {wv' : Value} (hfiles : s'.files = s.files) (hl : s'.lasts = s.lasts)
    (hb : Blk w' g 55 [.int .i64 s'.room, .map (some p.md), .map (some p.ml), wv', .int .i64 s'.calls, .int .i64 s'.fail]) (hdir : MapAt keyV ptrV w' p.md (at2 p.fb s'.dir))
    (hw : Own w' 62 4 wv' s'.waits.length (s'.waits.flatMap (chV p.fb))) (hok : FsOk s') : FsAt w' g s' { p with wv := wv' } := by
  have hc := hc.mono (S' := g :: p.md :: p.wv.ownBlock.toList) (fun k hk hlt => by
    rcases hS k hk hlt with h | h | h
    · simp [h]
    · simp [h]
    · simp [h])
  have hrow : ∀ k t cs, Blk w k t cs → t ≠ 55 → t ≠ 62 → k ∉ g :: p.md :: p.wv.ownBlock.toList := fun k t cs hk h1 h2 hm => by
    rcases List.mem_cons.1 hm with rfl | hm
    · exact hk.ne_ x.blk h1 rfl
    · rcases List.mem_cons.1 hm with rfl | hm
      · exact x.dirM.ne_blk hk rfl
      · obtain ⟨cur, hr⟩ := x.waitsM.row (by simpa using hm)
        exact hk.ne_ hr h2 rfl
  refine ⟨hok, hb, hdir, ?_, hw, by rw [hfiles]; exact x.len, fun i q f hq hf => ?_, fun i q f hq hf => ?_, x.apart1, x.apart2, x.apart3⟩
  · rw [hl]
    refine x.lastsM.keep hc (fun hm => ?_)
    rcases List.mem_cons.1 hm with h | hm
    · exact x.lastsM.ne_blk x.blk h
    · rcases List.mem_cons.1 hm with h | hm
      · exact x.apart1 h.symm
      · obtain ⟨cur, hr⟩ := x.waitsM.row (show p.wv.ownBlock = some p.ml by simpa using hm)
        exact x.lastsM.ne_blk hr rfl
  · rw [hfiles] at hf
    have h1 := x.fblk i q f hq hf
    exact h1.keep hc (hrow _ _ _ h1 (by decide) (by decide))
  · rw [hfiles] at hf
    refine (x.fown i q f hq hf).keep hc (fun h hh => ?_)
    obtain ⟨cur, hr⟩ := (x.fown i q f hq hf).row hh
    exact hrow _ _ _ hr (by decide) (by decide)
end

set_option maxHeartbeats 4000000 in
theorem change_has (g : Nat) (s : FsM) (p : FsP) (c : ChM) (w : World) (x : FsAt w g s p) (hf : Fit1 s.dir c) (hi : ∀ i, c.id = some i → i < s.files.length) (hok : FsOk (changeM s c)) (hcalls : s.calls < 1000000000) :
    Has Go.Proofs.Tryz.prog 26 #[ptrV g, .agg (chV p.fb c).toArray] w
    (fun v w' => Chg (p.fp g) w w' ∧ v = .int .i64 0 ∧ ∃ wv', FsAt w' g (changeM s c) { p with wv := wv' } ∧ Grows w g p { p with wv := wv' }) := by
  refine enter Go.Proofs.Tryz.func26 rfl rfl (by decide) rfl (e := [(0, ptrV g), (1, .agg (chV p.fb c).toArray)]) ⟨rfl, rfl, trivial⟩ ?_
  unfold ptrV
  have hwl := x.ok.waits
  have hwl2 : s.waits.length < 1000000000 := by omega
  repeat (first | refine W_seq ?_ | refine W_region ?_ | refine WL_some rfl rfl rfl ?_)
  refine op_box rfl rfl (fun g1 w1 hs1 hc1 hg1 => ?_)
  have hg1 : Blk w1 g1 62 [.int .i64 c.kind, .string (str c.name), .string (str c.to), idV p.fb c.id] := hg1
  have x1 := x.keep0 hc1
  have hb1 := x1.blk
  repeat (first | refine W_seq ?_ | refine Then_n ?_ | refine WL_nil ?_ | refine WL_some rfl rfl rfl ?_ | refine op_assign rfl rfl ?_)
  refine W_walk 5 [] fol (by kernel_rfl) (by kernel_rfl) ?_
  refine Walk.plain rfl (by intro val w_ hR hp; exact op_move rfl rfl ⟨Chg.refl _ _, rfl⟩) ?_; dsimp only [List.nil_append, List.cons_append]
  refine Walk.plain rfl (by intro val w_ hR hp; exact op_nilCheck rfl rfl ⟨Chg.refl _ _, rfl⟩) ?_; dsimp only [List.nil_append, List.cons_append]
  refine Walk.plain rfl (by intro val w_ hR hp; exact op_fieldAddr T rfl rfl rfl rfl rfl rfl rfl rfl ⟨Chg.refl _ _, rfl⟩) ?_; dsimp only [List.nil_append, List.cons_append]
  refine Walk.plain rfl (by intro val w_ hR hp; exact op_load T rfl rfl rfl rfl ((Blk.keep0 hb1 hR).cell rfl) ⟨Chg.refl _ _, rfl⟩) ?_; dsimp only [List.nil_append, List.cons_append]
  refine Walk.plain rfl (by intro val w_ hR hp; exact op_load_agg T rfl rfl rfl rfl (Blk.keep0 hg1 hR) (Nat.le_of_ble_eq_true rfl) rfl ⟨Chg.refl _ _, rfl⟩) ?_; dsimp only [List.nil_append, List.cons_append]
  refine Walk.fin ?_
  intro val w2 hc2 _
  have x2 := x1.keep0 hc2
  have hg2 := hg1.keep0 hc2
  refine WL_sub (e' := [(0, .pointer (some ⟨g, 0, none⟩)), (3, .pointer (some ⟨g1, 0, none⟩)), (8, .map (some p.md)), (9, .agg (chV p.fb c).toArray)]) ⟨rfl, rfl, rfl, rfl, trivial⟩ ?_
  repeat (refine WL_some rfl rfl rfl ?_)
  refine op_call rfl rfl rfl (do_has p.md p.fb s.dir c w2 x2.dirM (by rw [x2.len]; exact x2.ok.dir) hf (by rw [x2.len]; exact hi)) ?_
  rintro v w3 ⟨hc3, hm3⟩
  have hmdb : ∀ k t cs, Blk w2 k t cs → k ∉ [p.md] := fun k t cs hk hm => by
    simp at hm; subst hm; exact x2.dirM.ne_blk hk rfl
  have hb3 := x2.blk.keep hc3 (hmdb _ _ _ x2.blk)
  have hg3 := hg2.keep hc3 (hmdb _ _ _ hg2)
  have hw3 : Own w3 62 4 p.wv s.waits.length (s.waits.flatMap (chV p.fb)) := x2.waitsM.keep hc3 (fun h hh => by
    obtain ⟨cur, hr⟩ := x2.waitsM.row hh
    exact hmdb _ _ _ hr)
  obtain ⟨Aw, cw, hwf, _, _⟩ := hw3.form
  have hS : ∀ k ∈ p.wv.ownBlock.toList, k < w3.heap.size ∧ k ∈ p.fp g := fun k hk => ⟨hw3.lt (by simpa using hk), FsP.mem_fp.2 (.inr (.inr (.inr (.inl (by simpa using hk)))))⟩
  have hne1 : g ∉ p.wv.ownBlock.toList := fun hm => by
    obtain ⟨cur, hr⟩ := hw3.row (show p.wv.ownBlock = some g by simpa using hm)
    exact hb3.ne_ hr (by decide) rfl
  have hsz1 : w.heap.size ≤ g1 := hs1
  have hne2 : g1 ∉ p.wv.ownBlock.toList := fun hm => by
    have := x.waitsM.lt (show p.wv.ownBlock = some g1 by simpa using hm)
    omega
  repeat (first | refine W_seq ?_ | refine Then_n ?_ | refine WL_nil ?_)
  refine Q.W_walkq 8 7 p.wv.ownBlock.toList fol (by kernel_rfl) (by kernel_rfl) ?_
  refine Q.Walk.plain rfl rfl (by intro val w_ hR hp; exact op_move rfl rfl ⟨Chg.refl _ _, rfl⟩) ?_; dsimp only [List.nil_append, List.cons_append]
  refine Q.Walk.plain rfl rfl (by intro val w_ hR hp; exact op_move rfl rfl ⟨Chg.refl _ _, rfl⟩) ?_; dsimp only [List.nil_append, List.cons_append]
  refine Q.Walk.plain rfl rfl (by intro val w_ hR hp; exact op_nilCheck rfl rfl ⟨Chg.refl _ _, rfl⟩) ?_; dsimp only [List.nil_append, List.cons_append]
  refine Q.Walk.plain rfl rfl (by intro val w_ hR hp; exact op_fieldAddr T rfl rfl rfl rfl rfl rfl rfl rfl ⟨Chg.refl _ _, rfl⟩) ?_; dsimp only [List.nil_append, List.cons_append]
  refine Q.Walk.plain (v := p.wv) rfl rfl (by intro val w_ hR hp; exact op_load T rfl rfl rfl rfl ((hb3.keep hR hne1).cell rfl) ⟨Chg.refl _ _, rfl⟩) ?_; dsimp only [List.nil_append, List.cons_append]
  refine Q.Walk.plain (v := .agg (chV p.fb c).toArray) rfl rfl (by intro val w_ hR hp; exact op_load_agg T rfl rfl rfl rfl (hg3.keep hR hne2) (Nat.le_of_ble_eq_true rfl) rfl ⟨Chg.refl _ _, rfl⟩) ?_; dsimp only [List.nil_append, List.cons_append]
  refine Q.Walk.rel rfl (fun u w => ∃ g5, u = .slice (some ⟨g5, 0, none⟩) 1 1 ∧ Blk w g5 62 (chV p.fb c) ∧ w3.heap.size ≤ g5) rfl (fun u a b ⟨g5, h1, h2, h3⟩ hab => ⟨g5, h1, h2.keep hab (fun hm => by have := (hS _ hm).1; omega), h3⟩) ?_ ?_
  · intro val w_ hR hp
    refine op_buildSlice T rfl rfl rfl rfl rfl rfl rfl (fun g5 w5 hs5 hc5 hg5 => ⟨hc5, g5, rfl, hg5, by have := hR.size; omega⟩)
  dsimp only [List.nil_append, List.cons_append]
  refine Q.Walk.turn rfl (fun u w => Own w 62 4 u (s.waits.length + 1) ((s.waits ++ [c]).flatMap (chV p.fb)) ∧ (u.ownBlock = p.wv.ownBlock ∨ ∃ h, u.ownBlock = some h ∧ w3.heap.size ≤ h)) rfl (fun u a b h hab => ⟨h.1.keep0 hab, h.2⟩) ?_ ?_
  · intro val w_ hR hp
    obtain ⟨g5, he, hg5, hs5⟩ : ∃ g5, val 6 = .slice (some ⟨g5, 0, none⟩) 1 1 ∧ Blk w_ g5 62 (chV p.fb c) ∧ w3.heap.size ≤ g5 := hp 6 rfl _ _ rfl rfl
    have hw_ := hw3.keep0 hR
    refine op_append T (n := s.waits.length) (xs := s.waits.flatMap (chV p.fb)) (m := 1) (news := chV p.fb c) rfl rfl rfl (congrArg some he) rfl rfl rfl rfl hw_ rfl ?_ (by unfold maxLen; omega) (by show (s.waits.length + 1) * _ ≤ _; exact Nat.le_trans (Nat.mul_le_mul_right _ (show s.waits.length + 1 ≤ 1000000000 by omega)) (by decide)) ?_
    · intro j u hj
      refine ⟨⟨_, rfl, by rw [add_plain]; exact hg5.cell hj⟩, ?_⟩
      obtain ⟨ip, hip⟩ := idV_form p.fb c.id
      unfold chV at hj
      rw [hip] at hj
      match j, hj with
      | 0, hj => cases hj; rfl
      | 1, hj => cases hj; rfl
      | 2, hj => cases hj; rfl
      | 3, hj => cases hj; rfl
    · intro u w6 hu hc6 hb6 _
      refine ⟨hc6, ?_, hb6.imp id (fun ⟨h, h1, h2⟩ => ⟨h, h1, by have := hR.size; omega⟩)⟩
      rw [List.flatMap_append]
      simpa using hu
  dsimp only [List.nil_append, List.cons_append]
  refine Q.Walk.fin ?_
  intro val w6 hc6 hp
  obtain ⟨hw6, hwb6⟩ : Own w6 62 4 (val 7) (s.waits.length + 1) ((s.waits ++ [c]).flatMap (chV p.fb)) ∧ ((val 7).ownBlock = p.wv.ownBlock ∨ ∃ h, (val 7).ownBlock = some h ∧ w3.heap.size ≤ h) := hp 7 (by omega) _ _ rfl rfl
  clear hp
  refine WL_sub (e' := [(0, .pointer (some ⟨g, 0, none⟩)), (11, .pointer (some ⟨g, 0, none⟩)), (18, val 7)]) ⟨rfl, rfl, rfl, trivial⟩ ?_
  generalize val 7 = wv6 at hw6 hwb6
  obtain ⟨A6, c6, rfl, _, _⟩ := hw6.form
  have hb6 := hb3.keep hc6 hne1
  have hm6 := hm3.keep hc6 (fun hm => by
    obtain ⟨cur, hr⟩ := hw3.row (show p.wv.ownBlock = some p.md by simpa using hm)
    exact hm3.ne_blk hr rfl)
  repeat (first | refine WL_some rfl rfl rfl ?_ | refine WL_none rfl rfl ?_ | refine op_nilCheck rfl rfl ?_ | refine op_fieldAddr T rfl rfl rfl rfl rfl rfl rfl rfl ?_)
  refine op_store T rfl rfl rfl rfl rfl rfl hb6 (Nat.le_of_ble_eq_true rfl) (fun w7 hc7 hb7 _ => ?_)
  repeat (first | refine W_seq ?_ | refine W_region ?_ | refine W_ret ?_ | refine Then_n ?_ | refine WL_nil ?_ | refine WL_some rfl rfl rfl ?_ | refine op_assign rfl rfl ?_)
  have hc02 : Chg [] w w2 := hc1.trans' hc2
  have hc07 : Chg (g :: p.md :: p.wv.ownBlock.toList) w w7 := (((hc02.mono (fun k hk _ => by cases hk)).trans hc3 (fun k hk _ => by simp at hk; simp [hk])).trans hc6 (fun k hk _ => by simp at hk; simp [hk])).trans hc7 (fun k hk _ => by simp at hk; simp [hk])
  have hsz : w.heap.size ≤ w3.heap.size := Nat.le_trans hc02.size hc3.size
  refine post1 (.inl rfl) rfl rfl ⟨hc07.mono (fun k hk _ => ?_), rfl, _, x.rest hc07 (fun k hk _ => by simpa using hk) rfl rfl hb7 (hm6.keep hc7 (by simpa using hm6.ne_blk hb6)) ?_ hok, ?_⟩
  · simp at hk
    rcases hk with h | h | h
    · exact FsP.mem_fp.2 (.inl h)
    · exact FsP.mem_fp.2 (.inr (.inl h))
    · exact FsP.mem_fp.2 (.inr (.inr (.inr (.inl h))))
  · show Own w7 _ 4 _ (s.waits ++ [c]).length _
    rw [List.length_append]
    refine hw6.keep hc7 (fun h hh hm => ?_)
    simp at hm
    obtain ⟨cur, hr⟩ := hw6.row hh
    rw [hm] at hr
    exact hb6.ne_ hr (by decide) rfl
  · intro k hk
    rcases FsP.mem_fp.1 hk with h | h | h | h | h
    · exact .inl (FsP.mem_fp.2 (.inl h))
    · exact .inl (FsP.mem_fp.2 (.inr (.inl h)))
    · exact .inl (FsP.mem_fp.2 (.inr (.inr (.inl h))))
    · rcases hwb6 with h1 | ⟨i, h1, h2⟩
      · exact .inl (FsP.mem_fp.2 (.inr (.inr (.inr (.inl (h1.symm.trans h))))))
      · have h : Value.ownBlock _ = some k := h
        rw [h1] at h; injection h with h; exact .inr (by omega)
    · exact .inl (FsP.mem_fp.2 (.inr (.inr (.inr (.inr h)))))
end Go.Proofs.YtbhnplghnhafiaaGreatDoor.Tryz
/-! Files: how many bytes; names; Create, Rename, Remove; the scalars. -/
set_option linter.unusedVariables false
set_option linter.unusedSimpArgs false
namespace Go.Vc
open Go
def lenAt (s : FsM) (k : Nm) : Nat := match looks s.dir k with
  | some i => lenOf s i
  | none => 0
theorem usedM_eq {s : FsM} (h : FsOk s) : usedM s = ((s.dir.map (·.1)).map (lenAt s)).sum := by
  unfold usedM
  rw [List.map_map]
  congr 1
  refine List.map_congr_left fun p hp => ?_
  simp only [Function.comp, lenAt, looks_of_mem h.dir.up (k := p.1) (i := p.2) hp]
theorem lenAt_le {s : FsM} (h : FsOk s) (k : Nm) : lenAt s k ≤ 4194304 := by
  unfold lenAt
  split
  · exact lenOf_le h _
  · omega
theorem at2_isSome {fb : List (Nat × Value)} {d : Dir} (hd : DirOk fb.length d) (k : Nm) : (at2 fb d k).isSome = true ↔ k ∈ d.map (·.1) := by
  rw [← looks_isSome]
  unfold at2
  cases hl : looks d k with
  | none => simp
  | some i =>
    have := (hd.name _ (looks_mem hl)).2
    simp [List.getElem?_eq_getElem this]
theorem at2_inv {fb : List (Nat × Value)} {d : Dir} {k : Nm} {b : Nat} (h : at2 fb d k = some b) : ∃ (i : Nat) (q : Nat × Value), looks d k = some i ∧ fb[i]? = some q ∧ b = q.1 := by
  unfold at2 at h
  cases hl : looks d k with
  | none => rw [hl] at h; cases h
  | some i =>
    rw [hl] at h
    cases hq : fb[i]? with
    | none => simp [hq] at h
    | some q => simp [hq] at h; exact ⟨i, q, rfl, hq, h.symm⟩
end Go.Vc
namespace Go.Proofs.YtbhnplghnhafiaaGreatDoor.Tryz
open Go Go.Vc
theorem FsAt.dirOk {w : World} {g : Nat} {s : FsM} {p : FsP} (x : FsAt w g s p) : DirOk p.fb.length s.dir := by rw [x.len]; exact x.ok.dir
theorem FsAt.get {w : World} {g : Nat} {s : FsM} {p : FsP} (x : FsAt w g s p) {k : Nm} {i : Nat} (hl : looks s.dir k = some i) : ∃ (q : Nat × Value) (f : FileM), p.fb[i]? = some q ∧ s.files[i]? = some f := by
  have h := (x.dirOk.name _ (looks_mem hl)).2
  have h2 := h
  rw [x.len] at h2
  exact ⟨_, _, List.getElem?_eq_getElem h, List.getElem?_eq_getElem h2⟩

set_option maxHeartbeats 1000000 in
theorem used_has (g : Nat) (s : FsM) (p : FsP) (w : World) (x : FsAt w g s p) : Has Go.Proofs.Tryz.prog 27 #[ptrV g] w (fun v w' => Chg [] w w' ∧ v = .int .i64 (usedM s)) := by
  refine enter Go.Proofs.Tryz.func27 rfl rfl (by decide) rfl (e := [(0, ptrV g)]) ⟨rfl, trivial⟩ ?_
  unfold ptrV
  have hb := x.blk
  have hd := x.dirOk
  have hnd := hd.up.nodup
  repeat (first | refine W_seq ?_ | refine W_region ?_ | refine Then_n ?_ | refine WL_nil ?_ | refine W_condT rfl ?_ | refine WL_some rfl rfl rfl ?_ | refine op_move rfl rfl ?_ | refine op_assign rfl rfl ?_ | refine op_nilCheck rfl rfl ?_ | refine op_fieldAddr T rfl rfl rfl rfl rfl rfl rfl rfl ?_ | refine op_neq_nilptr T rfl rfl rfl rfl rfl ?_ | refine op_loadB T rfl rfl rfl rfl (by assumption) (by exact rfl) ?_)
  refine op_range T strKey rfl rfl rfl x.dirM (fun it w1 hsi hc1 hI1 => ?_)
  repeat (first | refine W_block ?_ | refine Then_n ?_ | refine WL_nil ?_)
  refine W_loop (σ := List Nm) (fun ks => [(0, .pointer (some ⟨g, 0, none⟩)), (3, .int .i64 ((ks.map (lenAt s)).sum : Nat)), (12, .pointer (some ⟨it, 0, none⟩))])
    (fun (ks : List Nm) w' => Chg [] w w' ∧ IterAt keyV ptrV w' it p.md (at2 p.fb s.dir) ks) (fun ks => 151 - ks.length) [] ⟨rfl, rfl, rfl, trivial⟩ ⟨hc1, hI1⟩ ?_
  rintro ks w2 ⟨hc2, hI2⟩
  have hin : ∀ k ∈ ks, k ∈ s.dir.map (·.1) := fun k hk => by
    obtain ⟨b, hb⟩ := hI2.mem k hk
    exact (at2_isSome hd k).1 (by rw [hb]; rfl)
  have hkl := nodup_length ks _ hI2.nodup hin
  have hfew := hd.few
  rw [List.length_map] at hkl
  have hsum := sum_le (lenAt s) 4194304 (lenAt_le x.ok) ks
  repeat (first | refine W_seq ?_ | refine W_region ?_ | refine WL_some rfl rfl rfl ?_)
  refine op_next strKey rfl rfl hI2 (fun hall => ?_) (fun k b w3 hf hkn hc3 hs3 hI3 => ?_)
  · have hp : ks.Perm (s.dir.map (·.1)) := (List.perm_ext_iff_of_nodup hI2.nodup hnd).2 fun k => ⟨hin k, fun hk => by
      obtain ⟨b, hb⟩ := Option.isSome_iff_exists.1 ((at2_isSome hd k).2 hk)
      exact hall k b hb⟩
    have hu : (ks.map (lenAt s)).sum = usedM s := by rw [usedM_eq x.ok]; exact (hp.map (lenAt s)).sum_nat
    rw [hu]
    repeat (first | refine W_seq ?_ | refine W_region ?_ | refine W_exit ?_ | refine W_ret ?_ | refine Then_n ?_ | refine Then_x ?_ | refine InBlock_hit ?_ | refine Round_x ?_ | refine WL_nil ?_ | refine W_condF rfl ?_ | refine WL_some rfl rfl rfl ?_ | refine op_move rfl rfl ?_ | refine op_assign rfl rfl ?_ | refine op_extract rfl rfl rfl ?_)
    exact post1 (.inl rfl) rfl rfl ⟨hc2, rfl⟩
  · obtain ⟨i, q, hl, hq, rfl⟩ := at2_inv hf
    obtain ⟨q', f, hq', hfi⟩ := x.get hl
    rw [hq] at hq'; injection hq' with hq'; subst hq'
    have hc03 : Chg [] w w3 := hc2.trans hc3 (fun j hj hlt => by simp at hj; omega)
    have hbf := (x.fblk i q f hq hfi).keep0 hc03
    obtain ⟨A, c, hv, hv1, hv2⟩ := (x.fown i q f hq hfi).form
    rw [hv] at hbf
    have hla : lenAt s k = f.b.length := by unfold lenAt lenOf; rw [hl]; simp [hfi]
    have hfl := (x.ok.files f (List.mem_of_getElem? hfi)).2
    repeat (first | refine W_seq ?_ | refine W_block ?_ | refine W_region ?_ | refine W_skip ?_ | refine Then_n ?_ | refine WL_nil ?_ | refine W_condT rfl ?_ | refine WL_some rfl rfl rfl ?_ | refine op_extract rfl rfl rfl ?_)
    refine op_entry strKey rfl rfl hI3 hf ?_
    unfold ptrV
    repeat (first | refine W_region ?_ | refine Then_n ?_ | refine InBlock_n ?_ | refine WL_nil ?_ | refine WL_some rfl rfl rfl ?_ | refine op_move rfl rfl ?_ | refine op_assign rfl rfl ?_ | refine op_len_slice T rfl rfl rfl rfl ?_ | refine op_add rfl rfl rfl (wrap_i64_in (by omega) (by omega)) ?_ | refine op_extract rfl rfl rfl ?_ | refine op_nilCheck rfl rfl ?_ | refine op_fieldAddr T rfl rfl rfl rfl rfl rfl rfl rfl ?_ | refine op_loadB T rfl rfl rfl rfl (by assumption) (by exact rfl) ?_)
    have hin3 : ∀ k' ∈ ks ++ [k], k' ∈ s.dir.map (·.1) := fun k' hk' => by
      obtain ⟨b, hb⟩ := hI3.mem k' hk'
      exact (at2_isSome hd k').1 (by rw [hb]; rfl)
    have hkl3 := nodup_length (ks ++ [k]) _ hI3.nodup hin3
    rw [List.length_map, List.length_append] at hkl3
    simp at hkl3
    refine Round_n (ks ++ [k]) ⟨rfl, ?_, rfl, trivial⟩ ⟨hc03, hI3⟩ (by simp; omega)
    rw [List.map_append, List.sum_append]
    simp only [List.map_cons, List.map_nil, List.sum_cons, List.sum_nil, hla]
    exact some_int (by omega)

theorem newFs_has (n : Int) (w : World) : Has Go.Proofs.Tryz.prog 5 #[.int .i64 n] w (fun v w' => Chg [] w w' ∧ ∃ g p, v = ptrV g ∧ FsAt w' g (newM n) p ∧ ∀ k ∈ p.fp g, w.heap.size ≤ k) := by
  refine enter Go.Proofs.Tryz.func5 rfl rfl (by decide) rfl (e := [(0, .int .i64 n)]) ⟨rfl, trivial⟩ ?_
  repeat (first | refine W_seq ?_ | refine W_region ?_ | refine Then_n ?_ | refine WL_nil ?_ | refine WL_some rfl rfl rfl ?_ | refine op_move rfl rfl ?_ | refine op_assign rfl rfl ?_)
  refine op_call rfl rfl rfl (room_has n w) ?_
  rintro _ w1 ⟨rfl, rfl⟩
  repeat (refine WL_some rfl rfl rfl ?_)
  refine op_makeMap keyV ptrV rfl (fun md w2 hs2 hc2 hm2 => ?_)
  repeat (refine WL_some rfl rfl rfl ?_)
  refine op_makeMap keyV ptrV rfl (fun ml w3 hs3 hc3 hm3 => ?_)
  repeat (first | refine WL_some rfl rfl rfl ?_ | refine op_build T rfl rfl rfl rfl rfl rfl ?_)
  refine op_box rfl rfl (fun g w4 hs4 hc4 hg4 => ?_)
  repeat (first | refine W_ret ?_ | refine Then_n ?_ | refine WL_nil ?_ | refine WL_some rfl rfl rfl ?_ | refine op_assign rfl rfl ?_)
  have hml := hm2.lt
  have h2 := hc2.size
  have h3 := hc3.size
  refine post1 (.inl rfl) rfl rfl ⟨(hc2.trans' hc3).trans' hc4, g, ⟨md, ml, .slice none 0 0, []⟩, rfl, ⟨newM_ok n, hg4, (hm2.keep0 (hc3.trans' hc4)).congr (fun k => rfl), (hm3.keep0 hc4).congr (fun k => rfl), Own.nil _ _ _, rfl, fun i q f h => by simp at h, fun i q f h => by simp at h, (show md ≠ ml by omega), List.nodup_nil, fun i j q q' h h1 => by simp at h1⟩, fun k hk => ?_⟩
  rcases FsP.mem_fp.1 hk with h | h | h | h | ⟨q, hq, h⟩
  · omega
  · have h : k = md := h
    omega
  · have h : k = ml := h
    omega
  · cases h
  · cases hq

/-- What a call leaves. -/
def FsDone (w : World) (g : Nat) (p : FsP) (r : FsM × Int) (v : Value) (w' : World) : Prop := Chg (p.fp g) w w' ∧ v = .int .i64 r.2 ∧ ∃ p', FsAt w' g r.1 p' ∧ Grows w g p p'
theorem mem_fp_self (p : FsP) (g : Nat) : g ∈ p.fp g := FsP.mem_fp.2 (.inl rfl)
theorem chg_self {w w' : World} {p : FsP} {g : Nat} (h : Chg [g] w w') : Chg (p.fp g) w w' := h.mono (fun k hk _ => by simp at hk; subst hk; exact mem_fp_self p k)

end Go.Proofs.YtbhnplghnhafiaaGreatDoor.Tryz
/-! Files: Create. -/
set_option linter.unusedVariables false
set_option linter.unusedSimpArgs false
namespace Go.Proofs.YtbhnplghnhafiaaGreatDoor.Tryz
open Go Go.Vc

set_option maxHeartbeats 8000000 in
theorem create_has (g : Nat) (s : FsM) (p : FsP) (k : Nm) (w : World) (x : FsAt w g s p) (hk : k.length ≤ maxLen) (hcalls : s.calls < 1000000000 - 1) :
    Has Go.Proofs.Tryz.prog 6 #[ptrV g, .string (str k)] w (FsDone w g p (createM s k)) := by
  refine enter Go.Proofs.Tryz.func6 rfl rfl (by decide) rfl (e := [(0, ptrV g), (1, .string (str k))]) ⟨rfl, rfl, trivial⟩ ?_
  unfold ptrV
  repeat (first | refine W_seq ?_ | refine W_region ?_ | refine Then_n ?_ | refine WL_nil ?_ | refine WL_some rfl rfl rfl ?_ | refine op_move rfl rfl ?_ | refine op_assign rfl rfl ?_)
  refine op_call rfl rfl rfl (call_has g s p w x (by omega)) ?_
  rintro _ w1 ⟨hc1, rfl, x1⟩
  have hcc : (callM s).calls < 1000000000 := by show s.calls + 1 < _; omega
  cases hfm : failsM s with
  | true =>
    have hr : createM s k = (callM s, 5) := by unfold createM; simp [hfm]
    rw [if_pos rfl]
    repeat (first | refine W_seq ?_ | refine W_region ?_ | refine W_ret ?_ | refine Then_n ?_ | refine Then_r ?_ | refine WL_nil ?_ | refine W_condT rfl ?_ | refine WL_some rfl rfl rfl ?_ | refine op_move rfl rfl ?_ | refine op_assign rfl rfl ?_ | refine op_neq rfl rfl rfl (fun hc => ?_) (fun hc => False.elim (by omega)))
    refine post1 (.inl rfl) rfl rfl ?_
    rw [hr]; exact ⟨chg_self hc1, rfl, p, x1, Grows.refl _ _ _⟩
  | false =>
  rw [if_neg (by simp)]
  repeat (first | refine W_seq ?_ | refine W_block ?_ | refine W_region ?_ | refine W_skip ?_ | refine Then_n ?_ | refine WL_nil ?_ | refine W_condF rfl ?_ | refine WL_some rfl rfl rfl ?_ | refine op_move rfl rfl ?_ | refine op_assign rfl rfl ?_ | refine op_neq rfl rfl rfl (fun hc => False.elim (by omega)) (fun hc => ?_))
  refine op_call rfl rfl rfl (may_has k w1 hk) ?_
  rintro _ w1 ⟨rfl, rfl⟩
  cases hmay : mayM k with
  | false =>
    have hr : createM s k = (callM s, 10) := by unfold createM; simp [hfm, hmay]
    repeat (first | refine W_seq ?_ | refine W_region ?_ | refine W_ret ?_ | refine Then_n ?_ | refine Then_r ?_ | refine InBlock_r ?_ | refine WL_nil ?_ | refine W_condT rfl ?_ | refine WL_some rfl rfl rfl ?_ | refine op_assign rfl rfl ?_ | refine op_notF rfl rfl ?_)
    refine post1 (.inl rfl) rfl rfl ?_
    rw [hr]; exact ⟨chg_self hc1, rfl, p, x1, Grows.refl _ _ _⟩
  | true =>
  have hb1 := x1.blk
  have hd1 := x1.dirOk
  have hend : ∀ w2, Chg [] w1 w2 → ((looks (callM s).dir k).isNone && decide (150 ≤ (callM s).dir.length)) = false →
      createM s k = (changeM { callM s with files := (callM s).files ++ [⟨[], 0⟩] } ⟨0, k, [], some (callM s).files.length⟩, 0) := fun w2 hc2 hn => by
    unfold createM
    simp only [hfm, hmay]
    rw [hn]
    simp
  have hok : ((looks (callM s).dir k).isNone && decide (150 ≤ (callM s).dir.length)) = false → FsOk (changeM { callM s with files := (callM s).files ++ [⟨[], 0⟩] } ⟨0, k, [], some (callM s).files.length⟩) := fun hn => by
    have := createM_ok x.ok k
    rw [hend w1 (Chg.refl _ _) hn] at this; exact this
  have hfile : FsOk { callM s with files := (callM s).files ++ [⟨[], 0⟩] } := by
    have h1 := x1.ok
    exact ⟨h1.room0, h1.room1, h1.calls0, h1.fail0, h1.fail1, fun f hf => by
      rcases List.mem_append.1 hf with hf | hf
      · exact h1.files f hf
      · simp at hf; subst hf; simp, h1.replay.more (by simp), h1.waits⟩
  cases hl : looks (callM s).dir k with
  | none =>
    repeat (first | refine W_seq ?_ | refine W_region ?_ | refine Then_n ?_ | refine WL_nil ?_ | refine W_condF rfl ?_ | refine WL_some rfl rfl rfl ?_ | refine op_move rfl rfl ?_ | refine op_assign rfl rfl ?_ | refine op_notT rfl rfl ?_ | refine op_nilCheck rfl rfl ?_ | refine op_fieldAddr T rfl rfl rfl rfl rfl rfl rfl rfl ?_ | refine op_loadB T rfl rfl rfl rfl (by assumption) (by exact rfl) ?_)
    refine op_lookup_v T strKey rfl rfl rfl rfl rfl rfl x1.dirM (v := .pointer none) (fun b hb => by rw [at2_none hl] at hb; cases hb) (fun _ => rfl) ?_
    repeat (first | refine WL_some rfl rfl rfl ?_ | refine WL_guardT rfl rfl rfl rfl ?_ | refine op_move rfl rfl ?_ | refine op_nilCheck rfl rfl ?_ | refine op_fieldAddr T rfl rfl rfl rfl rfl rfl rfl rfl ?_ | refine op_eql_nilptr T rfl rfl rfl rfl rfl ?_ | refine op_loadB T rfl rfl rfl rfl (by assumption) (by exact rfl) ?_)
    refine op_len_map T strKey (ks := (callM s).dir.map (·.1)) rfl rfl rfl rfl x1.dirM hd1.up.nodup (fun k' => (at2_isSome hd1 k').symm) ?_
    rw [List.length_map]
    by_cases hfull : 150 ≤ (callM s).dir.length
    · have hr : createM s k = (callM s, 4) := by unfold createM; simp [hfm, hmay, hl, hfull]
      repeat (first | refine W_seq ?_ | refine W_region ?_ | refine W_ret ?_ | refine Then_n ?_ | refine Then_r ?_ | refine InBlock_r ?_ | refine WL_nil ?_ | refine W_condT rfl ?_ | refine WL_some rfl rfl rfl ?_ | refine WL_guardT rfl rfl rfl rfl ?_ | refine op_assign rfl rfl ?_ | refine op_pick rfl rfl rfl rfl ?_ | refine op_geq rfl rfl rfl (fun hc => ?_) (fun hc => False.elim (by omega)))
      refine post1 (.inl rfl) rfl rfl ?_
      rw [hr]; exact ⟨chg_self hc1, rfl, p, x1, Grows.refl _ _ _⟩
    have hn : ((looks (callM s).dir k).isNone && decide (150 ≤ (callM s).dir.length)) = false := by simp [hfull]
    rw [hend w1 (Chg.refl _ _) hn]
    have hok := hok hn
    repeat (first | refine W_seq ?_ | refine W_region ?_ | refine W_skip ?_ | refine Then_n ?_ | refine InBlock_n ?_ | refine WL_nil ?_ | refine W_condF rfl ?_ | refine WL_some rfl rfl rfl ?_ | refine WL_guardT rfl rfl rfl rfl ?_ | refine op_move rfl rfl ?_ | refine op_assign rfl rfl ?_ | refine op_pick rfl rfl rfl rfl ?_ | refine op_geq rfl rfl rfl (fun hc => False.elim (by omega)) (fun hc => ?_) | refine op_build T rfl rfl rfl rfl rfl rfl ?_)
    refine op_box rfl rfl (fun gf w2 hs2 hc2 hg2 => ?_)
    have x2 := (x1.keep0 hc2).addFile hg2 (fun hm => by have := x1.lt gf hm; omega) hfile
    have hid : idV (p.fb ++ [(gf, Value.slice none 0 0)]) (some (callM s).files.length) = ptrV gf := idV_some (i := (callM s).files.length) (q := (gf, .slice none 0 0)) rfl (by rw [← x1.len]; simp)
    have hcv : chV (p.fb ++ [(gf, Value.slice none 0 0)]) ⟨0, k, [], some (callM s).files.length⟩ = [.int .i64 ((0 : Nat) : Int), .string (str k), .string (str []), .pointer (some ⟨gf, 0, none⟩)] := by unfold chV; rw [hid]; rfl
    repeat (first | refine WL_some rfl rfl rfl ?_ | refine op_build T rfl rfl rfl rfl rfl rfl ?_)
    have hcall := change_has g _ _ ⟨0, k, [], some (callM s).files.length⟩ w2 x2 ⟨fun _ => by simp, fun e => by simp at e⟩ (fun i hi => by simp at hi; subst hi; simp) hok hcc
    rw [hcv] at hcall
    refine op_call rfl rfl rfl hcall ?_
    rintro _ w3 ⟨hc3, rfl, wv', x3, hgr⟩
    repeat (first | refine W_ret ?_ | refine Then_n ?_ | refine WL_nil ?_ | refine WL_some rfl rfl rfl ?_ | refine op_assign rfl rfl ?_)
    have hg2 : Grows w g p { p with fb := p.fb ++ [(gf, Value.slice none 0 0)] } := fun j hj => by
      rcases FsP.mem_fp.1 hj with h | h | h | h | ⟨q, hq, h⟩
      · exact .inl (FsP.mem_fp.2 (.inl h))
      · exact .inl (FsP.mem_fp.2 (.inr (.inl h)))
      · exact .inl (FsP.mem_fp.2 (.inr (.inr (.inl h))))
      · exact .inl (FsP.mem_fp.2 (.inr (.inr (.inr (.inl h)))))
      · rcases List.mem_append.1 hq with hq | hq
        · exact .inl (FsP.mem_fp.2 (.inr (.inr (.inr (.inr ⟨q, hq, h⟩)))))
        · simp at hq
          subst hq
          rcases h with rfl | h
          · exact .inr (by have := hc1.size; omega)
          · cases h
    have hc02 := (chg_self (p := p) hc1).trans' hc2
    exact post1 (.inl rfl) rfl rfl ⟨hc02.fps hg2 hc3, rfl, _, x3, hg2.trans hgr hc02.size⟩
  | some i =>
    obtain ⟨q, f, hq, hfi⟩ := x1.get hl
    repeat (first | refine W_seq ?_ | refine W_region ?_ | refine Then_n ?_ | refine WL_nil ?_ | refine W_condF rfl ?_ | refine WL_some rfl rfl rfl ?_ | refine op_move rfl rfl ?_ | refine op_assign rfl rfl ?_ | refine op_notT rfl rfl ?_ | refine op_nilCheck rfl rfl ?_ | refine op_fieldAddr T rfl rfl rfl rfl rfl rfl rfl rfl ?_ | refine op_loadB T rfl rfl rfl rfl (by assumption) (by exact rfl) ?_)
    refine op_lookup_v T strKey rfl rfl rfl rfl rfl rfl x1.dirM (v := ptrV q.1) (fun b hb => by rw [at2_some hl hq] at hb; injection hb with hb; rw [hb]) (fun hn => by rw [at2_some hl hq] at hn; cases hn) ?_
    unfold ptrV
    have hn : ((looks (callM s).dir k).isNone && decide (150 ≤ (callM s).dir.length)) = false := by simp [hl]
    rw [hend w1 (Chg.refl _ _) hn]
    have hok := hok hn
    repeat (first | refine W_seq ?_ | refine W_region ?_ | refine W_skip ?_ | refine Then_n ?_ | refine InBlock_n ?_ | refine WL_nil ?_ | refine W_condF rfl ?_ | refine WL_some rfl rfl rfl ?_ | refine WL_guardF rfl rfl rfl rfl rfl ?_ | refine op_move rfl rfl ?_ | refine op_assign rfl rfl ?_ | refine op_pick rfl rfl rfl rfl ?_ | refine op_eql_nilptr T rfl rfl rfl rfl rfl ?_ | refine op_build T rfl rfl rfl rfl rfl rfl ?_)
    refine op_box rfl rfl (fun gf w2 hs2 hc2 hg2 => ?_)
    have x2 := (x1.keep0 hc2).addFile hg2 (fun hm => by have := x1.lt gf hm; omega) hfile
    have hid : idV (p.fb ++ [(gf, Value.slice none 0 0)]) (some (callM s).files.length) = ptrV gf := idV_some (i := (callM s).files.length) (q := (gf, .slice none 0 0)) rfl (by rw [← x1.len]; simp)
    have hcv : chV (p.fb ++ [(gf, Value.slice none 0 0)]) ⟨0, k, [], some (callM s).files.length⟩ = [.int .i64 ((0 : Nat) : Int), .string (str k), .string (str []), .pointer (some ⟨gf, 0, none⟩)] := by unfold chV; rw [hid]; rfl
    repeat (first | refine WL_some rfl rfl rfl ?_ | refine op_build T rfl rfl rfl rfl rfl rfl ?_)
    have hcall := change_has g _ _ ⟨0, k, [], some (callM s).files.length⟩ w2 x2 ⟨fun _ => by simp, fun e => by simp at e⟩ (fun i hi => by simp at hi; subst hi; simp) hok hcc
    rw [hcv] at hcall
    refine op_call rfl rfl rfl hcall ?_
    rintro _ w3 ⟨hc3, rfl, wv', x3, hgr⟩
    repeat (first | refine W_ret ?_ | refine Then_n ?_ | refine WL_nil ?_ | refine WL_some rfl rfl rfl ?_ | refine op_assign rfl rfl ?_)
    have hg2 : Grows w g p { p with fb := p.fb ++ [(gf, Value.slice none 0 0)] } := fun j hj => by
      rcases FsP.mem_fp.1 hj with h | h | h | h | ⟨q, hq, h⟩
      · exact .inl (FsP.mem_fp.2 (.inl h))
      · exact .inl (FsP.mem_fp.2 (.inr (.inl h)))
      · exact .inl (FsP.mem_fp.2 (.inr (.inr (.inl h))))
      · exact .inl (FsP.mem_fp.2 (.inr (.inr (.inr (.inl h)))))
      · rcases List.mem_append.1 hq with hq | hq
        · exact .inl (FsP.mem_fp.2 (.inr (.inr (.inr (.inr ⟨q, hq, h⟩)))))
        · simp at hq
          subst hq
          rcases h with rfl | h
          · exact .inr (by have := hc1.size; omega)
          · cases h
    have hc02 := (chg_self (p := p) hc1).trans' hc2
    exact post1 (.inl rfl) rfl rfl ⟨hc02.fps hg2 hc3, rfl, _, x3, hg2.trans hgr hc02.size⟩
end Go.Proofs.YtbhnplghnhafiaaGreatDoor.Tryz
/-! Files: Rename, Remove, SyncDir. -/
set_option linter.unusedVariables false
set_option linter.unusedSimpArgs false
namespace Go.Proofs.YtbhnplghnhafiaaGreatDoor.Tryz
open Go Go.Vc

set_option maxHeartbeats 4000000 in
theorem rename_has (g : Nat) (s : FsM) (p : FsP) (k k' : Nm) (w : World) (x : FsAt w g s p) (hk : k'.length ≤ maxLen) (hcalls : s.calls < 1000000000 - 1) :
    Has Go.Proofs.Tryz.prog 58 #[ptrV g, .string (str k), .string (str k')] w (FsDone w g p (renameM s k k')) := by
  refine enter Go.Proofs.Tryz.func58 rfl rfl (by decide) rfl (e := [(0, ptrV g), (1, .string (str k)), (2, .string (str k'))]) ⟨rfl, rfl, rfl, trivial⟩ ?_
  unfold ptrV
  repeat (first | refine W_seq ?_ | refine W_region ?_ | refine Then_n ?_ | refine WL_nil ?_ | refine WL_some rfl rfl rfl ?_ | refine op_move rfl rfl ?_ | refine op_assign rfl rfl ?_)
  refine op_call rfl rfl rfl (call_has g s p w x (by omega)) ?_
  rintro _ w1 ⟨hc1, rfl, x1⟩
  have hcc : (callM s).calls < 1000000000 := by show s.calls + 1 < _; omega
  cases hfm : failsM s with
  | true =>
    have hr : renameM s k k' = (callM s, 5) := by unfold renameM; simp [hfm]
    rw [if_pos rfl]
    repeat (first | refine W_seq ?_ | refine W_region ?_ | refine W_ret ?_ | refine Then_n ?_ | refine Then_r ?_ | refine WL_nil ?_ | refine W_condT rfl ?_ | refine WL_some rfl rfl rfl ?_ | refine op_move rfl rfl ?_ | refine op_assign rfl rfl ?_ | refine op_neq rfl rfl rfl (fun hc => ?_) (fun hc => False.elim (by omega)))
    refine post1 (.inl rfl) rfl rfl ?_
    rw [hr]; exact ⟨chg_self hc1, rfl, p, x1, Grows.refl _ _ _⟩
  | false =>
  rw [if_neg (by simp)]
  have hb1 := x1.blk
  cases hl : looks (callM s).dir k with
  | none =>
    have hr : renameM s k k' = (callM s, 3) := by unfold renameM; simp [hfm, hl]
    repeat (first | refine W_seq ?_ | refine W_block ?_ | refine W_region ?_ | refine W_skip ?_ | refine Then_n ?_ | refine WL_nil ?_ | refine W_condF rfl ?_ | refine WL_some rfl rfl rfl ?_ | refine op_move rfl rfl ?_ | refine op_assign rfl rfl ?_ | refine op_nilCheck rfl rfl ?_ | refine op_neq rfl rfl rfl (fun hc => False.elim (by omega)) (fun hc => ?_) | refine op_fieldAddr T rfl rfl rfl rfl rfl rfl rfl rfl ?_ | refine op_loadB T rfl rfl rfl rfl (by assumption) (by exact rfl) ?_)
    refine op_lookup_v T strKey rfl rfl rfl rfl rfl rfl x1.dirM (v := .pointer none) (fun b hb => by rw [at2_none hl] at hb; cases hb) (fun _ => rfl) ?_
    repeat (first | refine W_seq ?_ | refine W_region ?_ | refine W_ret ?_ | refine Then_n ?_ | refine Then_r ?_ | refine InBlock_r ?_ | refine WL_nil ?_ | refine W_condT rfl ?_ | refine WL_some rfl rfl rfl ?_ | refine op_assign rfl rfl ?_ | refine op_eql_nilptr T rfl rfl rfl rfl rfl ?_)
    refine post1 (.inl rfl) rfl rfl ?_
    rw [hr]; exact ⟨chg_self hc1, rfl, p, x1, Grows.refl _ _ _⟩
  | some i =>
  obtain ⟨q, f, hq, hfi⟩ := x1.get hl
  repeat (first | refine W_seq ?_ | refine W_block ?_ | refine W_region ?_ | refine W_skip ?_ | refine Then_n ?_ | refine WL_nil ?_ | refine W_condF rfl ?_ | refine WL_some rfl rfl rfl ?_ | refine op_move rfl rfl ?_ | refine op_assign rfl rfl ?_ | refine op_nilCheck rfl rfl ?_ | refine op_neq rfl rfl rfl (fun hc => False.elim (by omega)) (fun hc => ?_) | refine op_fieldAddr T rfl rfl rfl rfl rfl rfl rfl rfl ?_ | refine op_loadB T rfl rfl rfl rfl (by assumption) (by exact rfl) ?_)
  refine op_lookup_v T strKey rfl rfl rfl rfl rfl rfl x1.dirM (v := ptrV q.1) (fun b hb => by rw [at2_some hl hq] at hb; injection hb with hb; rw [hb]) (fun hn => by rw [at2_some hl hq] at hn; cases hn) ?_
  unfold ptrV
  repeat (first | refine W_seq ?_ | refine W_region ?_ | refine Then_n ?_ | refine WL_nil ?_ | refine W_condF rfl ?_ | refine WL_some rfl rfl rfl ?_ | refine op_move rfl rfl ?_ | refine op_assign rfl rfl ?_ | refine op_eql_nilptr T rfl rfl rfl rfl rfl ?_)
  refine op_call rfl rfl rfl (may_has k' w1 hk) ?_
  rintro _ w1 ⟨rfl, rfl⟩
  cases hmay : mayM k' with
  | false =>
    have hr : renameM s k k' = (callM s, 10) := by unfold renameM; simp [hfm, hl, hmay]
    repeat (first | refine W_seq ?_ | refine W_region ?_ | refine W_ret ?_ | refine Then_n ?_ | refine Then_r ?_ | refine InBlock_r ?_ | refine WL_nil ?_ | refine W_condT rfl ?_ | refine WL_some rfl rfl rfl ?_ | refine op_assign rfl rfl ?_ | refine op_notF rfl rfl ?_)
    refine post1 (.inl rfl) rfl rfl ?_
    rw [hr]; exact ⟨chg_self hc1, rfl, p, x1, Grows.refl _ _ _⟩
  | true =>
  have hr : renameM s k k' = (changeM (callM s) ⟨1, k, k', none⟩, 0) := by unfold renameM; simp [hfm, hl, hmay]
  have hok := renameM_ok x.ok k k'
  rw [hr] at hok
  have hcv : chV p.fb ⟨1, k, k', none⟩ = [.int .i64 ((1 : Nat) : Int), .string (str k), .string (str k'), .pointer none] := rfl
  have hcall := change_has g _ _ ⟨1, k, k', none⟩ w1 x1 ⟨fun e => by simp at e, fun _ => by simp [hl]⟩ (fun i hi => by cases hi) hok hcc
  rw [hcv] at hcall
  repeat (first | refine W_seq ?_ | refine W_region ?_ | refine W_skip ?_ | refine Then_n ?_ | refine InBlock_n ?_ | refine WL_nil ?_ | refine W_condF rfl ?_ | refine WL_some rfl rfl rfl ?_ | refine op_move rfl rfl ?_ | refine op_assign rfl rfl ?_ | refine op_notT rfl rfl ?_ | refine op_build T rfl rfl rfl rfl rfl rfl ?_)
  refine op_call rfl rfl rfl hcall ?_
  rintro _ w2 ⟨hc2, rfl, wv', x2, hgr⟩
  repeat (first | refine W_ret ?_ | refine Then_n ?_ | refine WL_nil ?_ | refine WL_some rfl rfl rfl ?_ | refine op_assign rfl rfl ?_)
  refine post1 (.inl rfl) rfl rfl ?_
  rw [hr]
  exact ⟨(chg_self hc1).fps (Grows.refl _ _ _) hc2, rfl, _, x2, (Grows.refl _ _ _).trans hgr hc1.size⟩

/-- The lasting directory is now a copy of the one that is. -/
theorem FsAt.syncD {w w' : World} {g : Nat} {s : FsM} {p : FsP} (x : FsAt w g s p) (hc : Chg [g] w w') {ml : Nat} (hb : Blk w' g 55 [.int .i64 s.room, .map (some p.md), .map (some ml), .slice none 0 0, .int .i64 s.calls, .int .i64 s.fail])
    (hm : MapAt keyV ptrV w' ml (at2 p.fb s.dir)) (hne : p.md ≠ ml) (hok : FsOk { s with lasts := s.dir, waits := [] }) : FsAt w' g { s with lasts := s.dir, waits := [] } { p with ml := ml, wv := .slice none 0 0 } := by
  have hrow : ∀ k t cs, Blk w k t cs → t ≠ 55 → k ∉ [g] := fun k t cs hk h1 hm => by
    simp at hm; subst hm
    exact hk.ne_ x.blk h1 rfl
  refine ⟨hok, hb, x.dirM.keep hc (by simpa using x.dirM.ne_blk x.blk), hm, Own.nil _ _ _, x.len, fun i q f hq hf => ?_, fun i q f hq hf => ?_, hne, x.apart2, x.apart3⟩
  · have h1 := x.fblk i q f hq hf
    exact h1.keep hc (hrow _ _ _ h1 (by decide))
  · refine (x.fown i q f hq hf).keep hc (fun h hh => ?_)
    obtain ⟨cur, hr⟩ := (x.fown i q f hq hf).row hh
    exact hrow _ _ _ hr (by decide)

set_option maxHeartbeats 2000000 in
theorem syncDir_has (g : Nat) (s : FsM) (p : FsP) (w : World) (x : FsAt w g s p) (hcalls : s.calls < 1000000000 - 1) :
    Has Go.Proofs.Tryz.prog 12 #[ptrV g] w (FsDone w g p (syncDirM s)) := by
  refine enter Go.Proofs.Tryz.func12 rfl rfl (by decide) rfl (e := [(0, ptrV g)]) ⟨rfl, trivial⟩ ?_
  unfold ptrV
  repeat (first | refine W_seq ?_ | refine W_region ?_ | refine Then_n ?_ | refine WL_nil ?_ | refine WL_some rfl rfl rfl ?_ | refine op_move rfl rfl ?_ | refine op_assign rfl rfl ?_)
  refine op_call rfl rfl rfl (call_has g s p w x (by omega)) ?_
  rintro _ w1 ⟨hc1, rfl, x1⟩
  cases hfm : failsM s with
  | true =>
    have hr : syncDirM s = (callM s, 5) := by unfold syncDirM; simp [hfm]
    rw [if_pos rfl]
    repeat (first | refine W_seq ?_ | refine W_region ?_ | refine W_ret ?_ | refine Then_n ?_ | refine Then_r ?_ | refine WL_nil ?_ | refine W_condT rfl ?_ | refine WL_some rfl rfl rfl ?_ | refine op_move rfl rfl ?_ | refine op_assign rfl rfl ?_ | refine op_neq rfl rfl rfl (fun hc => ?_) (fun hc => False.elim (by omega)))
    refine post1 (.inl rfl) rfl rfl ?_
    rw [hr]; exact ⟨chg_self hc1, rfl, p, x1, Grows.refl _ _ _⟩
  | false =>
  rw [if_neg (by simp)]
  have hb1 := x1.blk
  have hr : syncDirM s = ({ callM s with lasts := (callM s).dir, waits := [] }, 0) := by unfold syncDirM; simp [hfm]
  have hok := syncDirM_ok x.ok
  rw [hr] at hok
  repeat (first | refine W_seq ?_ | refine W_region ?_ | refine W_skip ?_ | refine Then_n ?_ | refine WL_nil ?_ | refine W_condF rfl ?_ | refine WL_some rfl rfl rfl ?_ | refine op_move rfl rfl ?_ | refine op_assign rfl rfl ?_ | refine op_nilCheck rfl rfl ?_ | refine op_neq rfl rfl rfl (fun hc => False.elim (by omega)) (fun hc => ?_) | refine op_fieldAddr T rfl rfl rfl rfl rfl rfl rfl rfl ?_ | refine op_loadB T rfl rfl rfl rfl (by assumption) (by exact rfl) ?_)
  refine op_call rfl rfl rfl (cloneD_has x1.dirM) ?_
  rintro _ w2 ⟨ml, rfl, hml, hc2, hm2⟩
  have x2 := x1.keep0 hc2
  have hb2 := x2.blk
  repeat (first | refine WL_some rfl rfl rfl ?_ | refine WL_none rfl rfl ?_ | refine op_nilCheck rfl rfl ?_ | refine op_fieldAddr T rfl rfl rfl rfl rfl rfl rfl rfl ?_)
  refine op_store T rfl rfl rfl rfl rfl rfl hb2 (Nat.le_of_ble_eq_true rfl) (fun w3 hc3 hb3 _ => ?_)
  have hb3 : Blk w3 g 55 [.int .i64 (callM s).room, .map (some p.md), .map (some ml), p.wv, .int .i64 (callM s).calls, .int .i64 (callM s).fail] := hb3
  repeat (first | refine WL_some rfl rfl rfl ?_ | refine WL_none rfl rfl ?_ | refine op_nilCheck rfl rfl ?_ | refine op_fieldAddr T rfl rfl rfl rfl rfl rfl rfl rfl ?_)
  refine op_store T rfl rfl rfl rfl rfl rfl hb3 (Nat.le_of_ble_eq_true rfl) (fun w4 hc4 hb4 _ => ?_)
  have hb4 : Blk w4 g 55 [.int .i64 (callM s).room, .map (some p.md), .map (some ml), .slice none 0 0, .int .i64 (callM s).calls, .int .i64 (callM s).fail] := hb4
  repeat (first | refine W_seq ?_ | refine W_region ?_ | refine W_ret ?_ | refine Then_n ?_ | refine WL_nil ?_ | refine WL_some rfl rfl rfl ?_ | refine op_assign rfl rfl ?_)
  have hc24 : Chg [g] w2 w4 := hc3.trans hc4 (fun _ h _ => h)
  have hmd := x1.dirM.lt
  have x4 := x2.syncD hc24 hb4 (hm2.keep hc24 (by simpa using hm2.ne_blk hb2)) (by omega) hok
  refine post1 (.inl rfl) rfl rfl ?_
  rw [hr]
  refine ⟨chg_self ((hc1.trans' hc2).trans hc24 (fun _ h _ => h)), rfl, _, x4, fun k hk => ?_⟩
  rcases FsP.mem_fp.1 hk with h | h | h | h | h
  · exact .inl (FsP.mem_fp.2 (.inl h))
  · exact .inl (FsP.mem_fp.2 (.inr (.inl h)))
  · have h : k = ml := h
    exact .inr (by have := hc1.size; omega)
  · cases h
  · exact .inl (FsP.mem_fp.2 (.inr (.inr (.inr (.inr h)))))
end Go.Proofs.YtbhnplghnhafiaaGreatDoor.Tryz
/-! Files: Sync, Append, Read. -/
set_option linter.unusedVariables false
set_option linter.unusedSimpArgs false
namespace Go.Vc
open Go
theorem at2_fst {fb fb' : List (Nat × Value)} (h : ∀ i : Nat, (fb'[i]?).map (·.1) = (fb[i]?).map (·.1)) (d : Dir) (k : Nm) : at2 fb' d k = at2 fb d k := by
  unfold at2; simp only [h]
theorem chV_fst {fb fb' : List (Nat × Value)} (h : ∀ i : Nat, (fb'[i]?).map (·.1) = (fb[i]?).map (·.1)) (c : ChM) : chV fb' c = chV fb c := by
  unfold chV idV; simp only [h]
theorem set_fst {fb : List (Nat × Value)} {i : Nat} {q : Nat × Value} (hq : fb[i]? = some q) (v : Value) (j : Nat) : ((fb.set i (q.1, v))[j]?).map (·.1) = (fb[j]?).map (·.1) := by
  rw [List.getElem?_set]
  by_cases h : i = j
  · subst h
    obtain ⟨h1, h2⟩ := List.getElem?_eq_some_iff.1 hq
    rw [if_pos rfl, if_pos h1, hq]; rfl
  · rw [if_neg h]
end Go.Vc
namespace Go.Proofs.YtbhnplghnhafiaaGreatDoor.Tryz
open Go Go.Vc

/-- One file's bytes, and how many of them are synced, have turned. -/
theorem FsAt.setFile {w w' : World} {g : Nat} {s : FsM} {p : FsP} {S : List Nat} (x : FsAt w g s p) {i : Nat} {q : Nat × Value} {f : FileM} (hq : p.fb[i]? = some q) (hf : s.files[i]? = some f) (gg : FileM → FileM) {v' : Value} (hc : Chg S w w')
    (hS : ∀ k ∈ S, k < w.heap.size → k = q.1 ∨ q.2.ownBlock = some k) (hb : Blk w' q.1 60 [v', .int .i64 (gg f).synced]) (ho : Own w' 5 1 v' (gg f).b.length (u8s (gg f).b))
    (hv : v'.ownBlock = q.2.ownBlock ∨ ∃ h, v'.ownBlock = some h ∧ w.heap.size ≤ h) (hok : FsOk { s with files := s.files.modify i gg }) :
    FsAt w' g { s with files := s.files.modify i gg } { p with fb := p.fb.set i (q.1, v') } ∧ Grows w g p { p with fb := p.fb.set i (q.1, v') } := by
  have hqb := x.fblk i q f hq hf
  have hc := hc.mono (S' := q.1 :: q.2.ownBlock.toList) (fun k hk hlt => by
    rcases hS k hk hlt with h | h
    · simp [h]
    · simp [h])
  have hil := (List.getElem?_eq_some_iff.1 hq).1
  have hnot : ∀ k, k < w.heap.size → k ≠ q.1 → q.2.ownBlock ≠ some k → k ∉ q.1 :: q.2.ownBlock.toList := fun k _ h1 h2 hm => by
    rcases List.mem_cons.1 hm with h | h
    · exact h1 h
    · exact h2 (by simpa using h)
  have hrow : ∀ k t cs, Blk w k t cs → t ≠ 60 → t ≠ 5 → k ∉ q.1 :: q.2.ownBlock.toList := fun k t cs hk h1 h2 => hnot k hk.lt (fun e => by subst e; exact hk.ne_ hqb h1 rfl) (fun e => by
    obtain ⟨cur, hr⟩ := (x.fown i q f hq hf).row e
    exact hk.ne_ hr h2 rfl)
  have hmap : ∀ (bv : Nat → Value) r ff, MapAt keyV bv w r ff → r ∉ q.1 :: q.2.ownBlock.toList := fun bv r ff hm => hnot r hm.lt (fun e => hm.ne_blk hqb e) (fun e => by
    obtain ⟨cur, hr⟩ := (x.fown i q f hq hf).row e
    exact hm.ne_blk hr rfl)
  have hfst := set_fst hq v'
  have hget : ∀ (j : Nat) q', (p.fb.set i (q.1, v'))[j]? = some q' → (j = i ∧ q' = (q.1, v')) ∨ (j ≠ i ∧ p.fb[j]? = some q') := fun j q' h => by
    rw [List.getElem?_set] at h
    by_cases e : i = j
    · subst e; rw [if_pos rfl, if_pos hil] at h; injection h with h; exact .inl ⟨rfl, h.symm⟩
    · rw [if_neg e] at h; exact .inr ⟨fun e' => e e'.symm, h⟩
  have hfile : ∀ (j : Nat) f', (s.files.modify i gg)[j]? = some f' → (j = i ∧ f' = gg f) ∨ (j ≠ i ∧ s.files[j]? = some f') := fun j f' h => by
    rw [List.getElem?_modify] at h
    by_cases e : i = j
    · subst e; simp [hf] at h; exact .inl ⟨rfl, h.symm⟩
    · simp [e] at h; exact .inr ⟨fun e' => e e'.symm, h⟩
  refine ⟨⟨hok, x.blk.keep hc (hrow _ _ _ x.blk (by decide) (by decide)), (x.dirM.keep hc (hmap _ _ _ x.dirM)).congr (fun k => (at2_fst hfst _ k).symm), (x.lastsM.keep hc (hmap _ _ _ x.lastsM)).congr (fun k => (at2_fst hfst _ k).symm), ?_, by simp [x.len], fun j q' f' h1 h2 => ?_, fun j q' f' h1 h2 => ?_, x.apart1, ?_, fun j j' q1 q2 h h1 h2 h3 h4 => ?_⟩, fun k hk => ?_⟩
  · show Own w' _ 4 p.wv s.waits.length (s.waits.flatMap (chV (p.fb.set i (q.1, v'))))
    rw [flatMap_congr' (g := chV p.fb) (fun c _ => chV_fst hfst c)]
    refine x.waitsM.keep hc (fun h hh => ?_)
    obtain ⟨cur, hr⟩ := x.waitsM.row hh
    exact hrow _ _ _ hr (by decide) (by decide)
  · rcases hget j q' h1 with ⟨rfl, rfl⟩ | ⟨hj, h1⟩
    · rcases hfile j f' h2 with ⟨_, rfl⟩ | ⟨h, _⟩
      · exact hb
      · exact absurd rfl h
    · rcases hfile j f' h2 with ⟨h, _⟩ | ⟨_, h2⟩
      · exact absurd h hj
      · have h5 := x.fblk j q' f' h1 h2
        refine h5.keep hc (hnot _ h5.lt (fun e => hj ?_) (fun e => ?_))
        · have hjl := (List.getElem?_eq_some_iff.1 h1).1
          refine (List.getElem?_inj (l := p.fb.map (·.1)) (by simpa using hjl) x.apart2).1 ?_
          rw [List.getElem?_map, List.getElem?_map, h1, hq]; simp [e]
        · obtain ⟨cur, hr⟩ := (x.fown i q f hq hf).row e
          exact h5.ne_ hr (by decide) rfl
  · rcases hget j q' h1 with ⟨rfl, rfl⟩ | ⟨hj, h1⟩
    · rcases hfile j f' h2 with ⟨_, rfl⟩ | ⟨h, _⟩
      · exact ho
      · exact absurd rfl h
    · rcases hfile j f' h2 with ⟨h, _⟩ | ⟨_, h2⟩
      · exact absurd h hj
      · have h5 := x.fown j q' f' h1 h2
        refine h5.keep hc (fun h hh => hnot _ (h5.lt hh) (fun e => ?_) (fun e => hj (x.apart3 j i q' q h h1 hq hh e)))
        obtain ⟨cur, hr⟩ := h5.row hh
        rw [e] at hr
        exact hqb.ne_ hr (by decide) rfl
  · have : (p.fb.set i (q.1, v')).map (·.1) = p.fb.map (·.1) := by
      apply List.ext_getElem?
      intro j
      rw [List.getElem?_map, List.getElem?_map]; exact hfst j
    show (List.map _ _).Nodup
    rw [this]; exact x.apart2
  · rcases hget j q1 h1 with ⟨rfl, rfl⟩ | ⟨hj, g1⟩
    · rcases hget j' q2 h2 with ⟨rfl, rfl⟩ | ⟨hj', g2⟩
      · rfl
      · have h3 : v'.ownBlock = some h := h3
        rcases hv with hv | ⟨h', hv, hge⟩
        · exact x.apart3 j j' q q2 h hq g2 (hv.symm.trans h3) h4
        · obtain ⟨f2, hf2⟩ : ∃ f2, s.files[j']? = some f2 := ⟨_, List.getElem?_eq_getElem (by rw [← x.len]; exact (List.getElem?_eq_some_iff.1 g2).1)⟩
          have := (x.fown j' q2 f2 g2 hf2).lt h4
          rw [h3] at hv; injection hv with hv; omega
    · rcases hget j' q2 h2 with ⟨rfl, rfl⟩ | ⟨hj', g2⟩
      · have h4 : v'.ownBlock = some h := h4
        rcases hv with hv | ⟨h', hv, hge⟩
        · exact x.apart3 j j' q1 q h g1 hq h3 (hv.symm.trans h4)
        · obtain ⟨f2, hf2⟩ : ∃ f2, s.files[j]? = some f2 := ⟨_, List.getElem?_eq_getElem (by rw [← x.len]; exact (List.getElem?_eq_some_iff.1 g1).1)⟩
          have := (x.fown j q1 f2 g1 hf2).lt h3
          rw [h4] at hv; injection hv with hv; omega
      · exact x.apart3 j j' q1 q2 h g1 g2 h3 h4
  · rcases FsP.mem_fp.1 hk with h | h | h | h | ⟨q', hq', h⟩
    · exact .inl (FsP.mem_fp.2 (.inl h))
    · exact .inl (FsP.mem_fp.2 (.inr (.inl h)))
    · exact .inl (FsP.mem_fp.2 (.inr (.inr (.inl h))))
    · exact .inl (FsP.mem_fp.2 (.inr (.inr (.inr (.inl h)))))
    · rcases List.mem_or_eq_of_mem_set hq' with hq' | rfl
      · exact .inl (FsP.mem_fp.2 (.inr (.inr (.inr (.inr ⟨q', hq', h⟩)))))
      · have hqm := List.mem_of_getElem? hq
        rcases h with h | h
        · exact .inl (FsP.mem_fp.2 (.inr (.inr (.inr (.inr ⟨q, hqm, .inl h⟩)))))
        · have h : v'.ownBlock = some k := h
          rcases hv with hv | ⟨h', hv, hge⟩
          · exact .inl (FsP.mem_fp.2 (.inr (.inr (.inr (.inr ⟨q, hqm, .inr (hv.symm.trans h)⟩)))))
          · rw [h] at hv; injection hv with hv; exact .inr (by omega)

theorem FsAt.mem_file {w : World} {g : Nat} {s : FsM} {p : FsP} (x : FsAt w g s p) {i : Nat} {q : Nat × Value} (hq : p.fb[i]? = some q) : q.1 ∈ p.fp g ∧ ∀ h, q.2.ownBlock = some h → h ∈ p.fp g :=
  ⟨FsP.mem_fp.2 (.inr (.inr (.inr (.inr ⟨q, List.mem_of_getElem? hq, .inl rfl⟩)))), fun h hh => FsP.mem_fp.2 (.inr (.inr (.inr (.inr ⟨q, List.mem_of_getElem? hq, .inr hh⟩))))⟩

set_option maxHeartbeats 2000000 in
theorem sync_has (g : Nat) (s : FsM) (p : FsP) (k : Nm) (w : World) (x : FsAt w g s p) (hcalls : s.calls < 1000000000 - 1) :
    Has Go.Proofs.Tryz.prog 11 #[ptrV g, .string (str k)] w (FsDone w g p (syncM s k)) := by
  refine enter Go.Proofs.Tryz.func11 rfl rfl (by decide) rfl (e := [(0, ptrV g), (1, .string (str k))]) ⟨rfl, rfl, trivial⟩ ?_
  unfold ptrV
  repeat (first | refine W_seq ?_ | refine W_region ?_ | refine Then_n ?_ | refine WL_nil ?_ | refine WL_some rfl rfl rfl ?_ | refine op_move rfl rfl ?_ | refine op_assign rfl rfl ?_)
  refine op_call rfl rfl rfl (call_has g s p w x (by omega)) ?_
  rintro _ w1 ⟨hc1, rfl, x1⟩
  cases hfm : failsM s with
  | true =>
    have hr : syncM s k = (callM s, 5) := by unfold syncM; simp [hfm]
    rw [if_pos rfl]
    repeat (first | refine W_seq ?_ | refine W_region ?_ | refine W_ret ?_ | refine Then_n ?_ | refine Then_r ?_ | refine WL_nil ?_ | refine W_condT rfl ?_ | refine WL_some rfl rfl rfl ?_ | refine op_move rfl rfl ?_ | refine op_assign rfl rfl ?_ | refine op_neq rfl rfl rfl (fun hc => ?_) (fun hc => False.elim (by omega)))
    refine post1 (.inl rfl) rfl rfl ?_
    rw [hr]; exact ⟨chg_self hc1, rfl, p, x1, Grows.refl _ _ _⟩
  | false =>
  rw [if_neg (by simp)]
  have hb1 := x1.blk
  cases hl : looks (callM s).dir k with
  | none =>
    have hr : syncM s k = (callM s, 3) := by unfold syncM; simp [hfm, hl]
    repeat (first | refine W_seq ?_ | refine W_region ?_ | refine W_skip ?_ | refine Then_n ?_ | refine WL_nil ?_ | refine W_condF rfl ?_ | refine WL_some rfl rfl rfl ?_ | refine op_move rfl rfl ?_ | refine op_assign rfl rfl ?_ | refine op_nilCheck rfl rfl ?_ | refine op_neq rfl rfl rfl (fun hc => False.elim (by omega)) (fun hc => ?_) | refine op_fieldAddr T rfl rfl rfl rfl rfl rfl rfl rfl ?_ | refine op_loadB T rfl rfl rfl rfl (by assumption) (by exact rfl) ?_)
    refine op_lookup_v T strKey rfl rfl rfl rfl rfl rfl x1.dirM (v := .pointer none) (fun b hb => by rw [at2_none hl] at hb; cases hb) (fun _ => rfl) ?_
    repeat (first | refine W_seq ?_ | refine W_region ?_ | refine W_ret ?_ | refine Then_n ?_ | refine Then_r ?_ | refine WL_nil ?_ | refine W_condT rfl ?_ | refine WL_some rfl rfl rfl ?_ | refine op_move rfl rfl ?_ | refine op_assign rfl rfl ?_ | refine op_eql_nilptr T rfl rfl rfl rfl rfl ?_)
    refine post1 (.inl rfl) rfl rfl ?_
    rw [hr]; exact ⟨chg_self hc1, rfl, p, x1, Grows.refl _ _ _⟩
  | some i =>
  obtain ⟨q, f, hq, hfi⟩ := x1.get hl
  have hr : syncM s k = ({ callM s with files := (callM s).files.modify i fun f => { f with synced := f.b.length } }, 0) := by unfold syncM; simp [hfm, hl]
  have hok := syncM_ok x.ok k
  rw [hr] at hok
  have hbf := x1.fblk i q f hq hfi
  have hof := x1.fown i q f hq hfi
  obtain ⟨A, c, hv, hv1, hv2⟩ := hof.form
  rw [hv] at hbf
  repeat (first | refine W_seq ?_ | refine W_region ?_ | refine W_skip ?_ | refine Then_n ?_ | refine WL_nil ?_ | refine W_condF rfl ?_ | refine WL_some rfl rfl rfl ?_ | refine op_move rfl rfl ?_ | refine op_assign rfl rfl ?_ | refine op_nilCheck rfl rfl ?_ | refine op_neq rfl rfl rfl (fun hc => False.elim (by omega)) (fun hc => ?_) | refine op_fieldAddr T rfl rfl rfl rfl rfl rfl rfl rfl ?_ | refine op_loadB T rfl rfl rfl rfl (by assumption) (by exact rfl) ?_)
  refine op_lookup_v T strKey rfl rfl rfl rfl rfl rfl x1.dirM (v := ptrV q.1) (fun b hb => by rw [at2_some hl hq] at hb; injection hb with hb; rw [hb]) (fun hn => by rw [at2_some hl hq] at hn; cases hn) ?_
  unfold ptrV
  repeat (first | refine W_seq ?_ | refine W_region ?_ | refine W_skip ?_ | refine Then_n ?_ | refine WL_nil ?_ | refine W_condF rfl ?_ | refine WL_some rfl rfl rfl ?_ | refine WL_none rfl rfl ?_ | refine op_move rfl rfl ?_ | refine op_assign rfl rfl ?_ | refine op_len_slice T rfl rfl rfl rfl ?_ | refine op_nilCheck rfl rfl ?_ | refine op_fieldAddr T rfl rfl rfl rfl rfl rfl rfl rfl ?_ | refine op_eql_nilptr T rfl rfl rfl rfl rfl ?_ | refine op_loadB T rfl rfl rfl rfl (by assumption) (by exact rfl) ?_)
  refine op_store T rfl rfl rfl rfl rfl rfl hbf (Nat.le_of_ble_eq_true rfl) (fun w2 hc2 hb2 _ => ?_)
  repeat (first | refine W_seq ?_ | refine W_region ?_ | refine W_ret ?_ | refine Then_n ?_ | refine WL_nil ?_ | refine WL_some rfl rfl rfl ?_ | refine op_assign rfl rfl ?_)
  have hb2 : Blk w2 q.1 60 [q.2, .int .i64 (f.b.length : Nat)] := by rw [hv]; exact hb2
  obtain ⟨x2, hg2⟩ := x1.setFile hq hfi (fun f => { f with synced := f.b.length }) (v' := q.2) hc2 (fun j hj _ => by simp at hj; exact .inl hj) hb2 (hof.keep hc2 (fun h hh hm => by
    simp at hm
    obtain ⟨cur, hr⟩ := hof.row hh
    rw [hm] at hr
    exact hbf.ne_ hr (by decide) rfl)) (.inl rfl) hok
  refine post1 (.inl rfl) rfl rfl ?_
  rw [hr]
  exact ⟨(chg_self hc1).trans hc2 (fun j hj _ => by simp at hj; subst hj; exact (x1.mem_file hq).1), rfl, _, x2, (Grows.refl _ _ _).trans hg2 hc1.size⟩

set_option maxHeartbeats 4000000 in
theorem append_has (g : Nat) (s : FsM) (p : FsP) (k : Nm) (A : Option Addr) (n c : Nat) (b : List UInt8) (w : World) (x : FsAt w g s p) (hb : Firm (p.fp g) w (fun w => SliceOf Ru8 w (.slice A n c) b)) (hbl : b.length ≤ 1000000000) (hcalls : s.calls < 1000000000 - 1) :
    Has Go.Proofs.Tryz.prog 7 #[ptrV g, .string (str k), .slice A n c] w (FsDone w g p (appendM s k b)) := by
  obtain ⟨rfl, hb1, hb2⟩ := hb.now.len
  refine enter Go.Proofs.Tryz.func7 rfl rfl (by decide) rfl (e := [(0, ptrV g), (1, .string (str k)), (2, .slice A b.length c)]) ⟨rfl, rfl, rfl, trivial⟩ ?_
  unfold ptrV
  repeat (first | refine W_seq ?_ | refine W_region ?_ | refine Then_n ?_ | refine WL_nil ?_ | refine WL_some rfl rfl rfl ?_ | refine op_move rfl rfl ?_ | refine op_assign rfl rfl ?_)
  refine op_call rfl rfl rfl (call_has g s p w x (by omega)) ?_
  rintro _ w1 ⟨hc1, rfl, x1⟩
  have hs1 := hb w1 (chg_self hc1)
  cases hfm : failsM s with
  | true =>
    have hr : appendM s k b = (callM s, 5) := by unfold appendM; simp [hfm]
    rw [if_pos rfl]
    repeat (first | refine W_seq ?_ | refine W_region ?_ | refine W_ret ?_ | refine Then_n ?_ | refine Then_r ?_ | refine WL_nil ?_ | refine W_condT rfl ?_ | refine WL_some rfl rfl rfl ?_ | refine op_move rfl rfl ?_ | refine op_assign rfl rfl ?_ | refine op_neq rfl rfl rfl (fun hc => ?_) (fun hc => False.elim (by omega)))
    refine post1 (.inl rfl) rfl rfl ?_
    rw [hr]; exact ⟨chg_self hc1, rfl, p, x1, Grows.refl _ _ _⟩
  | false =>
  rw [if_neg (by simp)]
  have hbk1 := x1.blk
  cases hl : looks (callM s).dir k with
  | none =>
    have hr : appendM s k b = (callM s, 3) := by unfold appendM; simp [hfm, hl]
    repeat (first | refine W_seq ?_ | refine W_region ?_ | refine W_skip ?_ | refine Then_n ?_ | refine WL_nil ?_ | refine W_condF rfl ?_ | refine WL_some rfl rfl rfl ?_ | refine op_move rfl rfl ?_ | refine op_assign rfl rfl ?_ | refine op_nilCheck rfl rfl ?_ | refine op_neq rfl rfl rfl (fun hc => False.elim (by omega)) (fun hc => ?_) | refine op_fieldAddr T rfl rfl rfl rfl rfl rfl rfl rfl ?_ | refine op_loadB T rfl rfl rfl rfl (by assumption) (by exact rfl) ?_)
    refine op_lookup_v T strKey rfl rfl rfl rfl rfl rfl x1.dirM (v := .pointer none) (fun b hb => by rw [at2_none hl] at hb; cases hb) (fun _ => rfl) ?_
    repeat (first | refine W_seq ?_ | refine W_block ?_ | refine W_region ?_ | refine W_ret ?_ | refine Then_n ?_ | refine Then_r ?_ | refine InBlock_r ?_ | refine WL_nil ?_ | refine W_condT rfl ?_ | refine WL_some rfl rfl rfl ?_ | refine op_move rfl rfl ?_ | refine op_assign rfl rfl ?_ | refine op_eql_nilptr T rfl rfl rfl rfl rfl ?_)
    refine post1 (.inl rfl) rfl rfl ?_
    rw [hr]; exact ⟨chg_self hc1, rfl, p, x1, Grows.refl _ _ _⟩
  | some i =>
  obtain ⟨q, f, hq, hfi⟩ := x1.get hl
  have hul := usedM_le x1.ok
  have hr0 := x1.ok.room0
  have hr1 := x1.ok.room1
  repeat (first | refine W_seq ?_ | refine W_region ?_ | refine W_skip ?_ | refine Then_n ?_ | refine WL_nil ?_ | refine W_condF rfl ?_ | refine WL_some rfl rfl rfl ?_ | refine op_move rfl rfl ?_ | refine op_assign rfl rfl ?_ | refine op_nilCheck rfl rfl ?_ | refine op_neq rfl rfl rfl (fun hc => False.elim (by omega)) (fun hc => ?_) | refine op_fieldAddr T rfl rfl rfl rfl rfl rfl rfl rfl ?_ | refine op_loadB T rfl rfl rfl rfl (by assumption) (by exact rfl) ?_)
  refine op_lookup_v T strKey rfl rfl rfl rfl rfl rfl x1.dirM (v := ptrV q.1) (fun b hb => by rw [at2_some hl hq] at hb; injection hb with hb; rw [hb]) (fun hn => by rw [at2_some hl hq] at hn; cases hn) ?_
  unfold ptrV
  repeat (first | refine W_seq ?_ | refine W_block ?_ | refine W_region ?_ | refine Then_n ?_ | refine WL_nil ?_ | refine W_condF rfl ?_ | refine WL_some rfl rfl rfl ?_ | refine op_move rfl rfl ?_ | refine op_assign rfl rfl ?_ | refine op_eql_nilptr T rfl rfl rfl rfl rfl ?_)
  refine W_walk 10 [] fol (by kernel_rfl) (by kernel_rfl) ?_
  refine Walk.plain rfl (by intro val w_ hR hp; exact op_move rfl rfl ⟨Chg.refl _ _, rfl⟩) ?_; dsimp only [List.nil_append, List.cons_append]
  refine Walk.plain rfl (by intro val w_ hR hp; exact op_len_slice T rfl rfl rfl rfl ⟨Chg.refl _ _, rfl⟩) ?_; dsimp only [List.nil_append, List.cons_append]
  refine Walk.plain rfl (by intro val w_ hR hp; exact op_move rfl rfl ⟨Chg.refl _ _, rfl⟩) ?_; dsimp only [List.nil_append, List.cons_append]
  refine Walk.plain rfl (by intro val w_ hR hp; exact op_nilCheck rfl rfl ⟨Chg.refl _ _, rfl⟩) ?_; dsimp only [List.nil_append, List.cons_append]
  refine Walk.plain rfl (by intro val w_ hR hp; exact op_fieldAddr T rfl rfl rfl rfl rfl rfl rfl rfl ⟨Chg.refl _ _, rfl⟩) ?_; dsimp only [List.nil_append, List.cons_append]
  refine Walk.plain rfl (by intro val w_ hR hp; exact op_load T rfl rfl rfl rfl ((Blk.keep0 hbk1 hR).cell rfl) ⟨Chg.refl _ _, rfl⟩) ?_; dsimp only [List.nil_append, List.cons_append]
  refine Walk.plain rfl (by intro val w_ hR hp; exact op_move rfl rfl ⟨Chg.refl _ _, rfl⟩) ?_; dsimp only [List.nil_append, List.cons_append]
  refine Walk.plain (v := .int .i64 (usedM (callM s))) rfl (by intro val w_ hR hp; exact op_call rfl rfl rfl (used_has g _ p w_ (x1.keep0 hR)) (fun v w' ⟨hc, hv⟩ => ⟨hc, hv⟩)) ?_; dsimp only [List.nil_append, List.cons_append]
  refine Walk.plain rfl (by intro val w_ hR hp; exact op_subt rfl rfl rfl (wrap_i64_in (by omega) (by omega)) ⟨Chg.refl _ _, rfl⟩) ?_; dsimp only [List.nil_append, List.cons_append]
  by_cases hfull : (callM s).room - usedM (callM s) < b.length
  case pos =>
    refine Walk.plain rfl (by intro val w_ hR hp; exact op_gtr rfl rfl rfl (fun hc => ⟨Chg.refl _ _, rfl⟩) (fun hc => False.elim (by omega))) ?_; dsimp only [List.nil_append, List.cons_append]
    refine Walk.fin ?_
    intro val w2 hc2 _
    have x2 := x1.keep0 hc2
    have hr : appendM s k b = (callM s, 4) := by unfold appendM; simp [hfm, hl, hfull]
    refine WL_sub (e' := [(6, .int .i64 0), (33, .bool true)]) ⟨rfl, rfl, trivial⟩ ?_
    repeat (first | refine W_seq ?_ | refine W_region ?_ | refine W_ret ?_ | refine Then_n ?_ | refine Then_r ?_ | refine InBlock_r ?_ | refine WL_nil ?_ | refine W_condT rfl ?_ | refine WL_some rfl rfl rfl ?_ | refine op_assign rfl rfl ?_)
    refine post1 (.inl rfl) rfl rfl ?_
    rw [hr]; exact ⟨(chg_self hc1).trans' hc2, rfl, p, x2, Grows.refl _ _ _⟩
  case neg =>
    refine Walk.plain rfl (by intro val w_ hR hp; exact op_gtr rfl rfl rfl (fun hc => False.elim (by omega)) (fun hc => ⟨Chg.refl _ _, rfl⟩)) ?_; dsimp only [List.nil_append, List.cons_append]
    refine Walk.fin ?_
    intro val w2 hc2 _
    have x2 := x1.keep0 hc2
    have hr : appendM s k b = ({ callM s with files := (callM s).files.modify i fun f => { f with b := f.b ++ b } }, 0) := by unfold appendM; simp [hfm, hl, hfull]
    have hok := appendM_ok x.ok k b
    rw [hr] at hok
    refine WL_sub (e' := [(0, .pointer (some ⟨g, 0, none⟩)), (2, .slice A b.length c), (6, .int .i64 0), (8, .pointer (some ⟨q.1, 0, none⟩)), (33, .bool false)]) ⟨rfl, rfl, rfl, rfl, rfl, trivial⟩ ?_
    have hbf := x2.fblk i q f hq hfi
    have hof := x2.fown i q f hq hfi
    have hs2 := SliceOf.kept Ru8.kept _ _ _ _ hc2 hs1
    have hfl := (x1.ok.files f (List.mem_of_getElem? hfi)).2
    obtain ⟨A2, c2, hv, hv1, hv2⟩ := hof.form
    repeat (first | refine W_seq ?_ | refine W_region ?_ | refine W_skip ?_ | refine Then_n ?_ | refine InBlock_n ?_ | refine WL_nil ?_ | refine W_condF rfl ?_ | refine WL_some rfl rfl rfl ?_ | refine op_move rfl rfl ?_ | refine op_assign rfl rfl ?_ | refine op_nilCheck rfl rfl ?_ | refine op_fieldAddr T rfl rfl rfl rfl rfl rfl rfl rfl ?_ | refine op_loadB T rfl rfl rfl rfl (by assumption) (by exact rfl) ?_)
    refine op_append T (n := f.b.length) (xs := u8s f.b) (m := b.length) (news := u8s b) rfl rfl rfl rfl rfl rfl rfl rfl hof (by rw [u8s_length]; exact (Nat.mul_one _).symm) ?_ (by unfold maxLen; omega) (by show (f.b.length + b.length) * 1 ≤ _; omega) ?_
    · intro j u hj
      obtain ⟨cc, hcc, rfl⟩ := u8s_inv hj
      obtain ⟨ad, u', he, hu, rfl⟩ := hs2.get hcc
      exact ⟨⟨ad, he, hu⟩, rfl⟩
    intro v3 w3 ho3 hc3 hb3 _
    have hq1 : q.1 ∉ q.2.ownBlock.toList := fun hm => by
      obtain ⟨cur, hr⟩ := hof.row (show q.2.ownBlock = some q.1 by simpa using hm)
      exact hbf.ne_ hr (by decide) rfl
    have hbf3 := hbf.keep hc3 hq1
    obtain ⟨A3, c3, rfl, _, _⟩ := ho3.form
    repeat (first | refine WL_some rfl rfl rfl ?_ | refine WL_none rfl rfl ?_ | refine op_nilCheck rfl rfl ?_ | refine op_fieldAddr T rfl rfl rfl rfl rfl rfl rfl rfl ?_)
    refine op_store T rfl rfl rfl rfl rfl rfl hbf3 (Nat.le_of_ble_eq_true rfl) (fun w4 hc4 hb4 _ => ?_)
    repeat (first | refine W_seq ?_ | refine W_region ?_ | refine W_ret ?_ | refine Then_n ?_ | refine WL_nil ?_ | refine WL_some rfl rfl rfl ?_ | refine op_assign rfl rfl ?_)
    have hc24 : Chg (q.1 :: q.2.ownBlock.toList) w2 w4 := (hc3.mono (fun j hj _ => by simp at hj; simp [hj])).trans hc4 (fun j hj _ => by simp at hj; simp [hj])
    obtain ⟨x4, hg4⟩ := x2.setFile hq hfi (fun f => { f with b := f.b ++ b }) hc24 (fun j hj _ => by simpa using hj) hb4 (by
      show Own w4 _ 1 _ (f.b ++ b).length (u8s (f.b ++ b))
      rw [List.length_append, u8s_append]
      refine ho3.keep hc4 (fun h hh hm => ?_)
      simp at hm
      obtain ⟨cur, hr⟩ := ho3.row hh
      rw [hm] at hr
      exact hbf3.ne_ hr (by decide) rfl) hb3 hok
    refine post1 (.inl rfl) rfl rfl ?_
    rw [hr]
    obtain ⟨hm1, hm2⟩ := x2.mem_file hq
    have hc02 := (chg_self (p := p) hc1).trans' hc2
    exact ⟨hc02.trans hc24 (fun j hj _ => by
      rcases List.mem_cons.1 hj with h | h
      · subst h; exact hm1
      · exact hm2 j (by simpa using h)), rfl, _, x4, (Grows.refl _ _ _).trans hg4 hc02.size⟩

/-- What Read leaves: the bytes of a file, in a row of the call's own. -/
def readV (o : Option (List UInt8)) (w0 : World) (v : Value) (w' : World) : Prop := match o with
  | none => v = .tuple #[.slice none 0 0, .int .i64 3]
  | some b => ∃ u, v = .tuple #[u, .int .i64 0] ∧ Own w' 5 1 u b.length (u8s b) ∧ ∀ h, u.ownBlock = some h → w0.heap.size ≤ h
theorem read_has (g : Nat) (s : FsM) (p : FsP) (k : Nm) (w : World) (x : FsAt w g s p) :
    Has Go.Proofs.Tryz.prog 9 #[ptrV g, .string (str k)] w (fun v w' => Chg [] w w' ∧ readV (readM s k) w v w') := by
  refine enter Go.Proofs.Tryz.func9 rfl rfl (by decide) rfl (e := [(0, ptrV g), (1, .string (str k))]) ⟨rfl, rfl, trivial⟩ ?_
  unfold ptrV
  have hb := x.blk
  cases hl : looks s.dir k with
  | none =>
    have hr : readM s k = none := by unfold readM; rw [hl]; rfl
    repeat (first | refine W_seq ?_ | refine W_region ?_ | refine Then_n ?_ | refine WL_nil ?_ | refine WL_some rfl rfl rfl ?_ | refine WL_guardT rfl rfl rfl rfl ?_ | refine op_move rfl rfl ?_ | refine op_assign rfl rfl ?_ | refine op_nilCheck rfl rfl ?_ | refine op_fieldAddr T rfl rfl rfl rfl rfl rfl rfl rfl ?_ | refine op_eql_nilptr T rfl rfl rfl rfl rfl ?_ | refine op_loadB T rfl rfl rfl rfl (by assumption) (by exact rfl) ?_)
    refine op_lookup_v T strKey rfl rfl rfl rfl rfl rfl x.dirM (v := .pointer none) (fun b hb => by rw [at2_none hl] at hb; cases hb) (fun _ => rfl) ?_
    repeat (first | refine W_seq ?_ | refine W_region ?_ | refine W_ret ?_ | refine Then_n ?_ | refine Then_r ?_ | refine WL_nil ?_ | refine W_condT rfl ?_ | refine WL_some rfl rfl rfl ?_ | refine WL_guardT rfl rfl rfl rfl ?_ | refine op_assign rfl rfl ?_ | refine op_pick rfl rfl rfl rfl ?_ | refine op_eql_nilptr T rfl rfl rfl rfl rfl ?_)
    refine post2 (.inl rfl) rfl rfl rfl ⟨Chg.refl _ _, ?_⟩
    rw [hr]; rfl
  | some i =>
    obtain ⟨q, f, hq, hfi⟩ := x.get hl
    have hr : readM s k = some f.b := by unfold readM; rw [hl]; simp [hfi]
    have hbf := x.fblk i q f hq hfi
    have hof := x.fown i q f hq hfi
    have hfl := (x.ok.files f (List.mem_of_getElem? hfi)).2
    obtain ⟨A, c, hv, hv1, hv2⟩ := hof.form
    rw [hv] at hbf hof
    repeat (first | refine W_seq ?_ | refine W_region ?_ | refine Then_n ?_ | refine WL_nil ?_ | refine WL_some rfl rfl rfl ?_ | refine WL_guardT rfl rfl rfl rfl ?_ | refine op_move rfl rfl ?_ | refine op_assign rfl rfl ?_ | refine op_nilCheck rfl rfl ?_ | refine op_fieldAddr T rfl rfl rfl rfl rfl rfl rfl rfl ?_ | refine op_eql_nilptr T rfl rfl rfl rfl rfl ?_ | refine op_loadB T rfl rfl rfl rfl (by assumption) (by exact rfl) ?_)
    refine op_lookup_v T strKey rfl rfl rfl rfl rfl rfl x.dirM (v := ptrV q.1) (fun b hb => by rw [at2_some hl hq] at hb; injection hb with hb; rw [hb]) (fun hn => by rw [at2_some hl hq] at hn; cases hn) ?_
    unfold ptrV
    repeat (first | refine W_seq ?_ | refine W_region ?_ | refine W_skip ?_ | refine Then_n ?_ | refine WL_nil ?_ | refine W_condF rfl ?_ | refine WL_some rfl rfl rfl ?_ | refine WL_guardT rfl rfl rfl rfl ?_ | refine op_move rfl rfl ?_ | refine op_pick rfl rfl rfl rfl ?_ | refine op_nilCheck rfl rfl ?_ | refine op_fieldAddr T rfl rfl rfl rfl rfl rfl rfl rfl ?_ | refine op_eql_nilptr T rfl rfl rfl rfl rfl ?_ | refine op_loadB T rfl rfl rfl rfl (by assumption) (by exact rfl) ?_)
    refine op_lookup_v T strKey rfl rfl rfl rfl rfl rfl x.dirM (v := ptrV q.1) (fun b hb => by rw [at2_some hl hq] at hb; injection hb with hb; rw [hb]) (fun hn => by rw [at2_some hl hq] at hn; cases hn) ?_
    unfold ptrV
    repeat (first | refine WL_some rfl rfl rfl ?_ | refine op_nilCheck rfl rfl ?_ | refine op_fieldAddr T rfl rfl rfl rfl rfl rfl rfl rfl ?_ | refine op_loadB T rfl rfl rfl rfl (by assumption) (by exact rfl) ?_)
    refine op_call rfl rfl rfl (clone_has A _ c f.b w hof.bytes (by omega)) ?_
    rintro v w1 ⟨hc1, ho1, hf1⟩
    repeat (first | refine W_ret ?_ | refine Then_n ?_ | refine WL_nil ?_ | refine WL_some rfl rfl rfl ?_ | refine op_assign rfl rfl ?_)
    refine post2 (.inl rfl) rfl rfl rfl ⟨hc1, ?_⟩
    rw [hr]; exact ⟨v, rfl, ho1, hf1⟩
end Go.Proofs.YtbhnplghnhafiaaGreatDoor.Tryz
/-! Files: Rot. -/
set_option linter.unusedVariables false
set_option linter.unusedSimpArgs false
namespace Go.Vc
open Go
def rotC (x : UInt8) (i : Nat) (c : UInt8) : UInt8 := c ^^^ (x + UInt8.ofNat (i % 64))
def rotTo (b : List UInt8) (sec : Nat) (x : UInt8) (j : Nat) : List UInt8 := b.mapIdx fun i c => if sec * 64 ≤ i ∧ i < j then rotC x i c else c
theorem rotTo_length (b : List UInt8) (sec : Nat) (x : UInt8) (j : Nat) : (rotTo b sec x j).length = b.length := by simp [rotTo]
theorem rotTo_get {b : List UInt8} {sec : Nat} {x : UInt8} {j i : Nat} {c : UInt8} (h : b[i]? = some c) : (rotTo b sec x j)[i]? = some (if sec * 64 ≤ i ∧ i < j then rotC x i c else c) := by
  simp [rotTo, List.getElem?_mapIdx, h]
theorem rotTo_start (b : List UInt8) (sec : Nat) (x : UInt8) : rotTo b sec x (sec * 64) = b := by
  apply List.ext_getElem?
  intro i
  cases h : b[i]? with
  | none => rw [List.getElem?_eq_none_iff] at h ⊢; rw [rotTo_length]; exact h
  | some c => rw [rotTo_get h, if_neg (by omega)]
theorem rotTo_step {b : List UInt8} {sec : Nat} {x : UInt8} {j : Nat} {c : UInt8} (h : b[j]? = some c) (hj : sec * 64 ≤ j) : (rotTo b sec x j).set j (rotC x j c) = rotTo b sec x (j + 1) := by
  apply List.ext_getElem?
  intro i
  rw [List.getElem?_set]
  by_cases e : j = i
  · subst e
    rw [if_pos rfl, rotTo_length, if_pos (List.getElem?_eq_some_iff.1 h).1, rotTo_get h, if_pos ⟨hj, by omega⟩]
  · rw [if_neg e]
    cases hi : b[i]? with
    | none =>
      have h1 := List.getElem?_eq_none_iff.1 hi
      rw [List.getElem?_eq_none_iff.2 (by rw [rotTo_length]; exact h1), List.getElem?_eq_none_iff.2 (by rw [rotTo_length]; exact h1)]
    | some d =>
      rw [rotTo_get hi, rotTo_get hi]
      by_cases h2 : sec * 64 ≤ i ∧ i < j
      · rw [if_pos h2, if_pos ⟨h2.1, by omega⟩]
      · rw [if_neg h2, if_neg (by omega)]
theorem rotTo_end (b : List UInt8) (sec : Nat) (x : UInt8) (j : Nat) (hj : j = min b.length ((sec + 1) * 64)) : rotTo b sec x j = rotB b sec x := by
  unfold rotTo rotB
  apply List.ext_getElem?
  intro i
  rw [List.getElem?_mapIdx, List.getElem?_mapIdx]
  cases h : b[i]? with
  | none => rfl
  | some c =>
    have := (List.getElem?_eq_some_iff.1 h).1
    simp only [Option.map_some]
    by_cases h2 : sec * 64 ≤ i ∧ i < j
    · rw [if_pos h2, if_pos ⟨h2.1, by omega⟩]; rfl
    · rw [if_neg h2, if_neg (by omega)]
theorem add_u8 (x y : UInt8) : IntKind.u8.wrap ((x.toNat : Int) + (y.toNat : Int)) = ((x + y).toNat : Int) := by
  rw [IntKind.wrap_u8, UInt8.toNat_add]; omega
end Go.Vc
namespace Go.Proofs.YtbhnplghnhafiaaGreatDoor.Tryz
open Go Go.Vc

end Go.Proofs.YtbhnplghnhafiaaGreatDoor.Tryz
/-! Files: a crash. Plain laws. -/
set_option linter.unusedVariables false
set_option linter.unusedSimpArgs false
namespace Go.Vc
open Go
def crashTo (s : FsM) (n : Int) (k : Nat) : Dir := (s.waits.take (min k n.toNat)).foldl doM s.lasts
theorem crashTo_zero (s : FsM) (n : Int) : crashTo s n 0 = s.lasts := by unfold crashTo; simp
theorem crashTo_step {s : FsM} {n : Int} {k : Nat} {c : ChM} (hc : s.waits[k]? = some c) (hk : (k : Int) < n) : crashTo s n (k + 1) = doM (crashTo s n k) c := by
  unfold crashTo
  rw [show min (k + 1) n.toNat = k + 1 by omega, show min k n.toNat = k by omega, List.take_add_one, hc, List.foldl_append]
  rfl
theorem crashTo_stop {s : FsM} {n : Int} {k : Nat} (hk : ¬ (k : Int) < n) : crashTo s n (k + 1) = crashTo s n k := by
  unfold crashTo
  rw [show min (k + 1) n.toNat = min k n.toNat by omega]
theorem crashTo_end (s : FsM) (n : Int) : crashTo s n s.waits.length = crashDir s n := by
  unfold crashTo crashDir
  by_cases h : s.waits.length ≤ n.toNat
  · rw [show min s.waits.length n.toNat = s.waits.length by omega, List.take_of_length_le (Nat.le_refl _), List.take_of_length_le h]
  · rw [show min s.waits.length n.toNat = n.toNat by omega]
theorem crashTo_fit {s : FsM} (h : FsOk s) {n : Int} {k : Nat} {c : ChM} (hc : s.waits[k]? = some c) (hk : (k : Int) < n) : DirOk s.files.length (crashTo s n k) ∧ Fit1 (crashTo s n k) c := by
  have hl := (List.getElem?_eq_some_iff.1 hc).1
  have h1 := h.replay.at k (by omega)
  have hd : s.waits.drop k = c :: s.waits.drop (k + 1) := by rw [List.drop_eq_getElem_cons hl, (List.getElem?_eq_some_iff.1 hc).2]
  rw [hd] at h1
  have e : crashTo s n k = (s.waits.take k).foldl doM s.lasts := by unfold crashTo; rw [show min k n.toNat = k by omega]
  rw [e]
  exact ⟨h1.1, h1.2.1⟩
theorem chunk (fb : List (Nat × Value)) : ∀ (l : List ChM) (k : Nat) (c : ChM), l[k]? = some c → ((l.flatMap (chV fb)).drop (k * 4)).take 4 = chV fb c
  | [], k, c, h => by simp at h
  | a :: l, 0, c, h => by simp at h; subst h; rw [List.flatMap_cons]; simp [chV]
  | a :: l, k + 1, c, h => by
    rw [List.flatMap_cons, show (k + 1) * 4 = (chV fb a).length + k * 4 by simp [chV]; omega, List.drop_length_add_append]
    exact chunk fb l k c (by simpa using h)
def idxOf : Dir → Nm → Option Nat
  | [], _ => none
  | p :: d, k => if p.1 = k then some 0 else (idxOf d k).map (· + 1)
theorem idxOf_get {d : Dir} {k : Nm} {j : Nat} (h : idxOf d k = some j) : ∃ p, d[j]? = some p ∧ p.1 = k := by
  induction d generalizing j with
  | nil => cases h
  | cons p d ih =>
    unfold idxOf at h
    split at h
    · injection h with h; subst h; exact ⟨p, rfl, by assumption⟩
    · cases hi : idxOf d k with
      | none => rw [hi] at h; cases h
      | some i =>
        rw [hi] at h
        injection h with h
        subst h
        exact ih hi
theorem idxOf_of {d : Dir} (hr : (d.map (·.1)).Nodup) {j : Nat} {p : Nm × Nat} (h : d[j]? = some p) : idxOf d p.1 = some j := by
  induction d generalizing j with
  | nil => cases h
  | cons q d ih =>
    unfold idxOf
    rw [List.map_cons, List.nodup_cons] at hr
    cases j with
    | zero => simp at h; subst h; rw [if_pos rfl]
    | succ j =>
      have h' : d[j]? = some p := by simpa using h
      rw [if_neg (fun e => hr.1 (by rw [e]; exact List.mem_map.2 ⟨p, List.mem_of_getElem? h', rfl⟩)), ih hr.2 h']
      rfl
theorem looks_idx (d : Dir) (k : Nm) : looks d k = (idxOf d k).bind fun j => (d[j]?).map (·.2) := by
  induction d with
  | nil => rfl
  | cons p d ih =>
    obtain ⟨k', i⟩ := p
    unfold looks idxOf
    by_cases h : k' = k
    · rw [if_pos h, if_pos h]; rfl
    · rw [if_neg h, if_neg h, ih]
      cases idxOf d k <;> rfl
theorem idxOf_map (f : Nat → Nm × Nat → Nat) : ∀ (d : Dir) (k : Nm), idxOf (d.mapIdx fun j p => (p.1, f j p)) k = idxOf d k := by
  intro d
  induction d generalizing f with
  | nil => intro k; rfl
  | cons p d ih =>
    intro k
    rw [List.mapIdx_cons]
    unfold idxOf
    rw [ih (fun j p => f (j + 1) p)]
/-- Where the first files have been laid anew. -/
def hAt (fb nb : List (Nat × Value)) (d : Dir) (k : Nm) : Option Nat := (idxOf d k).bind fun j => if j < nb.length then (nb[j]?).map (·.1) else (d[j]?).bind fun p => (fb[p.2]?).map (·.1)
theorem hAt_start (fb : List (Nat × Value)) (d : Dir) (k : Nm) : hAt fb [] d k = at2 fb d k := by
  unfold hAt at2
  rw [looks_idx]
  cases idxOf d k with
  | none => rfl
  | some j =>
    simp only [Option.bind_some, List.length_nil, Nat.not_lt_zero, if_false]
    cases d[j]? <;> rfl
theorem hAt_step {fb nb : List (Nat × Value)} {d : Dir} (hr : (d.map (·.1)).Nodup) {p : Nm × Nat} (hp : d[nb.length]? = some p) (q : Nat × Value) (k : Nm) : hAt fb (nb ++ [q]) d k = upd (hAt fb nb d) p.1 q.1 k := by
  unfold upd
  by_cases h : k = p.1
  · subst h
    rw [if_pos rfl]
    unfold hAt
    rw [idxOf_of hr hp]
    simp
  · rw [if_neg h]
    unfold hAt
    cases hi : idxOf d k with
    | none => rfl
    | some j =>
      have hj : j ≠ nb.length := fun e => by
        subst e
        obtain ⟨p', h1, h2⟩ := idxOf_get hi
        rw [hp] at h1; injection h1 with h1; subst h1
        exact h h2.symm
      simp only [Option.bind_some, List.length_append, List.length_singleton]
      by_cases hlt : j < nb.length
      · rw [if_pos hlt, if_pos (by omega), List.getElem?_append_left hlt]
      · rw [if_neg hlt, if_neg (by omega)]
theorem hAt_end {fb nb : List (Nat × Value)} {d : Dir} (hl : nb.length = d.length) (k : Nm) : hAt fb nb d k = at2 nb (d.mapIdx fun j p => (p.1, j)) k := by
  unfold hAt at2
  rw [looks_idx, idxOf_map (fun j _ => j)]
  cases hi : idxOf d k with
  | none => rfl
  | some j =>
    obtain ⟨p, h1, _⟩ := idxOf_get hi
    have hj := (List.getElem?_eq_some_iff.1 h1).1
    simp only [Option.bind_some]
    rw [if_pos (by omega)]
    simp [h1]
theorem hAt_at {fb nb : List (Nat × Value)} {d : Dir} (hr : (d.map (·.1)).Nodup) {p : Nm × Nat} (hp : d[nb.length]? = some p) {q : Nat × Value} (hq : fb[p.2]? = some q) : hAt fb nb d p.1 = some q.1 := by
  unfold hAt
  rw [idxOf_of hr hp]
  simp [hp, hq]
end Go.Vc
/-! Files: a crash. -/
set_option linter.unusedVariables false
set_option linter.unusedSimpArgs false
namespace Go.Proofs.YtbhnplghnhafiaaGreatDoor.Tryz
open Go Go.Vc

/-- The file system that a crash leaves, under way: files laid anew so far. -/
structure NewFiles (w0 w : World) (s : FsM) (d : Dir) (tails : List Int) (nb : List (Nat × Value)) : Prop where
  blk : ∀ (j : Nat) q r, nb[j]? = some q → d[j]? = some r → Blk w q.1 60 [q.2, .int .i64 (cutM ((s.files[r.2]?).getD ⟨[], 0⟩) tails j).synced]
  own : ∀ (j : Nat) q r, nb[j]? = some q → d[j]? = some r → Own w 5 1 q.2 (cutM ((s.files[r.2]?).getD ⟨[], 0⟩) tails j).b.length (u8s (cutM ((s.files[r.2]?).getD ⟨[], 0⟩) tails j).b)
  fresh : ∀ q ∈ nb, w0.heap.size ≤ q.1 ∧ q.1 < w.heap.size ∧ ∀ h, q.2.ownBlock = some h → w0.heap.size ≤ h ∧ h < w.heap.size
  apart2 : (nb.map (·.1)).Nodup
  apart3 : ∀ (i j : Nat) q q' h, nb[i]? = some q → nb[j]? = some q' → q.2.ownBlock = some h → q'.2.ownBlock = some h → i = j
theorem NewFiles.keep {w0 w w' : World} {s : FsM} {d : Dir} {tails : List Int} {nb : List (Nat × Value)} {S : List Nat} (x : NewFiles w0 w s d tails nb) (hl : nb.length ≤ d.length) (hc : Chg S w w') (hS : ∀ k ∈ S, ∀ t cs, ¬ Blk w k t cs) : NewFiles w0 w' s d tails nb :=
  ⟨fun j q r h1 h2 => (x.blk j q r h1 h2).keep hc (fun hm => hS _ hm _ _ (x.blk j q r h1 h2)), fun j q r h1 h2 => (x.own j q r h1 h2).keep hc (fun h hh hm => by
    obtain ⟨cur, hr⟩ := (x.own j q r h1 h2).row hh
    exact hS _ hm _ _ hr), fun q hq => by
      obtain ⟨a1, a2, a3⟩ := x.fresh q hq
      have := hc.size
      exact ⟨a1, by omega, fun h hh => ⟨(a3 h hh).1, by have := (a3 h hh).2; omega⟩⟩, x.apart2, x.apart3⟩
theorem NewFiles.snoc {w0 w : World} {s : FsM} {d : Dir} {tails : List Int} {nb : List (Nat × Value)} (x : NewFiles w0 w s d tails nb) {r : Nm × Nat} (hr : d[nb.length]? = some r) {b : Nat} {v : Value}
    (hb : Blk w b 60 [v, .int .i64 (cutM ((s.files[r.2]?).getD ⟨[], 0⟩) tails nb.length).synced]) (ho : Own w 5 1 v (cutM ((s.files[r.2]?).getD ⟨[], 0⟩) tails nb.length).b.length (u8s (cutM ((s.files[r.2]?).getD ⟨[], 0⟩) tails nb.length).b))
    (hb0 : w0.heap.size ≤ b) (hv0 : ∀ h, v.ownBlock = some h → w0.heap.size ≤ h) (hbn : ∀ q ∈ nb, q.1 ≠ b) (hvn : ∀ q ∈ nb, ∀ h, q.2.ownBlock = some h → v.ownBlock ≠ some h) : NewFiles w0 w s d tails (nb ++ [(b, v)]) := by
  have hget : ∀ (j : Nat) q, (nb ++ [(b, v)])[j]? = some q → (j < nb.length ∧ nb[j]? = some q) ∨ (j = nb.length ∧ q = (b, v)) := fun j q h => by
    by_cases hj : j < nb.length
    · rw [List.getElem?_append_left hj] at h; exact .inl ⟨hj, h⟩
    · rw [List.getElem?_append_right (by omega)] at h
      have := (List.getElem?_eq_some_iff.1 h).1
      simp at this
      obtain rfl : j = nb.length := by omega
      simp at h; exact .inr ⟨rfl, h.symm⟩
  refine ⟨fun j q r' h1 h2 => ?_, fun j q r' h1 h2 => ?_, fun q hq => ?_, ?_, fun i j q q' h h1 h2 h3 h4 => ?_⟩
  · rcases hget j q h1 with ⟨_, h1⟩ | ⟨rfl, rfl⟩
    · exact x.blk j q r' h1 h2
    · rw [hr] at h2; injection h2 with h2; subst h2; exact hb
  · rcases hget j q h1 with ⟨_, h1⟩ | ⟨rfl, rfl⟩
    · exact x.own j q r' h1 h2
    · rw [hr] at h2; injection h2 with h2; subst h2; exact ho
  · rcases List.mem_append.1 hq with hq | hq
    · exact x.fresh q hq
    · simp at hq; subst hq; exact ⟨hb0, hb.lt, fun h hh => ⟨hv0 h hh, ho.lt hh⟩⟩
  · rw [List.map_append]
    refine List.nodup_append.2 ⟨x.apart2, by simp, fun a ha c hc e => ?_⟩
    obtain ⟨q, hq, rfl⟩ := List.mem_map.1 ha
    simp at hc
    exact hbn q hq (e.trans hc)
  · rcases hget i q h1 with ⟨_, h1⟩ | ⟨rfl, rfl⟩
    · rcases hget j q' h2 with ⟨_, h2⟩ | ⟨rfl, rfl⟩
      · exact x.apart3 i j q q' h h1 h2 h3 h4
      · exact absurd h4 (hvn q (List.mem_of_getElem? h1) h h3)
    · rcases hget j q' h2 with ⟨_, h2⟩ | ⟨rfl, rfl⟩
      · exact absurd h3 (hvn q' (List.mem_of_getElem? h2) h h4)
      · rfl

set_option maxHeartbeats 8000000 in
theorem crash_has (g : Nat) (s : FsM) (p : FsP) (n : Int) (At : Option Addr) (nt ct : Nat) (tails : List Int) (w : World) (x : FsAt w g s p) (ht : SliceOf Ri64 w (.slice At nt ct) tails) (hcalls : s.calls < 1000000000) :
    Has Go.Proofs.Tryz.prog 18 #[ptrV g, .int .i64 n, .slice At nt ct] w
    (fun v w' => Chg [] w w' ∧ ∃ gc pc, v = ptrV gc ∧ FsAt w' gc (crashM s n tails) pc ∧ ∀ k ∈ pc.fp gc, w.heap.size ≤ k) := by
  obtain ⟨rfl, ht1, ht2⟩ := ht.len
  unfold maxLen at ht2
  have hwl := x.ok.waits
  have hwl2 : s.waits.length < 1000000000 := by omega
  refine enter Go.Proofs.Tryz.func18 rfl rfl (by decide) rfl (e := [(0, ptrV g), (1, .int .i64 n), (2, .slice At tails.length ct)]) ⟨rfl, rfl, rfl, trivial⟩ ?_
  unfold ptrV
  have hb := x.blk
  obtain ⟨Aw, cw, hwv, hw1, hw2⟩ := x.waitsM.form
  repeat (first | refine W_seq ?_ | refine W_region ?_ | refine W_skip ?_ | refine Then_n ?_ | refine WL_nil ?_ | refine W_condF rfl ?_ | refine WL_some rfl rfl rfl ?_ | refine op_move rfl rfl ?_ | refine op_assign rfl rfl ?_ | refine op_eql_nilptr T rfl rfl rfl rfl rfl ?_)
  refine W_walk 11 [] fol (by kernel_rfl) (by kernel_rfl) ?_
  refine Walk.plain rfl (by intro val w_ hR hp; exact op_move rfl rfl ⟨Chg.refl _ _, rfl⟩) ?_; dsimp only [List.nil_append, List.cons_append]
  refine Walk.plain rfl (by intro val w_ hR hp; exact op_nilCheck rfl rfl ⟨Chg.refl _ _, rfl⟩) ?_; dsimp only [List.nil_append, List.cons_append]
  refine Walk.plain rfl (by intro val w_ hR hp; exact op_fieldAddr T rfl rfl rfl rfl rfl rfl rfl rfl ⟨Chg.refl _ _, rfl⟩) ?_; dsimp only [List.nil_append, List.cons_append]
  refine Walk.plain rfl (by intro val w_ hR hp; exact op_load T rfl rfl rfl rfl ((Blk.keep0 hb hR).cell rfl) ⟨Chg.refl _ _, rfl⟩) ?_; dsimp only [List.nil_append, List.cons_append]
  refine Walk.plain rfl (by intro val w_ hR hp; exact op_move rfl rfl ⟨Chg.refl _ _, rfl⟩) ?_; dsimp only [List.nil_append, List.cons_append]
  refine Walk.plain rfl (by intro val w_ hR hp; exact op_nilCheck rfl rfl ⟨Chg.refl _ _, rfl⟩) ?_; dsimp only [List.nil_append, List.cons_append]
  refine Walk.plain rfl (by intro val w_ hR hp; exact op_fieldAddr T rfl rfl rfl rfl rfl rfl rfl rfl ⟨Chg.refl _ _, rfl⟩) ?_; dsimp only [List.nil_append, List.cons_append]
  refine Walk.plain rfl (by intro val w_ hR hp; exact op_load T rfl rfl rfl rfl ((Blk.keep0 hb hR).cell rfl) ⟨Chg.refl _ _, rfl⟩) ?_; dsimp only [List.nil_append, List.cons_append]
  refine Walk.rel (fun u w_ => ∃ m, u = .map (some m) ∧ w.heap.size ≤ m ∧ MapAt keyV ptrV w_ m (at2 p.fb s.lasts)) rfl (fun u a b ⟨m, h1, h2, h3⟩ hab => ⟨m, h1, h2, h3.keep0 hab⟩) ?_ ?_
  · intro val w_ hR hp
    refine op_call rfl rfl rfl (cloneD_has (x.lastsM.keep0 hR)) ?_
    rintro v w' ⟨m, rfl, hs, hc, hm⟩
    exact ⟨hc, m, rfl, by have := hR.size; omega, hm⟩
  dsimp only [List.nil_append, List.cons_append]
  refine Walk.rel (fun u w_ => ∃ m, u = .agg #[.int .i64 s.room, .map none, .map (some m), .slice none 0 0, .int .i64 0, .int .i64 (-1)] ∧ w.heap.size ≤ m ∧ MapAt keyV ptrV w_ m (at2 p.fb s.lasts)) rfl (fun u a b ⟨m, h1, h2, h3⟩ hab => ⟨m, h1, h2, h3.keep0 hab⟩) ?_ ?_
  · intro val w_ hR hp
    obtain ⟨m, he, hs, hm⟩ : ∃ m, val 8 = .map (some m) ∧ w.heap.size ≤ m ∧ MapAt keyV ptrV w_ m (at2 p.fb s.lasts) := hp 8 rfl _ _ rfl rfl
    refine OpW_sub (e' := [(20, .int .i64 s.room), (25, .map (some m))]) ⟨rfl, congrArg some he, trivial⟩ ?_
    refine op_build T rfl rfl rfl rfl rfl rfl ?_
    exact ⟨Chg.refl _ _, m, rfl, hs, hm⟩
  dsimp only [List.nil_append, List.cons_append]
  refine Walk.rel (fun u w_ => ∃ gc m, u = .pointer (some ⟨gc, 0, none⟩) ∧ w.heap.size ≤ gc ∧ Blk w_ gc 55 [.int .i64 s.room, .map none, .map (some m), .slice none 0 0, .int .i64 0, .int .i64 (-1)] ∧ w.heap.size ≤ m ∧ MapAt keyV ptrV w_ m (at2 p.fb s.lasts)) rfl
    (fun u a b ⟨gc, m, h1, h2, h3, h4, h5⟩ hab => ⟨gc, m, h1, h2, h3.keep0 hab, h4, h5.keep0 hab⟩) ?_ ?_
  · intro val w_ hR hp
    obtain ⟨m, he, hs, hm⟩ : ∃ m, val 9 = .agg #[.int .i64 s.room, .map none, .map (some m), .slice none 0 0, .int .i64 0, .int .i64 (-1)] ∧ w.heap.size ≤ m ∧ MapAt keyV ptrV w_ m (at2 p.fb s.lasts) := hp 9 rfl _ _ rfl rfl
    refine OpW_sub (e' := [(26, .agg #[.int .i64 s.room, .map none, .map (some m), .slice none 0 0, .int .i64 0, .int .i64 (-1)])]) ⟨congrArg some he, trivial⟩ ?_
    exact op_box rfl rfl (fun gc w' hs' hc' hg' => ⟨hc', gc, m, rfl, by have := hR.size; omega, hg', hs, hm.keep0 hc'⟩)
  dsimp only [List.nil_append, List.cons_append]
  refine Walk.fin ?_
  intro val w1 hc1 hp
  obtain ⟨gc, m, he, hgc, hb1, hmf, hm1⟩ : ∃ gc m, val 10 = .pointer (some ⟨gc, 0, none⟩) ∧ w.heap.size ≤ gc ∧ Blk w1 gc 55 [.int .i64 s.room, .map none, .map (some m), .slice none 0 0, .int .i64 0, .int .i64 (-1)] ∧ w.heap.size ≤ m ∧ MapAt keyV ptrV w1 m (at2 p.fb s.lasts) := hp 10 (by omega) _ _ rfl rfl
  clear hp
  refine WL_sub (e' := [(0, .pointer (some ⟨g, 0, none⟩)), (1, .int .i64 n), (2, .slice At tails.length ct), (27, .pointer (some ⟨gc, 0, none⟩))]) ⟨rfl, rfl, rfl, congrArg some he, trivial⟩ ?_
  clear he
  have hgb1 : Blk w1 g 55 [.int .i64 s.room, .map (some p.md), .map (some p.ml), .slice Aw s.waits.length cw, .int .i64 s.calls, .int .i64 s.fail] := by rw [← hwv]; exact hb.keep0 hc1
  repeat (first | refine W_seq ?_ | refine W_block ?_ | refine W_region ?_ | refine Then_n ?_ | refine WL_nil ?_ | refine WL_some rfl rfl rfl ?_ | refine op_move rfl rfl ?_ | refine op_assign rfl rfl ?_ | refine op_len_slice T rfl rfl rfl rfl ?_ | refine op_nilCheck rfl rfl ?_ | refine op_fieldAddr T rfl rfl rfl rfl rfl rfl rfl rfl ?_ | refine op_loadB T rfl rfl rfl rfl (by assumption) (by exact rfl) ?_)
  refine W_loop (σ := Nat) (fun k => [(1, .int .i64 n), (2, .slice At tails.length ct), (7, .pointer (some ⟨gc, 0, none⟩)), (31, .slice Aw s.waits.length cw), (32, .int .i64 s.waits.length), (33, .int .i64 k)])
    (fun (k : Nat) w' => k ≤ s.waits.length ∧ Chg [] w w' ∧ Blk w' gc 55 [.int .i64 s.room, .map none, .map (some m), .slice none 0 0, .int .i64 0, .int .i64 (-1)] ∧ MapAt keyV ptrV w' m (at2 p.fb (crashTo s n k))) (fun k => s.waits.length - k) 0
    ⟨rfl, rfl, rfl, rfl, rfl, rfl, trivial⟩ ⟨by omega, hc1, hb1, by rw [crashTo_zero]; exact hm1⟩ ?_
  clear hb1 hm1 hgb1 hc1
  rintro k w2 ⟨hk, hc2, hb2, hm2⟩
  by_cases hkl : k < s.waits.length
  · have hck : s.waits[k]? = some s.waits[k] := List.getElem?_eq_getElem hkl
    generalize s.waits[k] = c at hck
    have x2 := x.keep0 hc2
    obtain ⟨gw, cap, cur, hv', hq1, hq2, hbw, hcl, hct⟩ := x2.waitsM.blk (by omega)
    rw [hwv] at hv'
    injection hv' with e1 e2 e3
    subst e1; subst e3
    obtain ⟨ip, hip⟩ := idV_form p.fb c.id
    have hcv : chV p.fb c = [.int .i64 c.kind, .string (str c.name), .string (str c.to), .pointer ip] := by unfold chV; rw [hip]; rfl
    have hchunk : (cur.drop (k * 4)).take 4 = [.int .i64 c.kind, .string (str c.name), .string (str c.to), .pointer ip] := by
      rw [← hcv, ← chunk p.fb s.waits k c hck, ← hct, List.drop_take, List.take_take]
      congr 1
      omega
    repeat (first | refine W_seq ?_ | refine W_block ?_ | refine W_region ?_ | refine W_skip ?_ | refine Then_n ?_ | refine WL_nil ?_ | refine W_condT rfl ?_ | refine WL_some rfl rfl rfl ?_ | refine op_move rfl rfl ?_ | refine op_lss rfl rfl rfl (fun hc => ?_) (fun hc => False.elim (by omega)))
    refine op_index_slice T rfl rfl rfl rfl rfl (by omega) (by omega) (p := ⟨gw, k * 4, none⟩) (by rw [Int.toNat_natCast]; exact add_plain _ _) ?_
    repeat (refine WL_some rfl rfl rfl ?_)
    refine op_load_agg (c' := #[.int .i64 c.kind, .string (str c.name), .string (str c.to), .pointer ip]) T rfl rfl rfl rfl hbw (by show k * 4 + 4 ≤ cur.length; omega) (by show ((cur.drop (k * 4)).take 4).toArray = _; rw [hchunk]) ?_
    repeat (refine WL_some rfl rfl rfl ?_)
    refine op_alloc T rfl rfl (fun g9 w3 hs3 hc3 hg3 => ?_)
    repeat (first | refine WL_some rfl rfl rfl ?_ | refine WL_none rfl rfl ?_ | refine op_assign rfl rfl ?_)
    refine op_store_agg T rfl rfl rfl rfl rfl rfl hg3 (Nat.le_of_ble_eq_true rfl) (fun w4 hc4 hg4 _ => ?_)
    have hg4 : Blk w4 g9 62 [.int .i64 c.kind, .string (str c.name), .string (str c.to), .pointer ip] := hg4
    have hc24 : Chg [] w2 w4 := hc3.trans hc4 (fun j hj hlt => by simp at hj; omega)
    have hb4 := hb2.keep0 hc24
    have hm4 := hm2.keep0 hc24
    by_cases hkn : (k : Int) < n
    · obtain ⟨hd, hf⟩ := crashTo_fit x.ok hck hkn
      have hids := x.ok.replay.ids c (List.mem_of_getElem? hck)
      repeat (first | refine W_seq ?_ | refine W_region ?_ | refine Then_n ?_ | refine WL_nil ?_ | refine W_condT rfl ?_ | refine WL_some rfl rfl rfl ?_ | refine op_move rfl rfl ?_ | refine op_lss rfl rfl rfl (fun hc => ?_) (fun hc => False.elim (by omega)))
      refine W_walk 5 [] fol (by kernel_rfl) (by kernel_rfl) ?_
      refine Walk.plain rfl (by intro val w_ hR hp; exact op_move rfl rfl ⟨Chg.refl _ _, rfl⟩) ?_; dsimp only [List.nil_append, List.cons_append]
      refine Walk.plain rfl (by intro val w_ hR hp; exact op_nilCheck rfl rfl ⟨Chg.refl _ _, rfl⟩) ?_; dsimp only [List.nil_append, List.cons_append]
      refine Walk.plain rfl (by intro val w_ hR hp; exact op_fieldAddr T rfl rfl rfl rfl rfl rfl rfl rfl ⟨Chg.refl _ _, rfl⟩) ?_; dsimp only [List.nil_append, List.cons_append]
      refine Walk.plain rfl (by intro val w_ hR hp; exact op_load T rfl rfl rfl rfl ((Blk.keep0 hb4 hR).cell rfl) ⟨Chg.refl _ _, rfl⟩) ?_; dsimp only [List.nil_append, List.cons_append]
      refine Walk.plain rfl (by intro val w_ hR hp; exact op_load_agg T rfl rfl rfl rfl (Blk.keep0 hg4 hR) (Nat.le_of_ble_eq_true rfl) rfl ⟨Chg.refl _ _, rfl⟩) ?_; dsimp only [List.nil_append, List.cons_append]
      refine Walk.fin ?_
      intro val w5 hc5 _
      have hm5 := hm4.keep0 hc5
      have hdo := do_has m p.fb (crashTo s n k) c w5 hm5 (by rw [x.len]; exact hd) hf (by rw [x.len]; exact hids)
      rw [hcv] at hdo
      refine WL_sub (e' := [(1, .int .i64 n), (2, .slice (At) tails.length ct), (7, .pointer (some ⟨gc, 0, none⟩)), (31, .slice (some ⟨gw, 0, none⟩) s.waits.length cw), (32, .int .i64 s.waits.length), (33, .int .i64 k), (44, .map (some m)), (45, .agg #[.int .i64 c.kind, .string (str c.name), .string (str c.to), .pointer ip])]) ⟨rfl, rfl, rfl, rfl, rfl, rfl, rfl, rfl, trivial⟩ ?_
      repeat (refine WL_some rfl rfl rfl ?_)
      refine op_call rfl rfl rfl hdo ?_
      rintro v w6 ⟨hc6, hm6⟩
      rw [← crashTo_step hck hkn] at hm6
      repeat (first | refine W_region ?_ | refine Then_n ?_ | refine InBlock_n ?_ | refine WL_nil ?_ | refine WL_some rfl rfl rfl ?_ | refine op_move rfl rfl ?_ | refine op_add rfl rfl rfl (wrap_i64_in (by omega) (by omega)) ?_)
      exact Round_n (k + 1) ⟨rfl, rfl, rfl, rfl, rfl, rfl, trivial⟩ ⟨by omega, ((hc2.trans' hc24).trans' hc5).trans hc6 (fun j hj hlt => by simp at hj; omega), (hb4.keep0 hc5).keep hc6 (by simpa using fun e => hm5.ne_blk (hb4.keep0 hc5) e.symm), hm6⟩ (by omega)
    · repeat (first | refine W_seq ?_ | refine W_region ?_ | refine W_skip ?_ | refine Then_n ?_ | refine InBlock_n ?_ | refine WL_nil ?_ | refine W_condF rfl ?_ | refine WL_some rfl rfl rfl ?_ | refine op_move rfl rfl ?_ | refine op_add rfl rfl rfl (wrap_i64_in (by omega) (by omega)) ?_ | refine op_lss rfl rfl rfl (fun hc => False.elim (by omega)) (fun hc => ?_))
      exact Round_n (k + 1) ⟨rfl, rfl, rfl, rfl, rfl, rfl, trivial⟩ ⟨by omega, hc2.trans' hc24, hb4, by rw [crashTo_stop hkn]; exact hm4⟩ (by omega)
  obtain rfl : k = s.waits.length := by omega
  rw [crashTo_end] at hm2
  have hd := crashDir_ok x.ok n
  have hfew := hd.few
  have hnd := hd.up.nodup
  have hcr : crashM s n tails = ⟨s.room, 0, -1, crashFiles s (crashDir s n) tails, (crashDir s n).mapIdx fun j p => (p.1, j), (crashDir s n).mapIdx fun j p => (p.1, j), []⟩ := rfl
  have hok := crashM_ok x.ok n tails
  rw [hcr] at hok ⊢
  clear hcr
  have hdl : DirOk p.fb.length (crashDir s n) := by rw [x.len]; exact hd
  generalize crashDir s n = d at hm2 hd hfew hnd hok hdl ⊢
  repeat (first | refine W_seq ?_ | refine W_region ?_ | refine W_exit ?_ | refine Then_n ?_ | refine Then_x ?_ | refine InBlock_hit ?_ | refine Round_x ?_ | refine WL_nil ?_ | refine W_condF rfl ?_ | refine WL_some rfl rfl rfl ?_ | refine op_move rfl rfl ?_ | refine op_nilCheck rfl rfl ?_ | refine op_lss rfl rfl rfl (fun hc => False.elim (by omega)) (fun hc => ?_) | refine op_fieldAddr T rfl rfl rfl rfl rfl rfl rfl rfl ?_ | refine op_loadB T rfl rfl rfl rfl (by assumption) (by exact rfl) ?_)
  refine op_call rfl rfl rfl (keysD_has m w2) ?_
  rintro _ _ ⟨rfl, rfl⟩
  repeat (refine WL_some rfl rfl rfl ?_)
  refine op_call rfl rfl rfl (sortedD_has hm2 (d.map (·.1)) (fun k hk => ?_) (by simp; omega)) ?_
  · have hmem := (at2_isSome hdl k).1 hk
    refine ⟨hmem, ?_⟩
    obtain ⟨q, hq, rfl⟩ := List.mem_map.1 hmem
    have := (hd.name q hq).1
    unfold maxLen; omega
  rintro nv w3 ⟨hc3, ss, hn, hs, ho, hfr⟩
  have hp : ss.Perm (d.map (·.1)) := (List.perm_ext_iff_of_nodup hn hnd).2 fun k => by rw [hs, at2_isSome hdl]
  rw [sorted_eq hp hd.up] at ho
  have hlen : ss.length = d.length := by rw [hp.length_eq, List.length_map]
  rw [hlen] at ho
  clear hp hlen hn hs ss
  have hfr' : ∀ h, nv.ownBlock = some h → w.heap.size ≤ h := fun h hh => by have := hfr h hh; have := hc2.size; omega
  obtain ⟨An, cn, rfl, hn1, hn2⟩ := ho.form
  have hm3 : MapAt keyV ptrV w3 m (hAt p.fb [] d) := (hm2.keep0 hc3).congr (fun k => (hAt_start _ _ _).symm)
  have hb3 := hb2.keep0 hc3
  have hc03 := hc2.trans' hc3
  repeat (first | refine W_block ?_ | refine Then_n ?_ | refine WL_nil ?_ | refine WL_some rfl rfl rfl ?_ | refine op_move rfl rfl ?_ | refine op_len_slice T rfl rfl rfl rfl ?_)
  refine W_loop (σ := List (Nat × Value)) (fun nb => [(2, .slice At tails.length ct), (7, .pointer (some ⟨gc, 0, none⟩)), (53, .slice An d.length cn), (54, .int .i64 d.length), (55, .int .i64 nb.length)])
    (fun (nb : List (Nat × Value)) w' => nb.length ≤ d.length ∧ Chg [] w w' ∧ Blk w' gc 55 [.int .i64 s.room, .map none, .map (some m), .slice none 0 0, .int .i64 0, .int .i64 (-1)] ∧ MapAt keyV ptrV w' m (hAt p.fb nb d) ∧ NewFiles w w' s d tails nb ∧ Own w' 9 1 (.slice An d.length cn) d.length ((d.map (·.1)).map keyV)) (fun nb => d.length - nb.length) []
    ⟨rfl, rfl, rfl, rfl, rfl, trivial⟩ ⟨by simp, hc03, hb3, hm3, ⟨(fun j q r h => by simp at h), (fun j q r h => by simp at h), (fun q hq => by cases hq), List.nodup_nil, (fun i j q q' h h1 => by simp at h1)⟩, ho⟩ ?_
  clear hb2 hm2 hb3 hm3 hc3 hc03 ho hfr hk hkl hc2
  rintro nb w4 ⟨hnl, hc4, hb4, hm4, hnf, ho4⟩
  by_cases hj : nb.length < d.length
  · have hr : d[nb.length]? = some d[nb.length] := List.getElem?_eq_getElem hj
    generalize d[nb.length] = r at hr
    have x4 := x.keep0 hc4
    have hri := (hdl.name r (List.mem_of_getElem? hr)).2
    have hq : p.fb[r.2]? = some p.fb[r.2] := List.getElem?_eq_getElem hri
    generalize p.fb[r.2] = q at hq
    obtain ⟨f, hfi⟩ : ∃ f, s.files[r.2]? = some f := ⟨_, List.getElem?_eq_getElem (by rw [← x.len]; exact hri)⟩
    have hfo := x.ok.files f (List.mem_of_getElem? hfi)
    obtain ⟨gn, hgn, ⟨cn', hvn⟩, hcell⟩ := ho4.cell (j := nb.length) (u := keyV r.1) (by rw [List.getElem?_map, List.getElem?_map, hr]; rfl)
    injection hvn with e1 _ e3
    subst e1
    have hcell : w4.cell? ⟨gn, nb.length, none⟩ = some (.string (str r.1)) := hcell
    have hbf := x4.fblk r.2 q f hq hfi
    have hof := x4.fown r.2 q f hq hfi
    obtain ⟨Aq, cq, hqv, hq1, hq2⟩ := hof.form
    rw [hqv] at hbf hof
    have htl := tailOf_le f tails nb.length hfo.1
    have htl0 : f.synced ≤ tailOf f tails nb.length := by unfold tailOf; omega
    have hat := hAt_at hnd hr hq
    repeat (first | refine W_seq ?_ | refine W_block ?_ | refine W_region ?_ | refine W_skip ?_ | refine Then_n ?_ | refine WL_nil ?_ | refine W_condT rfl ?_ | refine WL_some rfl rfl rfl ?_ | refine op_move rfl rfl ?_ | refine op_assign rfl rfl ?_ | refine op_nilCheck rfl rfl ?_ | refine op_index_own T rfl rfl rfl rfl rfl rfl (by omega) ?_ | refine op_load T rfl rfl rfl rfl (by assumption) ?_ | refine op_lss rfl rfl rfl (fun hc => ?_) (fun hc => False.elim (by omega)) | refine op_fieldAddr T rfl rfl rfl rfl rfl rfl rfl rfl ?_ | refine op_loadB T rfl rfl rfl rfl (by assumption) (by exact rfl) ?_)
    refine op_lookup_v T strKey rfl rfl rfl rfl rfl rfl hm4 (v := ptrV q.1) (fun b hb => by rw [hat] at hb; injection hb with hb; rw [hb]) (fun hn => by rw [hat] at hn; cases hn) ?_
    unfold ptrV
    repeat (first | refine W_seq ?_ | refine W_region ?_ | refine Then_n ?_ | refine WL_nil ?_ | refine WL_some rfl rfl rfl ?_ | refine op_move rfl rfl ?_ | refine op_assign rfl rfl ?_ | refine op_len_slice T rfl rfl rfl rfl ?_)
    refine op_lss_b rfl rfl rfl ?_
    repeat (first | refine Then_n ?_ | refine WL_nil ?_)
    refine W_meet (σ := Unit) (fun _ => [(2, .slice At tails.length ct), (7, .pointer (some ⟨gc, 0, none⟩)), (53, .slice (some ⟨gn, 0, none⟩) d.length cn), (54, .int .i64 d.length), (55, .int .i64 nb.length), (11, .string (str r.1)), (12, .pointer (some ⟨q.1, 0, none⟩)), (13, .int .i64 ((tailOf f tails nb.length - f.synced : Nat) : Int))]) (fun _ w' => Chg [] w4 w') ?_ ?_
    · refine W_cond rfl (fun h => ?_) (fun h => ?_)
      · have hjt : nb.length < tails.length := by have := of_decide_eq_true h; omega
        have htj : tails[nb.length]? = some tails[nb.length] := List.getElem?_eq_getElem hjt
        generalize tails[nb.length] = tj at htj
        obtain ⟨ad, u, rfl, hu, rfl, hu1, hu2⟩ := (SliceOf.kept Ri64.kept _ _ _ _ hc4 ht).get htj
        have hsyn := hfo.1
        have hfl := hfo.2
        skip
        refine W_walk 16 [] fol (by kernel_rfl) (by kernel_rfl) ?_
        refine Walk.plain rfl (by intro val w_ hR hp; exact op_move rfl rfl ⟨Chg.refl _ _, rfl⟩) ?_; dsimp only [List.nil_append, List.cons_append]
        refine Walk.plain rfl (by intro val w_ hR hp; exact op_move rfl rfl ⟨Chg.refl _ _, rfl⟩) ?_; dsimp only [List.nil_append, List.cons_append]
        refine Walk.plain rfl (by intro val w_ hR hp; exact op_index_nat T rfl rfl rfl rfl rfl rfl (by omega) ⟨Chg.refl _ _, rfl⟩) ?_; dsimp only [List.nil_append, List.cons_append]
        refine Walk.plain rfl (by intro val w_ hR hp; exact op_load T rfl rfl rfl rfl (hR.cell0 (by assumption)) ⟨Chg.refl _ _, rfl⟩) ?_; dsimp only [List.nil_append, List.cons_append]
        refine Walk.plain rfl (by intro val w_ hR hp; exact op_max rfl rfl rfl ⟨Chg.refl _ _, rfl⟩) ?_; dsimp only [List.nil_append, List.cons_append]
        refine Walk.plain rfl (by intro val w_ hR hp; exact op_move rfl rfl ⟨Chg.refl _ _, rfl⟩) ?_; dsimp only [List.nil_append, List.cons_append]
        refine Walk.plain rfl (by intro val w_ hR hp; exact op_nilCheck rfl rfl ⟨Chg.refl _ _, rfl⟩) ?_; dsimp only [List.nil_append, List.cons_append]
        refine Walk.plain rfl (by intro val w_ hR hp; exact op_fieldAddr T rfl rfl rfl rfl rfl rfl rfl rfl ⟨Chg.refl _ _, rfl⟩) ?_; dsimp only [List.nil_append, List.cons_append]
        refine Walk.plain rfl (by intro val w_ hR hp; exact op_load T rfl rfl rfl rfl ((Blk.keep0 hbf hR).cell rfl) ⟨Chg.refl _ _, rfl⟩) ?_; dsimp only [List.nil_append, List.cons_append]
        refine Walk.plain rfl (by intro val w_ hR hp; exact op_len_slice T rfl rfl rfl rfl ⟨Chg.refl _ _, rfl⟩) ?_; dsimp only [List.nil_append, List.cons_append]
        refine Walk.plain rfl (by intro val w_ hR hp; exact op_move rfl rfl ⟨Chg.refl _ _, rfl⟩) ?_; dsimp only [List.nil_append, List.cons_append]
        refine Walk.plain rfl (by intro val w_ hR hp; exact op_nilCheck rfl rfl ⟨Chg.refl _ _, rfl⟩) ?_; dsimp only [List.nil_append, List.cons_append]
        refine Walk.plain rfl (by intro val w_ hR hp; exact op_fieldAddr T rfl rfl rfl rfl rfl rfl rfl rfl ⟨Chg.refl _ _, rfl⟩) ?_; dsimp only [List.nil_append, List.cons_append]
        refine Walk.plain rfl (by intro val w_ hR hp; exact op_load T rfl rfl rfl rfl ((Blk.keep0 hbf hR).cell rfl) ⟨Chg.refl _ _, rfl⟩) ?_; dsimp only [List.nil_append, List.cons_append]
        refine Walk.plain rfl (by intro val w_ hR hp; exact op_subt rfl rfl rfl (wrap_i64_in (by omega) (by omega)) ⟨Chg.refl _ _, rfl⟩) ?_; dsimp only [List.nil_append, List.cons_append]
        refine Walk.plain rfl (by intro val w_ hR hp; exact op_min rfl rfl rfl ⟨Chg.refl _ _, rfl⟩) ?_; dsimp only [List.nil_append, List.cons_append]
        refine Walk.fin ?_
        intro val w5 hc5 _
        have hval : min (max tj 0) ((f.b.length : Int) - (f.synced : Int)) = ((tailOf f tails nb.length - f.synced : Nat) : Int) := by
          unfold tailOf
          rw [htj]
          simp only
          have hmm : ((min (max tj 0).toNat (f.b.length - f.synced) : Nat) : Int) = min (max tj 0) ((f.b.length : Int) - (f.synced : Int)) := by
            by_cases h1 : (max tj 0).toNat ≤ f.b.length - f.synced
            · rw [Nat.min_eq_left h1]; omega
            · rw [Nat.min_eq_right (by omega)]; omega
          rw [Nat.add_sub_cancel_left, hmm]
        refine WL_sub (e' := [(2, .slice (some ad) tails.length ct), (7, .pointer (some ⟨gc, 0, none⟩)), (53, .slice (some ⟨gn, 0, none⟩) d.length cn), (54, .int .i64 d.length), (55, .int .i64 nb.length), (11, .string (str r.1)), (12, .pointer (some ⟨q.1, 0, none⟩)), (85, .int .i64 ((tailOf f tails nb.length - f.synced : Nat) : Int))]) ⟨rfl, rfl, rfl, rfl, rfl, rfl, rfl, some_int hval, trivial⟩ ?_
        repeat (first | refine WL_nil ?_ | refine WL_some rfl rfl rfl ?_ | refine op_assign rfl rfl ?_)
        exact Meet_n () ⟨rfl, rfl, rfl, rfl, rfl, rfl, rfl, rfl, trivial⟩ hc5
      · have hjt : tails[nb.length]? = none := List.getElem?_eq_none_iff.2 (by have := of_decide_eq_false h; omega)
        have hz : tailOf f tails nb.length - f.synced = 0 := by unfold tailOf; rw [hjt]; simp
        rw [hz]
        repeat (refine W_skip ?_)
        exact Meet_n () ⟨rfl, rfl, rfl, rfl, rfl, rfl, rfl, rfl, trivial⟩ (Chg.refl _ _)
    intro _ w5 hc5
    have hbf5 := hbf.keep0 hc5
    have hof5 := hof.keep0 hc5
    have hm5 := hm4.keep0 hc5
    have hb5 := hb4.keep0 hc5
    have hnf5 := hnf.keep hnl hc5 (fun k hk => by cases hk)
    have ho5 := ho4.keep0 hc5
    have hfl := hfo.2
    repeat (first | refine W_seq ?_ | refine Then_n ?_)
    refine W_walk 12 [] fol (by kernel_rfl) (by kernel_rfl) ?_
    refine Walk.plain rfl (by intro val w_ hR hp; exact op_move rfl rfl ⟨Chg.refl _ _, rfl⟩) ?_; dsimp only [List.nil_append, List.cons_append]
    refine Walk.plain rfl (by intro val w_ hR hp; exact op_nilCheck rfl rfl ⟨Chg.refl _ _, rfl⟩) ?_; dsimp only [List.nil_append, List.cons_append]
    refine Walk.plain rfl (by intro val w_ hR hp; exact op_fieldAddr T rfl rfl rfl rfl rfl rfl rfl rfl ⟨Chg.refl _ _, rfl⟩) ?_; dsimp only [List.nil_append, List.cons_append]
    refine Walk.plain rfl (by intro val w_ hR hp; exact op_load T rfl rfl rfl rfl ((Blk.keep0 hbf5 hR).cell rfl) ⟨Chg.refl _ _, rfl⟩) ?_; dsimp only [List.nil_append, List.cons_append]
    refine Walk.plain rfl (by intro val w_ hR hp; exact op_move rfl rfl ⟨Chg.refl _ _, rfl⟩) ?_; dsimp only [List.nil_append, List.cons_append]
    refine Walk.plain rfl (by intro val w_ hR hp; exact op_nilCheck rfl rfl ⟨Chg.refl _ _, rfl⟩) ?_; dsimp only [List.nil_append, List.cons_append]
    refine Walk.plain rfl (by intro val w_ hR hp; exact op_fieldAddr T rfl rfl rfl rfl rfl rfl rfl rfl ⟨Chg.refl _ _, rfl⟩) ?_; dsimp only [List.nil_append, List.cons_append]
    refine Walk.plain rfl (by intro val w_ hR hp; exact op_load T rfl rfl rfl rfl ((Blk.keep0 hbf5 hR).cell rfl) ⟨Chg.refl _ _, rfl⟩) ?_; dsimp only [List.nil_append, List.cons_append]
    refine Walk.plain rfl (by intro val w_ hR hp; exact op_move rfl rfl ⟨Chg.refl _ _, rfl⟩) ?_; dsimp only [List.nil_append, List.cons_append]
    refine Walk.plain rfl (by intro val w_ hR hp; exact op_add rfl rfl rfl (wrap_i64_in (by omega) (by omega)) ⟨Chg.refl _ _, rfl⟩) ?_; dsimp only [List.nil_append, List.cons_append]
    refine Walk.plain (v := .slice Aq (tailOf f tails nb.length) cq) rfl (by intro val w_ hR hp; exact op_slice_to T (h' := tailOf f tails nb.length) (k := .i64) rfl rfl (some_int (by omega)) rfl rfl (by omega) ⟨Chg.refl _ _, rfl⟩) ?_; dsimp only [List.nil_append, List.cons_append]
    have hcut : SliceOf Ru8 w5 (.slice Aq (tailOf f tails nb.length) cq) (f.b.take (tailOf f tails nb.length)) := hof5.bytes.take (by omega)
    have hclen : (f.b.take (tailOf f tails nb.length)).length = tailOf f tails nb.length := by rw [List.length_take]; omega
    refine Walk.rel (fun u w_ => Own w_ 5 1 u (tailOf f tails nb.length) (u8s (f.b.take (tailOf f tails nb.length))) ∧ ∀ h, u.ownBlock = some h → w5.heap.size ≤ h) rfl (fun u a b h hab => ⟨h.1.keep0 hab, h.2⟩) ?_ ?_
    · intro val w_ hR hp
      refine op_call rfl rfl rfl (clone_has Aq _ cq (f.b.take (tailOf f tails nb.length)) w_ (SliceOf.kept Ru8.kept _ _ _ _ hR hcut) (by rw [hclen]; omega)) ?_
      rintro v w' ⟨hc, ho, hf⟩
      rw [hclen] at ho
      exact ⟨hc, ho, fun h hh => by have := hf h hh; have := hR.size; omega⟩
    dsimp only [List.nil_append, List.cons_append]
    refine Walk.fin ?_
    intro val w6 hc6 hp
    obtain ⟨hu6, huf6⟩ : Own w6 5 1 (val 11) (tailOf f tails nb.length) (u8s (f.b.take (tailOf f tails nb.length))) ∧ ∀ h, (val 11).ownBlock = some h → w5.heap.size ≤ h := hp 11 (by omega) _ _ rfl rfl
    clear hp
    refine WL_sub (e' := [(2, .slice At tails.length ct), (7, .pointer (some ⟨gc, 0, none⟩)), (53, .slice (some ⟨gn, 0, none⟩) d.length cn), (54, .int .i64 d.length), (55, .int .i64 nb.length), (11, .string (str r.1)), (97, val 11)]) ⟨rfl, rfl, rfl, rfl, rfl, rfl, rfl, trivial⟩ ?_
    generalize val 11 = uv at hu6 huf6
    obtain ⟨Au, cu, rfl, _, _⟩ := hu6.form
    have hb6 := hb5.keep0 hc6
    have hm6 := hm5.keep0 hc6
    have hnf6 := hnf5.keep hnl hc6 (fun k hk => by cases hk)
    have ho6 := ho5.keep0 hc6
    repeat (first | refine W_region ?_ | refine Then_n ?_ | refine WL_nil ?_ | refine WL_some rfl rfl rfl ?_ | refine op_move rfl rfl ?_ | refine op_assign rfl rfl ?_ | refine op_len_slice T rfl rfl rfl rfl ?_ | refine op_nilCheck rfl rfl ?_ | refine op_fieldAddr T rfl rfl rfl rfl rfl rfl rfl rfl ?_ | refine op_build T rfl rfl rfl rfl rfl rfl ?_ | refine op_loadB T rfl rfl rfl rfl (by assumption) (by exact rfl) ?_)
    refine op_box rfl rfl (fun gf w7 hs7 hc7 hg7 => ?_)
    have hg7 : Blk w7 gf 60 [.slice Au (tailOf f tails nb.length) cu, .int .i64 (tailOf f tails nb.length : Nat)] := hg7
    have hb7 := hb6.keep0 hc7
    have hm7 := hm6.keep0 hc7
    have hnf7 := hnf6.keep hnl hc7 (fun k hk => by cases hk)
    have ho7 := ho6.keep0 hc7
    have hu7 := hu6.keep0 hc7
    repeat (refine WL_none rfl rfl ?_)
    refine op_mapUpdate T strKey (bv := ptrV) (b := gf) rfl rfl rfl rfl rfl rfl hm7 (fun w8 hc8 hm8 _ => ?_)
    have hmb : ∀ k ∈ [m], ∀ t cs, ¬ Blk w7 k t cs := fun k hk t cs hbk => by simp at hk; subst hk; exact hm7.ne_blk hbk rfl
    have hcf : cutM ((s.files[r.2]?).getD ⟨[], 0⟩) tails nb.length = ⟨f.b.take (tailOf f tails nb.length), tailOf f tails nb.length⟩ := by rw [hfi]; rfl
    have hs45 := hc5.size
    have hs56 := hc6.size
    have hs67 := hc7.size
    have hs04 := hc4.size
    have hnf8 : NewFiles w w8 s d tails (nb ++ [(gf, .slice Au (tailOf f tails nb.length) cu)]) := by
      refine (hnf7.keep hnl hc8 hmb).snoc hr ?_ ?_ (by omega) (fun h hh => by have := huf6 h hh; omega) (fun q hq e => ?_) (fun q hq h hh e => ?_)
      · rw [hcf]; exact hg7.keep hc8 (fun hm => hmb _ hm _ _ hg7)
      · rw [hcf, hclen]
        exact hu7.keep hc8 (fun h hh hm => by
          obtain ⟨cur, hr⟩ := hu7.row hh
          exact hmb _ hm _ _ hr)
      · have := (hnf6.fresh q hq).2.1; omega
      · have h1 := huf6 h e
        have h2 := ((hnf.fresh q hq).2.2 h hh).2
        omega
    repeat (first | refine W_region ?_ | refine Then_n ?_ | refine InBlock_n ?_ | refine WL_nil ?_ | refine WL_some rfl rfl rfl ?_ | refine op_move rfl rfl ?_ | refine op_add rfl rfl rfl (wrap_i64_in (by omega) (by omega)) ?_)
    refine Round_n (nb ++ [(gf, .slice Au (tailOf f tails nb.length) cu)]) ⟨rfl, rfl, rfl, rfl, ?_, trivial⟩ ⟨by rw [List.length_append]; simp; omega, ((((hc4.trans' hc5).trans' hc6).trans' hc7).trans hc8 (fun j hj hlt => by simp at hj; omega)), hb7.keep hc8 (fun hm => hmb _ hm _ _ hb7), hm8.congr (fun k => (hAt_step hnd hr (gf, .slice Au (tailOf f tails nb.length) cu) k).symm), hnf8, ho7.keep hc8 (fun h hh hm => by
      obtain ⟨cur, hr⟩ := ho7.row hh
      exact hmb _ hm _ _ hr)⟩ (by rw [List.length_append]; simp; omega)
    rw [List.length_append]
    exact some_int (by simp)
  have hnl' : nb.length = d.length := by omega
  repeat (first | refine W_seq ?_ | refine W_region ?_ | refine W_exit ?_ | refine Then_n ?_ | refine Then_x ?_ | refine InBlock_hit ?_ | refine Round_x ?_ | refine WL_nil ?_ | refine W_condF rfl ?_ | refine WL_some rfl rfl rfl ?_ | refine op_move rfl rfl ?_ | refine op_nilCheck rfl rfl ?_ | refine op_lss rfl rfl rfl (fun hc => False.elim (by omega)) (fun hc => ?_) | refine op_fieldAddr T rfl rfl rfl rfl rfl rfl rfl rfl ?_ | refine op_loadB T rfl rfl rfl rfl (by assumption) (by exact rfl) ?_)
  refine op_call rfl rfl rfl (cloneD_has hm4) ?_
  rintro _ w5 ⟨md, rfl, hmd, hc5, hm5⟩
  have hb5 := hb4.keep0 hc5
  have hml5 := hm4.keep0 hc5
  have hnf5 := hnf.keep hnl hc5 (fun k hk => by cases hk)
  repeat (first | refine WL_some rfl rfl rfl ?_ | refine WL_none rfl rfl ?_ | refine op_nilCheck rfl rfl ?_ | refine op_fieldAddr T rfl rfl rfl rfl rfl rfl rfl rfl ?_)
  refine op_store T rfl rfl rfl rfl rfl rfl hb5 (Nat.le_of_ble_eq_true rfl) (fun w6 hc6 hb6 _ => ?_)
  have hgrow : ∀ k ∈ [gc], ∀ t cs, Blk w5 k t cs → t = 55 := fun k hk t cs hbk => by
    simp at hk; subst hk
    exact Classical.byContradiction fun hne => hbk.ne_ hb5 hne rfl
  repeat (first | refine W_seq ?_ | refine W_region ?_ | refine W_ret ?_ | refine Then_n ?_ | refine WL_nil ?_ | refine WL_some rfl rfl rfl ?_ | refine op_move rfl rfl ?_ | refine op_assign rfl rfl ?_)
  have hs4 := hc4.size
  have hs5 := hc5.size
  have hml := hm4.lt
  refine post1 (.inl rfl) rfl rfl ⟨(hc4.trans' hc5).trans hc6 (fun j hj hlt => by simp at hj; omega), gc, ⟨md, m, .slice none 0 0, nb⟩, rfl, ⟨hok, hb6, ?_, ?_, Own.nil _ _ _, ?_, fun j q f hq hf => ?_, fun j q f hq hf => ?_, (show md ≠ m by omega), hnf.apart2, hnf.apart3⟩, fun k hk => ?_⟩
  · exact (hm5.keep hc6 (by simpa using hm5.ne_blk hb5)).congr (fun k => hAt_end hnl' k)
  · exact (hml5.keep hc6 (by simpa using hml5.ne_blk hb5)).congr (fun k => hAt_end hnl' k)
  · show nb.length = (crashFiles s d tails).length
    unfold crashFiles
    simpa using hnl'
  · have hjl : j < d.length := by rw [← hnl']; exact (List.getElem?_eq_some_iff.1 hq).1
    have hr : d[j]? = some d[j] := List.getElem?_eq_getElem hjl
    have hf' : f = cutM ((s.files[d[j].2]?).getD ⟨[], 0⟩) tails j := by
      have hf : (crashFiles s d tails)[j]? = some f := hf
      unfold crashFiles at hf
      rw [List.getElem?_mapIdx, hr] at hf
      injection hf with hf; exact hf.symm
    rw [hf']
    have h1 := hnf5.blk j q _ hq hr
    exact h1.keep hc6 (fun hm => by have := hgrow _ hm _ _ h1; exact absurd this (by decide))
  · have hjl : j < d.length := by rw [← hnl']; exact (List.getElem?_eq_some_iff.1 hq).1
    have hr : d[j]? = some d[j] := List.getElem?_eq_getElem hjl
    have hf' : f = cutM ((s.files[d[j].2]?).getD ⟨[], 0⟩) tails j := by
      have hf : (crashFiles s d tails)[j]? = some f := hf
      unfold crashFiles at hf
      rw [List.getElem?_mapIdx, hr] at hf
      injection hf with hf; exact hf.symm
    rw [hf']
    have h1 := hnf5.own j q _ hq hr
    exact h1.keep hc6 (fun h hh hm => by
      obtain ⟨cur, hrr⟩ := h1.row hh
      have := hgrow _ hm _ _ hrr; exact absurd this (by decide))
  · rcases FsP.mem_fp.1 hk with h | h | h | h | ⟨q, hq, h⟩
    · omega
    · have h : k = md := h
      omega
    · have h : k = m := h
      omega
    · cases h
    · have h5 := hnf.fresh q hq
      rcases h with rfl | h
      · exact h5.1
      · exact (h5.2.2 k h).1
end Go.Proofs.YtbhnplghnhafiaaGreatDoor.Tryz
/-! Files: of the call's own; one file. -/
set_option linter.unusedVariables false
set_option linter.unusedSimpArgs false
namespace Go.Proofs.YtbhnplghnhafiaaGreatDoor.Tryz
open Go Go.Vc

/-- A file system that was made since w0; of what lay there nothing has turned. -/
structure FsO (w0 w : World) (g : Nat) (s : FsM) (p : FsP) : Prop where
  chg : Chg [] w0 w
  at_ : FsAt w g s p
  fresh : ∀ k ∈ p.fp g, w0.heap.size ≤ k
section
variable {w0 w w' : World} {g : Nat} {s : FsM} {p : FsP}
theorem FsO.keep0 (x : FsO w0 w g s p) (hc : Chg [] w w') : FsO w0 w' g s p := ⟨x.chg.trans' hc, x.at_.keep0 hc, x.fresh⟩
theorem FsO.base {w1 : World} (x : FsO w1 w g s p) (hc : Chg [] w0 w1) : FsO w0 w g s p := ⟨hc.trans' x.chg, x.at_, fun k hk => by have := x.fresh k hk; have := hc.size; omega⟩
theorem FsO.chgFp (x : FsO w0 w g s p) (hc : Chg (p.fp g) w w') : Chg [] w0 w' := x.chg.trans hc (fun k hk hlt => by have := x.fresh k hk; omega)
/-- A row made behind it, whatever becomes of it. -/
theorem FsO.row (x : FsO w0 w g s p) {w1 : World} (hc : Chg [] w w1) {gb : Nat} (hs : w.heap.size ≤ gb) {vs : List Value} {t : TypeId} {fr : Nat × Nat} (hg : w1.heap[gb]? = some (.cells vs.toArray t fr)) {n c : Nat} {L : List UInt8} (hn : n = L.length) (hnc : n ≤ c) (hcm : c ≤ maxLen)
    (h : ∀ (i : Nat) (y : UInt8), L[i]? = some y → ∃ u, vs[i]? = some u ∧ Ru8 w u y) : Firm (p.fp g) w1 (fun w => SliceOf Ru8 w (.slice (some ⟨gb, 0, none⟩) n c) L) := fun w2 h2 =>
  SliceOf.of_heap ((h2.keep gb (Array.getElem?_eq_some_iff.1 hg).1 (fun hm => by have := x.at_.lt gb hm; omega)).trans hg) hn hnc hcm (fun i y hy => by
    obtain ⟨u, h1, h2⟩ := h i y hy
    exact ⟨u, h1, h2⟩)
theorem FsO.done (x : FsO w0 w g s p) {r : FsM × Int} {v : Value} (h : FsDone w g p r v w') : v = .int .i64 r.2 ∧ ∃ p', FsO w0 w' g r.1 p' := by
  obtain ⟨h1, h2, p', h3, h4⟩ := h
  exact ⟨h2, p', x.chgFp h1, h3, fun k hk => by
    rcases h4 k hk with h | h
    · exact x.fresh k h
    · have := x.chg.size; omega⟩
end
theorem newO_has (n : Int) (w : World) : Has Go.Proofs.Tryz.prog 5 #[.int .i64 n] w (fun v w' => ∃ g p, v = ptrV g ∧ FsO w w' g (newM n) p) :=
  (newFs_has n w).mono fun v w' ⟨hc, g, p, hv, hx, hf⟩ => ⟨g, p, hv, hc, hx, hf⟩
theorem createO_has {w0 w : World} {g : Nat} {s : FsM} {p : FsP} (x : FsO w0 w g s p) (k : Nm) (hk : k.length ≤ maxLen) (hcalls : s.calls < 1000000000 - 1) :
    Has Go.Proofs.Tryz.prog 6 #[ptrV g, .string (str k)] w (fun v w' => v = .int .i64 (createM s k).2 ∧ ∃ p', FsO w0 w' g (createM s k).1 p') := (create_has g s p k w x.at_ hk hcalls).mono fun _ _ h => x.done h
theorem appendO_has {w0 w : World} {g : Nat} {s : FsM} {p : FsP} (x : FsO w0 w g s p) (k : Nm) {A : Option Addr} {n c : Nat} {b : List UInt8} (hb : Firm (p.fp g) w (fun w => SliceOf Ru8 w (.slice A n c) b)) (hbl : b.length ≤ 1000000000) (hcalls : s.calls < 1000000000 - 1) :
    Has Go.Proofs.Tryz.prog 7 #[ptrV g, .string (str k), .slice A n c] w (fun v w' => v = .int .i64 (appendM s k b).2 ∧ ∃ p', FsO w0 w' g (appendM s k b).1 p') := (append_has g s p k A n c b w x.at_ hb hbl hcalls).mono fun _ _ h => x.done h
theorem syncO_has {w0 w : World} {g : Nat} {s : FsM} {p : FsP} (x : FsO w0 w g s p) (k : Nm) (hcalls : s.calls < 1000000000 - 1) :
    Has Go.Proofs.Tryz.prog 11 #[ptrV g, .string (str k)] w (fun v w' => v = .int .i64 (syncM s k).2 ∧ ∃ p', FsO w0 w' g (syncM s k).1 p') := (sync_has g s p k w x.at_ hcalls).mono fun _ _ h => x.done h
theorem syncDirO_has {w0 w : World} {g : Nat} {s : FsM} {p : FsP} (x : FsO w0 w g s p) (hcalls : s.calls < 1000000000 - 1) :
    Has Go.Proofs.Tryz.prog 12 #[ptrV g] w (fun v w' => v = .int .i64 (syncDirM s).2 ∧ ∃ p', FsO w0 w' g (syncDirM s).1 p') := (syncDir_has g s p w x.at_ hcalls).mono fun _ _ h => x.done h
theorem renameO_has {w0 w : World} {g : Nat} {s : FsM} {p : FsP} (x : FsO w0 w g s p) (k k' : Nm) (hk : k'.length ≤ maxLen) (hcalls : s.calls < 1000000000 - 1) :
    Has Go.Proofs.Tryz.prog 58 #[ptrV g, .string (str k), .string (str k')] w (fun v w' => v = .int .i64 (renameM s k k').2 ∧ ∃ p', FsO w0 w' g (renameM s k k').1 p') := (rename_has g s p k k' w x.at_ hk hcalls).mono fun _ _ h => x.done h
theorem readO_has {w0 w : World} {g : Nat} {s : FsM} {p : FsP} (x : FsO w0 w g s p) (k : Nm) :
    Has Go.Proofs.Tryz.prog 9 #[ptrV g, .string (str k)] w (fun v w' => FsO w0 w' g s p ∧ Chg [] w w' ∧ readV (readM s k) w v w') := (read_has g s p k w x.at_).mono fun _ _ ⟨h1, h2⟩ => ⟨x.keep0 h1, h1, h2⟩
theorem crashO_has {w0 w : World} {g : Nat} {s : FsM} {p : FsP} (x : FsO w0 w g s p) (n : Int) {At : Option Addr} {nt ct : Nat} {tails : List Int} (ht : SliceOf Ri64 w (.slice At nt ct) tails) (hcalls : s.calls < 1000000000) :
    Has Go.Proofs.Tryz.prog 18 #[ptrV g, .int .i64 n, .slice At nt ct] w (fun v w' => FsO w0 w' g s p ∧ Chg [] w w' ∧ ∃ gc pc, v = ptrV gc ∧ FsO w w' gc (crashM s n tails) pc) :=
  (crash_has g s p n At nt ct tails w x.at_ ht hcalls).mono fun _ _ ⟨hc, gc, pc, hv, hx, hf⟩ => ⟨x.keep0 hc, hc, gc, pc, hv, hc, hx, hf⟩
theorem fs_eq1 : createM (newM 100) [97] = (⟨100, 1, -1, [⟨[], 0⟩], [([97], 0)], [], [⟨0, [97], [], some 0⟩]⟩, 0) := by rfl
theorem fs_eq2 : appendM ⟨100, 1, -1, [⟨[], 0⟩], [([97], 0)], [], [⟨0, [97], [], some 0⟩]⟩ [97] [120, 121, 122] = (⟨100, 2, -1, [⟨[120, 121, 122], 0⟩], [([97], 0)], [], [⟨0, [97], [], some 0⟩]⟩, 0) := by rfl
end Go.Proofs.YtbhnplghnhafiaaGreatDoor.Tryz
/-! Segments that grow: where one lies; Name, Create, Len, Size, add. -/
set_option linter.unusedVariables false
namespace Go.Vc
open Go
theorem grows_out {w : World} {g k : Nat} {p p' : FsP} (h : Grows w g p p') (hk : k < w.heap.size) (hn : k ∉ p.fp g) : k ∉ p'.fp g := fun hm => by
  rcases h k hm with h | h
  · exact hn h
  · omega
def natV (n : Nat) : Value := .int .i64 (n : Int)
def rawNm (n : Nat) : Nm := [UInt8.ofNat (48 + n), 46, 114, 97, 119]
end Go.Vc
namespace Go.Proofs.YtbhnplghnhafiaaGreatDoor.Tryz
open Go Go.Vc

theorem fsStep {w0 w w' : World} {g : Nat} {s : FsM} {p : FsP} (x : FsO w0 w g s p) {r : FsM × Int} {v : Value} (h : FsDone w g p r v w') : v = .int .i64 r.2 ∧ Chg (p.fp g) w w' ∧ ∃ p', FsO w0 w' g r.1 p' ∧ Grows w g p p' := by
  obtain ⟨h1, h2, p', h3, h4⟩ := h
  exact ⟨h2, h1, p', ⟨x.chgFp h1, h3, fun k hk => by
    rcases h4 k hk with h | h
    · exact x.fresh k h
    · have := x.chg.size; omega⟩, h4⟩
/-- A segment in memory. -/
structure SegB (w : World) (gs g : Nat) (nm : Nm) (ats : List Nat) (en : Nat) (u : Value) : Prop where
  blk : Blk w gs 78 [ptrV g, .string (str nm), u, .int .i64 (en : Int)]
  own : Own w 3 1 u ats.length (ats.map natV)
section
variable {w0 w w' : World} {gs g : Nat} {nm : Nm} {ats : List Nat} {en : Nat} {u : Value}
theorem SegB.ne (h : SegB w gs g nm ats en u) : ∀ k, u.ownBlock = some k → k ≠ gs := fun k hk e => by
  obtain ⟨cur, hr⟩ := h.own.row hk
  subst e
  exact h.blk.ne_ hr (by decide) rfl
theorem SegB.keep {S : List Nat} (h : SegB w gs g nm ats en u) (hc : Chg S w w') (h1 : gs ∉ S) (h2 : ∀ k, u.ownBlock = some k → k ∉ S) : SegB w' gs g nm ats en u := ⟨h.blk.keep hc h1, h.own.keep hc h2⟩
theorem SegB.keep0 (h : SegB w gs g nm ats en u) (hc : Chg [] w w') : SegB w' gs g nm ats en u := h.keep hc (by simp) (by simp)
end
/-- A segment and its files, made since w0. -/
structure SegO (w0 w : World) (gs g : Nat) (s : FsM) (p : FsP) (nm : Nm) (ats : List Nat) (en : Nat) (u : Value) : Prop where
  fs : FsO w0 w g s p
  seg : SegB w gs g nm ats en u
  out1 : gs ∉ p.fp g
  out2 : ∀ k, u.ownBlock = some k → k ∉ p.fp g
  fr1 : w0.heap.size ≤ gs
  fr2 : ∀ k, u.ownBlock = some k → w0.heap.size ≤ k
section
variable {w0 w w' : World} {gs g : Nat} {s : FsM} {p : FsP} {nm : Nm} {ats : List Nat} {en : Nat} {u : Value}
theorem SegO.keep0 (x : SegO w0 w gs g s p nm ats en u) (hc : Chg [] w w') : SegO w0 w' gs g s p nm ats en u := ⟨x.fs.keep0 hc, x.seg.keep0 hc, x.out1, x.out2, x.fr1, x.fr2⟩
theorem SegO.chg (x : SegO w0 w gs g s p nm ats en u) : Chg [] w0 w := x.fs.chg
theorem SegO.base {w1 : World} (x : SegO w1 w gs g s p nm ats en u) (hc : Chg [] w0 w1) : SegO w0 w gs g s p nm ats en u := ⟨x.fs.base hc, x.seg, x.out1, x.out2, by have := x.fr1; have := hc.size; omega, fun k hk => by have := x.fr2 k hk; have := hc.size; omega⟩
/-- The files went on. -/
theorem SegO.step (x : SegO w0 w gs g s p nm ats en u) {r : FsM × Int} {v : Value} (h : FsDone w g p r v w') : v = .int .i64 r.2 ∧ Chg (p.fp g) w w' ∧ ∃ p', SegO w0 w' gs g r.1 p' nm ats en u := by
  obtain ⟨h1, h2, p', h3, h4⟩ := fsStep x.fs h
  exact ⟨h1, h2, p', h3, x.seg.keep h2 x.out1 x.out2, grows_out h4 x.seg.blk.lt x.out1, fun k hk => grows_out h4 (x.seg.own.lt hk) (x.out2 k hk), x.fr1, x.fr2⟩
/-- The segment went on. -/
theorem SegO.turn (x : SegO w0 w gs g s p nm ats en u) (hc : Chg (gs :: u.ownBlock.toList) w w') {ats' : List Nat} {en' : Nat} {u' : Value} (hs : SegB w' gs g nm ats' en' u') (hb : u'.ownBlock = u.ownBlock ∨ ∃ h, u'.ownBlock = some h ∧ w.heap.size ≤ h) : SegO w0 w' gs g s p nm ats' en' u' := by
  have hdis : ∀ k ∈ p.fp g, k ∉ gs :: u.ownBlock.toList := fun k hk hm => by
    rcases List.mem_cons.1 hm with rfl | hm
    · exact x.out1 hk
    · exact x.out2 k (by simpa using hm) hk
  refine ⟨⟨x.fs.chg.trans hc (fun k hk hlt => ?_), x.fs.at_.keep hc hdis, x.fs.fresh⟩, hs, x.out1, fun k hk hm => ?_, x.fr1, fun k hk => ?_⟩
  · rcases List.mem_cons.1 hk with rfl | hk
    · have := x.fr1; omega
    · have := x.fr2 k (by simpa using hk); omega
  · rcases hb with hb | ⟨h, hb, hge⟩
    · exact x.out2 k (by rw [← hb]; exact hk) hm
    · rw [hb] at hk; injection hk with hk; subst hk
      have := x.fs.at_.lt h hm; omega
  · rcases hb with hb | ⟨h, hb, hge⟩
    · exact x.fr2 k (by rw [← hb]; exact hk)
    · rw [hb] at hk; injection hk with hk; subst hk
      have := x.fs.chg.size; omega
end
theorem name_has (n : Nat) (w : World) (hn : n < 10) : Has Go.Proofs.Tryz.prog 22 #[.int .i64 (n : Int)] w (fun v w' => w' = w ∧ v = .string (str (rawNm n))) := by
  refine enter Go.Proofs.Tryz.func22 rfl rfl (by decide) rfl (e := [(0, .int .i64 (n : Int))]) ⟨rfl, trivial⟩ ?_
  repeat (first | refine W_seq ?_ | refine W_region ?_ | refine Then_n ?_ | refine WL_nil ?_ | refine WL_some rfl rfl rfl ?_ | refine op_move rfl rfl ?_ | refine op_assign rfl rfl ?_)
  refine op_call rfl rfl rfl (formatInt_has n w hn) ?_
  rintro _ _ ⟨rfl, rfl⟩
  repeat (refine WL_some rfl rfl rfl ?_)
  refine op_str_add (a := [UInt8.ofNat (48 + n)]) (b := [46, 114, 97, 119]) rfl rfl rfl (by simp) ?_
  repeat (first | refine W_ret ?_ | refine Then_n ?_ | refine WL_nil ?_ | refine WL_some rfl rfl rfl ?_ | refine op_assign rfl rfl ?_)
  exact post1 (.inl rfl) rfl rfl ⟨rfl, rfl⟩
theorem rawNm_len (n : Nat) : (rawNm n).length = 5 := rfl
/-- An empty segment of a number from 1 to 9. -/
theorem createS_has {w0 w : World} {g : Nat} {s : FsM} {p : FsP} (x : FsO w0 w g s p) (n : Nat) (h1 : 1 ≤ n) (hn : n < 10) (hcalls : s.calls < 1000000000 - 1) (hok : (createM s (rawNm n)).2 = 0) :
    Has Go.Proofs.Tryz.prog 19 #[ptrV g, .int .i64 (n : Int)] w (fun v w' => ∃ gs p' u, v = .tuple #[ptrV gs, .int .i64 0] ∧ SegO w0 w' gs g (createM s (rawNm n)).1 p' (rawNm n) [] 0 u) := by
  refine enter Go.Proofs.Tryz.func19 rfl rfl (by decide) rfl (e := [(0, ptrV g), (1, .int .i64 (n : Int))]) ⟨rfl, rfl, trivial⟩ ?_
  unfold ptrV
  repeat (first | refine W_seq ?_ | refine W_region ?_ | refine W_skip ?_ | refine Then_n ?_ | refine WL_nil ?_ | refine W_condF rfl ?_ | refine WL_some rfl rfl rfl ?_ | refine WL_guardT rfl rfl rfl rfl ?_ | refine op_move rfl rfl ?_ | refine op_assign rfl rfl ?_ | refine op_pick rfl rfl rfl rfl ?_ | refine op_lss rfl rfl rfl (fun hc => False.elim (by omega)) (fun hc => ?_) | refine op_gtr rfl rfl rfl (fun hc => False.elim (by omega)) (fun hc => ?_))
  refine op_call rfl rfl rfl (name_has n w hn) ?_
  rintro _ _ ⟨rfl, rfl⟩
  repeat (refine WL_some rfl rfl rfl ?_)
  refine op_call rfl rfl rfl (createO_has x (rawNm n) (by rw [rawNm_len]; decide) hcalls) ?_
  rintro v1 w1 ⟨hv1, p1, x1⟩
  rw [hok] at hv1
  subst hv1
  repeat (first | refine W_seq ?_ | refine W_region ?_ | refine W_skip ?_ | refine Then_n ?_ | refine WL_nil ?_ | refine W_condF rfl ?_ | refine WL_some rfl rfl rfl ?_ | refine op_move rfl rfl ?_ | refine op_assign rfl rfl ?_ | refine op_neq rfl rfl rfl (fun hc => False.elim (by omega)) (fun hc => ?_))
  refine op_call rfl rfl rfl (name_has n w1 hn) ?_
  rintro _ _ ⟨rfl, rfl⟩
  repeat (first | refine WL_some rfl rfl rfl ?_ | refine op_build T rfl rfl rfl rfl rfl rfl ?_)
  refine op_box rfl rfl (fun gs w2 hs2 hc2 hg2 => ?_)
  have hg2 : Blk w2 gs 78 [ptrV g, .string (str (rawNm n)), .slice none 0 0, .int .i64 0] := hg2
  have hge : _ ≤ gs := hs2
  have x2 := x1.keep0 hc2
  repeat (first | refine W_ret ?_ | refine Then_n ?_ | refine WL_nil ?_ | refine WL_some rfl rfl rfl ?_ | refine op_assign rfl rfl ?_)
  refine post2 (.inl rfl) rfl rfl rfl ⟨gs, p1, .slice none 0 0, rfl, x2, ⟨hg2, Own.nil _ _ _⟩, fun hm => ?_, fun k hk => by simp [Value.ownBlock] at hk, ?_, fun k hk => by simp [Value.ownBlock] at hk⟩
  · have := x1.at_.lt gs hm; omega
  · have := x1.chg.size; omega
section
variable {w : World} {gs g : Nat} {nm : Nm} {ats : List Nat} {en : Nat} {u : Value}
theorem lenS_has (x : SegB w gs g nm ats en u) : Has Go.Proofs.Tryz.prog 21 #[.pointer (some ⟨gs, 0, none⟩)] w (fun v w' => w' = w ∧ v = .int .i64 (ats.length : Nat)) := by
  refine enter Go.Proofs.Tryz.func21 rfl rfl (by decide) rfl (e := [(0, .pointer (some ⟨gs, 0, none⟩))]) ⟨rfl, trivial⟩ ?_
  have hb := x.blk
  obtain ⟨A, c, rfl, _, _⟩ := x.own.form
  repeat (first | refine W_seq ?_ | refine W_region ?_ | refine W_skip ?_ | refine W_ret ?_ | refine Then_n ?_ | refine WL_nil ?_ | refine W_condF rfl ?_ | refine WL_some rfl rfl rfl ?_ | refine op_move rfl rfl ?_ | refine op_assign rfl rfl ?_ | refine op_len_slice T rfl rfl rfl rfl ?_ | refine op_nilCheck rfl rfl ?_ | refine op_fieldAddr T rfl rfl rfl rfl rfl rfl rfl rfl ?_ | refine op_eql_nilptr T rfl rfl rfl rfl rfl ?_ | refine op_loadB T rfl rfl rfl rfl (by assumption) (by exact rfl) ?_)
  exact post1 (.inl rfl) rfl rfl ⟨rfl, rfl⟩
theorem sizeS_has (x : SegB w gs g nm ats en u) : Has Go.Proofs.Tryz.prog 42 #[.pointer (some ⟨gs, 0, none⟩)] w (fun v w' => w' = w ∧ v = .int .i64 (en : Int)) := by
  refine enter Go.Proofs.Tryz.func42 rfl rfl (by decide) rfl (e := [(0, .pointer (some ⟨gs, 0, none⟩))]) ⟨rfl, trivial⟩ ?_
  have hb := x.blk
  repeat (first | refine W_seq ?_ | refine W_region ?_ | refine W_skip ?_ | refine W_ret ?_ | refine Then_n ?_ | refine WL_nil ?_ | refine W_condF rfl ?_ | refine WL_some rfl rfl rfl ?_ | refine op_move rfl rfl ?_ | refine op_assign rfl rfl ?_ | refine op_nilCheck rfl rfl ?_ | refine op_fieldAddr T rfl rfl rfl rfl rfl rfl rfl rfl ?_ | refine op_eql_nilptr T rfl rfl rfl rfl rfl ?_ | refine op_loadB T rfl rfl rfl rfl (by assumption) (by exact rfl) ?_)
  exact post1 (.inl rfl) rfl rfl ⟨rfl, rfl⟩
set_option maxHeartbeats 1000000 in
theorem addS_has (x : SegB w gs g nm ats en u) (n : Nat) (hl : ats.length < 1000000000) (he : en + n < 1000000000000) :
    Has Go.Proofs.Tryz.prog 40 #[.pointer (some ⟨gs, 0, none⟩), .int .i64 (n : Int)] w (fun v w' => Chg (gs :: u.ownBlock.toList) w w' ∧ ∃ u', SegB w' gs g nm (ats ++ [en]) (en + n) u' ∧ (u'.ownBlock = u.ownBlock ∨ ∃ h, u'.ownBlock = some h ∧ w.heap.size ≤ h)) := by
  refine enter Go.Proofs.Tryz.func40 rfl rfl (by decide) rfl (e := [(0, .pointer (some ⟨gs, 0, none⟩)), (1, .int .i64 (n : Int))]) ⟨rfl, rfl, trivial⟩ ?_
  have hb := x.blk
  have ho := x.own
  have hne := x.ne
  obtain ⟨A, c, rfl, _, _⟩ := x.own.form
  generalize hu : Value.slice A ats.length c = u at *
  have hgo : gs ∉ u.ownBlock.toList := fun hm => hne gs (by simpa using hm) rfl
  repeat (refine W_seq ?_)
  refine Q.W_walkq 11 10 u.ownBlock.toList fol (by kernel_rfl) (by kernel_rfl) ?_
  refine Q.Walk.plain rfl rfl (by intro val w_ hR hp; exact op_move rfl rfl ⟨Chg.refl _ _, rfl⟩) ?_; dsimp only [List.nil_append, List.cons_append]
  refine Q.Walk.plain rfl rfl (by intro val w_ hR hp; exact op_move rfl rfl ⟨Chg.refl _ _, rfl⟩) ?_; dsimp only [List.nil_append, List.cons_append]
  refine Q.Walk.plain rfl rfl (by intro val w_ hR hp; exact op_nilCheck rfl rfl ⟨Chg.refl _ _, rfl⟩) ?_; dsimp only [List.nil_append, List.cons_append]
  refine Q.Walk.plain rfl rfl (by intro val w_ hR hp; exact op_fieldAddr T rfl rfl rfl rfl rfl rfl rfl rfl ⟨Chg.refl _ _, rfl⟩) ?_; dsimp only [List.nil_append, List.cons_append]
  refine Q.Walk.plain (v := u) rfl rfl (by intro val w_ hR hp; exact op_load T rfl rfl rfl rfl ((hb.keep hR hgo).cell rfl) ⟨Chg.refl _ _, rfl⟩) ?_; dsimp only [List.nil_append, List.cons_append]
  refine Q.Walk.plain rfl rfl (by intro val w_ hR hp; exact op_move rfl rfl ⟨Chg.refl _ _, rfl⟩) ?_; dsimp only [List.nil_append, List.cons_append]
  refine Q.Walk.plain rfl rfl (by intro val w_ hR hp; exact op_nilCheck rfl rfl ⟨Chg.refl _ _, rfl⟩) ?_; dsimp only [List.nil_append, List.cons_append]
  refine Q.Walk.plain rfl rfl (by intro val w_ hR hp; exact op_fieldAddr T rfl rfl rfl rfl rfl rfl rfl rfl ⟨Chg.refl _ _, rfl⟩) ?_; dsimp only [List.nil_append, List.cons_append]
  refine Q.Walk.plain (v := .int .i64 (en : Int)) rfl rfl (by intro val w_ hR hp; exact op_load T rfl rfl rfl rfl ((hb.keep hR hgo).cell rfl) ⟨Chg.refl _ _, rfl⟩) ?_; dsimp only [List.nil_append, List.cons_append]
  refine Q.Walk.rel rfl (fun v w' => ∃ g5, v = .slice (some ⟨g5, 0, none⟩) 1 1 ∧ Blk w' g5 3 [.int .i64 (en : Int)] ∧ w.heap.size ≤ g5) rfl (fun v a b ⟨g5, h1, h2, h3⟩ hab => ⟨g5, h1, h2.keep hab (fun hm => by have := ho.lt (show u.ownBlock = some g5 by simpa using hm); omega), h3⟩) ?_ ?_
  · intro val w_ hR hp
    exact op_buildSlice T rfl rfl rfl rfl rfl rfl rfl (fun g5 w5 hs5 hc5 hg5 => ⟨hc5, g5, rfl, hg5, by have := hR.size; omega⟩)
  dsimp only [List.nil_append, List.cons_append]
  refine Q.Walk.turn rfl (fun v w' => Own w' 3 1 v (ats.length + 1) ((ats ++ [en]).map natV) ∧ (v.ownBlock = u.ownBlock ∨ ∃ h, v.ownBlock = some h ∧ w.heap.size ≤ h)) rfl (fun v a b h hab => ⟨h.1.keep0 hab, h.2⟩) ?_ ?_
  · intro val w_ hR hp
    obtain ⟨g5, he5, hg5, hs5⟩ : ∃ g5, val 9 = .slice (some ⟨g5, 0, none⟩) 1 1 ∧ Blk w_ g5 3 [.int .i64 (en : Int)] ∧ w.heap.size ≤ g5 := hp 9 rfl _ _ rfl rfl
    refine op_append T (n := ats.length) (xs := ats.map natV) (m := 1) (news := [.int .i64 (en : Int)]) rfl rfl rfl (congrArg some he5) rfl rfl rfl rfl (ho.keep0 hR) rfl ?_ (by unfold maxLen; omega) (by show (ats.length + 1) * 8 ≤ _; omega) ?_
    · intro j v hj
      match j, hj with
      | 0, hj => cases hj; exact ⟨⟨_, rfl, by rw [add_plain]; exact hg5.cell rfl⟩, rfl⟩
    · intro v w6 hu6 hc6 hb6 _
      refine ⟨hc6, ?_, hb6.imp id (fun ⟨h, h1, h2⟩ => ⟨h, h1, by have := hR.size; omega⟩)⟩
      rw [List.map_append]
      exact hu6
  dsimp only [List.nil_append, List.cons_append]
  refine Q.Walk.fin ?_
  intro val w6 hc6 hp
  obtain ⟨ho6, hb6⟩ : Own w6 3 1 (val 10) (ats.length + 1) ((ats ++ [en]).map natV) ∧ ((val 10).ownBlock = u.ownBlock ∨ ∃ h, (val 10).ownBlock = some h ∧ w.heap.size ≤ h) := hp 10 (by omega) _ _ rfl rfl
  clear hp
  refine WL_sub (e' := [(0, .pointer (some ⟨gs, 0, none⟩)), (1, .int .i64 (n : Int)), (4, .pointer (some ⟨gs, 0, none⟩)), (14, val 10)]) ⟨rfl, rfl, rfl, rfl, trivial⟩ ?_
  generalize val 10 = u6 at ho6 hb6
  obtain ⟨A6, c6, rfl, _, _⟩ := ho6.form
  have hbk := hb.keep hc6 hgo
  repeat (first | refine WL_some rfl rfl rfl ?_ | refine WL_none rfl rfl ?_ | refine op_nilCheck rfl rfl ?_ | refine op_fieldAddr T rfl rfl rfl rfl rfl rfl rfl rfl ?_)
  refine op_store T rfl rfl rfl rfl rfl rfl hbk (by simp) (fun w7 hc7 hb7 _ => ?_)
  have hb7 : Blk w7 gs 78 [ptrV g, .string (str nm), .slice A6 (ats.length + 1) c6, .int .i64 (en : Int)] := hb7
  have hn6 : ∀ k, (Value.slice A6 (ats.length + 1) c6).ownBlock = some k → k ∉ [gs] := fun k hk hm => by
    simp at hm; subst hm
    obtain ⟨cur, hr⟩ := ho6.row hk
    exact hbk.ne_ hr (by decide) rfl
  have ho7 := ho6.keep hc7 hn6
  repeat (first | refine W_region ?_ | refine Then_n ?_ | refine WL_nil ?_ | refine WL_some rfl rfl rfl ?_ | refine WL_none rfl rfl ?_ | refine op_move rfl rfl ?_ | refine op_add rfl rfl rfl (wrap_i64_in (by omega) (by omega)) ?_ | refine op_nilCheck rfl rfl ?_ | refine op_fieldAddr T rfl rfl rfl rfl rfl rfl rfl rfl ?_ | refine op_loadB T rfl rfl rfl rfl (by assumption) (by exact rfl) ?_)
  refine op_store T rfl rfl rfl rfl rfl rfl hb7 (by simp) (fun w8 hc8 hb8 _ => ?_)
  have ho8 := ho7.keep hc8 hn6
  repeat (refine WL_nil ?_)
  refine post0 (.inr rfl) rfl ⟨(hc6.mono (fun k hk _ => List.mem_cons_of_mem _ hk)).trans (hc7.trans hc8 (fun k hk _ => hk)) (fun k hk _ => by simp at hk; simp [hk]), .slice A6 (ats.length + 1) c6, ⟨?_, by rw [List.length_append]; exact ho8⟩, hb6⟩
  rw [show ((en + n : Nat) : Int) = (en : Int) + n from by omega]
  exact hb8
end
end Go.Proofs.YtbhnplghnhafiaaGreatDoor.Tryz
