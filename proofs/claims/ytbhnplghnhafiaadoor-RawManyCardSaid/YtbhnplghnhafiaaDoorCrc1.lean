import Derived.Test.YtbhnplghnhafiaaDoorNum2
import Derived.Test.YtbhnplghnhafiaaDoorCrcM
import Derived.Test.YtbhnplghnhafiaaDoorClone
import Derived.Test.YtbhnplghnhafiaaDoorVcDrawQ
/-! Sums and seals. -/
set_option linter.unusedVariables false
namespace Go.Proofs.YtbhnplghnhafiaaDoor.Tryd
open Go Go.Vc

theorem sum_has (A : Option Addr) (n c : Nat) (l : List UInt8) (w : World) (hl : SliceOf Ru8 w (.slice A n c) l) :
    Has Go.Proofs.Tryd.prog 70 #[.slice A n c] w (fun v w' => w' = w ∧ v = .int .u32 (crc l)) := by
  obtain ⟨rfl, hl1, hl2⟩ := hl.len
  unfold maxLen at hl2
  refine enter Go.Proofs.Tryd.func70 rfl rfl (by decide) rfl (e := [(0, .slice A l.length c)]) ⟨rfl, trivial⟩ ?_
  repeat (first | refine W_seq ?_ | refine W_block ?_ | refine W_region ?_ | refine Then_n ?_ | refine WL_nil ?_ | refine WL_some rfl rfl rfl ?_ | refine op_move rfl rfl ?_ | refine op_assign rfl rfl ?_ | refine op_len_slice T rfl rfl rfl rfl ?_)
  refine W_loop (σ := Nat) (fun k => [(3, .int .u32 (crcTo (l.take k))), (6, .slice A l.length c), (7, .int .i64 l.length), (8, .int .i64 k)])
    (fun (k : Nat) w' => k ≤ l.length ∧ w' = w) (fun k => l.length - k) 0 ⟨rfl, rfl, rfl, rfl, trivial⟩ ⟨by omega, rfl⟩ ?_
  rintro k w1 ⟨hk, rfl⟩
  repeat (first | refine W_seq ?_ | refine W_region ?_ | refine WL_some rfl rfl rfl ?_)
  (refine op_lss rfl rfl rfl (fun hc => ?_) (fun hc => ?_))
  · have hlt : k < l.length := by omega
    obtain ⟨ad, u, rfl, hu, rfl⟩ := hl.get (i := k) (List.getElem?_eq_getElem hlt)
    repeat (first | refine W_seq ?_ | refine W_block ?_ | refine W_region ?_ | refine W_skip ?_ | refine Then_n ?_ | refine WL_nil ?_ | refine W_condT rfl ?_ | refine WL_some rfl rfl rfl ?_ | refine op_move rfl rfl ?_ | refine op_assign rfl rfl ?_ | refine op_index_nat T rfl rfl rfl rfl rfl rfl (by omega) ?_ | refine op_load T rfl rfl rfl rfl (by assumption) ?_)
    refine op_convert_int T rfl rfl rfl rfl rfl ?_
    repeat (refine WL_some rfl rfl rfl ?_)
    refine op_xor rfl rfl rfl rfl ?_
    repeat (first | refine W_seq ?_ | refine W_block ?_ | refine W_region ?_ | refine Then_n ?_ | refine WL_nil ?_ | refine WL_some rfl rfl rfl ?_ | refine op_move rfl rfl ?_ | refine op_assign rfl rfl ?_)
    refine W_loop (σ := Nat) (fun j => [(3, .int .u32 (crcBits j (xorU (crcTo (l.take k)) (IntKind.u32.wrap (l[k].toNat : Int))))), (6, .slice (some ad) l.length c), (7, .int .i64 l.length), (8, .int .i64 k), (16, .int .i64 j)])
      (fun (j : Nat) w' => j ≤ 8 ∧ w' = w1) (fun j => 8 - j) 0 ⟨rfl, rfl, rfl, rfl, rfl, trivial⟩ ⟨by omega, rfl⟩ ?_
    rintro j w2 ⟨hj, rfl⟩
    repeat (first | refine W_seq ?_ | refine W_region ?_ | refine WL_some rfl rfl rfl ?_)
    (refine op_lss rfl rfl rfl (fun hc => ?_) (fun hc => ?_))
    · repeat (first | refine W_seq ?_ | refine W_block ?_ | refine W_region ?_ | refine W_skip ?_ | refine Then_n ?_ | refine WL_nil ?_ | refine W_condT rfl ?_ | refine WL_some rfl rfl rfl ?_ | refine op_move rfl rfl ?_)
      refine op_shr rfl rfl rfl (by decide) rfl ?_
      repeat (first | refine WL_some rfl rfl rfl ?_ | refine op_move rfl rfl ?_)
      refine op_and rfl rfl rfl rfl ?_
      repeat (refine WL_some rfl rfl rfl ?_)
      refine op_neg rfl rfl rfl ?_
      repeat (refine WL_some rfl rfl rfl ?_)
      refine op_and rfl rfl rfl rfl ?_
      repeat (refine WL_some rfl rfl rfl ?_)
      refine op_xor rfl rfl rfl rfl ?_
      repeat (first | refine W_region ?_ | refine Then_n ?_ | refine InBlock_n ?_ | refine WL_nil ?_ | refine WL_some rfl rfl rfl ?_ | refine op_move rfl rfl ?_ | refine op_assign rfl rfl ?_ | refine op_add rfl rfl rfl (wrap_i64_in (by omega) (by omega)) ?_)
      exact Round_n (j + 1) ⟨rfl, rfl, rfl, rfl, rfl, trivial⟩ ⟨by omega, rfl⟩ (by omega)
    · obtain rfl : j = 8 := by omega
      repeat (first | refine W_seq ?_ | refine W_region ?_ | refine W_exit ?_ | refine Then_n ?_ | refine Then_x ?_ | refine InBlock_hit ?_ | refine InBlock_n ?_ | refine Round_x ?_ | refine WL_nil ?_ | refine W_condF rfl ?_ | refine WL_some rfl rfl rfl ?_ | refine op_move rfl rfl ?_ | refine op_add rfl rfl rfl (wrap_i64_in (by omega) (by omega)) ?_)
      refine Round_n (k + 1) ⟨?_, rfl, rfl, rfl, trivial⟩ ⟨by omega, rfl⟩ (by omega)
      rw [crcTo_take l k hlt]
      rfl
  · obtain rfl : k = l.length := by omega
    rw [List.take_length]
    repeat (first | refine W_seq ?_ | refine W_region ?_ | refine W_exit ?_ | refine Then_n ?_ | refine Then_x ?_ | refine InBlock_hit ?_ | refine Round_x ?_ | refine WL_nil ?_ | refine W_condF rfl ?_ | refine WL_some rfl rfl rfl ?_ | refine op_move rfl rfl ?_)
    refine op_compl rfl rfl rfl ?_
    repeat (first | refine W_ret ?_ | refine Then_n ?_ | refine WL_nil ?_ | refine WL_some rfl rfl rfl ?_ | refine op_assign rfl rfl ?_)
    exact post1 (.inl rfl) rfl rfl ⟨rfl, rfl⟩

theorem sumN_has (A : Option Addr) (n c : Nat) (l : List UInt8) (w : World) (hl : SliceOf Ru8 w (.slice A n c) l) :
    Has Go.Proofs.Tryd.prog 70 #[.slice A n c] w (fun v w' => Chg [] w w' ∧ v = .int .u32 (crcN l : Nat)) :=
  (sum_has A n c l w hl).mono fun v w' ⟨h1, h2⟩ => ⟨h1 ▸ Chg.refl _ _, by rw [h2, crc_eq]⟩
theorem cloneB_has (A : Option Addr) (n c : Nat) (l : List UInt8) (w : World) (hl : SliceOf Ru8 w (.slice A n c) l) (hb : l.length ≤ 1099511627776) :
    Has Go.Proofs.Tryd.prog 38 #[.slice A n c] w (fun v w' => MadeB 5 w w' v l) := (clone_has A n c l w hl hb).mono fun v w' ⟨h1, h2, h3⟩ => ⟨h1, h2, h3⟩
set_option maxHeartbeats 1000000 in
theorem seal_has (A : Option Addr) (n c : Nat) (l : List UInt8) (w : World) (hl : SliceOf Ru8 w (.slice A n c) l) (hb : l.length < 4294967296) :
    Has Go.Proofs.Tryd.prog 53 #[.slice A n c] w (fun v w' => MadeB 5 w w' v (sealM l)) := by
  obtain ⟨rfl, hl1, hl2⟩ := hl.len
  refine enter Go.Proofs.Tryd.func53 rfl rfl (by decide) rfl (e := [(0, .slice A l.length c)]) ⟨rfl, trivial⟩ ?_
  repeat (first | refine W_seq ?_ | refine W_region ?_ | refine Then_n ?_ | refine WL_nil ?_ | refine WL_some rfl rfl rfl ?_ | refine op_move rfl rfl ?_ | refine op_assign rfl rfl ?_ | refine op_len_slice T rfl rfl rfl rfl ?_)
  refine op_convert_fit T rfl rfl rfl rfl (wrap_u32_in (by omega) (by omega)) ?_
  repeat (refine WL_some rfl rfl rfl ?_)
  refine op_call rfl rfl rfl (four_has l.length w hb) ?_
  intro v1 w1 m1
  repeat (first | refine W_seq ?_ | refine W_region ?_ | refine Then_n ?_ | refine WL_nil ?_ | refine WL_some rfl rfl rfl ?_ | refine op_move rfl rfl ?_ | refine op_assign rfl rfl ?_)
  obtain ⟨A1, c1, rfl, _, _⟩ := m1.form
  refine op_call rfl rfl rfl (cloneB_has A1 _ c1 _ w1 m1.reads (by simp [fourM_length])) ?_
  intro v2 w2 m2
  have k2 := m2.base m1.chg
  have r2 := SliceOf.kept Ru8.kept _ _ _ _ m2.chg m1.reads
  repeat (first | refine WL_some rfl rfl rfl ?_ | refine op_move rfl rfl ?_)
  refine op_call rfl rfl rfl (sumN_has A1 _ c1 _ w2 r2) ?_
  rintro _ w3 ⟨hc3, rfl⟩
  repeat (refine WL_some rfl rfl rfl ?_)
  refine op_call rfl rfl rfl (four_has _ w3 (crcN_lt _)) ?_
  intro v4 w4 m4
  repeat (refine WL_some rfl rfl rfl ?_)
  have k4 := (k2.keep0 hc3).keep0 m4.chg
  obtain ⟨A4, c4, rfl, _, _⟩ := m4.form
  refine op_appB T rfl rfl rfl rfl rfl rfl rfl rfl rfl k4 m4.reads (by simp [fourM_length]) (fun v5 w5 m5 _ _ => ?_)
  have r5 := SliceOf.kept Ru8.kept _ _ _ _ m5.chg hl
  repeat (first | refine W_seq ?_ | refine W_region ?_ | refine Then_n ?_ | refine WL_nil ?_ | refine WL_some rfl rfl rfl ?_ | refine op_move rfl rfl ?_ | refine op_assign rfl rfl ?_)
  refine op_call rfl rfl rfl (sumN_has A _ c _ w5 r5) ?_
  rintro _ w6 ⟨hc6, rfl⟩
  repeat (refine WL_some rfl rfl rfl ?_)
  refine op_call rfl rfl rfl (four_has _ w6 (crcN_lt _)) ?_
  intro v7 w7 m7
  repeat (refine WL_some rfl rfl rfl ?_)
  have k7 := (m5.keep0 hc6).keep0 m7.chg
  obtain ⟨A7, c7, rfl, _, _⟩ := m7.form
  refine op_appB T rfl rfl rfl rfl rfl rfl rfl rfl rfl k7 m7.reads (by simp [fourM_length]) (fun v8 w8 m8 _ _ => ?_)
  have r8 := SliceOf.kept Ru8.kept _ _ _ _ m8.chg hl
  repeat (first | refine WL_some rfl rfl rfl ?_ | refine op_move rfl rfl ?_)
  refine op_appB T rfl rfl rfl rfl rfl rfl rfl rfl rfl m8 r8 (by simp [fourM_length]; omega) (fun v9 w9 m9 _ _ => ?_)
  repeat (first | refine W_ret ?_ | refine Then_n ?_ | refine WL_nil ?_ | refine WL_some rfl rfl rfl ?_ | refine op_assign rfl rfl ?_)
  exact post1 (.inl rfl) rfl rfl m9
set_option maxHeartbeats 2000000 in
theorem first_has (A : Option Addr) (n c : Nat) (l : List UInt8) (w : World) (hl : SliceOf Ru8 w (.slice A n c) l) (hb : l.length < 4294967296) :
    Has Go.Proofs.Tryd.prog 71 #[.slice A n c] w (fun v w' => ∃ u, v = .tuple #[u, .int .i64 ((firstM l).2.1 : Nat), .bool (firstM l).2.2] ∧ MadeB 5 w w' u (firstM l).1) := by
  obtain ⟨rfl, hl1, hl2⟩ := hl.len
  unfold maxLen at hl2
  have hnil : ∀ w', Chg [] w w' → MadeB 5 w w' (.slice none 0 0) [] := fun w' hc => ⟨hc, Own.nil _ _ _, fun h hh => by simp [Value.ownBlock] at hh⟩
  unfold firstM
  refine enter Go.Proofs.Tryd.func71 rfl rfl (by decide) rfl (e := [(0, .slice A l.length c)]) ⟨rfl, trivial⟩ ?_
  repeat (first | refine W_seq ?_ | refine W_region ?_ | refine Then_n ?_ | refine WL_nil ?_ | refine WL_some rfl rfl rfl ?_ | refine op_move rfl rfl ?_ | refine op_assign rfl rfl ?_ | refine op_len_slice T rfl rfl rfl rfl ?_)
  (refine op_lss rfl rfl rfl (fun hc => ?_) (fun hc => ?_))
  · rw [if_pos (by omega)]
    repeat (first | refine W_seq ?_ | refine W_region ?_ | refine W_ret ?_ | refine Then_n ?_ | refine Then_r ?_ | refine WL_nil ?_ | refine W_condT rfl ?_ | refine WL_some rfl rfl rfl ?_ | refine op_assign rfl rfl ?_)
    exact post3 (.inl rfl) rfl rfl rfl rfl ⟨_, rfl, hnil _ (Chg.refl _ _)⟩
  rw [if_neg (by omega)]
  have s4 := hl.cut (l := 4) (k := l.length) (by omega) (Nat.le_refl _)
  rw [List.take_length] at s4
  have t4 := hl.cut (l := 0) (k := 4) (by omega) (by omega)
  rw [List.drop_zero] at t4
  have hg4 := getFourM_lt l
  repeat (first | refine W_seq ?_ | refine W_skip ?_ | refine Then_n ?_ | refine WL_nil ?_ | refine W_condF rfl ?_)
  refine W_meet (σ := Unit) (fun _ => [(0, .slice A l.length c), (2, .slice none 0 0), (16, .bool (decide (getFourM (l.drop 4) ≠ crcN (l.take 4))))]) (fun _ w' => Chg [] w w') ?_ ?_
  · refine W_walk 7 [] fol (by kernel_rfl) (by kernel_rfl) ?_
    refine Walk.plain rfl (by intro val w_ hR hp; exact op_move rfl rfl ⟨Chg.refl _ _, rfl⟩) ?_; dsimp only [List.nil_append, List.cons_append]
    refine Walk.plain rfl (by intro val w_ hR hp; exact op_slice T (l := 4) (h' := l.length) rfl rfl rfl rfl ⟨_, rfl⟩ rfl (by omega) (by omega) ⟨Chg.refl _ _, rfl⟩) ?_; dsimp only [List.nil_append, List.cons_append]
    refine Walk.plain rfl (by intro val w_ hR hp; exact op_call rfl rfl rfl (getFour_has _ _ _ _ w_ (SliceOf.kept Ru8.kept _ _ _ _ hR s4)) (fun v w' h => h)) ?_; dsimp only [List.nil_append, List.cons_append]
    refine Walk.plain rfl (by intro val w_ hR hp; exact op_move rfl rfl ⟨Chg.refl _ _, rfl⟩) ?_; dsimp only [List.nil_append, List.cons_append]
    refine Walk.plain rfl (by intro val w_ hR hp; exact op_slice T (l := 0) (h' := 4) rfl rfl rfl rfl rfl ⟨_, rfl⟩ (by omega) (by omega) ⟨Chg.refl _ _, rfl⟩) ?_; dsimp only [List.nil_append, List.cons_append]
    refine Walk.plain rfl (by intro val w_ hR hp; exact op_call rfl rfl rfl (sumN_has _ _ _ _ w_ (SliceOf.kept Ru8.kept _ _ _ _ hR t4)) (fun v w' h => h)) ?_; dsimp only [List.nil_append, List.cons_append]
    refine Walk.plain (v := .bool (decide (getFourM (l.drop 4) ≠ crcN (l.take 4)))) rfl (by intro val w_ hR hp; exact op_neq rfl rfl rfl (fun hc => ⟨Chg.refl _ _, by rw [decide_eq_true (by omega)]⟩) (fun hc => ⟨Chg.refl _ _, by rw [decide_eq_false (by omega)]⟩)) ?_; dsimp only [List.nil_append, List.cons_append]
    refine Walk.fin ?_
    intro val w1 hc1 hp
    repeat (refine WL_nil ?_)
    exact Meet_n () ⟨rfl, rfl, rfl, trivial⟩ hc1
  rintro _ w1 hc1
  by_cases hh : getFourM (l.drop 4) ≠ crcN (l.take 4)
  · rw [decide_eq_true hh, if_pos hh]
    repeat (first | refine W_seq ?_ | refine W_region ?_ | refine W_ret ?_ | refine Then_n ?_ | refine Then_r ?_ | refine WL_nil ?_ | refine W_condT rfl ?_ | refine WL_some rfl rfl rfl ?_ | refine op_assign rfl rfl ?_)
    exact post3 (.inl rfl) rfl rfl rfl rfl ⟨_, rfl, hnil _ hc1⟩
  rw [decide_eq_false hh, if_neg hh]
  have hl1' := SliceOf.kept Ru8.kept _ _ _ _ hc1 hl
  repeat (first | refine W_seq ?_ | refine W_region ?_ | refine W_skip ?_ | refine Then_n ?_ | refine W_condF rfl ?_ | refine WL_some rfl rfl rfl ?_ | refine op_move rfl rfl ?_)
  refine op_call rfl rfl rfl (getFour_has A _ c l w1 hl1') ?_
  rintro _ w2 ⟨hc2, rfl⟩
  have hl2' := SliceOf.kept Ru8.kept _ _ _ _ hc2 hl1'
  repeat (refine WL_some rfl rfl rfl ?_)
  refine op_convert_fit T rfl rfl rfl rfl (wrap_u64_in (by omega) (by omega)) ?_
  repeat (first | refine W_seq ?_ | refine W_region ?_ | refine Then_n ?_ | refine WL_nil ?_ | refine WL_some rfl rfl rfl ?_ | refine op_move rfl rfl ?_ | refine op_assign rfl rfl ?_ | refine op_len_slice T rfl rfl rfl rfl ?_ | refine op_subt rfl rfl rfl (wrap_i64_in (by omega) (by omega)) ?_)
  refine op_convert_fit T rfl rfl rfl rfl (wrap_u64_in (by omega) (by omega)) ?_
  repeat (refine WL_some rfl rfl rfl ?_)
  (refine op_gtr rfl rfl rfl (fun hc => ?_) (fun hc => ?_))
  · rw [if_pos (by omega)]
    repeat (first | refine W_seq ?_ | refine W_region ?_ | refine W_ret ?_ | refine Then_n ?_ | refine Then_r ?_ | refine WL_nil ?_ | refine W_condT rfl ?_ | refine WL_some rfl rfl rfl ?_ | refine op_assign rfl rfl ?_)
    exact post3 (.inl rfl) rfl rfl rfl rfl ⟨_, rfl, hnil _ (hc1.trans' hc2)⟩
  rw [if_neg (by omega)]
  generalize getFourM l = m at *
  repeat (first | refine W_seq ?_ | refine W_region ?_ | refine W_skip ?_ | refine Then_n ?_ | refine WL_nil ?_ | refine W_condF rfl ?_ | refine WL_some rfl rfl rfl ?_ | refine op_move rfl rfl ?_)
  refine op_convert_fit T rfl rfl rfl rfl (wrap_i64_in (by omega) (by omega)) ?_
  repeat (first | refine WL_some rfl rfl rfl ?_ | refine op_add rfl rfl rfl (wrap_i64_in (by omega) (by omega)) ?_)
  refine op_cut T (l := 12) (h' := 12 + m) rfl rfl rfl rfl rfl ⟨_, rfl⟩ ⟨_, some_int (by omega)⟩ hl2' (by omega) (by omega) (fun A6 hA6 => ?_)
  have s6 := hA6 w2 hl2'
  have ex : (l.take (12 + m)).drop 12 = (l.drop 12).take m := by rw [List.drop_take]; congr 1; omega
  rw [ex] at s6
  repeat (first | refine W_seq ?_ | refine W_region ?_ | refine Then_n ?_ | refine WL_nil ?_ | refine WL_some rfl rfl rfl ?_ | refine op_move rfl rfl ?_ | refine op_assign rfl rfl ?_)
  refine op_cut T (l := 8) (h' := l.length) rfl rfl rfl rfl rfl ⟨_, rfl⟩ rfl hl2' (by omega) (by omega) (fun A7 hA7 => ?_)
  have s7 := hA7 w2 hl2'
  rw [List.take_length] at s7
  repeat (refine WL_some rfl rfl rfl ?_)
  refine op_call rfl rfl rfl (getFour_has A7 _ _ _ w2 s7) ?_
  rintro _ w3 ⟨hc3, rfl⟩
  have s63 := SliceOf.kept Ru8.kept _ _ _ _ hc3 s6
  repeat (first | refine WL_some rfl rfl rfl ?_ | refine op_move rfl rfl ?_)
  refine op_call rfl rfl rfl (sumN_has A6 _ _ _ w3 s63) ?_
  rintro _ w4 ⟨hc4, rfl⟩
  have s64 := SliceOf.kept Ru8.kept _ _ _ _ hc4 s63
  have hc04 : Chg [] w w4 := ((hc1.trans' hc2).trans' hc3).trans' hc4
  repeat (refine WL_some rfl rfl rfl ?_)
  (refine op_neq rfl rfl rfl (fun hc => ?_) (fun hc => ?_))
  · rw [if_pos (by omega)]
    repeat (first | refine W_seq ?_ | refine W_region ?_ | refine W_ret ?_ | refine Then_n ?_ | refine Then_r ?_ | refine WL_nil ?_ | refine W_condT rfl ?_ | refine WL_some rfl rfl rfl ?_ | refine op_assign rfl rfl ?_)
    exact post3 (.inl rfl) rfl rfl rfl rfl ⟨_, rfl, hnil _ hc04⟩
  rw [if_neg (by omega)]
  repeat (first | refine W_seq ?_ | refine W_region ?_ | refine W_skip ?_ | refine Then_n ?_ | refine WL_nil ?_ | refine W_condF rfl ?_ | refine WL_some rfl rfl rfl ?_)
  refine op_buildSlice T rfl rfl rfl rfl rfl rfl rfl (fun g w5 hgs hc5 hg5 => ?_)
  have k5 : MadeB 5 w w5 (.slice (some ⟨g, 0, none⟩) 0 0) [] := ⟨hc04.trans' hc5, Own.mk hg5 (Nat.le_refl _) (Nat.zero_le _) rfl rfl, fun h hh => by simp [Value.ownBlock] at hh; have := hc04.size; omega⟩
  have s65 := SliceOf.kept Ru8.kept _ _ _ _ hc5 s64
  repeat (first | refine WL_some rfl rfl rfl ?_ | refine op_move rfl rfl ?_)
  refine op_appB T rfl rfl rfl rfl rfl rfl rfl rfl rfl k5 s65 (by simp; omega) (fun v6 w6 m6 _ _ => ?_)
  repeat (first | refine WL_some rfl rfl rfl ?_ | refine op_move rfl rfl ?_)
  refine op_convert_fit T rfl rfl rfl rfl (wrap_i64_in (by omega) (by omega)) ?_
  repeat (first | refine W_ret ?_ | refine Then_n ?_ | refine WL_nil ?_ | refine WL_some rfl rfl rfl ?_ | refine op_assign rfl rfl ?_ | refine op_add rfl rfl rfl (wrap_i64_in (by omega) (by omega)) ?_)
  exact post3 (.inl rfl) rfl rfl (some_int (by dsimp only; omega)) rfl ⟨_, rfl, m6⟩
end Go.Proofs.YtbhnplghnhafiaaDoor.Tryd
