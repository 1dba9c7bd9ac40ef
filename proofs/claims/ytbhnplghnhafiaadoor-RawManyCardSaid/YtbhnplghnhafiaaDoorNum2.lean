import Derived.Test.YtbhnplghnhafiaaDoorNum1
/-! Numbers: GetFour, Get, GetText; small decimal texts. -/
set_option linter.unusedVariables false
namespace Go.Proofs.YtbhnplghnhafiaaDoor.Tryd
open Go Go.Vc

theorem or_add {a b : Nat} (k : Nat) (h : a < 2 ^ k) : a ||| b * 2 ^ k = a + b * 2 ^ k := by
  rw [Nat.or_comm, ← Nat.shiftLeft_eq, ← Nat.shiftLeft_add_eq_or_of_lt h, Nat.add_comm]
set_option maxHeartbeats 2000000 in
theorem getFour_has (A : Option Addr) (n c : Nat) (l : List UInt8) (w : World) (hl : SliceOf Ru8 w (.slice A n c) l) :
    Has Go.Proofs.Tryd.prog 83 #[.slice A n c] w (fun v w' => Chg [] w w' ∧ v = .int .u32 (getFourM l : Nat)) := by
  obtain ⟨rfl, hl1, hl2⟩ := hl.len
  unfold maxLen at hl2
  refine enter Go.Proofs.Tryd.func83 rfl rfl (by decide) rfl (e := [(0, .slice A l.length c)]) ⟨rfl, trivial⟩ ?_
  repeat (first | refine W_seq ?_ | refine W_region ?_ | refine Then_n ?_ | refine WL_nil ?_ | refine WL_some rfl rfl rfl ?_ | refine op_move rfl rfl ?_ | refine op_assign rfl rfl ?_ | refine op_len_slice T rfl rfl rfl rfl ?_)
  (refine op_lss rfl rfl rfl (fun hc => ?_) (fun hc => ?_))
  · have hz : getFourM l = 0 := by
      match l with
      | [] => rfl
      | [_] => rfl
      | [_, _] => rfl
      | [_, _, _] => rfl
      | _ :: _ :: _ :: _ :: _ => simp at *; omega
    rw [hz]
    repeat (first | refine W_seq ?_ | refine W_region ?_ | refine W_ret ?_ | refine Then_n ?_ | refine Then_r ?_ | refine WL_nil ?_ | refine W_condT rfl ?_ | refine WL_some rfl rfl rfl ?_ | refine op_assign rfl rfl ?_)
    exact post1 (.inl rfl) rfl rfl ⟨Chg.refl _ _, rfl⟩
  · obtain ⟨x0, x1, x2, x3, t, rfl⟩ : ∃ x0 x1 x2 x3 t, l = x0 :: x1 :: x2 :: x3 :: t := by
      match l with
      | [] => simp at *
      | [_] => simp at *
      | [_, _] => simp at *
      | [_, _, _] => simp at *
      | x0 :: x1 :: x2 :: x3 :: t => exact ⟨x0, x1, x2, x3, t, rfl⟩
    obtain ⟨ad, u0, rfl, hu0, rfl⟩ := hl.get (i := 0) rfl
    obtain ⟨ad1, u1, e1, hu1, rfl⟩ := hl.get (i := 1) rfl
    cases e1
    obtain ⟨ad2, u2, e2, hu2, rfl⟩ := hl.get (i := 2) rfl
    cases e2
    obtain ⟨ad3, u3, e3, hu3, rfl⟩ := hl.get (i := 3) rfl
    cases e3
    have b0 := x0.toNat_lt; have b1 := x1.toNat_lt; have b2 := x2.toNat_lt; have b3 := x3.toNat_lt
    simp only [List.length_cons] at *
    repeat (first | refine W_seq ?_ | refine W_skip ?_ | refine Then_n ?_ | refine WL_nil ?_ | refine W_condF rfl ?_)
    refine W_walk 22 [] fol (by kernel_rfl) (by kernel_rfl) ?_
    refine Walk.plain rfl (by intro val w_ hR hp; exact op_move rfl rfl ⟨Chg.refl _ _, rfl⟩) ?_; dsimp only [List.nil_append, List.cons_append]
    refine Walk.plain rfl (by intro val w_ hR hp; exact op_index_nat (i := 0) T rfl rfl rfl rfl rfl rfl (by omega) ⟨Chg.refl _ _, rfl⟩) ?_; dsimp only [List.nil_append, List.cons_append]
    refine Walk.plain rfl (by intro val w_ hR hp; exact op_load T rfl rfl rfl rfl (hR.cell0 (by assumption)) ⟨Chg.refl _ _, rfl⟩) ?_; dsimp only [List.nil_append, List.cons_append]
    refine Walk.plain rfl (by intro val w_ hR hp; exact op_convert_fit T rfl rfl rfl rfl (wrap_u32_in (by omega) (by omega)) ⟨Chg.refl _ _, rfl⟩) ?_; dsimp only [List.nil_append, List.cons_append]
    refine Walk.plain rfl (by intro val w_ hR hp; exact op_move rfl rfl ⟨Chg.refl _ _, rfl⟩) ?_; dsimp only [List.nil_append, List.cons_append]
    refine Walk.plain rfl (by intro val w_ hR hp; exact op_index_nat (i := 1) T rfl rfl rfl rfl rfl rfl (by omega) ⟨Chg.refl _ _, rfl⟩) ?_; dsimp only [List.nil_append, List.cons_append]
    refine Walk.plain rfl (by intro val w_ hR hp; exact op_load T rfl rfl rfl rfl (hR.cell0 (by assumption)) ⟨Chg.refl _ _, rfl⟩) ?_; dsimp only [List.nil_append, List.cons_append]
    refine Walk.plain rfl (by intro val w_ hR hp; exact op_convert_fit T rfl rfl rfl rfl (wrap_u32_in (by omega) (by omega)) ⟨Chg.refl _ _, rfl⟩) ?_; dsimp only [List.nil_append, List.cons_append]
    refine Walk.plain rfl (by intro val w_ hR hp; exact op_shl_nat (s := 8) rfl (by decide) rfl rfl rfl ⟨Chg.refl _ _, rfl⟩) ?_; dsimp only [List.nil_append, List.cons_append]
    refine Walk.plain rfl (by intro val w_ hR hp; exact op_or_nat rfl (show _ < 4294967296 by omega) (Nat.mod_lt _ (by decide)) rfl rfl rfl ⟨Chg.refl _ _, rfl⟩) ?_; dsimp only [List.nil_append, List.cons_append]
    refine Walk.plain rfl (by intro val w_ hR hp; exact op_move rfl rfl ⟨Chg.refl _ _, rfl⟩) ?_; dsimp only [List.nil_append, List.cons_append]
    refine Walk.plain rfl (by intro val w_ hR hp; exact op_index_nat (i := 2) T rfl rfl rfl rfl rfl rfl (by omega) ⟨Chg.refl _ _, rfl⟩) ?_; dsimp only [List.nil_append, List.cons_append]
    refine Walk.plain rfl (by intro val w_ hR hp; exact op_load T rfl rfl rfl rfl (hR.cell0 (by assumption)) ⟨Chg.refl _ _, rfl⟩) ?_; dsimp only [List.nil_append, List.cons_append]
    refine Walk.plain rfl (by intro val w_ hR hp; exact op_convert_fit T rfl rfl rfl rfl (wrap_u32_in (by omega) (by omega)) ⟨Chg.refl _ _, rfl⟩) ?_; dsimp only [List.nil_append, List.cons_append]
    refine Walk.plain rfl (by intro val w_ hR hp; exact op_shl_nat (s := 16) rfl (by decide) rfl rfl rfl ⟨Chg.refl _ _, rfl⟩) ?_; dsimp only [List.nil_append, List.cons_append]
    refine Walk.plain rfl (by intro val w_ hR hp; exact op_or_nat rfl (Nat.or_lt_two_pow (n := 32) (show _ < 4294967296 by omega) (Nat.mod_lt _ (by decide))) (Nat.mod_lt _ (by decide)) rfl rfl rfl ⟨Chg.refl _ _, rfl⟩) ?_; dsimp only [List.nil_append, List.cons_append]
    refine Walk.plain rfl (by intro val w_ hR hp; exact op_move rfl rfl ⟨Chg.refl _ _, rfl⟩) ?_; dsimp only [List.nil_append, List.cons_append]
    refine Walk.plain rfl (by intro val w_ hR hp; exact op_index_nat (i := 3) T rfl rfl rfl rfl rfl rfl (by omega) ⟨Chg.refl _ _, rfl⟩) ?_; dsimp only [List.nil_append, List.cons_append]
    refine Walk.plain rfl (by intro val w_ hR hp; exact op_load T rfl rfl rfl rfl (hR.cell0 (by assumption)) ⟨Chg.refl _ _, rfl⟩) ?_; dsimp only [List.nil_append, List.cons_append]
    refine Walk.plain rfl (by intro val w_ hR hp; exact op_convert_fit T rfl rfl rfl rfl (wrap_u32_in (by omega) (by omega)) ⟨Chg.refl _ _, rfl⟩) ?_; dsimp only [List.nil_append, List.cons_append]
    refine Walk.plain rfl (by intro val w_ hR hp; exact op_shl_nat (s := 24) rfl (by decide) rfl rfl rfl ⟨Chg.refl _ _, rfl⟩) ?_; dsimp only [List.nil_append, List.cons_append]
    refine Walk.plain rfl (by intro val w_ hR hp; exact op_or_nat rfl (Nat.or_lt_two_pow (n := 32) (Nat.or_lt_two_pow (n := 32) (show _ < 4294967296 by omega) (Nat.mod_lt _ (by decide))) (Nat.mod_lt _ (by decide))) (Nat.mod_lt _ (by decide)) rfl rfl rfl ⟨Chg.refl _ _, rfl⟩) ?_; dsimp only [List.nil_append, List.cons_append]
    refine Walk.fin ?_
    intro val w1 hc1 hp
    repeat (first | refine W_ret ?_ | refine Then_n ?_ | refine WL_nil ?_ | refine WL_some rfl rfl rfl ?_ | refine op_assign rfl rfl ?_)
    refine post1 (.inl rfl) rfl rfl ⟨hc1, ?_⟩
    refine congrArg (fun n : Nat => Value.int .u32 (n : Int)) ?_
    show ((x0.toNat ||| x1.toNat * 2 ^ 8 % 4294967296) ||| x2.toNat * 2 ^ 16 % 4294967296) ||| x3.toNat * 2 ^ 24 % 4294967296 = x0.toNat + 256 * x1.toNat + 65536 * x2.toNat + 16777216 * x3.toNat
    rw [Nat.mod_eq_of_lt (by omega), Nat.mod_eq_of_lt (by omega), Nat.mod_eq_of_lt (by omega), or_add 8 (by omega), or_add 16 (by omega), or_add 24 (by omega)]
    omega

theorem getGo_drop {L : List UInt8} {i acc : Nat} {c : UInt8} (hc : L[i]? = some c) : getGo i acc (L.drop i) = if 127 < c.toNat then getGo (i + 1) (getAcc acc c i) (L.drop (i + 1)) else if (0 < i ∧ c.toNat = 0) ∨ (i = 9 ∧ 1 < c.toNat) then (0, 0) else (getAcc acc c i, i + 1) := by
  have hi := (List.getElem?_eq_some_iff.1 hc).1
  rw [List.drop_eq_getElem_cons hi]
  have : L[i] = c := (List.getElem?_eq_some_iff.1 hc).2
  rw [this]
  rfl
set_option maxHeartbeats 2000000 in
theorem get_has (A : Option Addr) (n c : Nat) (l : List UInt8) (w : World) (hl : SliceOf Ru8 w (.slice A n c) l) :
    Has Go.Proofs.Tryd.prog 84 #[.slice A n c] w (fun v w' => w' = w ∧ v = .tuple #[.int .u64 ((getM l).1 : Nat), .int .i64 ((getM l).2 : Nat)]) := by
  obtain ⟨rfl, hl1, hl2⟩ := hl.len
  unfold maxLen at hl2
  refine enter Go.Proofs.Tryd.func84 rfl rfl (by decide) rfl (e := [(0, .slice A l.length c)]) ⟨rfl, trivial⟩ ?_
  repeat (first | refine W_seq ?_ | refine W_region ?_ | refine Then_n ?_ | refine WL_nil ?_ | refine WL_some rfl rfl rfl ?_ | refine op_move rfl rfl ?_ | refine op_assign rfl rfl ?_ | refine op_len_slice T rfl rfl rfl rfl ?_ | refine op_min rfl rfl rfl ?_)
  refine op_cut T (l := 0) (h' := min l.length 10) rfl rfl rfl rfl rfl rfl ⟨_, some_int (by omega)⟩ hl (Nat.zero_le _) (Nat.min_le_left _ _) (fun A' hA' => ?_)
  have hl10 := hA' w hl
  rw [show (l.take (min l.length 10)).drop 0 = l.take 10 from by rw [List.drop_zero, Nat.min_comm]; exact (List.take_eq_take_min).symm] at hl10
  clear hA'
  have hgm : getM l = getGo 0 0 ((l.take 10).drop 0) := rfl
  rw [hgm]
  clear hgm
  have hlen10 : (l.take 10).length ≤ 10 := by rw [List.length_take]; omega
  generalize l.take 10 = L at *
  generalize min l.length 10 - 0 = m at *
  obtain ⟨rfl, _, _⟩ := hl10.len
  repeat (first | refine W_block ?_ | refine Then_n ?_ | refine WL_nil ?_ | refine WL_some rfl rfl rfl ?_ | refine op_move rfl rfl ?_ | refine op_len_slice T rfl rfl rfl rfl ?_)
  refine W_loop (σ := Nat × Nat) (fun s => [(4, .int .u64 (s.2 : Int)), (11, .slice A' L.length (c - 0)), (12, .int .i64 L.length), (13, .int .i64 s.1)])
    (fun s w' => s.1 ≤ L.length ∧ s.2 < 18446744073709551616 ∧ getGo 0 0 (L.drop 0) = getGo s.1 s.2 (L.drop s.1) ∧ w' = w) (fun s => L.length - s.1) (0, 0) ⟨rfl, rfl, rfl, rfl, trivial⟩ ⟨Nat.zero_le _, by decide, rfl, rfl⟩ ?_
  rintro ⟨i, acc⟩ w1 ⟨h1, h2, h3, rfl⟩
  dsimp only at h1 h2 h3 ⊢
  repeat (first | refine W_seq ?_ | refine W_region ?_ | refine WL_some rfl rfl rfl ?_)
  (refine op_lss rfl rfl rfl (fun hc => ?_) (fun hc => ?_))
  · have hlt : i < L.length := by omega
    obtain ⟨ad, u, rfl, hu, rfl⟩ := hl10.get (i := i) (List.getElem?_eq_getElem hlt)
    have hg := getGo_drop (acc := acc) (List.getElem?_eq_getElem hlt)
    rw [h3]
    generalize L[i] = ch at *
    have hch := ch.toNat_lt
    repeat (first | refine W_seq ?_ | refine W_block ?_ | refine W_region ?_ | refine W_skip ?_ | refine Then_n ?_ | refine WL_nil ?_ | refine W_condT rfl ?_ | refine WL_some rfl rfl rfl ?_ | refine op_move rfl rfl ?_ | refine op_assign rfl rfl ?_ | refine op_index_nat T rfl rfl rfl rfl rfl rfl (by omega) ?_ | refine op_load T rfl rfl rfl rfl (by assumption) ?_)
    refine op_and_nat (k := .u8) (a := ch.toNat) (b := 127) rfl hch (by decide) rfl rfl rfl ?_
    repeat (refine WL_some rfl rfl rfl ?_)
    refine op_convert_fit T rfl rfl rfl rfl (wrap_u64_in (by omega) (by have := Nat.and_le_right (n := ch.toNat) (m := 127); omega)) ?_
    repeat (first | refine WL_some rfl rfl rfl ?_ | refine op_move rfl rfl ?_ | refine op_mul rfl rfl rfl (wrap_i64_in (by omega) (by omega)) ?_)
    refine op_shl_nat (k := .u64) (s := 7 * i) rfl (show 7 * i ≤ 64 by omega) rfl rfl (some_int (by omega)) ?_
    repeat (refine WL_some rfl rfl rfl ?_)
    refine op_or_nat (k := .u64) (a := acc) rfl h2 (Nat.mod_lt _ (by decide)) rfl rfl rfl ?_
    have ha : acc ||| (ch.toNat &&& 127) * 2 ^ (7 * i) % 2 ^ IntKind.u64.bits = getAcc acc ch i := rfl
    rw [ha]
    have hal := getAcc_lt (c := ch) (i := i) h2
    by_cases hbig : 127 < ch.toNat
    · rw [if_pos hbig] at hg
      rw [hg]
      repeat (first | refine W_seq ?_ | refine W_region ?_ | refine W_exit ?_ | refine Then_n ?_ | refine Then_x ?_ | refine InBlock_hit ?_ | refine WL_nil ?_ | refine W_condT rfl ?_ | refine WL_some rfl rfl rfl ?_ | refine op_move rfl rfl ?_ | refine op_assign rfl rfl ?_ | refine op_add rfl rfl rfl (wrap_i64_in (by omega) (by omega)) ?_ | refine op_gtr rfl rfl rfl (fun hc => ?_) (fun hc => False.elim (by omega)))
      refine Round_n (i + 1, getAcc acc ch i) ⟨rfl, rfl, rfl, rfl, trivial⟩ ⟨by dsimp only; omega, hal, rfl, rfl⟩ (by dsimp only; omega)
    · rw [if_neg hbig] at hg
      by_cases hbad : (0 < i ∧ ch.toNat = 0) ∨ (i = 9 ∧ 1 < ch.toNat)
      · rw [if_pos hbad] at hg
        rw [hg]
        by_cases h0 : ch.toNat = 0
        · have : 0 < i := by omega
          repeat (first | refine W_seq ?_ | refine W_region ?_ | refine W_skip ?_ | refine W_exit ?_ | refine W_ret ?_ | refine Then_n ?_ | refine Then_x ?_ | refine InBlock_hit ?_ | refine InBlock_miss rfl ?_ | refine Round_x ?_ | refine WL_nil ?_ | refine W_condT rfl ?_ | refine W_condF rfl ?_ | refine WL_some rfl rfl rfl ?_ | refine WL_guardT rfl rfl rfl rfl ?_ | refine WL_guardF rfl rfl rfl rfl rfl ?_ | refine WL_guardU rfl rfl rfl rfl ?_ | refine op_move rfl rfl ?_ | refine op_assign rfl rfl ?_ | refine op_pick rfl rfl rfl rfl ?_ | refine op_gtr rfl rfl rfl (fun hc => ?_) (fun hc => False.elim (by omega)) | refine op_gtr rfl rfl rfl (fun hc => False.elim (by omega)) (fun hc => ?_) | refine op_eql rfl rfl rfl (fun hc => ?_) (fun hc => False.elim (by omega)))
          exact post2 (.inl rfl) rfl rfl rfl ⟨rfl, rfl⟩
        · have : i = 9 := by omega
          repeat (first | refine W_seq ?_ | refine W_region ?_ | refine W_skip ?_ | refine W_exit ?_ | refine W_ret ?_ | refine Then_n ?_ | refine Then_x ?_ | refine InBlock_hit ?_ | refine InBlock_miss rfl ?_ | refine Round_x ?_ | refine WL_nil ?_ | refine W_condT rfl ?_ | refine W_condF rfl ?_ | refine WL_some rfl rfl rfl ?_ | refine WL_guardT rfl rfl rfl rfl ?_ | refine op_move rfl rfl ?_ | refine op_assign rfl rfl ?_ | refine op_pick rfl rfl rfl rfl ?_ | refine op_gtr rfl rfl rfl (fun hc => ?_) (fun hc => False.elim (by omega)) | refine op_gtr rfl rfl rfl (fun hc => False.elim (by omega)) (fun hc => ?_) | refine op_eql rfl rfl rfl (fun hc => ?_) (fun hc => False.elim (by omega)) | refine op_eql rfl rfl rfl (fun hc => False.elim (by omega)) (fun hc => ?_))
          exact post2 (.inl rfl) rfl rfl rfl ⟨rfl, rfl⟩
      · rw [if_neg hbad] at hg
        rw [hg]
        by_cases h0 : 0 < i
        · by_cases h9 : i = 9
          · repeat (first | refine W_seq ?_ | refine W_region ?_ | refine W_skip ?_ | refine W_ret ?_ | refine Then_n ?_ | refine Then_r ?_ | refine InBlock_r ?_ | refine Round_r ?_ | refine WL_nil ?_ | refine W_condF rfl ?_ | refine WL_some rfl rfl rfl ?_ | refine WL_guardT rfl rfl rfl rfl ?_ | refine op_move rfl rfl ?_ | refine op_assign rfl rfl ?_ | refine op_pick rfl rfl rfl rfl ?_ | refine op_add rfl rfl rfl (wrap_i64_in (by omega) (by omega)) ?_ | refine op_gtr rfl rfl rfl (fun hc => ?_) (fun hc => False.elim (by omega)) | refine op_gtr rfl rfl rfl (fun hc => False.elim (by omega)) (fun hc => ?_) | refine op_eql rfl rfl rfl (fun hc => ?_) (fun hc => False.elim (by omega)) | refine op_eql rfl rfl rfl (fun hc => False.elim (by omega)) (fun hc => ?_))
            exact post2 (.inl rfl) rfl rfl rfl ⟨rfl, rfl⟩
          · repeat (first | refine W_seq ?_ | refine W_region ?_ | refine W_skip ?_ | refine W_ret ?_ | refine Then_n ?_ | refine Then_r ?_ | refine InBlock_r ?_ | refine Round_r ?_ | refine WL_nil ?_ | refine W_condF rfl ?_ | refine WL_some rfl rfl rfl ?_ | refine WL_guardT rfl rfl rfl rfl ?_ | refine WL_guardF rfl rfl rfl rfl rfl ?_ | refine op_move rfl rfl ?_ | refine op_assign rfl rfl ?_ | refine op_pick rfl rfl rfl rfl ?_ | refine op_add rfl rfl rfl (wrap_i64_in (by omega) (by omega)) ?_ | refine op_gtr rfl rfl rfl (fun hc => ?_) (fun hc => False.elim (by omega)) | refine op_gtr rfl rfl rfl (fun hc => False.elim (by omega)) (fun hc => ?_) | refine op_eql rfl rfl rfl (fun hc => False.elim (by omega)) (fun hc => ?_))
            exact post2 (.inl rfl) rfl rfl rfl ⟨rfl, rfl⟩
        · repeat (first | refine W_seq ?_ | refine W_region ?_ | refine W_skip ?_ | refine W_ret ?_ | refine Then_n ?_ | refine Then_r ?_ | refine InBlock_r ?_ | refine Round_r ?_ | refine WL_nil ?_ | refine W_condF rfl ?_ | refine WL_some rfl rfl rfl ?_ | refine WL_guardT rfl rfl rfl rfl ?_ | refine WL_guardF rfl rfl rfl rfl rfl ?_ | refine op_move rfl rfl ?_ | refine op_assign rfl rfl ?_ | refine op_pick rfl rfl rfl rfl ?_ | refine op_add rfl rfl rfl (wrap_i64_in (by omega) (by omega)) ?_ | refine op_gtr rfl rfl rfl (fun hc => False.elim (by omega)) (fun hc => ?_) | refine op_eql rfl rfl rfl (fun hc => False.elim (by omega)) (fun hc => ?_))
          exact post2 (.inl rfl) rfl rfl rfl ⟨rfl, rfl⟩
  · obtain rfl : i = L.length := by omega
    rw [h3, List.drop_length]
    repeat (first | refine W_seq ?_ | refine W_region ?_ | refine W_exit ?_ | refine W_ret ?_ | refine Then_n ?_ | refine Then_x ?_ | refine InBlock_hit ?_ | refine Round_x ?_ | refine WL_nil ?_ | refine W_condF rfl ?_ | refine WL_some rfl rfl rfl ?_ | refine op_assign rfl rfl ?_)
    exact post2 (.inl rfl) rfl rfl rfl ⟨rfl, rfl⟩
set_option maxHeartbeats 1000000 in
theorem getText_has (A : Option Addr) (n c : Nat) (l : List UInt8) (w : World) (hl : SliceOf Ru8 w (.slice A n c) l) :
    Has Go.Proofs.Tryd.prog 86 #[.slice A n c] w (fun v w' => w' = w ∧ v = .tuple #[.string (str (getTextM l).1), .int .i64 ((getTextM l).2 : Nat)]) := by
  obtain ⟨rfl, hl1, hl2⟩ := hl.len
  unfold maxLen at hl2
  have hb := getM_bound l
  refine enter Go.Proofs.Tryd.func86 rfl rfl (by decide) rfl (e := [(0, .slice A l.length c)]) ⟨rfl, trivial⟩ ?_
  repeat (first | refine W_seq ?_ | refine W_region ?_ | refine Then_n ?_ | refine WL_nil ?_ | refine WL_some rfl rfl rfl ?_ | refine op_move rfl rfl ?_ | refine op_assign rfl rfl ?_)
  refine op_call rfl rfl rfl (get_has A l.length c l w hl) ?_
  rintro _ _ ⟨rfl, rfl⟩
  unfold getTextM
  generalize getM l = q at *
  obtain ⟨n, k⟩ := q
  dsimp only at *
  by_cases hk : k = 0
  · rw [if_pos (.inl hk)]
    repeat (first | refine W_seq ?_ | refine W_region ?_ | refine W_ret ?_ | refine Then_n ?_ | refine Then_r ?_ | refine WL_nil ?_ | refine W_condT rfl ?_ | refine WL_some rfl rfl rfl ?_ | refine WL_guardF rfl rfl rfl rfl rfl ?_ | refine op_move rfl rfl ?_ | refine op_assign rfl rfl ?_ | refine op_pick rfl rfl rfl rfl ?_ | refine op_extract rfl rfl rfl ?_ | refine op_eql rfl rfl rfl (fun hc => ?_) (fun hc => False.elim (by omega)))
    exact post2 (.inl rfl) rfl rfl rfl ⟨rfl, rfl⟩
  · by_cases hn : l.length - k < n
    · rw [if_pos (.inr hn)]
      repeat (first | refine W_seq ?_ | refine W_region ?_ | refine Then_n ?_ | refine WL_nil ?_ | refine WL_some rfl rfl rfl ?_ | refine WL_guardT rfl rfl rfl rfl ?_ | refine op_move rfl rfl ?_ | refine op_assign rfl rfl ?_ | refine op_len_slice T rfl rfl rfl rfl ?_ | refine op_subt rfl rfl rfl (wrap_i64_in (by omega) (by omega)) ?_ | refine op_extract rfl rfl rfl ?_ | refine op_eql rfl rfl rfl (fun hc => False.elim (by omega)) (fun hc => ?_))
      refine op_convert_fit T rfl rfl rfl rfl (wrap_u64_in (by omega) (by omega)) ?_
      repeat (first | refine W_seq ?_ | refine W_region ?_ | refine W_ret ?_ | refine Then_n ?_ | refine Then_r ?_ | refine WL_nil ?_ | refine W_condT rfl ?_ | refine WL_some rfl rfl rfl ?_ | refine WL_guardT rfl rfl rfl rfl ?_ | refine op_assign rfl rfl ?_ | refine op_pick rfl rfl rfl rfl ?_ | refine op_gtr rfl rfl rfl (fun hc => ?_) (fun hc => False.elim (by omega)))
      exact post2 (.inl rfl) rfl rfl rfl ⟨rfl, rfl⟩
    · rw [if_neg (by omega)]
      repeat (first | refine W_seq ?_ | refine W_region ?_ | refine Then_n ?_ | refine WL_nil ?_ | refine WL_some rfl rfl rfl ?_ | refine WL_guardT rfl rfl rfl rfl ?_ | refine op_move rfl rfl ?_ | refine op_assign rfl rfl ?_ | refine op_len_slice T rfl rfl rfl rfl ?_ | refine op_subt rfl rfl rfl (wrap_i64_in (by omega) (by omega)) ?_ | refine op_extract rfl rfl rfl ?_ | refine op_eql rfl rfl rfl (fun hc => False.elim (by omega)) (fun hc => ?_))
      refine op_convert_fit T rfl rfl rfl rfl (wrap_u64_in (by omega) (by omega)) ?_
      repeat (first | refine W_seq ?_ | refine W_region ?_ | refine W_skip ?_ | refine Then_n ?_ | refine WL_nil ?_ | refine W_condF rfl ?_ | refine WL_some rfl rfl rfl ?_ | refine WL_guardT rfl rfl rfl rfl ?_ | refine op_move rfl rfl ?_ | refine op_pick rfl rfl rfl rfl ?_ | refine op_gtr rfl rfl rfl (fun hc => False.elim (by omega)) (fun hc => ?_))
      refine op_convert_fit T rfl rfl rfl rfl (wrap_i64_in (by omega) (by omega)) ?_
      repeat (first | refine WL_some rfl rfl rfl ?_ | refine op_add rfl rfl rfl (wrap_i64_in (by omega) (by omega)) ?_)
      refine op_cut T (l := k) (h' := k + n) rfl rfl rfl rfl rfl ⟨_, rfl⟩ ⟨_, some_int (by omega)⟩ hl (by omega) (by omega) (fun A' hA' => ?_)
      have hs := hA' _ hl
      rw [show (l.take (k + n)).drop k = (l.drop k).take n from by rw [List.drop_take]; congr 1; omega] at hs
      repeat (refine WL_some rfl rfl rfl ?_)
      refine op_string T rfl rfl rfl rfl rfl hs ?_
      repeat (first | refine WL_some rfl rfl rfl ?_ | refine op_move rfl rfl ?_)
      refine op_convert_fit T rfl rfl rfl rfl (wrap_i64_in (by omega) (by omega)) ?_
      repeat (first | refine W_ret ?_ | refine Then_n ?_ | refine WL_nil ?_ | refine WL_some rfl rfl rfl ?_ | refine op_assign rfl rfl ?_ | refine op_add rfl rfl rfl (wrap_i64_in (by omega) (by omega)) ?_)
      exact post2 (.inl rfl) rfl rfl (some_int (by omega)) ⟨rfl, rfl⟩
/-- One decimal digit. -/
theorem small_has (n : Nat) (w : World) (hn : n < 10) : Has Go.Proofs.Tryd.prog 76 #[.int .i64 (n : Int)] w (fun v w' => w' = w ∧ v = .string (str [UInt8.ofNat (48 + n)])) := by
  refine enter Go.Proofs.Tryd.func76 rfl rfl (by decide) rfl (e := [(0, .int .i64 (n : Int))]) ⟨rfl, trivial⟩ ?_
  repeat (first | refine W_seq ?_ | refine W_region ?_ | refine Then_n ?_ | refine WL_nil ?_ | refine W_condT rfl ?_ | refine WL_some rfl rfl rfl ?_ | refine op_move rfl rfl ?_ | refine op_assign rfl rfl ?_ | refine op_add rfl rfl rfl (wrap_i64_in (by omega) (by omega)) ?_ | refine op_lss rfl rfl rfl (fun hc => ?_) (fun hc => False.elim (by omega)))
  refine op_slice_str T (l := n) (h' := n + 1) rfl rfl rfl rfl (some_int (by omega)) (by omega) (by simp; omega) ?_
  repeat (first | refine W_ret ?_ | refine Then_n ?_ | refine Then_r ?_ | refine WL_nil ?_ | refine WL_some rfl rfl rfl ?_ | refine op_assign rfl rfl ?_)
  refine post1 (.inl rfl) rfl rfl ⟨rfl, ?_⟩
  match n, hn with
  | 0, _ => rfl
  | 1, _ => rfl
  | 2, _ => rfl
  | 3, _ => rfl
  | 4, _ => rfl
  | 5, _ => rfl
  | 6, _ => rfl
  | 7, _ => rfl
  | 8, _ => rfl
  | 9, _ => rfl
theorem formatInt_has' (n : Nat) (w : World) (hn : n < 10) : Has Go.Proofs.Tryd.prog 61 #[.int .i64 (n : Int), .int .i64 10] w (fun v w' => w' = w ∧ v = .string (str [UInt8.ofNat (48 + n)])) := by
  refine enter Go.Proofs.Tryd.func61 rfl rfl (by decide) rfl (e := [(0, .int .i64 (n : Int)), (1, .int .i64 10)]) ⟨rfl, rfl, trivial⟩ ?_
  repeat (first | refine W_seq ?_ | refine W_region ?_ | refine Then_n ?_ | refine WL_nil ?_ | refine W_condT rfl ?_ | refine WL_some rfl rfl rfl ?_ | refine WL_guardT rfl rfl rfl rfl ?_ | refine op_move rfl rfl ?_ | refine op_assign rfl rfl ?_ | refine op_pick rfl rfl rfl rfl ?_ | refine op_lss rfl rfl rfl (fun hc => ?_) (fun hc => False.elim (by omega)) | refine op_leq rfl rfl rfl (fun hc => ?_) (fun hc => False.elim (by omega)) | refine op_eql rfl rfl rfl (fun hc => ?_) (fun hc => False.elim (by omega)))
  refine op_call rfl rfl rfl (small_has n w hn) ?_
  rintro _ _ ⟨rfl, rfl⟩
  repeat (first | refine W_ret ?_ | refine Then_n ?_ | refine Then_r ?_ | refine WL_nil ?_ | refine WL_some rfl rfl rfl ?_ | refine op_assign rfl rfl ?_)
  exact post1 (.inl rfl) rfl rfl ⟨rfl, rfl⟩
theorem formatInt_has (n : Nat) (w : World) (hn : n < 10) : Has Go.Proofs.Tryd.prog 34 #[.int .i64 (n : Int), .int .i64 10] w (fun v w' => w' = w ∧ v = .string (str [UInt8.ofNat (48 + n)])) := by
  refine enter Go.Proofs.Tryd.func34 rfl rfl (by decide) rfl (e := [(0, .int .i64 (n : Int)), (1, .int .i64 10)]) ⟨rfl, rfl, trivial⟩ ?_
  repeat (first | refine W_seq ?_ | refine W_region ?_ | refine Then_n ?_ | refine WL_nil ?_ | refine WL_some rfl rfl rfl ?_ | refine op_move rfl rfl ?_ | refine op_assign rfl rfl ?_)
  refine op_call rfl rfl rfl (formatInt_has' n w hn) ?_
  rintro _ _ ⟨rfl, rfl⟩
  repeat (first | refine W_ret ?_ | refine Then_n ?_ | refine WL_nil ?_ | refine WL_some rfl rfl rfl ?_ | refine op_assign rfl rfl ?_)
  exact post1 (.inl rfl) rfl rfl ⟨rfl, rfl⟩
end Go.Proofs.YtbhnplghnhafiaaDoor.Tryd
