/- Part 2 of the texts that the law of the last one leans on: steps of the walk and contracts of functions. Its conditions stand in each theorem. -/
import Derived.Test.YtbhnplghnhafiaaGreatDoorRawAnyK1
/-! Numbers: GetFour, Get, GetText; small decimal texts. -/
set_option linter.unusedVariables false
namespace Go.Proofs.YtbhnplghnhafiaaGreatDoor.Tryz
open Go Go.Vc

theorem or_add {a b : Nat} (k : Nat) (h : a < 2 ^ k) : a ||| b * 2 ^ k = a + b * 2 ^ k := by
  rw [Nat.or_comm, ← Nat.shiftLeft_eq, ← Nat.shiftLeft_add_eq_or_of_lt h, Nat.add_comm]
set_option maxHeartbeats 2000000 in
theorem getFour_has (A : Option Addr) (n c : Nat) (l : List UInt8) (w : World) (hl : SliceOf Ru8 w (.slice A n c) l) :
    Has Go.Proofs.Tryz.prog 80 #[.slice A n c] w (fun v w' => Chg [] w w' ∧ v = .int .u32 (getFourM l : Nat)) := by
  obtain ⟨rfl, hl1, hl2⟩ := hl.len
  unfold maxLen at hl2
  refine enter Go.Proofs.Tryz.func80 rfl rfl (by decide) rfl (e := [(0, .slice A l.length c)]) ⟨rfl, trivial⟩ ?_
  repeat (first | refine W_seq ?_ | refine W_region ?_ | refine Then_n ?_ | refine WL_nil ?_ | refine WL_some rfl rfl rfl ?_ | refine op_move rfl rfl ?_ | refine op_assign rfl rfl ?_ | refine op_len_slice T rfl rfl rfl rfl ?_)
  (refine op_lss rfl rfl rfl (fun hc => ?_) (fun hc => ?_))
  · have hz : getFourM l = 0 := by
      match l with
      | [] => rfl
      | [_] => rfl
      | [_, _] => rfl
      | [_, _, _] => rfl
      | _ :: _ :: _ :: _ :: _ => simp at *; omega
    rw [hz]
    repeat (first | refine W_seq ?_ | refine W_region ?_ | refine W_ret ?_ | refine Then_n ?_ | refine Then_r ?_ | refine WL_nil ?_ | refine W_condT rfl ?_ | refine WL_some rfl rfl rfl ?_ | refine op_assign rfl rfl ?_)
    exact post1 (.inl rfl) rfl rfl ⟨Chg.refl _ _, rfl⟩
  · obtain ⟨x0, x1, x2, x3, t, rfl⟩ : ∃ x0 x1 x2 x3 t, l = x0 :: x1 :: x2 :: x3 :: t := by
      match l with
      | [] => simp at *
      | [_] => simp at *
      | [_, _] => simp at *
      | [_, _, _] => simp at *
      | x0 :: x1 :: x2 :: x3 :: t => exact ⟨x0, x1, x2, x3, t, rfl⟩
    obtain ⟨ad, u0, rfl, hu0, rfl⟩ := hl.get (i := 0) rfl
    obtain ⟨ad1, u1, e1, hu1, rfl⟩ := hl.get (i := 1) rfl
    cases e1
    obtain ⟨ad2, u2, e2, hu2, rfl⟩ := hl.get (i := 2) rfl
    cases e2
    obtain ⟨ad3, u3, e3, hu3, rfl⟩ := hl.get (i := 3) rfl
    cases e3
    have b0 := x0.toNat_lt; have b1 := x1.toNat_lt; have b2 := x2.toNat_lt; have b3 := x3.toNat_lt
    simp only [List.length_cons] at *
    repeat (first | refine W_seq ?_ | refine W_skip ?_ | refine Then_n ?_ | refine WL_nil ?_ | refine W_condF rfl ?_)
    refine W_walk 22 [] fol (by kernel_rfl) (by kernel_rfl) ?_
    refine Walk.plain rfl (by intro val w_ hR hp; exact op_move rfl rfl ⟨Chg.refl _ _, rfl⟩) ?_; dsimp only [List.nil_append, List.cons_append]
    refine Walk.plain rfl (by intro val w_ hR hp; exact op_index_nat (i := 0) T rfl rfl rfl rfl rfl rfl (by omega) ⟨Chg.refl _ _, rfl⟩) ?_; dsimp only [List.nil_append, List.cons_append]
    refine Walk.plain rfl (by intro val w_ hR hp; exact op_load T rfl rfl rfl rfl (hR.cell0 (by assumption)) ⟨Chg.refl _ _, rfl⟩) ?_; dsimp only [List.nil_append, List.cons_append]
    refine Walk.plain rfl (by intro val w_ hR hp; exact op_convert_fit T rfl rfl rfl rfl (wrap_u32_in (by omega) (by omega)) ⟨Chg.refl _ _, rfl⟩) ?_; dsimp only [List.nil_append, List.cons_append]
    refine Walk.plain rfl (by intro val w_ hR hp; exact op_move rfl rfl ⟨Chg.refl _ _, rfl⟩) ?_; dsimp only [List.nil_append, List.cons_append]
    refine Walk.plain rfl (by intro val w_ hR hp; exact op_index_nat (i := 1) T rfl rfl rfl rfl rfl rfl (by omega) ⟨Chg.refl _ _, rfl⟩) ?_; dsimp only [List.nil_append, List.cons_append]
    refine Walk.plain rfl (by intro val w_ hR hp; exact op_load T rfl rfl rfl rfl (hR.cell0 (by assumption)) ⟨Chg.refl _ _, rfl⟩) ?_; dsimp only [List.nil_append, List.cons_append]
    refine Walk.plain rfl (by intro val w_ hR hp; exact op_convert_fit T rfl rfl rfl rfl (wrap_u32_in (by omega) (by omega)) ⟨Chg.refl _ _, rfl⟩) ?_; dsimp only [List.nil_append, List.cons_append]
    refine Walk.plain rfl (by intro val w_ hR hp; exact op_shl_nat (s := 8) rfl (by decide) rfl rfl rfl ⟨Chg.refl _ _, rfl⟩) ?_; dsimp only [List.nil_append, List.cons_append]
    refine Walk.plain rfl (by intro val w_ hR hp; exact op_or_nat rfl (show _ < 4294967296 by omega) (Nat.mod_lt _ (by decide)) rfl rfl rfl ⟨Chg.refl _ _, rfl⟩) ?_; dsimp only [List.nil_append, List.cons_append]
    refine Walk.plain rfl (by intro val w_ hR hp; exact op_move rfl rfl ⟨Chg.refl _ _, rfl⟩) ?_; dsimp only [List.nil_append, List.cons_append]
    refine Walk.plain rfl (by intro val w_ hR hp; exact op_index_nat (i := 2) T rfl rfl rfl rfl rfl rfl (by omega) ⟨Chg.refl _ _, rfl⟩) ?_; dsimp only [List.nil_append, List.cons_append]
    refine Walk.plain rfl (by intro val w_ hR hp; exact op_load T rfl rfl rfl rfl (hR.cell0 (by assumption)) ⟨Chg.refl _ _, rfl⟩) ?_; dsimp only [List.nil_append, List.cons_append]
    refine Walk.plain rfl (by intro val w_ hR hp; exact op_convert_fit T rfl rfl rfl rfl (wrap_u32_in (by omega) (by omega)) ⟨Chg.refl _ _, rfl⟩) ?_; dsimp only [List.nil_append, List.cons_append]
    refine Walk.plain rfl (by intro val w_ hR hp; exact op_shl_nat (s := 16) rfl (by decide) rfl rfl rfl ⟨Chg.refl _ _, rfl⟩) ?_; dsimp only [List.nil_append, List.cons_append]
    refine Walk.plain rfl (by intro val w_ hR hp; exact op_or_nat rfl (Nat.or_lt_two_pow (n := 32) (show _ < 4294967296 by omega) (Nat.mod_lt _ (by decide))) (Nat.mod_lt _ (by decide)) rfl rfl rfl ⟨Chg.refl _ _, rfl⟩) ?_; dsimp only [List.nil_append, List.cons_append]
    refine Walk.plain rfl (by intro val w_ hR hp; exact op_move rfl rfl ⟨Chg.refl _ _, rfl⟩) ?_; dsimp only [List.nil_append, List.cons_append]
    refine Walk.plain rfl (by intro val w_ hR hp; exact op_index_nat (i := 3) T rfl rfl rfl rfl rfl rfl (by omega) ⟨Chg.refl _ _, rfl⟩) ?_; dsimp only [List.nil_append, List.cons_append]
    refine Walk.plain rfl (by intro val w_ hR hp; exact op_load T rfl rfl rfl rfl (hR.cell0 (by assumption)) ⟨Chg.refl _ _, rfl⟩) ?_; dsimp only [List.nil_append, List.cons_append]
    refine Walk.plain rfl (by intro val w_ hR hp; exact op_convert_fit T rfl rfl rfl rfl (wrap_u32_in (by omega) (by omega)) ⟨Chg.refl _ _, rfl⟩) ?_; dsimp only [List.nil_append, List.cons_append]
    refine Walk.plain rfl (by intro val w_ hR hp; exact op_shl_nat (s := 24) rfl (by decide) rfl rfl rfl ⟨Chg.refl _ _, rfl⟩) ?_; dsimp only [List.nil_append, List.cons_append]
    refine Walk.plain rfl (by intro val w_ hR hp; exact op_or_nat rfl (Nat.or_lt_two_pow (n := 32) (Nat.or_lt_two_pow (n := 32) (show _ < 4294967296 by omega) (Nat.mod_lt _ (by decide))) (Nat.mod_lt _ (by decide))) (Nat.mod_lt _ (by decide)) rfl rfl rfl ⟨Chg.refl _ _, rfl⟩) ?_; dsimp only [List.nil_append, List.cons_append]
    refine Walk.fin ?_
    intro val w1 hc1 hp
    repeat (first | refine W_ret ?_ | refine Then_n ?_ | refine WL_nil ?_ | refine WL_some rfl rfl rfl ?_ | refine op_assign rfl rfl ?_)
    refine post1 (.inl rfl) rfl rfl ⟨hc1, ?_⟩
    refine congrArg (fun n : Nat => Value.int .u32 (n : Int)) ?_
    show ((x0.toNat ||| x1.toNat * 2 ^ 8 % 4294967296) ||| x2.toNat * 2 ^ 16 % 4294967296) ||| x3.toNat * 2 ^ 24 % 4294967296 = x0.toNat + 256 * x1.toNat + 65536 * x2.toNat + 16777216 * x3.toNat
    rw [Nat.mod_eq_of_lt (by omega), Nat.mod_eq_of_lt (by omega), Nat.mod_eq_of_lt (by omega), or_add 8 (by omega), or_add 16 (by omega), or_add 24 (by omega)]
    omega

theorem getGo_drop {L : List UInt8} {i acc : Nat} {c : UInt8} (hc : L[i]? = some c) : getGo i acc (L.drop i) = if 127 < c.toNat then getGo (i + 1) (getAcc acc c i) (L.drop (i + 1)) else if (0 < i ∧ c.toNat = 0) ∨ (i = 9 ∧ 1 < c.toNat) then (0, 0) else (getAcc acc c i, i + 1) := by
  have hi := (List.getElem?_eq_some_iff.1 hc).1
  rw [List.drop_eq_getElem_cons hi]
  have : L[i] = c := (List.getElem?_eq_some_iff.1 hc).2
  rw [this]
  rfl
set_option maxHeartbeats 2000000 in
theorem get_has (A : Option Addr) (n c : Nat) (l : List UInt8) (w : World) (hl : SliceOf Ru8 w (.slice A n c) l) :
    Has Go.Proofs.Tryz.prog 81 #[.slice A n c] w (fun v w' => w' = w ∧ v = .tuple #[.int .u64 ((getM l).1 : Nat), .int .i64 ((getM l).2 : Nat)]) := by
  obtain ⟨rfl, hl1, hl2⟩ := hl.len
  unfold maxLen at hl2
  refine enter Go.Proofs.Tryz.func81 rfl rfl (by decide) rfl (e := [(0, .slice A l.length c)]) ⟨rfl, trivial⟩ ?_
  repeat (first | refine W_seq ?_ | refine W_region ?_ | refine Then_n ?_ | refine WL_nil ?_ | refine WL_some rfl rfl rfl ?_ | refine op_move rfl rfl ?_ | refine op_assign rfl rfl ?_ | refine op_len_slice T rfl rfl rfl rfl ?_ | refine op_min rfl rfl rfl ?_)
  refine op_cut T (l := 0) (h' := min l.length 10) rfl rfl rfl rfl rfl rfl ⟨_, some_int (by omega)⟩ hl (Nat.zero_le _) (Nat.min_le_left _ _) (fun A' hA' => ?_)
  have hl10 := hA' w hl
  rw [show (l.take (min l.length 10)).drop 0 = l.take 10 from by rw [List.drop_zero, Nat.min_comm]; exact (List.take_eq_take_min).symm] at hl10
  clear hA'
  have hgm : getM l = getGo 0 0 ((l.take 10).drop 0) := rfl
  rw [hgm]
  clear hgm
  have hlen10 : (l.take 10).length ≤ 10 := by rw [List.length_take]; omega
  generalize l.take 10 = L at *
  generalize min l.length 10 - 0 = m at *
  obtain ⟨rfl, _, _⟩ := hl10.len
  repeat (first | refine W_block ?_ | refine Then_n ?_ | refine WL_nil ?_ | refine WL_some rfl rfl rfl ?_ | refine op_move rfl rfl ?_ | refine op_len_slice T rfl rfl rfl rfl ?_)
  refine W_loop (σ := Nat × Nat) (fun s => [(4, .int .u64 (s.2 : Int)), (11, .slice A' L.length (c - 0)), (12, .int .i64 L.length), (13, .int .i64 s.1)])
    (fun s w' => s.1 ≤ L.length ∧ s.2 < 18446744073709551616 ∧ getGo 0 0 (L.drop 0) = getGo s.1 s.2 (L.drop s.1) ∧ w' = w) (fun s => L.length - s.1) (0, 0) ⟨rfl, rfl, rfl, rfl, trivial⟩ ⟨Nat.zero_le _, by decide, rfl, rfl⟩ ?_
  rintro ⟨i, acc⟩ w1 ⟨h1, h2, h3, rfl⟩
  dsimp only at h1 h2 h3 ⊢
  repeat (first | refine W_seq ?_ | refine W_region ?_ | refine WL_some rfl rfl rfl ?_)
  (refine op_lss rfl rfl rfl (fun hc => ?_) (fun hc => ?_))
  · have hlt : i < L.length := by omega
    obtain ⟨ad, u, rfl, hu, rfl⟩ := hl10.get (i := i) (List.getElem?_eq_getElem hlt)
    have hg := getGo_drop (acc := acc) (List.getElem?_eq_getElem hlt)
    rw [h3]
    generalize L[i] = ch at *
    have hch := ch.toNat_lt
    repeat (first | refine W_seq ?_ | refine W_block ?_ | refine W_region ?_ | refine W_skip ?_ | refine Then_n ?_ | refine WL_nil ?_ | refine W_condT rfl ?_ | refine WL_some rfl rfl rfl ?_ | refine op_move rfl rfl ?_ | refine op_assign rfl rfl ?_ | refine op_index_nat T rfl rfl rfl rfl rfl rfl (by omega) ?_ | refine op_load T rfl rfl rfl rfl (by assumption) ?_)
    refine op_and_nat (k := .u8) (a := ch.toNat) (b := 127) rfl hch (by decide) rfl rfl rfl ?_
    repeat (refine WL_some rfl rfl rfl ?_)
    refine op_convert_fit T rfl rfl rfl rfl (wrap_u64_in (by omega) (by have := Nat.and_le_right (n := ch.toNat) (m := 127); omega)) ?_
    repeat (first | refine WL_some rfl rfl rfl ?_ | refine op_move rfl rfl ?_ | refine op_mul rfl rfl rfl (wrap_i64_in (by omega) (by omega)) ?_)
    refine op_shl_nat (k := .u64) (s := 7 * i) rfl (show 7 * i ≤ 64 by omega) rfl rfl (some_int (by omega)) ?_
    repeat (refine WL_some rfl rfl rfl ?_)
    refine op_or_nat (k := .u64) (a := acc) rfl h2 (Nat.mod_lt _ (by decide)) rfl rfl rfl ?_
    have ha : acc ||| (ch.toNat &&& 127) * 2 ^ (7 * i) % 2 ^ IntKind.u64.bits = getAcc acc ch i := rfl
    rw [ha]
    have hal := getAcc_lt (c := ch) (i := i) h2
    by_cases hbig : 127 < ch.toNat
    · rw [if_pos hbig] at hg
      rw [hg]
      repeat (first | refine W_seq ?_ | refine W_region ?_ | refine W_exit ?_ | refine Then_n ?_ | refine Then_x ?_ | refine InBlock_hit ?_ | refine WL_nil ?_ | refine W_condT rfl ?_ | refine WL_some rfl rfl rfl ?_ | refine op_move rfl rfl ?_ | refine op_assign rfl rfl ?_ | refine op_add rfl rfl rfl (wrap_i64_in (by omega) (by omega)) ?_ | refine op_gtr rfl rfl rfl (fun hc => ?_) (fun hc => False.elim (by omega)))
      refine Round_n (i + 1, getAcc acc ch i) ⟨rfl, rfl, rfl, rfl, trivial⟩ ⟨by dsimp only; omega, hal, rfl, rfl⟩ (by dsimp only; omega)
    · rw [if_neg hbig] at hg
      by_cases hbad : (0 < i ∧ ch.toNat = 0) ∨ (i = 9 ∧ 1 < ch.toNat)
      · rw [if_pos hbad] at hg
        rw [hg]
        by_cases h0 : ch.toNat = 0
        · have : 0 < i := by omega
          repeat (first | refine W_seq ?_ | refine W_region ?_ | refine W_skip ?_ | refine W_exit ?_ | refine W_ret ?_ | refine Then_n ?_ | refine Then_x ?_ | refine InBlock_hit ?_ | refine InBlock_miss rfl ?_ | refine Round_x ?_ | refine WL_nil ?_ | refine W_condT rfl ?_ | refine W_condF rfl ?_ | refine WL_some rfl rfl rfl ?_ | refine WL_guardT rfl rfl rfl rfl ?_ | refine WL_guardF rfl rfl rfl rfl rfl ?_ | refine WL_guardU rfl rfl rfl rfl ?_ | refine op_move rfl rfl ?_ | refine op_assign rfl rfl ?_ | refine op_pick rfl rfl rfl rfl ?_ | refine op_gtr rfl rfl rfl (fun hc => ?_) (fun hc => False.elim (by omega)) | refine op_gtr rfl rfl rfl (fun hc => False.elim (by omega)) (fun hc => ?_) | refine op_eql rfl rfl rfl (fun hc => ?_) (fun hc => False.elim (by omega)))
          exact post2 (.inl rfl) rfl rfl rfl ⟨rfl, rfl⟩
        · have : i = 9 := by omega
          repeat (first | refine W_seq ?_ | refine W_region ?_ | refine W_skip ?_ | refine W_exit ?_ | refine W_ret ?_ | refine Then_n ?_ | refine Then_x ?_ | refine InBlock_hit ?_ | refine InBlock_miss rfl ?_ | refine Round_x ?_ | refine WL_nil ?_ | refine W_condT rfl ?_ | refine W_condF rfl ?_ | refine WL_some rfl rfl rfl ?_ | refine WL_guardT rfl rfl rfl rfl ?_ | refine op_move rfl rfl ?_ | refine op_assign rfl rfl ?_ | refine op_pick rfl rfl rfl rfl ?_ | refine op_gtr rfl rfl rfl (fun hc => ?_) (fun hc => False.elim (by omega)) | refine op_gtr rfl rfl rfl (fun hc => False.elim (by omega)) (fun hc => ?_) | refine op_eql rfl rfl rfl (fun hc => ?_) (fun hc => False.elim (by omega)) | refine op_eql rfl rfl rfl (fun hc => False.elim (by omega)) (fun hc => ?_))
          exact post2 (.inl rfl) rfl rfl rfl ⟨rfl, rfl⟩
      · rw [if_neg hbad] at hg
        rw [hg]
        by_cases h0 : 0 < i
        · by_cases h9 : i = 9
          · repeat (first | refine W_seq ?_ | refine W_region ?_ | refine W_skip ?_ | refine W_ret ?_ | refine Then_n ?_ | refine Then_r ?_ | refine InBlock_r ?_ | refine Round_r ?_ | refine WL_nil ?_ | refine W_condF rfl ?_ | refine WL_some rfl rfl rfl ?_ | refine WL_guardT rfl rfl rfl rfl ?_ | refine op_move rfl rfl ?_ | refine op_assign rfl rfl ?_ | refine op_pick rfl rfl rfl rfl ?_ | refine op_add rfl rfl rfl (wrap_i64_in (by omega) (by omega)) ?_ | refine op_gtr rfl rfl rfl (fun hc => ?_) (fun hc => False.elim (by omega)) | refine op_gtr rfl rfl rfl (fun hc => False.elim (by omega)) (fun hc => ?_) | refine op_eql rfl rfl rfl (fun hc => ?_) (fun hc => False.elim (by omega)) | refine op_eql rfl rfl rfl (fun hc => False.elim (by omega)) (fun hc => ?_))
            exact post2 (.inl rfl) rfl rfl rfl ⟨rfl, rfl⟩
          · repeat (first | refine W_seq ?_ | refine W_region ?_ | refine W_skip ?_ | refine W_ret ?_ | refine Then_n ?_ | refine Then_r ?_ | refine InBlock_r ?_ | refine Round_r ?_ | refine WL_nil ?_ | refine W_condF rfl ?_ | refine WL_some rfl rfl rfl ?_ | refine WL_guardT rfl rfl rfl rfl ?_ | refine WL_guardF rfl rfl rfl rfl rfl ?_ | refine op_move rfl rfl ?_ | refine op_assign rfl rfl ?_ | refine op_pick rfl rfl rfl rfl ?_ | refine op_add rfl rfl rfl (wrap_i64_in (by omega) (by omega)) ?_ | refine op_gtr rfl rfl rfl (fun hc => ?_) (fun hc => False.elim (by omega)) | refine op_gtr rfl rfl rfl (fun hc => False.elim (by omega)) (fun hc => ?_) | refine op_eql rfl rfl rfl (fun hc => False.elim (by omega)) (fun hc => ?_))
            exact post2 (.inl rfl) rfl rfl rfl ⟨rfl, rfl⟩
        · repeat (first | refine W_seq ?_ | refine W_region ?_ | refine W_skip ?_ | refine W_ret ?_ | refine Then_n ?_ | refine Then_r ?_ | refine InBlock_r ?_ | refine Round_r ?_ | refine WL_nil ?_ | refine W_condF rfl ?_ | refine WL_some rfl rfl rfl ?_ | refine WL_guardT rfl rfl rfl rfl ?_ | refine WL_guardF rfl rfl rfl rfl rfl ?_ | refine op_move rfl rfl ?_ | refine op_assign rfl rfl ?_ | refine op_pick rfl rfl rfl rfl ?_ | refine op_add rfl rfl rfl (wrap_i64_in (by omega) (by omega)) ?_ | refine op_gtr rfl rfl rfl (fun hc => False.elim (by omega)) (fun hc => ?_) | refine op_eql rfl rfl rfl (fun hc => False.elim (by omega)) (fun hc => ?_))
          exact post2 (.inl rfl) rfl rfl rfl ⟨rfl, rfl⟩
  · obtain rfl : i = L.length := by omega
    rw [h3, List.drop_length]
    repeat (first | refine W_seq ?_ | refine W_region ?_ | refine W_exit ?_ | refine W_ret ?_ | refine Then_n ?_ | refine Then_x ?_ | refine InBlock_hit ?_ | refine Round_x ?_ | refine WL_nil ?_ | refine W_condF rfl ?_ | refine WL_some rfl rfl rfl ?_ | refine op_assign rfl rfl ?_)
    exact post2 (.inl rfl) rfl rfl rfl ⟨rfl, rfl⟩
set_option maxHeartbeats 1000000 in
theorem getText_has (A : Option Addr) (n c : Nat) (l : List UInt8) (w : World) (hl : SliceOf Ru8 w (.slice A n c) l) :
    Has Go.Proofs.Tryz.prog 83 #[.slice A n c] w (fun v w' => w' = w ∧ v = .tuple #[.string (str (getTextM l).1), .int .i64 ((getTextM l).2 : Nat)]) := by
  obtain ⟨rfl, hl1, hl2⟩ := hl.len
  unfold maxLen at hl2
  have hb := getM_bound l
  refine enter Go.Proofs.Tryz.func83 rfl rfl (by decide) rfl (e := [(0, .slice A l.length c)]) ⟨rfl, trivial⟩ ?_
  repeat (first | refine W_seq ?_ | refine W_region ?_ | refine Then_n ?_ | refine WL_nil ?_ | refine WL_some rfl rfl rfl ?_ | refine op_move rfl rfl ?_ | refine op_assign rfl rfl ?_)
  refine op_call rfl rfl rfl (get_has A l.length c l w hl) ?_
  rintro _ _ ⟨rfl, rfl⟩
  unfold getTextM
  generalize getM l = q at *
  obtain ⟨n, k⟩ := q
  dsimp only at *
  by_cases hk : k = 0
  · rw [if_pos (.inl hk)]
    repeat (first | refine W_seq ?_ | refine W_region ?_ | refine W_ret ?_ | refine Then_n ?_ | refine Then_r ?_ | refine WL_nil ?_ | refine W_condT rfl ?_ | refine WL_some rfl rfl rfl ?_ | refine WL_guardF rfl rfl rfl rfl rfl ?_ | refine op_move rfl rfl ?_ | refine op_assign rfl rfl ?_ | refine op_pick rfl rfl rfl rfl ?_ | refine op_extract rfl rfl rfl ?_ | refine op_eql rfl rfl rfl (fun hc => ?_) (fun hc => False.elim (by omega)))
    exact post2 (.inl rfl) rfl rfl rfl ⟨rfl, rfl⟩
  · by_cases hn : l.length - k < n
    · rw [if_pos (.inr hn)]
      repeat (first | refine W_seq ?_ | refine W_region ?_ | refine Then_n ?_ | refine WL_nil ?_ | refine WL_some rfl rfl rfl ?_ | refine WL_guardT rfl rfl rfl rfl ?_ | refine op_move rfl rfl ?_ | refine op_assign rfl rfl ?_ | refine op_len_slice T rfl rfl rfl rfl ?_ | refine op_subt rfl rfl rfl (wrap_i64_in (by omega) (by omega)) ?_ | refine op_extract rfl rfl rfl ?_ | refine op_eql rfl rfl rfl (fun hc => False.elim (by omega)) (fun hc => ?_))
      refine op_convert_fit T rfl rfl rfl rfl (wrap_u64_in (by omega) (by omega)) ?_
      repeat (first | refine W_seq ?_ | refine W_region ?_ | refine W_ret ?_ | refine Then_n ?_ | refine Then_r ?_ | refine WL_nil ?_ | refine W_condT rfl ?_ | refine WL_some rfl rfl rfl ?_ | refine WL_guardT rfl rfl rfl rfl ?_ | refine op_assign rfl rfl ?_ | refine op_pick rfl rfl rfl rfl ?_ | refine op_gtr rfl rfl rfl (fun hc => ?_) (fun hc => False.elim (by omega)))
      exact post2 (.inl rfl) rfl rfl rfl ⟨rfl, rfl⟩
    · rw [if_neg (by omega)]
      repeat (first | refine W_seq ?_ | refine W_region ?_ | refine Then_n ?_ | refine WL_nil ?_ | refine WL_some rfl rfl rfl ?_ | refine WL_guardT rfl rfl rfl rfl ?_ | refine op_move rfl rfl ?_ | refine op_assign rfl rfl ?_ | refine op_len_slice T rfl rfl rfl rfl ?_ | refine op_subt rfl rfl rfl (wrap_i64_in (by omega) (by omega)) ?_ | refine op_extract rfl rfl rfl ?_ | refine op_eql rfl rfl rfl (fun hc => False.elim (by omega)) (fun hc => ?_))
      refine op_convert_fit T rfl rfl rfl rfl (wrap_u64_in (by omega) (by omega)) ?_
      repeat (first | refine W_seq ?_ | refine W_region ?_ | refine W_skip ?_ | refine Then_n ?_ | refine WL_nil ?_ | refine W_condF rfl ?_ | refine WL_some rfl rfl rfl ?_ | refine WL_guardT rfl rfl rfl rfl ?_ | refine op_move rfl rfl ?_ | refine op_pick rfl rfl rfl rfl ?_ | refine op_gtr rfl rfl rfl (fun hc => False.elim (by omega)) (fun hc => ?_))
      refine op_convert_fit T rfl rfl rfl rfl (wrap_i64_in (by omega) (by omega)) ?_
      repeat (first | refine WL_some rfl rfl rfl ?_ | refine op_add rfl rfl rfl (wrap_i64_in (by omega) (by omega)) ?_)
      refine op_cut T (l := k) (h' := k + n) rfl rfl rfl rfl rfl ⟨_, rfl⟩ ⟨_, some_int (by omega)⟩ hl (by omega) (by omega) (fun A' hA' => ?_)
      have hs := hA' _ hl
      rw [show (l.take (k + n)).drop k = (l.drop k).take n from by rw [List.drop_take]; congr 1; omega] at hs
      repeat (refine WL_some rfl rfl rfl ?_)
      refine op_string T rfl rfl rfl rfl rfl hs ?_
      repeat (first | refine WL_some rfl rfl rfl ?_ | refine op_move rfl rfl ?_)
      refine op_convert_fit T rfl rfl rfl rfl (wrap_i64_in (by omega) (by omega)) ?_
      repeat (first | refine W_ret ?_ | refine Then_n ?_ | refine WL_nil ?_ | refine WL_some rfl rfl rfl ?_ | refine op_assign rfl rfl ?_ | refine op_add rfl rfl rfl (wrap_i64_in (by omega) (by omega)) ?_)
      exact post2 (.inl rfl) rfl rfl (some_int (by omega)) ⟨rfl, rfl⟩
/-- One decimal digit. -/
theorem small_has (n : Nat) (w : World) (hn : n < 10) : Has Go.Proofs.Tryz.prog 73 #[.int .i64 (n : Int)] w (fun v w' => w' = w ∧ v = .string (str [UInt8.ofNat (48 + n)])) := by
  refine enter Go.Proofs.Tryz.func73 rfl rfl (by decide) rfl (e := [(0, .int .i64 (n : Int))]) ⟨rfl, trivial⟩ ?_
  repeat (first | refine W_seq ?_ | refine W_region ?_ | refine Then_n ?_ | refine WL_nil ?_ | refine W_condT rfl ?_ | refine WL_some rfl rfl rfl ?_ | refine op_move rfl rfl ?_ | refine op_assign rfl rfl ?_ | refine op_add rfl rfl rfl (wrap_i64_in (by omega) (by omega)) ?_ | refine op_lss rfl rfl rfl (fun hc => ?_) (fun hc => False.elim (by omega)))
  refine op_slice_str T (l := n) (h' := n + 1) rfl rfl rfl rfl (some_int (by omega)) (by omega) (by simp; omega) ?_
  repeat (first | refine W_ret ?_ | refine Then_n ?_ | refine Then_r ?_ | refine WL_nil ?_ | refine WL_some rfl rfl rfl ?_ | refine op_assign rfl rfl ?_)
  refine post1 (.inl rfl) rfl rfl ⟨rfl, ?_⟩
  match n, hn with
  | 0, _ => rfl
  | 1, _ => rfl
  | 2, _ => rfl
  | 3, _ => rfl
  | 4, _ => rfl
  | 5, _ => rfl
  | 6, _ => rfl
  | 7, _ => rfl
  | 8, _ => rfl
  | 9, _ => rfl
theorem formatInt_has' (n : Nat) (w : World) (hn : n < 10) : Has Go.Proofs.Tryz.prog 59 #[.int .i64 (n : Int), .int .i64 10] w (fun v w' => w' = w ∧ v = .string (str [UInt8.ofNat (48 + n)])) := by
  refine enter Go.Proofs.Tryz.func59 rfl rfl (by decide) rfl (e := [(0, .int .i64 (n : Int)), (1, .int .i64 10)]) ⟨rfl, rfl, trivial⟩ ?_
  repeat (first | refine W_seq ?_ | refine W_region ?_ | refine Then_n ?_ | refine WL_nil ?_ | refine W_condT rfl ?_ | refine WL_some rfl rfl rfl ?_ | refine WL_guardT rfl rfl rfl rfl ?_ | refine op_move rfl rfl ?_ | refine op_assign rfl rfl ?_ | refine op_pick rfl rfl rfl rfl ?_ | refine op_lss rfl rfl rfl (fun hc => ?_) (fun hc => False.elim (by omega)) | refine op_leq rfl rfl rfl (fun hc => ?_) (fun hc => False.elim (by omega)) | refine op_eql rfl rfl rfl (fun hc => ?_) (fun hc => False.elim (by omega)))
  refine op_call rfl rfl rfl (small_has n w hn) ?_
  rintro _ _ ⟨rfl, rfl⟩
  repeat (first | refine W_ret ?_ | refine Then_n ?_ | refine Then_r ?_ | refine WL_nil ?_ | refine WL_some rfl rfl rfl ?_ | refine op_assign rfl rfl ?_)
  exact post1 (.inl rfl) rfl rfl ⟨rfl, rfl⟩
theorem formatInt_has (n : Nat) (w : World) (hn : n < 10) : Has Go.Proofs.Tryz.prog 38 #[.int .i64 (n : Int), .int .i64 10] w (fun v w' => w' = w ∧ v = .string (str [UInt8.ofNat (48 + n)])) := by
  refine enter Go.Proofs.Tryz.func38 rfl rfl (by decide) rfl (e := [(0, .int .i64 (n : Int)), (1, .int .i64 10)]) ⟨rfl, rfl, trivial⟩ ?_
  repeat (first | refine W_seq ?_ | refine W_region ?_ | refine Then_n ?_ | refine WL_nil ?_ | refine WL_some rfl rfl rfl ?_ | refine op_move rfl rfl ?_ | refine op_assign rfl rfl ?_)
  refine op_call rfl rfl rfl (formatInt_has' n w hn) ?_
  rintro _ _ ⟨rfl, rfl⟩
  repeat (first | refine W_ret ?_ | refine Then_n ?_ | refine WL_nil ?_ | refine WL_some rfl rfl rfl ?_ | refine op_assign rfl rfl ?_)
  exact post1 (.inl rfl) rfl rfl ⟨rfl, rfl⟩
end Go.Proofs.YtbhnplghnhafiaaGreatDoor.Tryz
/-! Regions that draw their order, one of whose operations (number q) may turn blocks of S while all others turn none: that one finds the world as it was but for new blocks. -/
set_option linter.unusedSimpArgs false
set_option linter.unusedVariables false
namespace Go.Vc.Q
open Go Go.RowKit Go.Vc

/-- What the others may have turned when operation i comes up; what it may turn itself. -/
def Oth (q : Nat) (S : List Nat) (i : Nat) : List Nat := if i = q then [] else S
def Sel (q : Nat) (S : List Nat) (i : Nat) : List Nat := if i = q then S else []
theorem sel_sub (q : Nat) (S : List Nat) (i : Nat) : ∀ k ∈ Sel q S i, k ∈ S := by unfold Sel; split <;> simp
theorem sel_oth {q : Nat} {S : List Nat} {i k : Nat} (h : i ≠ k) : ∀ j ∈ Sel q S i, j ∈ Oth q S k := by
  unfold Sel Oth
  by_cases hi : i = q
  · rw [if_pos hi, if_neg (fun e => h (hi.trans e.symm))]; exact fun _ h => h
  · rw [if_neg hi]; simp

/-- Operation i stands ahead of the one that turns: it finds nothing turned. -/
def qPre (q : Nat) (l : List Oper) (i : Nat) : Bool := match l[q]? with
  | some oq => (predsOf oq).contains i
  | none => false
def Pre (q : Nat) (S : List Nat) (l : List Oper) (i : Nat) : List Nat := if i = q then [] else if qPre q l i = true then [] else S
theorem pre_oth {q : Nat} {S : List Nat} {l : List Oper} {i : Nat} : ∀ k ∈ Pre q S l i, k ∈ Oth q S i := by
  unfold Pre Oth
  by_cases hi : i = q
  · rw [if_pos hi, if_pos hi]; exact fun _ h => h
  · rw [if_neg hi, if_neg hi]; split <;> simp

/-- What is asked of front operation i. -/
def FrontOp (P : Program) (N : Nat) (q : Nat) (S : List Nat) (l : List Oper) (Vs : List VS) (e : Env) (w : World) (i : Nat) (o : Oper) : Prop :=
  ∀ (val : Nat → Value) (w1 : World), Chg (Pre q S l i) w w1 → (∀ j, (predsOf o).contains j = true → ∀ oj d, l[j]? = some oj → oj.dst = some d → (vsAt Vs j).holds (valOf Vs val j) w1) →
    match o.guard with
    | none => OpW P N o (opEnv l Vs e i o val) w1 (fun v w' => Chg (Sel q S i) w1 w' ∧ (vsAt Vs i).holds v w')
    | some (j, want) => ∃ b, (predsOf o).contains j = true ∧ ((l[j]?).bind (·.dst)).isSome = true ∧ (valOf Vs val j = .bool b ∨ (b = (!want) ∧ valOf Vs val j = undef)) ∧
        (b = want → OpW P N o (opEnv l Vs e i o val) w1 (fun v w' => Chg (Sel q S i) w1 w' ∧ (vsAt Vs i).holds v w')) ∧ (b = !want → (vsAt Vs i).holds undef w1)
def Front (P : Program) (N : Nat) (q : Nat) (S : List Nat) (l : List Oper) (Vs : List VS) (e : Env) (w : World) : Nat → Nat → List Oper → Prop
  | _, 0, _ => True
  | _, _ + 1, [] => True
  | i, m + 1, o :: r => FrontOp P N q S l Vs e w i o ∧ Front P N q S l Vs e w (i + 1) m r

theorem Front.get {P : Program} {N : Nat} {q : Nat} {S : List Nat} {l : List Oper} {Vs : List VS} {e : Env} {w : World} :
    ∀ (r : List Oper) (i m : Nat), Front P N q S l Vs e w i m r → ∀ k o, k < m → r[k]? = some o → FrontOp P N q S l Vs e w (i + k) o
  | [], i, m, h, k, o, hk, ho => by simp at ho
  | p :: r, i, 0, h, k, o, hk, ho => by omega
  | p :: r, i, m + 1, h, 0, o, hk, ho => by simp at ho; subst ho; exact h.1
  | p :: r, i, m + 1, h, k + 1, o, hk, ho => by
    have := Front.get r (i + 1) m h.2 k o (by omega) (by simpa using ho)
    rw [show i + (k + 1) = i + 1 + k from by omega]; exact this

/-- The state in the middle of a region. -/
structure Mid (N : Nat) (q : Nat) (S : List Nat) (l : List Oper) (m : Nat) (Vs : List VS) (e : Env) (w0 : World) (listed : Array Bool) (a : Act) (w : World) : Prop where
  size : a.tmps.size = N
  defers : a.defers = []
  chg : Chg S w0 w
  chg0 : listed.getD q false = false → Chg [] w0 w
  lsize : listed.size = l.length
  front : ∀ i, i < l.length → m ≤ i → listed.getD i true = false
  down : ∀ i o, l[i]? = some o → listed.getD i true = true → ∀ j, (predsOf o).contains j = true → listed.getD j false = true
  old : ∀ t v, look e t = some v → (∀ i o, l[i]? = some o → o.dst = some t → listed.getD i true = false) → a.tmps[t]? = some v
  new : ∀ i o d, l[i]? = some o → o.dst = some d → listed.getD i true = true → ∃ v, a.tmps[d]? = some v ∧ (vsAt Vs i).holds v w
  noval : ∀ i o, l[i]? = some o → o.dst = none → listed.getD i true = true → ∃ v, (vsAt Vs i).holds v w

section
variable {P : Program} {N : Nat} {q : Nat} {S : List Nat} {l : List Oper} {m : Nat} {Vs : List VS} {e : Env} {w0 : World} {listed : Array Bool} {a : Act} {w : World}

/-- The values that the listed front operations have left, as a function of their numbers. -/
theorem Mid.vals (hM : Mid N q S l m Vs e w0 listed a w) : ∃ val : Nat → Value, ∀ i o d, l[i]? = some o → o.dst = some d → listed.getD i true = true → a.tmps[d]? = some (valOf Vs val i) ∧ (vsAt Vs i).holds (valOf Vs val i) w := by
  refine ⟨fun i => ((l[i]?).bind (·.dst)).elim undef fun d => a.tmps.getD d undef, fun i o d ho hd hl => ?_⟩
  obtain ⟨v, hv, hh⟩ := hM.new i o d ho hd hl
  unfold valOf
  cases hvs : Vs[i]? with
  | none => simp [ho, hd, Array.getD_eq_getD_getElem?, hv]; simpa [vsAt, hvs] using hh
  | some s =>
    cases s with
    | c u =>
      have : v = u := by simpa [vsAt, hvs, VS.holds] using hh
      subst this
      exact ⟨hv, hh⟩
    | r R => simp [ho, hd, Array.getD_eq_getD_getElem?, hv]; simpa [vsAt, hvs] using hh

/-- One front operation more. -/
theorem Mid.step (hdst : dstsOk N l = true) (hM : Mid N q S l m Vs e w0 listed a w) {i : Nat} {o : Oper} (ho : l[i]? = some o) (him : i < m) (hun : listed.getD i true = false)
    (hpre : ∀ j, (predsOf o).contains j = true → listed.getD j false = true) (hfirm : ∀ i, (vsAt Vs i).firm (Oth q S i)) {v : Value} {w' : World} (hc : Chg (Sel q S i) w w') (hv : (vsAt Vs i).holds v w') :
    Mid N q S l m Vs e w0 (listed.setIfInBounds i true) (a.put o.dst v) w' := by
  have hi : i < listed.size := by rw [hM.lsize]; exact (List.getElem?_eq_some_iff.1 ho).1
  refine ⟨by cases hd : o.dst <;> simp [Act.put, hM.size], by cases hd : o.dst <;> simp [Act.put, hM.defers], hM.chg.trans hc (fun k h _ => sel_sub q S i k h), fun hq => ?_, by simp [hM.lsize], fun k hk hmk => ?_, fun k ok hok hlk j hj => ?_, fun t u hu hall => ?_, fun k ok d hok hd hlk => ?_, fun k ok hok hd hlk => ?_⟩
  · rw [getD_set hi] at hq
    by_cases hiq : i = q
    · rw [if_pos hiq] at hq; cases hq
    · rw [if_neg hiq] at hq
      refine (hM.chg0 hq).trans hc (fun k h _ => ?_)
      unfold Sel at h
      rw [if_neg hiq] at h; exact h
  · rw [getD_set hi, if_neg (by omega)]; exact hM.front k hk hmk
  · rw [getD_set hi] at hlk ⊢
    by_cases hij : i = j
    · rw [if_pos hij]
    · rw [if_neg hij]
      by_cases hik : i = k
      · subst hik
        rw [ho] at hok; injection hok with hok; subst hok
        exact hpre j hj
      · rw [if_neg hik] at hlk
        exact hM.down k ok hok hlk j hj
  · have h1 := hM.old t u hu (fun k ok hok hd => by
      have := hall k ok hok hd
      rw [getD_set hi] at this
      split at this
      · cases this
      · exact this)
    cases hd : o.dst with
    | none => simpa [Act.put] using h1
    | some d =>
      have hne : d ≠ t := fun h => by
        subst h
        have := hall i o ho hd
        rw [getD_set hi, if_pos rfl] at this
        cases this
      simp only [Act.put, Array.getElem?_setIfInBounds_ne hne]
      exact h1
  · rw [getD_set hi] at hlk
    by_cases hik : i = k
    · subst hik
      rw [ho] at hok; injection hok with hok; subst hok
      have := (dsts_spec hdst ho hd).1
      exact ⟨v, by simp [Act.put, hd, hM.size, this], hv⟩
    · rw [if_neg hik] at hlk
      obtain ⟨u, hu, hh⟩ := hM.new k ok d hok hd hlk
      refine ⟨u, ?_, ?_⟩
      · cases hdo : o.dst with
        | none => simpa [Act.put] using hu
        | some d' =>
          have hne : d' ≠ d := fun h => by
            subst h
            exact hik ((dsts_spec hdst ho hdo).2 k ok hok hd).symm
          simp only [Act.put, Array.getElem?_setIfInBounds_ne hne]
          exact hu
      · have hf := hfirm k
        revert hh hf
        cases vsAt Vs k with
        | c u' => exact fun h _ => h
        | r R => exact fun h hf => hf _ _ _ h (hc.mono (fun j hj _ => sel_oth hik j hj))
  · rw [getD_set hi] at hlk
    by_cases hik : i = k
    · subst hik; exact ⟨v, hv⟩
    · rw [if_neg hik] at hlk
      obtain ⟨u, hh⟩ := hM.noval k ok hok hd hlk
      refine ⟨u, ?_⟩
      have hf := hfirm k
      revert hh hf
      cases vsAt Vs k with
      | c u' => exact fun h _ => h
      | r R => exact fun h hf => hf _ _ _ h (hc.mono (fun j hj _ => sel_oth hik j hj))

theorem Mid.fits (hdst : dstsOk N l = true) (hM : Mid N q S l m Vs e w0 listed a w) {i : Nat} {o : Oper} (ho : l[i]? = some o) (hun : listed.getD i true = false)
    (hpre : ∀ j, (predsOf o).contains j = true → listed.getD j false = true) {val : Nat → Value}
    (hval : ∀ i o d, l[i]? = some o → o.dst = some d → listed.getD i true = true → a.tmps[d]? = some (valOf Vs val i) ∧ (vsAt Vs i).holds (valOf Vs val i) w) :
    Fits N (opEnv l Vs e i o val) a := by
  refine ⟨hM.size, hM.defers, fun t v hv => ?_⟩
  unfold opEnv at hv
  rw [look_append] at hv
  cases hp : look (predEnv l Vs val (predsOf o)) t with
  | some u =>
    rw [hp] at hv
    simp at hv
    subst hv
    obtain ⟨j, oj, hj, hoj, hd, rfl⟩ := look_predEnv val _ _ _ hp
    have h1 := hpre j (by simpa using hj)
    have h2 : listed.getD j true = true := by
      have : j < listed.size := by rw [hM.lsize]; exact (List.getElem?_eq_some_iff.1 hoj).1
      simpa [Array.getD_eq_getD_getElem?, this] using h1
    exact (hval j oj t hoj hd h2).1
  | none =>
    rw [hp] at hv
    simp at hv
    obtain ⟨h1, h2⟩ := look_filter hv
    refine hM.old t v h1 (fun k ok hok hd => ?_)
    unfold freeAt at h2
    have h3 := List.all_eq_true.1 h2 (ok, k) (by rw [List.mem_zipIdx_iff_getElem?]; exact hok)
    simp only [hd, Bool.or_eq_true] at h3
    rcases h3 with (h3 | h3) | h3
    · simp at h3
    · cases hlk : listed.getD k true with
      | false => rfl
      | true =>
        have := hM.down k ok hok hlk i h3
        have hi : i < listed.size := by rw [hM.lsize]; exact (List.getElem?_eq_some_iff.1 ho).1
        simp [Array.getD_eq_getD_getElem?, hi] at this hun
        rw [this] at hun; cases hun
    · have : k = i := Nat.eq_of_beq_eq_true h3
      subst this
      exact hun

/-- Once operation m may come up, all front operations have. -/
theorem tail_all (h : tailOk m l = true) (hM : Mid N q S l m Vs e w0 listed a w) {o : Oper} (ho : l[m]? = some o) (hpre : ∀ j, (predsOf o).contains j = true → listed.getD j false = true) :
    ∀ k, k < m → listed.getD k false = true := by
  unfold tailOk at h
  rw [ho] at h
  simp only [Bool.and_eq_true] at h
  have hc := h.1.2
  have key : ∀ n k, m - k ≤ n → k < m → listed.getD k false = true := by
    intro n
    induction n with
    | zero => intro k h1 h2; omega
    | succ n ih =>
      intro k h1 h2
      have h3 := List.all_eq_true.1 hc k (by simpa using h2)
      obtain ⟨c, hcm, h4⟩ := List.any_eq_true.1 h3
      simp only [Bool.and_eq_true] at h4
      have hkc : k < c := by simpa [Nat.blt_eq] using h4.1
      have hcm' : c < m + 1 := by simpa using hcm
      cases hoc : l[c]? with
      | none => simp [hoc] at h4
      | some oc =>
        simp only [hoc] at h4
        by_cases hcc : c = m
        · subst hcc
          rw [ho] at hoc; injection hoc with hoc; subst hoc
          exact hpre k h4.2
        · have h5 := ih c (by omega) (by omega)
          have hlt : c < listed.size := by rw [hM.lsize]; exact (List.getElem?_eq_some_iff.1 hoc).1
          have h6 : listed.getD c true = true := by
            simp [Array.getD_eq_getD_getElem?, hlt] at h5 ⊢; exact h5
          exact hM.down c oc hoc h6 k h4.2
  exact fun k hk => key (m - k) k (Nat.le_refl _) hk

theorem Mid.full (hM : Mid N q S l m Vs e w0 listed a w) (hall : ∀ k, k < m → listed.getD k true = true) {val : Nat → Value}
    (hval : ∀ i o d, l[i]? = some o → o.dst = some d → listed.getD i true = true → a.tmps[d]? = some (valOf Vs val i) ∧ (vsAt Vs i).holds (valOf Vs val i) w) :
    Fits N (frontEnv Vs val 0 m l ++ e) a := by
  refine ⟨hM.size, hM.defers, fun t v hv => ?_⟩
  rw [look_append] at hv
  cases hp : look (frontEnv Vs val 0 m l) t with
  | some u =>
    rw [hp] at hv; simp at hv; subst hv
    obtain ⟨j, o, hj, ho, hd, rfl⟩ := look_frontEnv val _ _ _ _ _ hp
    rw [Nat.zero_add]
    exact (hval j o t ho hd (hall j hj)).1
  | none =>
    rw [hp] at hv; simp at hv
    refine hM.old t v hv (fun i o ho hd => ?_)
    by_cases hi : i < m
    · exact absurd hd (look_front_none l 0 m hp i o hi ho)
    · exact hM.front i (List.getElem?_eq_some_iff.1 ho).1 (by omega)

theorem mid_any {Q : Post} (hdst : dstsOk N l = true) (htl : tailOk m l = true) (hfirm : ∀ i, (vsAt Vs i).firm (Oth q S i))
    (hfront : ∀ i o, i < m → l[i]? = some o → FrontOp P N q S l Vs e w0 i o)
    (hend : ∀ (val : Nat → Value) (w1 : World), Chg S w0 w1 → (∀ i, i < m → ∀ o d, l[i]? = some o → o.dst = some d → (vsAt Vs i).holds (valOf Vs val i) w1) → (∀ i, i < m → ∀ o, l[i]? = some o → o.dst = none → ∃ v, (vsAt Vs i).holds v w1) → WL P N l.toArray (l.drop m) Q (frontEnv Vs val 0 m l ++ e) w1) :
    ∀ (fuel : Nat) (listed : Array Bool) (a : Act) (w : World), openCount listed l.length = fuel → Mid N q S l m Vs e w0 listed a w → wpAny P .any l.toArray (Lift N Q) fuel listed a w := by
  have hml : m ≤ l.length := by
    unfold tailOk at htl
    simp only [Bool.and_eq_true] at htl
    exact Nat.le_of_ble_eq_true htl.1.1
  -- all front operations have come up: the tail
  have hdone : ∀ (listed : Array Bool) (a : Act) (w : World), Mid N q S l m Vs e w0 listed a w → (∀ k, k < m → listed.getD k true = true) → wpAny P .any l.toArray (Lift N Q) (l.drop m).length listed a w := by
    intro listed a w hM hall
    obtain ⟨val, hval⟩ := hM.vals
    have hW := hend val w hM.chg (fun i hi o d ho hd => (hval i o d ho hd (hall i hi)).2) (fun i hi o ho hd => hM.noval i o ho hd (hall i hi))
    unfold WL at hW
    refine tail_any htl (l.drop m) m listed a w (Nat.le_refl _) rfl hM.lsize (fun k hk => ?_) (hW a (hM.full hall hval))
    by_cases hkm : k < m
    · rw [hall k hkm]; simp [hkm]
    · rw [hM.front k hk (by omega)]; simp [hkm]
  have hcount : ∀ (listed : Array Bool), (∀ k, k < m → listed.getD k true = true) → (∀ i, i < l.length → m ≤ i → listed.getD i true = false) → openCount listed l.length = (l.drop m).length := by
    intro listed h1 h2
    have : ∀ n, n ≤ l.length → openCount listed n = n - m := by
      intro n
      induction n with
      | zero => intro _; simp [openCount]
      | succ n ih =>
        intro hn
        simp only [openCount]
        rw [ih (by omega)]
        by_cases hnm : n < m
        · rw [h1 n hnm]; simp; omega
        · rw [h2 n (by omega) (by omega)]; simp; omega
    rw [this _ (Nat.le_refl _)]; simp
  intro fuel
  induction fuel with
  | zero =>
    intro listed a w hcnt hM
    have hall : ∀ k, k < l.length → listed.getD k true = true := by
      have : ∀ n, openCount listed n = 0 → ∀ k, k < n → listed.getD k true = true := by
        intro n
        induction n with
        | zero => intro _ k hk; omega
        | succ n ih =>
          intro h k hk
          simp only [openCount] at h
          by_cases hkn : k = n
          · subst hkn
            cases hx : listed.getD k true with
            | true => rfl
            | false => rw [hx] at h; simp at h
          · exact ih (by omega) k (by omega)
      exact this _ hcnt
    have hd := hdone listed a w hM (fun k hk => hall k (by omega))
    rw [← hcount listed (fun k hk => hall k (by omega)) hM.front, hcnt] at hd
    exact hd
  | succ fuel ih =>
    intro listed a w hcnt hM
    by_cases hall : ∀ k, k < m → listed.getD k true = true
    · have hd := hdone listed a w hM hall
      rw [← hcount listed hall hM.front, hcnt] at hd
      exact hd
    · -- some front operation is open: the least one may come up; and whatever may come up is a front operation
      have hready : ∀ i, i ∈ Region.ready .any l.toArray listed → i < m := by
        intro i hi
        obtain ⟨o, ho, hun, hpre⟩ := ready_spec hi
        rcases Nat.lt_or_ge i m with h | h
        · exact h
        · exfalso
          have hil := (List.getElem?_eq_some_iff.1 ho).1
          rcases Nat.lt_or_ge m i with h2 | h2
          · have h3 := hpre (i - 1) ((tail_preds htl ho).1 h2)
            have h4 := hM.front (i - 1) (by omega) (by omega)
            have hsz : i - 1 < listed.size := by rw [hM.lsize]; omega
            simp [Array.getD_eq_getD_getElem?, hsz] at h3 h4
            rw [h3] at h4; cases h4
          · have hmi : i = m := by omega
            subst hmi
            refine hall (fun k hk => ?_)
            have h3 := tail_all htl hM ho hpre k hk
            have hsz : k < listed.size := by rw [hM.lsize]; omega
            simp [Array.getD_eq_getD_getElem?, hsz] at h3 ⊢; exact h3
      refine ⟨fun hnil => ?_, fun i hi => ?_⟩
      · exfalso
        have hmin : ∃ k, k < m ∧ listed.getD k true = false ∧ ∀ j, j < k → listed.getD j true = true := by
          have : ∀ n, (∃ k, k < n ∧ ¬ listed.getD k true = true) → ∃ k, k < n ∧ listed.getD k true = false ∧ ∀ j, j < k → listed.getD j true = true := by
            intro n
            induction n with
            | zero => rintro ⟨k, hk, _⟩; omega
            | succ n ih =>
              rintro ⟨k, hk, hx⟩
              by_cases hex : ∃ k, k < n ∧ ¬ listed.getD k true = true
              · obtain ⟨k', h1, h2, h3⟩ := ih hex
                exact ⟨k', by omega, h2, h3⟩
              · have hkn : k = n := by
                  rcases Nat.lt_or_ge k n with h | h
                  · exact absurd ⟨k, h, hx⟩ hex
                  · omega
                subst hkn
                refine ⟨k, by omega, by simpa using hx, fun j hj => ?_⟩
                cases hxj : listed.getD j true with
                | true => rfl
                | false => exact absurd ⟨j, hj, by simp [hxj]⟩ hex
          have hex : ∃ k, k < m ∧ ¬ listed.getD k true = true := by
            refine Classical.byContradiction fun hno => hall fun k hk => ?_
            cases hx : listed.getD k true with
            | true => rfl
            | false => exact absurd ⟨k, hk, by simp [hx]⟩ hno
          exact this m hex
        obtain ⟨k, hkm, hku, hkl⟩ := hmin
        have hkl' : k < l.length := by omega
        have ho : l[k]? = some l[k] := List.getElem?_eq_getElem hkl'
        have : k ∈ Region.ready .any l.toArray listed := by
          unfold Region.ready
          simp only [List.mem_filter, List.mem_range, Bool.and_eq_true, Bool.not_eq_true']
          refine ⟨by simpa using hkl', hku, ?_⟩
          simp [hkl']
          intro q hq
          by_cases hb : Region.binds .any l[k].after[q] = true
          · refine .inr ?_
            have hlt := (tail_preds htl ho).2 (l[k].after[q]).on (by
              simp only [predsOf, List.contains_eq_mem, List.mem_map, List.mem_filter, decide_eq_true_eq]
              exact ⟨l[k].after[q], ⟨by simp, hb⟩, rfl⟩)
            have h2 := hkl (l[k].after[q]).on hlt
            have hsz : (l[k].after[q]).on < listed.size := by rw [hM.lsize]; omega
            simp [Array.getD_eq_getD_getElem?, hsz] at h2 ⊢
            exact h2
          · exact .inl (by simpa using hb)
        rw [hnil] at this; cases this
      · have him := hready i hi
        obtain ⟨o, ho, hun, hpre⟩ := ready_spec hi
        have hlit : l.toArray[i]? = some o := by simpa using ho
        obtain ⟨val, hval⟩ := hM.vals
        have hfit := hM.fits hdst ho hun hpre hval
        have hisz : i < listed.size := by rw [hM.lsize]; exact (List.getElem?_eq_some_iff.1 ho).1
        have hil := (List.getElem?_eq_some_iff.1 ho).1
        have hpv : ∀ j, (predsOf o).contains j = true → ∀ oj, l[j]? = some oj → ∀ d, oj.dst = some d → a.tmps[d]? = some (valOf Vs val j) ∧ (vsAt Vs j).holds (valOf Vs val j) w := fun j hj oj hoj d hd => by
          have h1 := hpre j hj
          have hsz : j < listed.size := by rw [hM.lsize]; exact (List.getElem?_eq_some_iff.1 hoj).1
          exact hval j oj d hoj hd (by simp [Array.getD_eq_getD_getElem?, hsz] at h1 ⊢; exact h1)
        have hoth : Chg (Pre q S l i) w0 w := by
          have hun' : listed.getD i false = false := by
            simp [Array.getD_eq_getD_getElem?, hisz] at hun ⊢; exact hun
          unfold Pre
          by_cases hiq : i = q
          · rw [if_pos hiq]
            refine hM.chg0 ?_
            rw [← hiq]
            exact hun'
          · rw [if_neg hiq]
            by_cases hq : qPre q l i = true
            · rw [if_pos hq]
              refine hM.chg0 ?_
              unfold qPre at hq
              cases hoq : l[q]? with
              | none => simp [hoq] at hq
              | some oq =>
                simp only [hoq] at hq
                cases hlq : listed.getD q false with
                | false => rfl
                | true =>
                  have hqs : q < listed.size := by rw [hM.lsize]; exact (List.getElem?_eq_some_iff.1 hoq).1
                  have := hM.down q oq hoq (by simp [Array.getD_eq_getD_getElem?, hqs] at hlq ⊢; exact hlq) i hq
                  rw [hun'] at this; cases this
            · rw [if_neg hq]; exact hM.chg
        have hF := hfront i o him ho val w hoth (fun j hj oj d hoj hd => (hpv j hj oj hoj d hd).2)
        have hgo : ∀ v w', Chg (Sel q S i) w w' ∧ (vsAt Vs i).holds v w' → wpAny P .any l.toArray (Lift N Q) fuel (listed.setIfInBounds i true) (a.put o.dst v) w' := fun v w' ⟨hc, hv⟩ =>
          ih _ _ _ (by have := openCount_set hisz hun l.length hil; omega) (hM.step hdst ho him hun hpre hfirm hc hv)
        unfold wpOp
        rw [hlit]
        simp only
        cases hg : o.guard with
        | none =>
          rw [hg] at hF
          have hwa : Region.wanted o (yielded l.toArray a.tmps) = true := by simp [Region.wanted, hg]
          rw [if_pos hwa]
          unfold OpW at hF
          exact .inl (hF a hfit _ _ hgo)
        | some g =>
          obtain ⟨j, want⟩ := g
          rw [hg] at hF
          obtain ⟨b, hj, hjd, hb, h1, h2⟩ := hF
          have hwa : Region.wanted o (yielded l.toArray a.tmps) = (b == want) := by
            cases hoj : l[j]? with
            | none => simp [hoj] at hjd
            | some oj =>
              cases hd : oj.dst with
              | none => simp [hoj, hd] at hjd
              | some d =>
                have := (hpv j hj oj hoj d hd).1
                unfold Region.wanted yielded
                rcases hb with hb | ⟨hbw, hb⟩
                · rw [hb] at this
                  simp only [hg, List.getElem?_toArray, hoj, Option.bind_some, hd, this]
                  cases b <;> cases want <;> rfl
                · rw [hb] at this
                  simp only [hg, List.getElem?_toArray, hoj, Option.bind_some, hd, this]
                  subst hbw
                  cases want <;> rfl
          rw [hwa]
          by_cases hbw : b = want
          · subst hbw
            rw [if_pos (by simp)]
            have h3 := h1 rfl
            unfold OpW at h3
            exact .inl (h3 a hfit _ _ hgo)
          · have hbn : b = !want := by cases b <;> cases want <;> first | rfl | exact absurd rfl hbw
            rw [if_neg (by simpa using hbw)]
            exact hgo undef w ⟨Chg.refl _ _, h2 hbn⟩

def Firms (q : Nat) (S : List Nat) : Nat → List VS → Prop
  | _, [] => True
  | i, s :: r => s.firm (Oth q S i) ∧ Firms q S (i + 1) r
theorem Firms.at : ∀ {Vs : List VS} {i0 : Nat}, Firms q S i0 Vs → ∀ i, (vsAt Vs i).firm (Oth q S (i0 + i))
  | [], _, _, i => by simp [vsAt, VS.firm]
  | s :: r, i0, h, 0 => h.1
  | s :: r, i0, h, i + 1 => by
    have := Firms.at h.2 i
    rw [show i0 + (i + 1) = i0 + 1 + i from by omega]; exact this
theorem Firms.snoc {s : VS} : ∀ {Vs : List VS} {i0 : Nat}, Firms q S i0 Vs → s.firm (Oth q S (i0 + Vs.length)) → Firms q S i0 (Vs ++ [s])
  | [], _, _, h => ⟨h, trivial⟩
  | a :: A, i0, hf, h => ⟨hf.1, Firms.snoc hf.2 (by rw [show i0 + 1 + A.length = i0 + (A.length + 1) from by omega]; exact h)⟩

/-- **A region that draws its order.** m: how many operations stand in front; Vs: what they leave; S: the blocks that they may turn. -/
theorem W_draw {id : Nat} {Q : Post} (m q : Nat) (S : List Nat) (Vs : List VS) (hfol : P.follows .mixedOrders = true) (hdst : dstsOk N l = true) (htl : tailOk m l = true) (hfirms : Firms q S 0 Vs)
    (hfront : Front P N q S l Vs e w 0 m l)
    (hend : ∀ (val : Nat → Value) (w1 : World), Chg S w w1 → (∀ i, i < m → ∀ o d, l[i]? = some o → o.dst = some d → (vsAt Vs i).holds (valOf Vs val i) w1) → (∀ i, i < m → ∀ o, l[i]? = some o → o.dst = none → ∃ v, (vsAt Vs i).holds v w1) → WL P N l.toArray (l.drop m) Q (frontEnv Vs val 0 m l ++ e) w1) :
    W P N (.region id l.toArray true) Q e w := by
  have hfirm : ∀ i, (vsAt Vs i).firm (Oth q S i) := fun i => by have := hfirms.at i; rwa [Nat.zero_add] at this
  unfold W
  intro a ha
  refine wp_region_any hfol ?_
  have hc0 : openCount (Array.replicate l.length false) l.length = l.length := by
    have : ∀ n, n ≤ l.length → openCount (Array.replicate l.length false) n = n := by
      intro n
      induction n with
      | zero => intro _; rfl
      | succ n ih =>
        intro hn
        have h1 : (Array.replicate l.length false).getD n true = false := by rw [Array.getD_eq_getD_getElem?, Array.getElem?_replicate, if_pos (by omega)]; rfl
        simp only [openCount]; rw [ih (by omega), h1]; rfl
    exact this _ (Nat.le_refl _)
  have hM : Mid N q S l m Vs e w (Array.replicate l.length false) a { w with drawn := w.drawn + 1 } := by
    refine ⟨ha.size, ha.defers, Chg.drawn S w _, fun _ => Chg.drawn [] w _, by simp, fun i hi _ => by simp [Array.getD_eq_getD_getElem?, hi], fun i o ho hl => ?_, fun t v hv _ => ha.look t v hv, fun i o d ho _ hl => ?_, fun i o ho _ hl => ?_⟩
    · have hi := (List.getElem?_eq_some_iff.1 ho).1
      simp [Array.getD_eq_getD_getElem?, hi] at hl
    · have hi := (List.getElem?_eq_some_iff.1 ho).1
      simp [Array.getD_eq_getD_getElem?, hi] at hl
    · have hi := (List.getElem?_eq_some_iff.1 ho).1
      simp [Array.getD_eq_getD_getElem?, hi] at hl
  have := mid_any (P := P) (Q := Q) hdst htl hfirm (fun i o him ho => by simpa using Front.get l 0 m hfront i o him ho) hend l.length _ _ _ hc0 hM
  simpa using this

/-! ### The same, walked in the text's order: what an operation leaves is found on the way -/
/-- Operation i, what the elder ones leave being Vs; it leaves s. -/
def StepP (P : Program) (N : Nat) (q : Nat) (S : List Nat) (l : List Oper) (Vs : List VS) (e : Env) (w : World) (i : Nat) (o : Oper) (s : VS) : Prop :=
  ∀ (val : Nat → Value) (w1 : World), Chg (Pre q S l i) w w1 → (∀ j, (predsOf o).contains j = true → ∀ oj d, l[j]? = some oj → oj.dst = some d → (vsAt Vs j).holds (valOf Vs val j) w1) →
    match o.guard with
    | none => OpW P N o (opEnv l Vs e i o val) w1 (fun v w' => Chg (Sel q S i) w1 w' ∧ s.holds v w')
    | some (j, want) => ∃ b, (predsOf o).contains j = true ∧ ((l[j]?).bind (·.dst)).isSome = true ∧ (valOf Vs val j = .bool b ∨ (b = (!want) ∧ valOf Vs val j = undef)) ∧
        (b = want → OpW P N o (opEnv l Vs e i o val) w1 (fun v w' => Chg (Sel q S i) w1 w' ∧ s.holds v w')) ∧ (b = !want → s.holds undef w1)
def Walk (P : Program) (N : Nat) (q : Nat) (S : List Nat) (l : List Oper) (e : Env) (w : World) (fin : List VS → Prop) : Nat → List Oper → List VS → Prop
  | _, [], Vs => fin Vs
  | i, o :: r, Vs => ∃ s : VS, s.firm (Oth q S i) ∧ StepP P N q S l Vs e w i o s ∧ Walk P N q S l e w fin (i + 1) r (Vs ++ [s])

theorem walk_front (htl : tailOk m l = true) (hml : m ≤ l.length) {fin : List VS → Prop} : ∀ (r : List Oper) (i : Nat) (Vs : List VS), Vs.length = i → (l.take m).drop i = r → Firms q S 0 Vs → Walk P N q S l e w fin i r Vs →
    ∃ rest : List VS, rest.length = r.length ∧ Firms q S 0 (Vs ++ rest) ∧ fin (Vs ++ rest) ∧ ∀ k o, r[k]? = some o → FrontOp P N q S l (Vs ++ rest) e w (i + k) o
  | [], i, Vs, hi, hr, hf, h => ⟨[], rfl, by simpa using hf, by simpa [Walk] using h, fun k o hk => by simp at hk⟩
  | o :: r, i, Vs, hi, hr, hf, h => by
    obtain ⟨s, hs, hst, hw⟩ := h
    have hr' : (l.take m).drop (i + 1) = r := by rw [← List.drop_drop, hr]; rfl
    have hf' : Firms q S 0 (Vs ++ [s]) := hf.snoc (by rw [Nat.zero_add, hi]; exact hs)
    obtain ⟨rest, hl, h1, h2, h3⟩ := walk_front htl hml r (i + 1) (Vs ++ [s]) (by simp [hi]) hr' hf' hw
    rw [List.append_assoc] at h1 h2 h3
    refine ⟨s :: rest, by simp [hl], h1, h2, fun k ok hk => ?_⟩
    cases k with
    | zero =>
      simp at hk
      subst hk
      rw [Nat.add_zero]
      have ho : l[i]? = some o := by
        have h4 : ((l.take m).drop i)[0]? = some o := by rw [hr]; rfl
        rw [List.getElem?_drop, Nat.add_zero, List.getElem?_take] at h4
        split at h4
        · exact h4
        · cases h4
      have hpl : ∀ j, (predsOf o).contains j = true → j < Vs.length := fun j hj => by rw [hi]; exact (tail_preds htl ho).2 j hj
      have hpe : ∀ val, opEnv l (Vs ++ s :: rest) e i o val = opEnv l Vs e i o val := fun val => by
        unfold opEnv; rw [predEnv_append _ (fun j hj => hpl j (by simpa using hj))]
      have hvs : vsAt (Vs ++ s :: rest) i = s := by rw [← hi]; exact vsAt_at
      intro val w1 hc hp
      have hq := hst val w1 hc (fun j hj oj d h5 h6 => by
        have := hp j hj oj d h5 h6
        rw [vsAt_append (hpl j hj), valOf_append (hpl j hj)] at this; exact this)
      rw [hpe val, hvs]
      cases hg : o.guard with
      | none => rw [hg] at hq; exact hq
      | some g =>
        obtain ⟨j, want⟩ := g
        rw [hg] at hq
        obtain ⟨b, h5, h6, h7, h8, h9⟩ := hq
        exact ⟨b, h5, h6, by rw [valOf_append (hpl j h5)]; exact h7, h8, h9⟩
    | succ k =>
      have := h3 k ok (by simpa using hk)
      rw [show i + (k + 1) = i + 1 + k from by omega]; exact this

theorem front_of {Vs : List VS} : ∀ (r : List Oper) (i k : Nat), (∀ j o, j < k → r[j]? = some o → FrontOp P N q S l Vs e w (i + j) o) → Front P N q S l Vs e w i k r
  | [], i, k, h => by cases k <;> exact trivial
  | o :: r, i, 0, h => trivial
  | o :: r, i, k + 1, h => ⟨h 0 o (by omega) rfl, front_of r (i + 1) k (fun j oj hj hoj => by
      have := h (j + 1) oj (by omega) (by simpa using hoj)
      rw [show i + 1 + j = i + (j + 1) from by omega]; exact this)⟩

/-- **A region that draws, walked in the text's order.** -/
theorem W_walkf {id : Nat} {Q : Post} (m q : Nat) (S : List Nat) (hfol : P.follows .mixedOrders = true) (hdst : dstsOk N l = true) (htl : tailOk m l = true)
    (h : Walk P N q S l e w (fun Vs => ∀ (val : Nat → Value) (w1 : World), Chg S w w1 → (∀ i, i < m → ∀ o d, l[i]? = some o → o.dst = some d → (vsAt Vs i).holds (valOf Vs val i) w1) → (∀ i, i < m → ∀ o, l[i]? = some o → o.dst = none → ∃ v, (vsAt Vs i).holds v w1) → WL P N l.toArray (l.drop m) Q (frontEnv Vs val 0 m l ++ e) w1) 0 (l.take m) []) :
    W P N (.region id l.toArray true) Q e w := by
  have hml : m ≤ l.length := by
    have h2 := htl
    unfold tailOk at h2
    simp only [Bool.and_eq_true] at h2
    exact Nat.le_of_ble_eq_true h2.1.1
  obtain ⟨rest, hl, h1, h2, h3⟩ := walk_front htl hml (l.take m) 0 [] rfl (by simp) trivial h
  rw [List.nil_append] at h1 h2 h3
  refine W_draw m q S rest hfol hdst htl h1 (front_of l 0 m fun j o hj ho => ?_) h2
  exact h3 j o (by rw [List.getElem?_take, if_pos hj]; exact ho)

theorem Walk.mono {fin fin' : List VS → Prop} (hf : ∀ Vs, fin Vs → fin' Vs) : ∀ (r : List Oper) (i : Nat) (Vs : List VS), Walk P N q S l e w fin i r Vs → Walk P N q S l e w fin' i r Vs
  | [], _, Vs, h => hf Vs h
  | _ :: r, i, Vs, ⟨s, h1, h2, h3⟩ => ⟨s, h1, h2, Walk.mono hf r (i + 1) (Vs ++ [s]) h3⟩
theorem W_walkq {id : Nat} {Q : Post} (m q : Nat) (S : List Nat) (hfol : P.follows .mixedOrders = true) (hdst : dstsOk N l = true) (htl : tailOk m l = true)
    (h : Walk P N q S l e w (fun Vs => ∀ (val : Nat → Value) (w1 : World), Chg S w w1 → (∀ i, i < m → ∀ o d, l[i]? = some o → o.dst = some d → (vsAt Vs i).holds (valOf Vs val i) w1) → WL P N l.toArray (l.drop m) Q (frontEnv Vs val 0 m l ++ e) w1) 0 (l.take m) []) :
    W P N (.region id l.toArray true) Q e w :=
  W_walkf m q S hfol hdst htl (Walk.mono (fun Vs h val w1 hc hp _ => h val w1 hc hp) _ _ _ h)

theorem Walk.plain {fin : List VS → Prop} {i : Nat} {r : List Oper} {Vs : List VS} {o : Oper} {v : Value} (hi : Nat.beq i q = false) (hg : o.guard = none)
    (h : ∀ (val : Nat → Value) (w1 : World), Chg S w w1 → (∀ j, (predsOf o).contains j = true → ∀ oj d, l[j]? = some oj → oj.dst = some d → (vsAt Vs j).holds (valOf Vs val j) w1) → OpW P N o (opEnv l Vs e i o val) w1 (fun u w' => Chg [] w1 w' ∧ u = v))
    (hr : Walk P N q S l e w fin (i + 1) r (Vs ++ [.c v])) : Walk P N q S l e w fin i (o :: r) Vs := by
  have hne : ¬ i = q := fun e => by subst e; simp at hi
  refine ⟨.c v, trivial, fun val w1 hc hp => ?_, hr⟩
  rw [hg]
  replace hc := hc.mono (fun k hk _ => pre_oth k hk)
  unfold Oth at hc
  rw [if_neg hne] at hc
  unfold Sel
  rw [if_neg hne]
  exact h val w1 hc hp
/-- An operation that stands ahead of the one that turns. -/
theorem Walk.plainP {fin : List VS → Prop} {i : Nat} {r : List Oper} {Vs : List VS} {o : Oper} {v : Value} (hi : Nat.beq i q = false) (hp : qPre q l i = true) (hg : o.guard = none)
    (h : ∀ (val : Nat → Value) (w1 : World), Chg [] w w1 → (∀ j, (predsOf o).contains j = true → ∀ oj d, l[j]? = some oj → oj.dst = some d → (vsAt Vs j).holds (valOf Vs val j) w1) → OpW P N o (opEnv l Vs e i o val) w1 (fun u w' => Chg [] w1 w' ∧ u = v))
    (hr : Walk P N q S l e w fin (i + 1) r (Vs ++ [.c v])) : Walk P N q S l e w fin i (o :: r) Vs := by
  have hne : ¬ i = q := fun e => by subst e; simp at hi
  refine ⟨.c v, trivial, fun val w1 hc hp' => ?_, hr⟩
  rw [hg]
  unfold Pre at hc
  rw [if_neg hne, if_pos hp] at hc
  unfold Sel
  rw [if_neg hne]
  exact h val w1 hc hp'
theorem Walk.rel {fin : List VS → Prop} {i : Nat} {r : List Oper} {Vs : List VS} {o : Oper} (hi : Nat.beq i q = false) (R : Value → World → Prop) (hg : o.guard = none) (hR : ∀ v w w', R v w → Chg S w w' → R v w')
    (h : ∀ (val : Nat → Value) (w1 : World), Chg S w w1 → (∀ j, (predsOf o).contains j = true → ∀ oj d, l[j]? = some oj → oj.dst = some d → (vsAt Vs j).holds (valOf Vs val j) w1) → OpW P N o (opEnv l Vs e i o val) w1 (fun u w' => Chg [] w1 w' ∧ R u w'))
    (hr : Walk P N q S l e w fin (i + 1) r (Vs ++ [.r R])) : Walk P N q S l e w fin i (o :: r) Vs := by
  have hne : ¬ i = q := fun e => by subst e; simp at hi
  refine ⟨.r R, ?_, fun val w1 hc hp => ?_, hr⟩
  · unfold Oth; rw [if_neg hne]; exact hR
  rw [hg]
  replace hc := hc.mono (fun k hk _ => pre_oth k hk)
  unfold Oth at hc
  rw [if_neg hne] at hc
  unfold Sel
  rw [if_neg hne]
  exact h val w1 hc hp
/-- The one that turns blocks of S. -/
theorem Walk.turn {fin : List VS → Prop} {i : Nat} {r : List Oper} {Vs : List VS} {o : Oper} (hi : Nat.beq i q = true) (R : Value → World → Prop) (hg : o.guard = none) (hR : ∀ v w w', R v w → Chg [] w w' → R v w')
    (h : ∀ (val : Nat → Value) (w1 : World), Chg [] w w1 → (∀ j, (predsOf o).contains j = true → ∀ oj d, l[j]? = some oj → oj.dst = some d → (vsAt Vs j).holds (valOf Vs val j) w1) → OpW P N o (opEnv l Vs e i o val) w1 (fun u w' => Chg S w1 w' ∧ R u w'))
    (hr : Walk P N q S l e w fin (i + 1) r (Vs ++ [.r R])) : Walk P N q S l e w fin i (o :: r) Vs := by
  have he : i = q := Nat.eq_of_beq_eq_true hi
  refine ⟨.r R, ?_, fun val w1 hc hp => ?_, hr⟩
  · unfold Oth; rw [if_pos he]; exact hR
  rw [hg]
  replace hc := hc.mono (fun k hk _ => pre_oth k hk)
  unfold Oth at hc
  rw [if_pos he] at hc
  unfold Sel
  rw [if_pos he]
  exact h val w1 hc hp
theorem Walk.guardT {fin : List VS → Prop} {i j : Nat} {want : Bool} {r : List Oper} {Vs : List VS} {o : Oper} {v : Value} (hi : Nat.beq i q = false) (hg : o.guard = some (j, want)) (hj : (predsOf o).contains j = true) (hjd : ((l[j]?).bind (·.dst)).isSome = true) (hb : ∀ val, valOf Vs val j = .bool want)
    (h : ∀ (val : Nat → Value) (w1 : World), Chg S w w1 → (∀ j, (predsOf o).contains j = true → ∀ oj d, l[j]? = some oj → oj.dst = some d → (vsAt Vs j).holds (valOf Vs val j) w1) → OpW P N o (opEnv l Vs e i o val) w1 (fun u w' => Chg [] w1 w' ∧ u = v))
    (hr : Walk P N q S l e w fin (i + 1) r (Vs ++ [.c v])) : Walk P N q S l e w fin i (o :: r) Vs := by
  have hne : ¬ i = q := fun e => by subst e; simp at hi
  refine ⟨.c v, trivial, fun val w1 hc hp => ?_, hr⟩
  rw [hg]
  replace hc := hc.mono (fun k hk _ => pre_oth k hk)
  unfold Oth at hc
  rw [if_neg hne] at hc
  unfold Sel
  rw [if_neg hne]
  exact ⟨want, hj, hjd, .inl (hb val), (fun _ => h val w1 hc hp), (fun hn => by cases want <;> cases hn)⟩
theorem Walk.guardR {fin : List VS → Prop} {i j : Nat} {want : Bool} {r : List Oper} {Vs : List VS} {o : Oper} (hi : Nat.beq i q = false) (R : Value → World → Prop) (hg : o.guard = some (j, want)) (hj : (predsOf o).contains j = true) (hjd : ((l[j]?).bind (·.dst)).isSome = true) (hb : ∀ val, valOf Vs val j = .bool want) (hR : ∀ v w w', R v w → Chg S w w' → R v w')
    (h : ∀ (val : Nat → Value) (w1 : World), Chg S w w1 → (∀ j, (predsOf o).contains j = true → ∀ oj d, l[j]? = some oj → oj.dst = some d → (vsAt Vs j).holds (valOf Vs val j) w1) → OpW P N o (opEnv l Vs e i o val) w1 (fun u w' => Chg [] w1 w' ∧ R u w'))
    (hr : Walk P N q S l e w fin (i + 1) r (Vs ++ [.r R])) : Walk P N q S l e w fin i (o :: r) Vs := by
  have hne : ¬ i = q := fun e => by subst e; simp at hi
  refine ⟨.r R, ?_, fun val w1 hc hp => ?_, hr⟩
  · unfold Oth; rw [if_neg hne]; exact hR
  rw [hg]
  replace hc := hc.mono (fun k hk _ => pre_oth k hk)
  unfold Oth at hc
  rw [if_neg hne] at hc
  unfold Sel
  rw [if_neg hne]
  exact ⟨want, hj, hjd, .inl (hb val), (fun _ => h val w1 hc hp), (fun hn => by cases want <;> cases hn)⟩
theorem Walk.guardF {fin : List VS → Prop} {i j : Nat} {want b : Bool} {r : List Oper} {Vs : List VS} {o : Oper} (hg : o.guard = some (j, want)) (hj : (predsOf o).contains j = true) (hjd : ((l[j]?).bind (·.dst)).isSome = true) (hb : ∀ val, valOf Vs val j = .bool b) (hbw : b = !want)
    (hr : Walk P N q S l e w fin (i + 1) r (Vs ++ [.c undef])) : Walk P N q S l e w fin i (o :: r) Vs :=
  ⟨.c undef, trivial, fun val w1 hc hp => by rw [hg]; exact ⟨b, hj, hjd, .inl (hb val), (fun hn => by subst hbw; cases want <;> cases hn), (fun _ => rfl)⟩, hr⟩
theorem Walk.guardU {fin : List VS → Prop} {i j : Nat} {want : Bool} {r : List Oper} {Vs : List VS} {o : Oper} (hg : o.guard = some (j, want)) (hj : (predsOf o).contains j = true) (hjd : ((l[j]?).bind (·.dst)).isSome = true) (hb : ∀ val, valOf Vs val j = undef)
    (hr : Walk P N q S l e w fin (i + 1) r (Vs ++ [.c undef])) : Walk P N q S l e w fin i (o :: r) Vs :=
  ⟨.c undef, trivial, fun val w1 hc hp => by rw [hg]; exact ⟨!want, hj, hjd, .inr ⟨rfl, hb val⟩, (fun hn => by cases want <;> cases hn), (fun _ => rfl)⟩, hr⟩
theorem Walk.fin {fin : List VS → Prop} {i : Nat} {Vs : List VS} (h : fin Vs) : Walk P N q S l e w fin i [] Vs := h
attribute [irreducible] Walk
end
end Go.Vc.Q
/-! Function values with what they carry: made, and called. -/
set_option linter.unusedSimpArgs false
set_option linter.unusedVariables false
namespace Go.Vc
open Go
theorem evs_of {N : Nat} {e : Env} {a : Act} (ha : Fits N e a) {args : Array Operand} {vs : Array Value} (h : args.toList.mapM (ev e) = some vs.toList) : args.map a.eval = vs := by
  have : ∀ (l : List Operand) (vs : List Value), l.mapM (ev e) = some vs → l.map a.eval = vs := by
    intro l
    induction l with
    | nil => intro vs h; simp at h; simp [h]
    | cons x l ih =>
      intro vs h
      simp only [List.mapM_cons, Option.bind_eq_bind] at h
      cases hx : ev e x with
      | none => simp [hx] at h
      | some u =>
        cases hl : l.mapM (ev e) with
        | none => simp [hx, hl] at h
        | some us =>
          simp [hx, hl] at h
          subst h
          simp [ha.ev hx, ih us hl]
  have h2 := this args.toList vs.toList h
  rw [← Array.toList_inj]; simpa using h2
section
variable {P : Program} {N : Nat} {e : Env} {w : World} {o : Oper} {K : Value → World → Prop}
theorem op_makeFunc {fn : Fn} {first captured : Array Operand} {fv cv : Array Value} (hop : o.op = .makeFunc fn first captured) (hf : first.toList.mapM (ev e) = some fv.toList) (hc : captured.toList.mapM (ev e) = some cv.toList) (h : K (.func fn fv cv) w) : OpW P N o e w K :=
  OpW_run (fun a ha => by simp [execOp, hop, evs_of ha hf, evs_of ha hc, Instr.makeFunc]) h
theorem op_callf {f : Operand} {n : FuncId} {args : Array Operand} {ts : Array TypeId} {vs fv cv : Array Value} {R : Value → World → Prop}
    (hop : o.op = .call { callee := .value f, args := args, argTypes := ts }) (hf : ev e f = some (.func (.func n) fv cv)) (hvs : args.toList.mapM (ev e) = some vs.toList)
    (hc : Has P n (fv ++ vs ++ cv) w R) (h : ∀ v w', R v w' → K v w') : OpW P N o e w K := by
  obtain ⟨⟨fn, hfn, hb, hnm⟩, hc⟩ := hc
  unfold OpW
  intro a ha K' Q' hk
  unfold Oper.wp
  have hb' : ¬ fn.body = none := fun e => by rw [e] at hb; simp at hb
  have hnm' : ¬ fn.name = "runtime.NumGoroutine" := fun e => by rw [e] at hnm; simp at hnm
  have hr : (execOp a.eval o).run P w = .ok (.enter n (fv ++ vs ++ cv)) w := by
    simp [execOp, hop, resolve, ha.ev hf, evs_of ha hvs, Deferred.ofValue, invoke, callFunc, hfn, hb', hnm']
  rw [hr, Oper.upon_enter]
  refine hc.mono ?_
  rintro x w' ⟨v, rfl, hv⟩
  exact hk _ _ (h v w' hv)
end
end Go.Vc
/-! The same walk, run by evaluation: what needs no thought (moves, choices, ways in and out) is computed by a function, n steps at once. -/
set_option linter.unusedVariables false
set_option linter.unusedSimpArgs false
namespace Go.Vc
open Go
inductive Fr where
  | seq (c : Code)
  | block (id : Nat)
  | scope
inductive St where
  | code (c : Code) (ks : List Fr)
  | ops (a : Array Oper) (l : List Oper) (ks : List Fr)
  | out (x : Exit) (ks : List Fr)
def PostOf (P : Program) (N : Nat) (Q : Post) : List Fr → Post
  | [] => Q
  | .seq y :: ks => Then (fun e w => W P N y (PostOf P N Q ks) e w) (PostOf P N Q ks)
  | .block id :: ks => InBlock id (PostOf P N Q ks)
  | .scope :: ks => NoGoto (PostOf P N Q ks)
def Run (P : Program) (N : Nat) (Q : Post) (s : St) (e : Env) (w : World) : Prop :=
  match s with
  | .code c ks => W P N c (PostOf P N Q ks) e w
  | .ops a l ks => WL P N a l (PostOf P N Q ks) e w
  | .out x ks => PostOf P N Q ks x e w
def pure1 {P : Program} (T : Types P) (o : Oper) (e : Env) : Option Value := match o.op with
  | .move x => ev e x
  | .assign x => ev e x
  | .pick c x y => match ev e c with
    | some (.bool true) => ev e x
    | some (.bool false) => ev e y
    | _ => none
  | .extract x i => match ev e x with
    | some (.tuple vs) => nth vs.toList i
    | _ => none
  | .nilCheck x => match ev e x with
    | some (.pointer (some ad)) => some (.pointer (some ad))
    | _ => none
  | .unOp .not t x => match ev e x with
    | some (.bool true) => some (.bool false)
    | some (.bool false) => some (.bool true)
    | _ => none
  | .fieldAddr t x i => match ev e x with
    | some (.pointer (some ⟨g, j, none⟩)) => match T.tbl t with
      | some d' => match d'.fields with
        | some fs => match fs[i]? with
          | some (ft, off) => match T.tbl ft with
            | some d => match Nat.beq d.size 0 with
              | false => some (.pointer (some ⟨g, j + off, none⟩))
              | true => none
            | none => none
          | none => none
        | none => none
      | none => none
    | _ => none
  | .call ⟨.builtin .len, ⟨[x]⟩, ⟨[t]⟩⟩ => match ev e x with
    | some (.slice A n c) => match T.d t with
      | some (.slice el) => some (.int .i64 (n : Int))
      | _ => none
    | _ => none
  | .binOp .eql t x y _ => match ev e y with
    | some (.pointer none) => match ev e x with
      | some (.pointer none) => match T.d t with
        | some (.pointer _) => some (.bool true)
        | _ => none
      | some (.pointer (some _)) => match T.d t with
        | some (.pointer _) => some (.bool false)
        | _ => none
      | _ => none
    | _ => none
  | .binOp .neq t x y _ => match ev e y with
    | some (.pointer none) => match ev e x with
      | some (.pointer none) => match T.d t with
        | some (.pointer _) => some (.bool false)
        | _ => none
      | some (.pointer (some _)) => match T.d t with
        | some (.pointer _) => some (.bool true)
        | _ => none
      | _ => none
    | _ => none
  | _ => none
theorem add_own (g j n : Nat) : (⟨g, j, none⟩ : Addr).add n = ⟨g, j + n, none⟩ := by unfold Addr.add; split <;> simp_all
section
variable {P : Program} {N : Nat} {Q : Post} {e : Env} {w : World}
theorem pure1_ok (T : Types P) {o : Oper} {v : Value} (h : pure1 T o e = some v) {K : Value → World → Prop} (hK : K v w) : OpW P N o e w K := by
  unfold pure1 at h
  split at h
  · rename_i x hop; exact op_move hop h hK
  · rename_i x hop; exact op_assign hop h hK
  · rename_i c x y hop
    split at h
    · rename_i hc; exact op_pick hop hc h rfl hK
    · rename_i hc; exact op_pick hop hc h rfl hK
    · cases h
  · rename_i x i hop
    split at h
    · rename_i vs hx; exact op_extract hop hx h hK
    · cases h
  · rename_i x hop
    split at h
    · rename_i ad hx; cases h; exact op_nilCheck hop hx hK
    · cases h
  · rename_i t x hop
    split at h
    · rename_i hx; cases h; exact op_notT hop hx hK
    · rename_i hx; cases h; exact op_notF hop hx hK
    · cases h
  · rename_i t x i hop
    split at h
    · rename_i g j hx
      split at h
      · rename_i d' ht
        split at h
        · rename_i fs hfs
          split at h
          · rename_i ft off hf
            split at h
            · rename_i d hft
              split at h
              · rename_i hd; cases h; exact op_fieldAddr T hop hx ht hfs hf hft hd (add_own _ _ _) hK
              · cases h
            · cases h
          · cases h
        · cases h
      · cases h
    · cases h
  · rename_i x t hop
    split at h
    · rename_i A n c hx
      split at h
      · rename_i el ht; cases h; exact op_len_slice T hop rfl hx ht hK
      · cases h
    · cases h
  · rename_i t x y ty hop
    split at h
    · rename_i hy
      split at h
      · rename_i hx
        split at h
        · rename_i el ht; cases h; exact op_eql_nilptr T hop hx hy ht rfl hK
        · cases h
      · rename_i hx
        split at h
        · rename_i el ht; cases h; exact op_eql_nilptr T hop hx hy ht rfl hK
        · cases h
      · cases h
    · cases h
  · rename_i t x y ty hop
    split at h
    · rename_i hy
      split at h
      · rename_i hx
        split at h
        · rename_i el ht; cases h; exact op_neq_nilptr T hop hx hy ht rfl hK
        · cases h
      · rename_i hx
        split at h
        · rename_i el ht; cases h; exact op_neq_nilptr T hop hx hy ht rfl hK
        · cases h
      · cases h
    · cases h
  · cases h
def fit1 (N : Nat) (d : Nat) (v : Value) (s : St) (e : Env) : Option (St × Env) := match Nat.blt d N with
  | true => some (s, (d, v) :: e)
  | false => none
def step {P : Program} (T : Types P) (N : Nat) : St → Env → Option (St × Env)
  | .code c ks, e => match c with
    | .skip => some (.out .normal ks, e)
    | .label _ => some (.out .normal ks, e)
    | .seq x y => some (.code x (.seq y :: ks), e)
    | .block id c => some (.code c (.block id :: ks), e)
    | .scope c => some (.code c (.scope :: ks), e)
    | .exit i => some (.out (.exit i) ks, e)
    | .ret => some (.out .ret ks, e)
    | .cond c x y => match ev e c with
      | some (.bool true) => some (.code x ks, e)
      | some (.bool false) => some (.code y ks, e)
      | _ => none
    | .region _ ⟨l⟩ false => some (.ops ⟨l⟩ l ks, e)
    | _ => none
  | .ops a l ks, e => match l with
    | [] => some (.out .normal ks, e)
    | o :: r => match o.dst with
      | none => none
      | some d => match o.guard with
        | none => match pure1 T o e with
          | some v => fit1 N d v (.ops a r ks) e
          | none => none
        | some (j, want) => match guardVal a e j with
          | some (.bool b) => match b, want with
            | true, true => match pure1 T o e with
              | some v => fit1 N d v (.ops a r ks) e
              | none => none
            | false, false => match pure1 T o e with
              | some v => fit1 N d v (.ops a r ks) e
              | none => none
            | true, false => fit1 N d undef (.ops a r ks) e
            | false, true => fit1 N d undef (.ops a r ks) e
          | some (.tuple ⟨[]⟩) => fit1 N d undef (.ops a r ks) e
          | _ => none
  | .out x ks, e => match x with
    | .normal => match ks with
      | .seq y :: ks => some (.code y ks, e)
      | .block _ :: ks => some (.out .normal ks, e)
      | .scope :: ks => some (.out .normal ks, e)
      | [] => none
    | .exit i => match ks with
      | .seq _ :: ks => some (.out (.exit i) ks, e)
      | .block id :: ks => match Nat.beq i id with
        | true => some (.out .normal ks, e)
        | false => some (.out (.exit i) ks, e)
      | .scope :: ks => some (.out (.exit i) ks, e)
      | [] => none
    | .ret => match ks with
      | .seq _ :: ks => some (.out .ret ks, e)
      | .block _ :: ks => some (.out .ret ks, e)
      | .scope :: ks => some (.out .ret ks, e)
      | [] => none
    | _ => none
def steps {P : Program} (T : Types P) (N : Nat) : Nat → St → Env → Option (St × Env)
  | 0, s, e => some (s, e)
  | n + 1, s, e => match step T N s e with
    | some (s', e') => steps T N n s' e'
    | none => none
theorem step_ok (T : Types P) {s s' : St} {e' : Env} (h : step T N s e = some (s', e')) (hr : Run P N Q s' e' w) : Run P N Q s e w := by
  have hfit : ∀ {d v s1}, fit1 N d v s1 e = some (s', e') → Nat.blt d N = true ∧ s' = s1 ∧ e' = (d, v) :: e := fun {d v s1} h => by
    unfold fit1 at h
    split at h
    · rename_i hd; cases h; exact ⟨hd, rfl, rfl⟩
    · cases h
  unfold step at h
  split at h
  · rename_i c ks e
    split at h
    · cases h; exact W_skip hr
    · cases h; exact W_label hr
    · cases h; exact W_seq hr
    · cases h; exact W_block hr
    · cases h; exact W_scope hr
    · cases h; exact W_exit hr
    · cases h; exact W_ret hr
    · split at h
      · rename_i hc; cases h; exact W_condT hc hr
      · rename_i hc; cases h; exact W_condF hc hr
      · cases h
    · cases h; exact W_region hr
    · cases h
  · rename_i a l ks e
    split at h
    · cases h; exact WL_nil hr
    · rename_i o r
      split at h
      · cases h
      · rename_i d hd
        split at h
        · rename_i hg
          split at h
          · rename_i v hv
            obtain ⟨h1, rfl, rfl⟩ := hfit h
            exact WL_some hg hd h1 (pure1_ok T hv hr)
          · cases h
        · rename_i j want hg
          split at h
          · rename_i b hb
            split at h
            · split at h
              · rename_i v hv
                obtain ⟨h1, rfl, rfl⟩ := hfit h
                exact WL_guardT hg hb hd h1 (pure1_ok T hv hr)
              · cases h
            · split at h
              · rename_i v hv
                obtain ⟨h1, rfl, rfl⟩ := hfit h
                exact WL_guardT hg hb hd h1 (pure1_ok T hv hr)
              · cases h
            · obtain ⟨h1, rfl, rfl⟩ := hfit h
              exact WL_guardF hg hb rfl hd h1 hr
            · obtain ⟨h1, rfl, rfl⟩ := hfit h
              exact WL_guardF hg hb rfl hd h1 hr
          · rename_i hb
            obtain ⟨h1, rfl, rfl⟩ := hfit h
            exact WL_guardU hg hb hd h1 hr
          · cases h
  · rename_i x ks e
    split at h
    · split at h
      · cases h; exact Then_n hr
      · cases h; exact InBlock_n hr
      · cases h; exact NoGoto_n hr
      · cases h
    · split at h
      · cases h; exact Then_x hr
      · split at h
        · rename_i he; cases h; rw [Nat.eq_of_beq_eq_true he]; exact InBlock_hit hr
        · rename_i he; cases h; exact InBlock_miss he hr
      · cases h; exact NoGoto_x hr
      · cases h
    · split at h
      · cases h; exact Then_r hr
      · cases h; exact InBlock_r hr
      · cases h; exact NoGoto_r hr
      · cases h
    · cases h
theorem go (T : Types P) : ∀ (n : Nat) {s s' : St} {e e' : Env}, steps T N n s e = some (s', e') → Run P N Q s' e' w → Run P N Q s e w
  | 0, s, s', e, e', h, hr => by simp only [steps] at h; cases h; exact hr
  | n + 1, s, s', e, e', h, hr => by
    simp only [steps] at h
    split at h
    · rename_i s1 e1 h1
      exact step_ok T h1 (go T n h hr)
    · cases h
theorem run {c : Code} (h : Run P N Q (.code c []) e w) : W P N c Q e w := h
theorem runL {a : Array Oper} {l : List Oper} {ks : List Fr} (h : Run P N Q (.ops a l ks) e w) : WL P N a l (PostOf P N Q ks) e w := h
theorem runX {x : Exit} {ks : List Fr} (h : Run P N Q (.out x ks) e w) : PostOf P N Q ks x e w := h
/-- One operation by a lemma of its own. -/
theorem op1 {a : Array Oper} {o : Oper} {r : List Oper} {ks : List Fr} {d : Nat} (hg : o.guard = none) (hdst : o.dst = some d) (hd : Nat.blt d N = true) (h : OpW P N o e w (fun v w' => Run P N Q (.ops a r ks) ((d, v) :: e) w')) : Run P N Q (.ops a (o :: r) ks) e w := WL_some hg hdst hd h
theorem op0 {a : Array Oper} {o : Oper} {r : List Oper} {ks : List Fr} (hg : o.guard = none) (hdst : o.dst = none) (h : OpW P N o e w (fun _ w' => Run P N Q (.ops a r ks) e w')) : Run P N Q (.ops a (o :: r) ks) e w := WL_none hg hdst h
theorem opG {a : Array Oper} {o : Oper} {r : List Oper} {ks : List Fr} {d j : Nat} {want : Bool} (hg : o.guard = some (j, want)) (hv : guardVal a e j = some (.bool want)) (hdst : o.dst = some d) (hd : Nat.blt d N = true) (h : OpW P N o e w (fun v w' => Run P N Q (.ops a r ks) ((d, v) :: e) w')) : Run P N Q (.ops a (o :: r) ks) e w := WL_guardT hg hv hdst hd h
theorem subO {a : Array Oper} {l : List Oper} {ks : List Fr} {e' : Env} (hs : SubL e e') (h : Run P N Q (.ops a l ks) e' w) : Run P N Q (.ops a l ks) e w := WL_sub hs h
theorem subC {c : Code} {ks : List Fr} {e' : Env} (hs : SubL e e') (h : Run P N Q (.code c ks) e' w) : Run P N Q (.code c ks) e w := W_sub hs h
/-! ### In short -/
/-- The operation that stands ahead may be taken: its place, none if its guard is shut. -/
def open1 (N : Nat) (a : Array Oper) (o : Oper) (e : Env) : Option Nat := match o.dst with
  | some d => match Nat.blt d N with
    | true => match o.guard with
      | none => some d
      | some (j, want) => match guardVal a e j with
        | some (.bool b) => match b, want with
          | true, true => some d
          | false, false => some d
          | _, _ => none
        | _ => none
    | false => none
  | none => none
theorem open1_ok {a : Array Oper} {o : Oper} {r : List Oper} {ks : List Fr} {d : Nat} (h1 : open1 N a o e = some d) (h : OpW P N o e w (fun v w' => Run P N Q (.ops a r ks) ((d, v) :: e) w')) : Run P N Q (.ops a (o :: r) ks) e w := by
  unfold open1 at h1
  split at h1
  · rename_i d' hd
    split at h1
    · rename_i hlt
      split at h1
      · rename_i hg; cases h1; exact WL_some hg hd hlt h
      · rename_i j want hg
        split at h1
        · rename_i b hv
          split at h1
          · cases h1; exact WL_guardT hg hv hd hlt h
          · cases h1; exact WL_guardT hg hv hd hlt h
          · cases h1
        · cases h1
    · cases h1
  · cases h1
section
variable {a : Array Oper} {o : Oper} {r : List Oper} {ks : List Fr} {d : Nat}
theorem o1 (h1 : open1 N a o e = some d) (h : OpW P N o e w (fun v w' => Run P N Q (.ops a r ks) ((d, v) :: e) w')) : Run P N Q (.ops a (o :: r) ks) e w := open1_ok h1 h
theorem rndX {σ : Type} {E : σ → Env} {I : σ → World → Prop} {lt : σ → Prop} {i : Nat} (h : Run P N Q (.out (.exit i) ks) e w) : Run P N (Round E I lt (PostOf P N Q ks)) (.out (.exit i) []) e w := Round_x h
theorem rndR {σ : Type} {E : σ → Env} {I : σ → World → Prop} {lt : σ → Prop} (h : Run P N Q (.out .ret ks) e w) : Run P N (Round E I lt (PostOf P N Q ks)) (.out .ret []) e w := Round_r h
theorem mtX {σ : Type} {E : σ → Env} {M : σ → World → Prop} {i : Nat} (h : Run P N Q (.out (.exit i) ks) e w) : Run P N (Meet E M (PostOf P N Q ks)) (.out (.exit i) []) e w := Meet_x h
theorem mtR {σ : Type} {E : σ → Env} {M : σ → World → Prop} (h : Run P N Q (.out .ret ks) e w) : Run P N (Meet E M (PostOf P N Q ks)) (.out .ret []) e w := Meet_r h
variable {t ty : TypeId} {x y : Operand} {k : IntKind} {m n : Int}
theorem ltT (h1 : open1 N a o e = some d) (hop : o.op = .binOp .lss t x y ty) (hx : ev e x = some (.int k m)) (hy : ev e y = some (.int k n)) (hc : m < n) (h : Run P N Q (.ops a r ks) ((d, .bool true) :: e) w) : Run P N Q (.ops a (o :: r) ks) e w := o1 h1 (op_lss hop hx hy (fun _ => h) (fun h => absurd hc h))
theorem ltF (h1 : open1 N a o e = some d) (hop : o.op = .binOp .lss t x y ty) (hx : ev e x = some (.int k m)) (hy : ev e y = some (.int k n)) (hc : ¬ m < n) (h : Run P N Q (.ops a r ks) ((d, .bool false) :: e) w) : Run P N Q (.ops a (o :: r) ks) e w := o1 h1 (op_lss hop hx hy (fun h => absurd h hc) (fun _ => h))
theorem leT (h1 : open1 N a o e = some d) (hop : o.op = .binOp .leq t x y ty) (hx : ev e x = some (.int k m)) (hy : ev e y = some (.int k n)) (hc : m ≤ n) (h : Run P N Q (.ops a r ks) ((d, .bool true) :: e) w) : Run P N Q (.ops a (o :: r) ks) e w := o1 h1 (op_leq hop hx hy (fun _ => h) (fun h => absurd hc h))
theorem leF (h1 : open1 N a o e = some d) (hop : o.op = .binOp .leq t x y ty) (hx : ev e x = some (.int k m)) (hy : ev e y = some (.int k n)) (hc : ¬ m ≤ n) (h : Run P N Q (.ops a r ks) ((d, .bool false) :: e) w) : Run P N Q (.ops a (o :: r) ks) e w := o1 h1 (op_leq hop hx hy (fun h => absurd h hc) (fun _ => h))
theorem gtT (h1 : open1 N a o e = some d) (hop : o.op = .binOp .gtr t x y ty) (hx : ev e x = some (.int k m)) (hy : ev e y = some (.int k n)) (hc : n < m) (h : Run P N Q (.ops a r ks) ((d, .bool true) :: e) w) : Run P N Q (.ops a (o :: r) ks) e w := o1 h1 (op_gtr hop hx hy (fun _ => h) (fun h => absurd hc h))
theorem gtF (h1 : open1 N a o e = some d) (hop : o.op = .binOp .gtr t x y ty) (hx : ev e x = some (.int k m)) (hy : ev e y = some (.int k n)) (hc : ¬ n < m) (h : Run P N Q (.ops a r ks) ((d, .bool false) :: e) w) : Run P N Q (.ops a (o :: r) ks) e w := o1 h1 (op_gtr hop hx hy (fun h => absurd h hc) (fun _ => h))
theorem geT (h1 : open1 N a o e = some d) (hop : o.op = .binOp .geq t x y ty) (hx : ev e x = some (.int k m)) (hy : ev e y = some (.int k n)) (hc : n ≤ m) (h : Run P N Q (.ops a r ks) ((d, .bool true) :: e) w) : Run P N Q (.ops a (o :: r) ks) e w := o1 h1 (op_geq hop hx hy (fun _ => h) (fun h => absurd hc h))
theorem geF (h1 : open1 N a o e = some d) (hop : o.op = .binOp .geq t x y ty) (hx : ev e x = some (.int k m)) (hy : ev e y = some (.int k n)) (hc : ¬ n ≤ m) (h : Run P N Q (.ops a r ks) ((d, .bool false) :: e) w) : Run P N Q (.ops a (o :: r) ks) e w := o1 h1 (op_geq hop hx hy (fun h => absurd h hc) (fun _ => h))
theorem eqT (h1 : open1 N a o e = some d) (hop : o.op = .binOp .eql t x y ty) (hx : ev e x = some (.int k m)) (hy : ev e y = some (.int k n)) (hc : m = n) (h : Run P N Q (.ops a r ks) ((d, .bool true) :: e) w) : Run P N Q (.ops a (o :: r) ks) e w := o1 h1 (op_eql hop hx hy (fun _ => h) (fun h => absurd hc h))
theorem eqF (h1 : open1 N a o e = some d) (hop : o.op = .binOp .eql t x y ty) (hx : ev e x = some (.int k m)) (hy : ev e y = some (.int k n)) (hc : ¬ m = n) (h : Run P N Q (.ops a r ks) ((d, .bool false) :: e) w) : Run P N Q (.ops a (o :: r) ks) e w := o1 h1 (op_eql hop hx hy (fun h => absurd h hc) (fun _ => h))
theorem neT (h1 : open1 N a o e = some d) (hop : o.op = .binOp .neq t x y ty) (hx : ev e x = some (.int k m)) (hy : ev e y = some (.int k n)) (hc : ¬ m = n) (h : Run P N Q (.ops a r ks) ((d, .bool true) :: e) w) : Run P N Q (.ops a (o :: r) ks) e w := o1 h1 (op_neq hop hx hy (fun _ => h) (fun h => absurd h hc))
theorem neF (h1 : open1 N a o e = some d) (hop : o.op = .binOp .neq t x y ty) (hx : ev e x = some (.int k m)) (hy : ev e y = some (.int k n)) (hc : m = n) (h : Run P N Q (.ops a r ks) ((d, .bool false) :: e) w) : Run P N Q (.ops a (o :: r) ks) e w := o1 h1 (op_neq hop hx hy (fun h => absurd hc h) (fun _ => h))
theorem adI (h1 : open1 N a o e = some d) (hop : o.op = .binOp .add t x y ty) (hx : ev e x = some (.int .i64 m)) (hy : ev e y = some (.int .i64 n)) (h0 : -9223372036854775808 ≤ m + n) (h2 : m + n ≤ 9223372036854775807) (h : Run P N Q (.ops a r ks) ((d, .int .i64 (m + n)) :: e) w) : Run P N Q (.ops a (o :: r) ks) e w := o1 h1 (op_add hop hx hy (wrap_i64_in h0 h2) h)
theorem sbI (h1 : open1 N a o e = some d) (hop : o.op = .binOp .sub t x y ty) (hx : ev e x = some (.int .i64 m)) (hy : ev e y = some (.int .i64 n)) (h0 : -9223372036854775808 ≤ m - n) (h2 : m - n ≤ 9223372036854775807) (h : Run P N Q (.ops a r ks) ((d, .int .i64 (m - n)) :: e) w) : Run P N Q (.ops a (o :: r) ks) e w := o1 h1 (op_subt hop hx hy (wrap_i64_in h0 h2) h)
theorem ltS (h1 : open1 N a o e = some d) (hop : o.op = .binOp .lss t x y ty) (hx : ev e x = some (.int k m)) (hy : ev e y = some (.int k n)) (ht : m < n → Run P N Q (.ops a r ks) ((d, .bool true) :: e) w) (hf : ¬ m < n → Run P N Q (.ops a r ks) ((d, .bool false) :: e) w) : Run P N Q (.ops a (o :: r) ks) e w := o1 h1 (op_lss hop hx hy ht hf)
theorem leS (h1 : open1 N a o e = some d) (hop : o.op = .binOp .leq t x y ty) (hx : ev e x = some (.int k m)) (hy : ev e y = some (.int k n)) (ht : m ≤ n → Run P N Q (.ops a r ks) ((d, .bool true) :: e) w) (hf : ¬ m ≤ n → Run P N Q (.ops a r ks) ((d, .bool false) :: e) w) : Run P N Q (.ops a (o :: r) ks) e w := o1 h1 (op_leq hop hx hy ht hf)
theorem gtS (h1 : open1 N a o e = some d) (hop : o.op = .binOp .gtr t x y ty) (hx : ev e x = some (.int k m)) (hy : ev e y = some (.int k n)) (ht : n < m → Run P N Q (.ops a r ks) ((d, .bool true) :: e) w) (hf : ¬ n < m → Run P N Q (.ops a r ks) ((d, .bool false) :: e) w) : Run P N Q (.ops a (o :: r) ks) e w := o1 h1 (op_gtr hop hx hy ht hf)
theorem geS (h1 : open1 N a o e = some d) (hop : o.op = .binOp .geq t x y ty) (hx : ev e x = some (.int k m)) (hy : ev e y = some (.int k n)) (ht : n ≤ m → Run P N Q (.ops a r ks) ((d, .bool true) :: e) w) (hf : ¬ n ≤ m → Run P N Q (.ops a r ks) ((d, .bool false) :: e) w) : Run P N Q (.ops a (o :: r) ks) e w := o1 h1 (op_geq hop hx hy ht hf)
theorem eqS (h1 : open1 N a o e = some d) (hop : o.op = .binOp .eql t x y ty) (hx : ev e x = some (.int k m)) (hy : ev e y = some (.int k n)) (ht : m = n → Run P N Q (.ops a r ks) ((d, .bool true) :: e) w) (hf : ¬ m = n → Run P N Q (.ops a r ks) ((d, .bool false) :: e) w) : Run P N Q (.ops a (o :: r) ks) e w := o1 h1 (op_eql hop hx hy ht hf)
theorem neS (h1 : open1 N a o e = some d) (hop : o.op = .binOp .neq t x y ty) (hx : ev e x = some (.int k m)) (hy : ev e y = some (.int k n)) (ht : ¬ m = n → Run P N Q (.ops a r ks) ((d, .bool true) :: e) w) (hf : m = n → Run P N Q (.ops a r ks) ((d, .bool false) :: e) w) : Run P N Q (.ops a (o :: r) ks) e w := o1 h1 (op_neq hop hx hy ht hf)
/-- A cell of a block that is known. -/
theorem ldB (T : Types P) {el : TypeId} {i' : TInfo} {g j : Nat} {v : Value} {cs : List Value} (hb : Blk w g el cs) (h1 : open1 N a o e = some d) (hop : o.op = .load t x) (hx : ev e x = some (.pointer (some ⟨g, j, none⟩))) (ht : T.tbl t = some i') (hd : aggI i' = false) (hv : nth cs j = some v) (h : Run P N Q (.ops a r ks) ((d, v) :: e) w) : Run P N Q (.ops a (o :: r) ks) e w := o1 h1 (op_loadB T hop hx ht hd hb hv h)
end
/-- A part of a slice, as a value. -/
def cutV (A : Option Addr) (c l h : Nat) : Value := .slice (if c = l then A else A.map (·.add (l * 1))) (h - l) (c - l)
theorem cutV_reads {α : Type} {R : World → Value → α → Prop} {L : List α} {A : Option Addr} {n c l h : Nat} (hs : SliceOf R w (.slice A n c) L) (h0 : l ≤ h) (h1 : h ≤ L.length) : SliceOf R w (cutV A c l h) ((L.take h).drop l) := hs.cut h0 h1
theorem op_cutV (T : Types P) {K : Value → World → Prop} {o : Oper} {x : Operand} {lo hi : Option Operand} {t el : TypeId} {A : Option Addr} {n c : Nat} {j : TInfo} {l h' : Nat}
    (hop : o.op = .slice t x lo hi none) (hx : ev e x = some (.slice A n c)) (ht : T.d t = some (.slice el)) (hel : T.tbl el = some j) (hj : Nat.beq j.size 1 = true)
    (hlo : (match lo with | none => l = 0 | some y => ∃ k, ev e y = some (.int k (l : Int)))) (hhi : (match hi with | none => h' = n | some y => ∃ k, ev e y = some (.int k (h' : Int)))) (h0 : l ≤ h') (h1 : h' ≤ c)
    (h : K (cutV A c l h') w) : OpW P N o e w K := op_slice T hop hx ht hel hlo hhi h0 h1 (by rw [Nat.eq_of_beq_eq_true hj]; exact h)
theorem op_shl_fit {K : Value → World → Prop} {o : Oper} {x y : Operand} {t ty : TypeId} {k k' : IntKind} {a s : Nat} (hk : k.signed = false) (hs : s ≤ k.bits) (hlt : a * 2 ^ s < 2 ^ k.bits) (hop : o.op = .binOp .shl t x y ty) (hx : ev e x = some (.int k (a : Int))) (hy : ev e y = some (.int k' (s : Int)))
    (h : K (.int k ((a * 2 ^ s : Nat) : Int)) w) : OpW P N o e w K := op_shl_nat hk hs hop hx hy (by rw [Nat.mod_eq_of_lt hlt]; exact h)
/-- One result, in a cell. -/
theorem post1c (T : Types P) {fn : Func} {R : Value → World → Prop} {x : Exit} {t : Tmp} {ty el : TypeId} {d : TInfo} {g : Nat} {cs : List Value}
    (hx : x = .ret ∨ x = .normal) (h : fn.results = #[.cell t ty]) (hv : look e t = some (.pointer (some ⟨g, 0, none⟩))) (ht : T.tbl ty = some d) (hd : aggI d = true) (hb : Blk w g el cs) (hs : Nat.beq d.size cs.length = true)
    (hR : R (.agg cs.toArray) w) : PostF P fn R x e w := by
  have : ∀ N a, Fits N e a → (results fn a.tmps).run P w = .ok (.agg cs.toArray) w := fun N a ha => by
    have h1 := ha.look t _ hv
    simp only [results, h]
    simp [Sem.run_bind, Result.andThen, Array.getD_eq_getD_getElem?, h1, asAddr, loadVar_agg T ht hd hb hs]
  unfold PostF
  rcases hx with rfl | rfl <;> exact ⟨_, this, hR⟩
end
end Go.Vc
/-! Sums and seals, in plain words. -/
set_option linter.unusedVariables false
namespace Go.Vc
open Go
def xorU (x y : Int) : Int := IntKind.u32.wrap ((BitVec.ofInt 32 x ^^^ BitVec.ofInt 32 y).toNat : Int)
def andU (x y : Int) : Int := IntKind.u32.wrap ((BitVec.ofInt 32 x &&& BitVec.ofInt 32 y).toNat : Int)
def crcBit (x : Int) : Int := xorU (x.fdiv (2 ^ (min (1 : Int).toNat 32))) (andU 3988292384 (IntKind.u32.wrap (0 - andU x 1)))
def crcBits : Nat → Int → Int
  | 0, x => x
  | n + 1, x => crcBit (crcBits n x)
def crcByte (x : Int) (c : UInt8) : Int := crcBits 8 (xorU x (IntKind.u32.wrap (c.toNat : Int)))
def crcTo (l : List UInt8) : Int := l.foldl crcByte 4294967295
def crc (l : List UInt8) : Int := IntKind.u32.wrap ((BitVec.ofInt 32 4294967295 ^^^ BitVec.ofInt 32 (crcTo l)).toNat : Int)
theorem crcTo_take (l : List UInt8) (k : Nat) (h : k < l.length) : crcTo (l.take (k + 1)) = crcByte (crcTo (l.take k)) l[k] := by
  rw [List.take_add_one, List.getElem?_eq_getElem h]
  exact List.foldl_append
theorem wrap_u32_range (n : Int) : 0 ≤ IntKind.u32.wrap n ∧ IntKind.u32.wrap n < 4294967296 := by
  simp [IntKind.wrap, IntKind.signed, IntKind.bits]
  omega
def crcN (l : List UInt8) : Nat := (crc l).toNat
theorem crc_eq (l : List UInt8) : crc l = (crcN l : Int) := by
  have := (wrap_u32_range ((BitVec.ofInt 32 4294967295 ^^^ BitVec.ofInt 32 (crcTo l)).toNat : Int)).1
  exact (Int.toNat_of_nonneg this).symm
theorem crcN_lt (l : List UInt8) : crcN l < 4294967296 := by
  have := (wrap_u32_range ((BitVec.ofInt 32 4294967295 ^^^ BitVec.ofInt 32 (crcTo l)).toNat : Int)).2
  have h2 : crc l < 4294967296 := this
  have := crc_eq l
  omega
/-- The seal of bytes. -/
def sealM (b : List UInt8) : List UInt8 := fourM b.length ++ fourM (crcN (fourM b.length)) ++ fourM (crcN b) ++ b
theorem fourM_length (n : Nat) : (fourM n).length = 4 := rfl
theorem sealM_length (b : List UInt8) : (sealM b).length = 12 + b.length := by simp [sealM, fourM_length]; omega
def firstM (l : List UInt8) : List UInt8 × Nat × Bool :=
  if l.length < 12 then ([], 0, true)
  else if getFourM (l.drop 4) ≠ crcN (l.take 4) then ([], 0, false)
  else if l.length - 12 < getFourM l then ([], 0, true)
  else if getFourM (l.drop 8) ≠ crcN ((l.drop 12).take (getFourM l)) then ([], 0, false)
  else ((l.drop 12).take (getFourM l), 12 + getFourM l, true)
theorem firstM_bound (l : List UInt8) : (firstM l).2.1 = 0 ∨ (12 ≤ (firstM l).2.1 ∧ (firstM l).2.1 ≤ l.length ∧ (firstM l).1.length + 12 = (firstM l).2.1) := by
  unfold firstM
  split
  · exact .inl rfl
  split
  · exact .inl rfl
  split
  · exact .inl rfl
  split
  · exact .inl rfl
  · refine .inr ⟨by dsimp only; omega, by dsimp only; omega, ?_⟩
    simp [List.length_take, List.length_drop]
    omega
def scanM (l : List UInt8) : List (List UInt8) × Nat × Bool :=
  if h : (firstM l).2.1 = 0 then ([], 0, (firstM l).2.2)
  else ((firstM l).1 :: (scanM (l.drop (firstM l).2.1)).1, (firstM l).2.1 + (scanM (l.drop (firstM l).2.1)).2.1, (scanM (l.drop (firstM l).2.1)).2.2)
termination_by l.length
decreasing_by
  all_goals
    rcases firstM_bound l with h' | ⟨h1, h2, _⟩
    · exact absurd h' h
    · rw [List.length_drop]; omega
theorem scanM_end {l : List UInt8} (h : (firstM l).2.1 = 0) : scanM l = ([], 0, (firstM l).2.2) := by rw [scanM]; exact dif_pos h
theorem scanM_step {l : List UInt8} (h : ¬ (firstM l).2.1 = 0) : scanM l = ((firstM l).1 :: (scanM (l.drop (firstM l).2.1)).1, (firstM l).2.1 + (scanM (l.drop (firstM l).2.1)).2.1, (scanM (l.drop (firstM l).2.1)).2.2) := by
  rw [scanM]; exact dif_neg h
/-- What is sealed is opened, whatever stands behind. -/
theorem firstM_sealM (b rest : List UInt8) (hb : b.length < 4294967296) : firstM (sealM b ++ rest) = (b, 12 + b.length, true) := by
  have e0 : sealM b ++ rest = fourM b.length ++ (fourM (crcN (fourM b.length)) ++ (fourM (crcN b) ++ (b ++ rest))) := by simp [sealM]
  have l0 : (sealM b ++ rest).length = 12 + b.length + rest.length := by rw [List.length_append, sealM_length]
  have h1 : getFourM (sealM b ++ rest) = b.length := by rw [e0]; exact getFourM_fourM _ _ hb
  have h2 : (sealM b ++ rest).drop 4 = fourM (crcN (fourM b.length)) ++ (fourM (crcN b) ++ (b ++ rest)) := by rw [e0]; exact List.drop_left' (fourM_length _)
  have h3 : (sealM b ++ rest).take 4 = fourM b.length := by rw [e0]; exact List.take_left' (fourM_length _)
  have h4 : (sealM b ++ rest).drop 8 = fourM (crcN b) ++ (b ++ rest) := by rw [show 8 = 4 + 4 from rfl, ← List.drop_drop, h2]; exact List.drop_left' (fourM_length _)
  have h5 : (sealM b ++ rest).drop 12 = b ++ rest := by rw [show 12 = 8 + 4 from rfl, ← List.drop_drop, h4]; exact List.drop_left' (fourM_length _)
  unfold firstM
  rw [if_neg (by omega), if_neg (by rw [h2, h3, getFourM_fourM _ _ (crcN_lt _)]; simp), if_neg (by omega), h1, h5, List.take_left' rfl, h4, getFourM_fourM _ _ (crcN_lt _), if_neg (by simp)]
theorem scanM_sealM (b rest : List UInt8) (hb : b.length < 4294967296) : scanM (sealM b ++ rest) = (b :: (scanM rest).1, 12 + b.length + (scanM rest).2.1, (scanM rest).2.2) := by
  have h := firstM_sealM b rest hb
  rw [scanM_step (by rw [h]; simp), h]
  dsimp only
  have : (sealM b ++ rest).drop (12 + b.length) = rest := List.drop_left' (sealM_length b)
  rw [this]
theorem scanM_nil : scanM [] = ([], 0, true) := by
  have : firstM [] = ([], 0, true) := by unfold firstM; rw [if_pos (by decide)]
  rw [scanM_end (by rw [this]), this]
end Go.Vc
/-! Records, in plain words. -/
set_option linter.unusedVariables false
namespace Go.Vc
open Go
structure RecM where
  kind : Int
  seq : Int
  key : List UInt8
  val : List UInt8
def recL (r : RecM) : List Value := [.int .i64 r.kind, .int .i64 r.seq, .string (str r.key), .string (str r.val)]
def checkM (r : RecM) : Int :=
  if r.key = [] then 1
  else if 100 < r.key.length ∨ 4000 < r.val.length then 2
  else if (r.kind ≠ 1 ∧ r.kind ≠ 0) ∨ (r.kind = 0 ∧ r.val ≠ []) ∨ r.seq < 1 ∨ 1125899906842624 < r.seq then 10
  else 0
structure RecOk (r : RecM) : Prop where
  key : r.key ≠ []
  key100 : r.key.length ≤ 100
  val4000 : r.val.length ≤ 4000
  kind : r.kind = 1 ∨ (r.kind = 0 ∧ r.val = [])
  seq1 : 1 ≤ r.seq
  seq2 : r.seq ≤ 1125899906842624
theorem checkM_ok {r : RecM} : checkM r = 0 ↔ RecOk r := by
  unfold checkM
  constructor
  · intro h
    split at h
    · cases h
    split at h
    · cases h
    split at h
    · cases h
    · rename_i h1 h2 h3
      refine ⟨h1, by omega, by omega, ?_, by omega, by omega⟩
      by_cases hk : r.kind = 1
      · exact .inl hk
      · refine .inr ⟨by omega, ?_⟩
        by_cases hv : r.val = []
        · exact hv
        · exact absurd (.inr (.inl ⟨by omega, hv⟩)) h3
  · rintro ⟨h1, h2, h3, h4, h5, h6⟩
    rw [if_neg h1, if_neg (by omega), if_neg ?_]
    rintro (h | h | h | h)
    · omega
    · rcases h4 with h4 | ⟨_, h4⟩
      · omega
      · exact h.2 h4
    · omega
    · omega
def bodyM (r : RecM) : List UInt8 := UInt8.ofNat r.kind.toNat :: putM r.seq.toNat ++ textM r.key ++ (if r.kind = 1 then textM r.val else [])
def encM (r : RecM) : List UInt8 × Int := if checkM r ≠ 0 then ([], checkM r) else (sealM (bodyM r), 0)
theorem textM_len (s : List UInt8) (h : s.length < 1000000000) : (textM s).length ≤ 10 + s.length := by
  have := putM_len10 (n := s.length) (by omega)
  unfold textM
  rw [List.length_append]; omega
theorem bodyM_len {r : RecM} (h : RecOk r) : (bodyM r).length ≤ 4200 := by
  have h1 := putM_len10 (n := r.seq.toNat) (by have := h.seq2; omega)
  have h2 := textM_len r.key (by have := h.key100; omega)
  have h3 := textM_len r.val (by have := h.val4000; omega)
  have := h.key100; have := h.val4000
  unfold bodyM
  simp only [List.length_append, List.length_cons]
  split
  · omega
  · simp; omega
/-- A reader: what is left, and whether something did not go. -/
def stepM (s : List UInt8 × Bool) (n : Nat) : List UInt8 × Bool := if s.2 = true ∨ n = 0 then ([], true) else (s.1.drop n, false)
def numM (s : List UInt8 × Bool) (most : Nat) : Nat × (List UInt8 × Bool) :=
  (if (stepM s (if most < (getM s.1).1 then 0 else (getM s.1).2)).2 = true then 0 else (getM s.1).1, stepM s (if most < (getM s.1).1 then 0 else (getM s.1).2))
def readM' (s : List UInt8 × Bool) : List UInt8 × (List UInt8 × Bool) := (if (stepM s (getTextM s.1).2).2 = true then [] else (getTextM s.1).1, stepM s (getTextM s.1).2)
def dec1 (b : List UInt8) : Nat × (List UInt8 × Bool) := numM (b, false) 1
def dec2 (b : List UInt8) : Nat × (List UInt8 × Bool) := numM (dec1 b).2 1125899906842624
def dec3 (b : List UInt8) : List UInt8 × (List UInt8 × Bool) := readM' (dec2 b).2
def dec4 (b : List UInt8) : List UInt8 × (List UInt8 × Bool) := if (dec1 b).1 = 1 then readM' (dec3 b).2 else ([], (dec3 b).2)
def decR (b : List UInt8) : RecM := ⟨(dec1 b).1, (dec2 b).1, (dec3 b).1, (dec4 b).1⟩
def decOk (b : List UInt8) : Bool := decide (((dec4 b).2.2 = false ∧ (dec4 b).2.1 = []) ∧ checkM (decR b) = 0 ∧ (encM (decR b)).1 = sealM b)
theorem numM_putM {n most : Nat} (rest : List UInt8) (h : n ≤ most) (hm : most < 18446744073709551616) : numM (putM n ++ rest, false) most = (n, (rest, false)) := by
  have hp := putM_pos n
  have hs : stepM (putM n ++ rest, false) (if most < (getM (putM n ++ rest)).1 then 0 else (getM (putM n ++ rest)).2) = (rest, false) := by
    rw [getM_putM rest (by omega)]
    dsimp only
    rw [if_neg (by omega)]
    unfold stepM
    rw [if_neg (by rintro (h | h); · cases h
                   · omega)]
    simp
  unfold numM
  dsimp only
  rw [hs, getM_putM rest (by omega)]
  rfl
theorem readM'_textM (s rest : List UInt8) (h : s.length < 1000000000) : readM' (textM s ++ rest, false) = (s, (rest, false)) := by
  have hp := putM_pos s.length
  have hs : stepM (textM s ++ rest, false) (getTextM (textM s ++ rest)).2 = (rest, false) := by
    rw [getTextM_textM s rest h]
    unfold stepM
    rw [if_neg (by rintro (h | h); · cases h
                   · simp [textM] at h; rw [h.1] at hp; simp at hp)]
    simp
  unfold readM'
  rw [hs]
  dsimp only
  rw [getTextM_textM s rest h]
  rfl
theorem dec_body {r : RecM} (h : RecOk r) : decR (bodyM r) = r ∧ decOk (bodyM r) = true := by
  obtain ⟨k, q, ky, vl⟩ := r
  have hk := h.kind
  have h1 := h.seq1; have h2 := h.seq2; have h3 := h.key100; have h4 := h.val4000
  dsimp only at hk h1 h2 h3 h4
  have hkn : k.toNat < 128 := by rcases hk with hk | hk <;> omega
  have e0 : bodyM ⟨k, q, ky, vl⟩ = putM k.toNat ++ (putM q.toNat ++ (textM ky ++ (if k = 1 then textM vl else []))) := by
    rw [putM_small hkn]
    unfold bodyM
    simp only [List.cons_append, List.nil_append, List.append_assoc]
  have d1 : dec1 (bodyM ⟨k, q, ky, vl⟩) = (k.toNat, (putM q.toNat ++ (textM ky ++ (if k = 1 then textM vl else [])), false)) := by
    unfold dec1
    rw [e0]
    exact numM_putM _ (by rcases hk with hk | hk <;> omega) (by decide)
  have d2 : dec2 (bodyM ⟨k, q, ky, vl⟩) = (q.toNat, (textM ky ++ (if k = 1 then textM vl else []), false)) := by
    unfold dec2
    rw [d1]
    exact numM_putM _ (by omega) (by decide)
  have d3 : dec3 (bodyM ⟨k, q, ky, vl⟩) = (ky, ((if k = 1 then textM vl else []), false)) := by
    unfold dec3
    rw [d2]
    exact readM'_textM _ _ (by omega)
  have d4 : dec4 (bodyM ⟨k, q, ky, vl⟩) = (vl, ([], false)) := by
    unfold dec4
    rw [d1, d3]
    dsimp only
    rcases hk with hk | ⟨hk, hv⟩
    · rw [if_pos (by omega), if_pos hk]
      have := readM'_textM vl [] (by omega)
      rwa [List.append_nil] at this
    · rw [if_neg (by omega), if_neg (by omega), hv]
  have hr : decR (bodyM ⟨k, q, ky, vl⟩) = ⟨k, q, ky, vl⟩ := by
    unfold decR
    rw [d1, d2, d3, d4]
    dsimp only
    rw [Int.toNat_of_nonneg (by rcases hk with hk | hk <;> omega), Int.toNat_of_nonneg (by omega)]
  refine ⟨hr, ?_⟩
  unfold decOk
  have hc := checkM_ok.2 h
  rw [hr, d4, decide_eq_true ⟨⟨rfl, rfl⟩, hc, by unfold encM; rw [if_neg (by simp [hc])]⟩]
/-- The records of seals. -/
def recGo : List (List UInt8) → Nat → Bool → List RecM × Nat × Bool
  | [], at_, cut => ([], at_, cut)
  | s :: t, at_, cut => if decOk s = true then (decR s :: (recGo t (at_ + (sealM s).length) cut).1, (recGo t (at_ + (sealM s).length) cut).2) else ([], at_, false)
def rscanM (b : List UInt8) : List RecM × Nat × Bool := recGo (scanM b).1 0 (scanM b).2.2
theorem recGo_at : ∀ (l : List (List UInt8)) (k : Nat) (cut : Bool), recGo l k cut = ((recGo l 0 cut).1, k + (recGo l 0 cut).2.1, (recGo l 0 cut).2.2)
  | [], k, cut => by simp [recGo]
  | s :: t, k, cut => by
    have h1 := recGo_at t (k + (sealM s).length) cut
    have h2 := recGo_at t (0 + (sealM s).length) cut
    unfold recGo
    split
    · rw [h1, h2]
      simp only [Prod.mk.injEq, true_and]
      refine ⟨by omega, trivial⟩
    · simp
theorem rscanM_nil : rscanM [] = ([], 0, true) := by unfold rscanM; rw [scanM_nil]; rfl
theorem rscanM_enc {r : RecM} (h : RecOk r) (rest : List UInt8) : rscanM (sealM (bodyM r) ++ rest) = (r :: (rscanM rest).1, (sealM (bodyM r)).length + (rscanM rest).2.1, (rscanM rest).2.2) := by
  have hb := bodyM_len h
  obtain ⟨h1, h2⟩ := dec_body h
  unfold rscanM
  rw [scanM_sealM _ _ (by omega)]
  dsimp only
  rw [recGo, if_pos h2, h1, recGo_at]
  simp
end Go.Vc
/-! The references of numbers, sums and records, in plain words: they say what the program's own say. -/
set_option linter.unusedVariables false
namespace Go.Vc
open Go
/-! ### Numbers are written in one way -/
theorem getGo_canon : ∀ (l : List UInt8) (i acc n k : Nat), i ≤ 9 → acc < 2 ^ (7 * i) → getGo i acc (l.take (10 - i)) = (n, k) → k ≠ 0 →
    ∃ m, n = acc + m * 2 ^ (7 * i) ∧ l = putM m ++ l.drop (putM m).length ∧ k = i + (putM m).length ∧ (0 < i → 0 < m)
  | [], i, acc, n, k, hi, ha, h, hk => by simp [getGo] at h; exact absurd h.2.symm hk
  | c :: l, i, acc, n, k, hi, ha, h, hk => by
    have hc := c.toNat_lt
    rw [show 10 - i = (9 - i) + 1 from by omega, List.take_succ_cons, getGo] at h
    split at h
    · rename_i hbig
      by_cases h9 : i = 9
      · subst h9
        simp [getGo] at h
        exact absurd h.2.symm hk
      · have hmul : c.toNat % 128 * 2 ^ (7 * i) < 18446744073709551616 := by
          have h1 : c.toNat % 128 * 2 ^ (7 * i) < 2 ^ 7 * 2 ^ (7 * i) := Nat.mul_lt_mul_of_pos_right (by omega) (Nat.two_pow_pos _)
          have h2 : 2 ^ 7 * 2 ^ (7 * i) ≤ 2 ^ 63 := by rw [← Nat.pow_add]; exact Nat.pow_le_pow_right (by decide) (by omega)
          omega
        have hacc := getAcc_eq (c := c) ha hmul
        rw [hacc, show 9 - i = 10 - (i + 1) from by omega] at h
        have hlt : acc + c.toNat % 128 * 2 ^ (7 * i) < 2 ^ (7 * (i + 1)) := by
          have h1 : (c.toNat % 128 + 1) * 2 ^ (7 * i) ≤ 2 ^ 7 * 2 ^ (7 * i) := Nat.mul_le_mul_right _ (by omega)
          rw [← Nat.pow_add, show 7 + 7 * i = 7 * (i + 1) from by omega] at h1
          rw [Nat.succ_mul] at h1
          omega
        obtain ⟨m, h1, h2, h3, h4⟩ := getGo_canon l (i + 1) _ n k (by omega) hlt h hk
        have hm := h4 (by omega)
        have hput : putM (c.toNat % 128 + 128 * m) = c :: putM m := by
          rw [putM_big (by omega)]
          congr 1
          · apply UInt8.toNat_inj.1
            rw [toNat_ofNat (by omega)]
            omega
          · congr 1
            omega
        refine ⟨c.toNat % 128 + 128 * m, ?_, ?_, ?_, fun _ => by omega⟩
        · rw [h1, show 7 * (i + 1) = 7 * i + 7 from by omega, Nat.pow_add, Nat.add_mul]
          have : m * (2 ^ (7 * i) * 2 ^ 7) = 128 * m * 2 ^ (7 * i) := by
            rw [show (2 : Nat) ^ 7 = 128 from rfl, Nat.mul_comm (2 ^ (7 * i)) 128, ← Nat.mul_assoc, Nat.mul_comm m 128]
          omega
        · rw [hput, List.length_cons, List.drop_succ_cons, List.cons_append, ← h2]
        · rw [hput, List.length_cons]; omega
    · rename_i hsmall
      split at h
      · injection h with h1 h2
        exact absurd h2.symm hk
      · rename_i hgood
        injection h with h1 h2
        have hmod : c.toNat % 128 = c.toNat := by omega
        have hmul : c.toNat % 128 * 2 ^ (7 * i) < 18446744073709551616 := by
          rw [hmod]
          by_cases h9 : i = 9
          · subst h9
            have : c.toNat ≤ 1 := by omega
            have : c.toNat * 2 ^ (7 * 9) ≤ 1 * 2 ^ (7 * 9) := Nat.mul_le_mul_right _ this
            omega
          · have h1 : c.toNat * 2 ^ (7 * i) < 2 ^ 7 * 2 ^ (7 * i) := Nat.mul_lt_mul_of_pos_right (by omega) (Nat.two_pow_pos _)
            have h2 : 2 ^ 7 * 2 ^ (7 * i) ≤ 2 ^ 63 := by rw [← Nat.pow_add]; exact Nat.pow_le_pow_right (by decide) (by omega)
            omega
        have hacc := getAcc_eq (c := c) ha hmul
        rw [hacc, hmod] at h1
        have hput : putM c.toNat = [c] := by rw [putM_small (by omega)]; simp
        exact ⟨c.toNat, h1.symm, by rw [hput]; simp, by rw [hput, ← h2]; rfl, fun h0 => by omega⟩
theorem getM_canon {b : List UInt8} (h : (getM b).2 ≠ 0) : b = putM (getM b).1 ++ b.drop (getM b).2 ∧ (getM b).2 = (putM (getM b).1).length := by
  obtain ⟨m, h1, h2, h3, _⟩ := getGo_canon b 0 0 (getM b).1 (getM b).2 (by decide) (by decide) rfl h
  have hm : m = (getM b).1 := by omega
  subst hm
  rw [Nat.zero_add] at h3
  exact ⟨by rw [h3]; exact h2, h3⟩
theorem getTextM_canon {b : List UInt8} (h : (getTextM b).2 ≠ 0) : b = textM (getTextM b).1 ++ b.drop (getTextM b).2 ∧ (getTextM b).1.length ≤ b.length := by
  refine ⟨?_, (getTextM_bound b).1⟩
  unfold getTextM at h ⊢
  split at h
  · exact absurd rfl h
  rename_i hc
  rw [if_neg hc]
  dsimp only
  obtain ⟨h1, h2⟩ := getM_canon (b := b) (by omega)
  have hb := getM_bound b
  have hlen : ((b.drop (getM b).2).take (getM b).1).length = (getM b).1 := by rw [List.length_take, List.length_drop]; omega
  unfold textM
  rw [hlen, List.append_assoc, ← List.drop_drop, List.take_append_drop]
  exact h1
theorem getM_head {c : UInt8} {t : List UInt8} (h : ¬ 1 < c.toNat) : getM (c :: t) = (c.toNat, 1) := by
  have := getM_putM (n := c.toNat) t (by omega)
  rw [putM_small (by omega)] at this
  simpa using this
theorem getM_head_big {c : UInt8} {t : List UInt8} (h : 1 < c.toNat) (hk : (getM (c :: t)).2 ≠ 0) : 1 < (getM (c :: t)).1 := by
  obtain ⟨h1, h2⟩ := getM_canon hk
  generalize (getM (c :: t)).1 = n at *
  by_cases hn : n < 128
  · rw [putM_small hn] at h1
    simp only [List.cons_append] at h1
    injection h1 with h1 _
    rw [h1, toNat_ofNat (by omega)] at h
    exact h
  · omega
/-! ### The reference's reading of a number: from the highest byte down -/
def horn : List UInt8 → Nat
  | [] => 0
  | c :: r => c.toNat % 128 + 128 * horn r
theorem horn_lt : ∀ l : List UInt8, horn l < 2 ^ (7 * l.length)
  | [] => by decide
  | c :: r => by
    have := horn_lt r
    rw [List.length_cons, show 7 * (r.length + 1) = 7 + 7 * r.length from by omega, Nat.pow_add]
    simp only [horn]
    omega
theorem horn_append (a : List UInt8) (c : UInt8) : horn (a ++ [c]) = horn a + c.toNat % 128 * 2 ^ (7 * a.length) := by
  induction a with
  | nil => simp [horn]
  | cons x a ih =>
    simp only [List.cons_append, horn, ih, List.length_cons]
    rw [show 7 * (a.length + 1) = 7 * a.length + 7 from by omega, Nat.pow_add]
    rw [Nat.mul_add, ← Nat.add_assoc]
    congr 1
    rw [show (2 : Nat) ^ 7 = 128 from rfl, Nat.mul_comm 128, Nat.mul_assoc]
theorem getGo_big : ∀ (l : List UInt8) (i acc : Nat), (∀ c ∈ l, 127 < c.toNat) → getGo i acc l = (0, 0)
  | [], _, _, _ => rfl
  | c :: l, i, acc, h => by
    rw [getGo, if_pos (h c (by simp))]
    exact getGo_big l _ _ (fun x hx => h x (by simp [hx]))
theorem getGo_stop (c : UInt8) (hc : ¬ 127 < c.toNat) (rest : List UInt8) : ∀ (pre : List UInt8) (i acc : Nat), i + pre.length ≤ 9 → acc < 2 ^ (7 * i) → (∀ x ∈ pre, 127 < x.toNat) →
    getGo i acc (pre ++ c :: rest) = if (0 < i + pre.length ∧ c.toNat = 0) ∨ (i + pre.length = 9 ∧ 1 < c.toNat) then (0, 0) else (acc + horn (pre ++ [c]) * 2 ^ (7 * i), i + pre.length + 1)
  | [], i, acc, hi, ha, _ => by
    rw [List.nil_append, getGo, if_neg hc]
    simp only [List.length_nil, Nat.add_zero]
    split
    · rfl
    · rename_i hg
      rw [List.nil_append]
      simp only [horn]
      have hmul : c.toNat % 128 * 2 ^ (7 * i) < 18446744073709551616 := by
        by_cases h9 : i = 9
        · subst h9
          have : c.toNat % 128 ≤ 1 := by omega
          have : c.toNat % 128 * 2 ^ (7 * 9) ≤ 1 * 2 ^ (7 * 9) := Nat.mul_le_mul_right _ this
          omega
        · have h1 : c.toNat % 128 * 2 ^ (7 * i) < 2 ^ 7 * 2 ^ (7 * i) := Nat.mul_lt_mul_of_pos_right (by omega) (Nat.two_pow_pos _)
          have h2 : 2 ^ 7 * 2 ^ (7 * i) ≤ 2 ^ 63 := by rw [← Nat.pow_add]; simp only [List.length_nil] at hi; exact Nat.pow_le_pow_right (by decide) (by omega)
          omega
      rw [getAcc_eq ha hmul]
      simp
  | x :: pre, i, acc, hi, ha, hp => by
    have hx := hp x (by simp)
    simp only [List.length_cons] at hi
    rw [List.cons_append, getGo, if_pos hx]
    have hmul : x.toNat % 128 * 2 ^ (7 * i) < 18446744073709551616 := by
      have h1 : x.toNat % 128 * 2 ^ (7 * i) < 2 ^ 7 * 2 ^ (7 * i) := Nat.mul_lt_mul_of_pos_right (by omega) (Nat.two_pow_pos _)
      have h2 : 2 ^ 7 * 2 ^ (7 * i) ≤ 2 ^ 63 := by rw [← Nat.pow_add]; exact Nat.pow_le_pow_right (by decide) (by omega)
      omega
    rw [getAcc_eq ha hmul]
    have hlt : acc + x.toNat % 128 * 2 ^ (7 * i) < 2 ^ (7 * (i + 1)) := by
      have h1 : (x.toNat % 128 + 1) * 2 ^ (7 * i) ≤ 2 ^ 7 * 2 ^ (7 * i) := Nat.mul_le_mul_right _ (by omega)
      rw [← Nat.pow_add, show 7 + 7 * i = 7 * (i + 1) from by omega] at h1
      rw [Nat.succ_mul] at h1
      omega
    rw [getGo_stop c hc rest pre (i + 1) _ (by omega) hlt (fun y hy => hp y (by simp [hy]))]
    rw [show i + 1 + pre.length = i + (x :: pre).length from by simp; omega]
    split
    · rfl
    · congr 1
      rw [List.cons_append]
      simp only [horn]
      rw [show 7 * (i + 1) = 7 + 7 * i from by omega, Nat.pow_add, ← Nat.mul_assoc, Nat.add_assoc, ← Nat.add_mul]
      rw [show (2 : Nat) ^ 7 = 128 from rfl, Nat.mul_comm (horn _) 128]
/-- All of the first ten bytes go on. -/
theorem getM_none {b : List UInt8} (h : ∀ c ∈ b.take 10, 127 < c.toNat) : getM b = (0, 0) := getGo_big _ _ _ h
/-- The number that ends at byte k. -/
theorem getM_at {b : List UInt8} {k : Nat} {c : UInt8} (hk : k < 10) (hc : b[k]? = some c) (hs : ¬ 127 < c.toNat) (hp : ∀ x ∈ b.take k, 127 < x.toNat) :
    getM b = if (0 < k ∧ c.toNat = 0) ∨ (k = 9 ∧ 1 < c.toNat) then (0, 0) else (horn (b.take (k + 1)), k + 1) := by
  have hkl := (List.getElem?_eq_some_iff.1 hc).1
  have hl : (b.take k).length = k := by rw [List.length_take]; omega
  have e : b.take 10 = b.take k ++ c :: ((b.drop (k + 1)).take (9 - k)) := by
    have e1 : b.take 10 = b.take k ++ (b.drop k).take (10 - k) := by
      rw [show 10 = k + (10 - k) from by omega, List.take_add]; congr 2
      omega
    rw [e1, List.drop_eq_getElem_cons hkl, show 10 - k = (9 - k) + 1 from by omega, List.take_succ_cons]
    have : b[k] = c := (List.getElem?_eq_some_iff.1 hc).2
    rw [this]
  unfold getM
  rw [e, getGo_stop c hs _ _ 0 0 (by rw [hl]; omega) (by decide) hp, hl, Nat.zero_add]
  split
  · rfl
  · rw [List.take_add_one, hc]
    simp
/-! ### The reference's sum -/
def refBit (x : Int) : Int := if x % 2 = 1 then xorU (x / 2) 3988292384 else x / 2
theorem refBit_eq {x : Int} (h0 : 0 ≤ x) (h1 : x < 4294967296) : refBit x = crcBit x := by
  obtain ⟨n, rfl⟩ : ∃ n : Nat, x = n := ⟨x.toNat, by omega⟩
  have hn : n < 2 ^ 32 := by omega
  have hand : andU (n : Int) 1 = ((n % 2 : Nat) : Int) := by
    unfold andU
    have e1 : BitVec.ofInt 32 (n : Int) = BitVec.ofNat 32 n := by rw [BitVec.ofInt_natCast]
    have e2 : BitVec.ofInt 32 (1 : Int) = BitVec.ofNat 32 1 := by rfl
    rw [e1, e2, BitVec.toNat_and, BitVec.toNat_ofNat, BitVec.toNat_ofNat, Nat.mod_eq_of_lt hn, show 1 % 2 ^ 32 = 1 from rfl, Nat.and_one_is_mod]
    rw [IntKind.wrap_u32]
    omega
  have hdiv : (n : Int).fdiv (2 ^ (min (1 : Int).toNat 32)) = (n : Int) / 2 := by
    show (n : Int).fdiv 2 = (n : Int) / 2
    rw [Int.fdiv_eq_ediv_of_nonneg _ (by decide)]
  unfold refBit crcBit
  rw [hand, hdiv]
  by_cases hodd : (n : Int) % 2 = 1
  · rw [if_pos hodd, show ((n % 2 : Nat) : Int) = 1 from by omega]
    congr 1
  · rw [if_neg hodd, show ((n % 2 : Nat) : Int) = 0 from by omega]
    have e0 : andU 3988292384 (IntKind.u32.wrap (0 - 0)) = 0 := by decide
    rw [e0]
    unfold xorU
    have e1 : BitVec.ofInt 32 ((n : Int) / 2) = BitVec.ofNat 32 (n / 2) := by
      rw [show (n : Int) / 2 = ((n / 2 : Nat) : Int) from by omega, BitVec.ofInt_natCast]
    have e2 : BitVec.ofInt 32 (0 : Int) = 0#32 := by rfl
    rw [e1, e2, BitVec.xor_zero, BitVec.toNat_ofNat, IntKind.wrap_u32]
    omega
theorem xorU_range (x y : Int) : 0 ≤ xorU x y ∧ xorU x y < 4294967296 := wrap_u32_range _
theorem crcBit_range (x : Int) : 0 ≤ crcBit x ∧ crcBit x < 4294967296 := xorU_range _ _
theorem crcBits_range {n : Nat} {x : Int} (h0 : 0 ≤ x) (h1 : x < 4294967296) : 0 ≤ crcBits n x ∧ crcBits n x < 4294967296 := by
  cases n with
  | zero => exact ⟨h0, h1⟩
  | succ n => exact crcBit_range _
/-! ### The reference's reading of a record -/
def fin1 (r : RecM) (t : List UInt8) : Option RecM := if t ≠ [] ∨ checkM r ≠ 0 then none else some r
def one3 (c : UInt8) (n : Nat) (s : List UInt8) (t : List UInt8) : Option RecM :=
  if c.toNat = 1 then (if (getTextM t).2 = 0 then none else fin1 ⟨(c.toNat : Int), (n : Int), s, (getTextM t).1⟩ (t.drop (getTextM t).2)) else fin1 ⟨(c.toNat : Int), (n : Int), s, []⟩ t
def one2 (c : UInt8) (n : Nat) (t : List UInt8) : Option RecM := if (getTextM t).2 = 0 then none else one3 c n (getTextM t).1 (t.drop (getTextM t).2)
def oneP : List UInt8 → Option RecM
  | [] => none
  | c :: t => if 1 < c.toNat then none else if (getM t).2 = 0 ∨ 1125899906842624 < (getM t).1 then none else one2 c (getM t).1 (t.drop (getM t).2)
theorem stepM_bad (n : Nat) : stepM ([], true) n = ([], true) := by unfold stepM; rw [if_pos (.inl rfl)]
theorem numM_bad (most : Nat) : numM ([], true) most = (0, ([], true)) := by unfold numM; rw [stepM_bad]; rfl
theorem readM'_bad : readM' ([], true) = ([], ([], true)) := by unfold readM'; rw [stepM_bad]; rfl
theorem stepM_zero (l : List UInt8) : stepM (l, false) 0 = ([], true) := by unfold stepM; rw [if_pos (.inr rfl)]
theorem stepM_go (l : List UInt8) {n : Nat} (h : n ≠ 0) : stepM (l, false) n = (l.drop n, false) := by unfold stepM; rw [if_neg (by simp [h])]
theorem readM'_eq (l : List UInt8) : readM' (l, false) = if (getTextM l).2 = 0 then ([], ([], true)) else ((getTextM l).1, (l.drop (getTextM l).2, false)) := by
  unfold readM'
  dsimp only
  by_cases h : (getTextM l).2 = 0
  · rw [h, stepM_zero, if_pos rfl, if_pos rfl]
  · rw [stepM_go _ h, if_neg h]; rfl
theorem numM_eq (l : List UInt8) (most : Nat) : numM (l, false) most = if (getM l).2 = 0 ∨ most < (getM l).1 then (0, ([], true)) else ((getM l).1, (l.drop (getM l).2, false)) := by
  unfold numM
  dsimp only
  by_cases h : most < (getM l).1
  · rw [if_pos h, stepM_zero, if_pos rfl, if_pos (.inr h)]
  · rw [if_neg h]
    by_cases h0 : (getM l).2 = 0
    · rw [h0, stepM_zero, if_pos rfl, if_pos (.inl rfl)]
    · rw [stepM_go _ h0]; dsimp only; rw [if_neg (by simp), if_neg (by omega)]
theorem decOk_bad {b : List UInt8} (h : (dec4 b).2 = ([], true)) : decOk b = false := by unfold decOk; rw [h]; simp
theorem dec2_bad {b : List UInt8} (h : (dec1 b).2 = ([], true)) : (dec2 b).2 = ([], true) := by unfold dec2; rw [h, numM_bad]
theorem dec3_bad {b : List UInt8} (h : (dec2 b).2 = ([], true)) : (dec3 b).2 = ([], true) := by unfold dec3; rw [h, readM'_bad]
theorem dec4_bad {b : List UInt8} (h : (dec3 b).2 = ([], true)) : (dec4 b).2 = ([], true) := by unfold dec4; rw [h, readM'_bad]; split <;> rfl
theorem fin_dec {b : List UInt8} {r : RecM} {t : List UInt8} (h4 : (dec4 b).2 = (t, false)) (hr : decR b = r) (hbody : t = [] → checkM r = 0 → bodyM r = b) : fin1 r t = if decOk b = true then some (decR b) else none := by
  unfold fin1
  by_cases ht : t = []
  · by_cases hc : checkM r = 0
    · have hok : decOk b = true := by
        unfold decOk
        rw [h4, hr]
        refine decide_eq_true ⟨⟨rfl, ht⟩, hc, ?_⟩
        unfold encM
        rw [if_neg (by simp [hc]), hbody ht hc]
      rw [if_neg (by simp [ht, hc]), if_pos hok, hr]
    · have hok : ¬ decOk b = true := fun h => by
        unfold decOk at h
        rw [hr] at h
        exact hc (of_decide_eq_true h).2.1
      rw [if_pos (.inr hc), if_neg hok]
  · have hok : ¬ decOk b = true := fun h => by
      unfold decOk at h
      rw [h4] at h
      exact ht (of_decide_eq_true h).1.2
    rw [if_pos (.inl ht), if_neg hok]
theorem oneP_eq (b : List UInt8) : oneP b = if decOk b = true then some (decR b) else none := by
  have none_of : ∀ {b}, (dec4 b).2 = ([], true) → (none : Option RecM) = if decOk b = true then some (decR b) else none := fun h => by rw [decOk_bad h]; rfl
  match b with
  | [] =>
    refine none_of (dec4_bad (dec3_bad (dec2_bad ?_)))
    unfold dec1
    rw [numM_eq, if_pos (.inl rfl)]
  | c :: t =>
    unfold oneP
    dsimp only
    by_cases hc : 1 < c.toNat
    · rw [if_pos hc]
      refine none_of (dec4_bad (dec3_bad (dec2_bad ?_)))
      unfold dec1
      rw [numM_eq]
      by_cases hk : (getM (c :: t)).2 = 0
      · rw [if_pos (.inl hk)]
      · rw [if_pos (.inr (getM_head_big hc hk))]
    rw [if_neg hc]
    have d1 : dec1 (c :: t) = (c.toNat, (t, false)) := by
      unfold dec1
      rw [numM_eq, getM_head hc, if_neg (by dsimp only; omega)]
      rfl
    have d2 : dec2 (c :: t) = if (getM t).2 = 0 ∨ 1125899906842624 < (getM t).1 then (0, ([], true)) else ((getM t).1, (t.drop (getM t).2, false)) := by
      unfold dec2
      rw [d1, numM_eq]
    by_cases h2 : (getM t).2 = 0 ∨ 1125899906842624 < (getM t).1
    · rw [if_pos h2] at d2 ⊢
      exact none_of (dec4_bad (dec3_bad (by rw [d2])))
    rw [if_neg h2] at d2 ⊢
    have hcan := getM_canon (b := t) (by omega)
    have d3 : dec3 (c :: t) = readM' (t.drop (getM t).2, false) := by unfold dec3; rw [d2]
    rw [readM'_eq] at d3
    unfold one2
    have hcan := hcan.1
    generalize (getM t).1 = n at *
    generalize t.drop (getM t).2 = t2 at *
    by_cases h3 : (getTextM t2).2 = 0
    · rw [if_pos h3] at d3 ⊢
      exact none_of (dec4_bad (by rw [d3]))
    rw [if_neg h3] at d3 ⊢
    obtain ⟨hcs, hls⟩ := getTextM_canon h3
    have d4 : dec4 (c :: t) = if c.toNat = 1 then readM' (t2.drop (getTextM t2).2, false) else ([], (t2.drop (getTextM t2).2, false)) := by unfold dec4; rw [d1, d3]
    rw [readM'_eq] at d4
    unfold one3
    generalize (getTextM t2).1 = s at *
    generalize t2.drop (getTextM t2).2 = t3 at *
    have hcc : UInt8.ofNat ((c.toNat : Int)).toNat = c := by simp
    by_cases hk : c.toNat = 1
    · rw [if_pos hk] at d4 ⊢
      by_cases h4 : (getTextM t3).2 = 0
      · rw [if_pos h4] at d4 ⊢
        exact none_of (by rw [d4])
      rw [if_neg h4] at d4 ⊢
      obtain ⟨hcv, hlv⟩ := getTextM_canon h4
      refine fin_dec (by rw [d4]) (by unfold decR; rw [d1, d2, d3, d4]) (fun ht _ => ?_)
      rw [ht, List.append_nil] at hcv
      unfold bodyM
      dsimp only
      rw [hcc, if_pos (by omega), Int.toNat_natCast, ← hcv, List.cons_append, List.cons_append, List.append_assoc, ← hcs, ← hcan]
    · rw [if_neg hk] at d4 ⊢
      refine fin_dec (by rw [d4]) (by unfold decR; rw [d1, d2, d3, d4]) (fun ht _ => ?_)
      rw [ht, List.append_nil] at hcs
      unfold bodyM
      dsimp only
      rw [hcc, if_neg (by omega), List.append_nil, Int.toNat_natCast, List.cons_append, ← hcs, ← hcan]
/-- What a seal tells is a record that may be; written it is the seal again. -/
theorem decOk_rec {b : List UInt8} (h : decOk b = true) : RecOk (decR b) ∧ sealM (bodyM (decR b)) = sealM b := by
  unfold decOk at h
  obtain ⟨_, h1, h2⟩ := of_decide_eq_true h
  refine ⟨checkM_ok.1 h1, ?_⟩
  unfold encM at h2
  rw [if_neg (by simp [h1])] at h2
  exact h2
end Go.Vc
/-! The references of numbers and sums, walked. -/
set_option linter.unusedVariables false
namespace Go.Proofs.YtbhnplghnhafiaaGreatDoor.Tryz
open Go Go.Vc
theorem rfour_has (n : Nat) (w : World) (hn : n < 4294967296) :
    Has Go.Proofs.Tryz.prog 46 #[.int .u32 (n : Int)] w (fun v w' => MadeB 5 w w' v (fourM n)) := by
  refine enter Go.Proofs.Tryz.func46 rfl rfl (by decide) rfl (e := [(0, .int .u32 (n : Int))]) ⟨rfl, trivial⟩ ?_
  repeat (first | refine W_seq ?_ | refine W_region ?_ | refine Then_n ?_ | refine WL_nil ?_ | refine WL_some rfl rfl rfl ?_ | refine op_move rfl rfl ?_ | refine op_assign rfl rfl ?_)
  refine op_convert_nat T rfl rfl rfl rfl rfl ?_
  repeat (first | refine WL_some rfl rfl rfl ?_ | refine op_move rfl rfl ?_)
  refine op_shr_nat (s := 8) (by decide) rfl rfl rfl ?_
  repeat (refine WL_some rfl rfl rfl ?_)
  refine op_convert_nat T rfl rfl rfl rfl rfl ?_
  repeat (first | refine WL_some rfl rfl rfl ?_ | refine op_move rfl rfl ?_)
  refine op_shr_nat (s := 16) (by decide) rfl rfl rfl ?_
  repeat (refine WL_some rfl rfl rfl ?_)
  refine op_convert_nat T rfl rfl rfl rfl rfl ?_
  repeat (first | refine WL_some rfl rfl rfl ?_ | refine op_move rfl rfl ?_)
  refine op_shr_nat (s := 24) (by decide) rfl rfl rfl ?_
  repeat (refine WL_some rfl rfl rfl ?_)
  refine op_convert_nat T rfl rfl rfl rfl rfl ?_
  repeat (refine WL_some rfl rfl rfl ?_)
  refine op_buildSlice T rfl rfl rfl rfl rfl rfl rfl (fun g w2 hgs hc2 hg2 => ?_)
  repeat (first | refine W_ret ?_ | refine Then_n ?_ | refine WL_nil ?_ | refine WL_some rfl rfl rfl ?_ | refine op_assign rfl rfl ?_)
  have hg3 : Blk w2 g 5 (u8s (fourM n)) := by
    rw [byte_cell, byte_cell, byte_cell, byte_cell] at hg2
    exact hg2
  refine post1 (.inl rfl) rfl rfl ⟨hc2, Own.mk hg3 (Nat.le_refl _) (by decide) rfl rfl, fun h hh => ?_⟩
  simp [Value.ownBlock] at hh; omega
set_option maxHeartbeats 1000000 in
theorem rsum_has (A : Option Addr) (n c : Nat) (l : List UInt8) (w : World) (hl : SliceOf Ru8 w (.slice A n c) l) :
    Has Go.Proofs.Tryz.prog 47 #[.slice A n c] w (fun v w' => w' = w ∧ v = .int .u32 (crcN l : Nat)) := by
  obtain ⟨rfl, hl1, hl2⟩ := hl.len
  unfold maxLen at hl2
  rw [← crc_eq]
  refine enter Go.Proofs.Tryz.func47 rfl rfl (by decide) rfl (e := [(0, .slice A l.length c)]) ⟨rfl, trivial⟩ ?_
  repeat (first | refine W_seq ?_ | refine W_block ?_ | refine W_region ?_ | refine Then_n ?_ | refine WL_nil ?_ | refine WL_some rfl rfl rfl ?_ | refine op_assign rfl rfl ?_)
  refine W_loop (σ := Nat) (fun k => [(0, .slice A l.length c), (3, .int .u32 (crcTo (l.take k))), (4, .int .i64 k)])
    (fun (k : Nat) w' => k ≤ l.length ∧ w' = w) (fun k => l.length - k) 0 ⟨rfl, rfl, rfl, trivial⟩ ⟨by omega, rfl⟩ ?_
  rintro k w1 ⟨hk, rfl⟩
  repeat (first | refine W_seq ?_ | refine W_region ?_ | refine WL_some rfl rfl rfl ?_ | refine op_move rfl rfl ?_ | refine op_len_slice T rfl rfl rfl rfl ?_)
  (refine op_lss rfl rfl rfl (fun hc => ?_) (fun hc => ?_))
  · have hlt : k < l.length := by omega
    obtain ⟨ad, u, rfl, hu, rfl⟩ := hl.get (i := k) (List.getElem?_eq_getElem hlt)
    repeat (first | refine W_seq ?_ | refine W_block ?_ | refine W_region ?_ | refine W_skip ?_ | refine Then_n ?_ | refine WL_nil ?_ | refine W_condT rfl ?_ | refine WL_some rfl rfl rfl ?_ | refine op_move rfl rfl ?_ | refine op_index_nat T rfl rfl rfl rfl rfl rfl (by omega) ?_ | refine op_load T rfl rfl rfl rfl (by assumption) ?_)
    refine op_convert_int T rfl rfl rfl rfl rfl ?_
    repeat (refine WL_some rfl rfl rfl ?_)
    refine op_xor rfl rfl rfl rfl ?_
    repeat (first | refine W_seq ?_ | refine W_block ?_ | refine W_region ?_ | refine Then_n ?_ | refine WL_nil ?_ | refine WL_some rfl rfl rfl ?_ | refine op_assign rfl rfl ?_)
    have hx0 := xorU_range (crcTo (l.take k)) (IntKind.u32.wrap (l[k].toNat : Int))
    refine W_loop (σ := Nat) (fun j => [(0, .slice (some ad) l.length c), (3, .int .u32 (crcBits j (xorU (crcTo (l.take k)) (IntKind.u32.wrap (l[k].toNat : Int))))), (4, .int .i64 k), (5, .int .i64 j)])
      (fun (j : Nat) w' => j ≤ 8 ∧ w' = w1) (fun j => 8 - j) 0 ⟨rfl, rfl, rfl, rfl, trivial⟩ ⟨by omega, rfl⟩ ?_
    rintro j w2 ⟨hj, rfl⟩
    have hrange := crcBits_range (n := j) hx0.1 hx0.2
    have hnext : crcBits (j + 1) (xorU (crcTo (l.take k)) (IntKind.u32.wrap (l[k].toNat : Int))) = refBit (crcBits j (xorU (crcTo (l.take k)) (IntKind.u32.wrap (l[k].toNat : Int)))) := (refBit_eq hrange.1 hrange.2).symm
    have hlast : j = 8 → crcBits j (xorU (crcTo (l.take k)) (IntKind.u32.wrap (l[k].toNat : Int))) = crcTo (l.take (k + 1)) := fun e => by rw [crcTo_take l k hlt, e]; rfl
    generalize crcBits j (xorU (crcTo (l.take k)) (IntKind.u32.wrap (l[k].toNat : Int))) = x at *
    obtain ⟨m, rfl⟩ : ∃ m : Nat, x = m := ⟨x.toNat, by omega⟩
    repeat (first | refine W_seq ?_ | refine W_region ?_ | refine WL_some rfl rfl rfl ?_ | refine op_move rfl rfl ?_)
    (refine op_lss rfl rfl rfl (fun hc => ?_) (fun hc => ?_))
    · repeat (first | refine W_seq ?_ | refine W_block ?_ | refine W_region ?_ | refine W_skip ?_ | refine Then_n ?_ | refine WL_nil ?_ | refine W_condT rfl ?_ | refine WL_some rfl rfl rfl ?_ | refine op_move rfl rfl ?_ | refine op_rem rfl rfl rfl (by omega) rfl ?_)
      rw [show (m : Int).tmod 2 = (m : Int) % 2 from Int.tmod_eq_emod_of_nonneg (Int.natCast_nonneg m)]
      skip
      have hdiv : ((m / 2 : Nat) : Int) = (m : Int) / 2 := by omega
      have hrb : refBit (m : Int) = if (m : Int) % 2 = 1 then xorU ((m / 2 : Nat) : Int) 3988292384 else ((m / 2 : Nat) : Int) := by rw [hdiv]; rfl
      by_cases hodd : (m : Int) % 2 = 1
      · rw [if_pos hodd] at hrb
        repeat (first | refine W_region ?_ | refine Then_n ?_ | refine WL_nil ?_ | refine W_condT rfl ?_ | refine WL_some rfl rfl rfl ?_ | refine op_move rfl rfl ?_ | refine op_eql rfl rfl rfl (fun hc => ?_) (fun hc => False.elim (by omega)))
        refine op_shr_nat (s := 1) (by decide) rfl rfl rfl ?_
        repeat (refine WL_some rfl rfl rfl ?_)
        refine op_xor rfl rfl rfl rfl ?_
        repeat (first | refine W_region ?_ | refine Then_n ?_ | refine InBlock_n ?_ | refine WL_nil ?_ | refine WL_some rfl rfl rfl ?_ | refine op_move rfl rfl ?_ | refine op_assign rfl rfl ?_ | refine op_add rfl rfl rfl (wrap_i64_in (by omega) (by omega)) ?_)
        refine Round_n (j + 1) ⟨rfl, ?_, rfl, rfl, trivial⟩ ⟨by omega, rfl⟩ (by omega)
        rw [hnext, hrb]; rfl
      · rw [if_neg hodd] at hrb
        repeat (first | refine W_region ?_ | refine Then_n ?_ | refine WL_nil ?_ | refine W_condF rfl ?_ | refine WL_some rfl rfl rfl ?_ | refine op_move rfl rfl ?_ | refine op_eql rfl rfl rfl (fun hc => False.elim (by omega)) (fun hc => ?_))
        refine op_shr_nat (s := 1) (by decide) rfl rfl rfl ?_
        repeat (first | refine W_region ?_ | refine Then_n ?_ | refine InBlock_n ?_ | refine WL_nil ?_ | refine WL_some rfl rfl rfl ?_ | refine op_move rfl rfl ?_ | refine op_assign rfl rfl ?_ | refine op_add rfl rfl rfl (wrap_i64_in (by omega) (by omega)) ?_)
        refine Round_n (j + 1) ⟨rfl, ?_, rfl, rfl, trivial⟩ ⟨by omega, rfl⟩ (by omega)
        rw [hnext, hrb]; rfl
    · have := hlast (by omega)
      repeat (first | refine W_region ?_ | refine W_exit ?_ | refine Then_n ?_ | refine Then_x ?_ | refine InBlock_hit ?_ | refine InBlock_n ?_ | refine Round_x ?_ | refine WL_nil ?_ | refine W_condF rfl ?_ | refine WL_some rfl rfl rfl ?_ | refine op_move rfl rfl ?_ | refine op_assign rfl rfl ?_ | refine op_add rfl rfl rfl (wrap_i64_in (by omega) (by omega)) ?_)
      refine Round_n (k + 1) ⟨rfl, ?_, rfl, trivial⟩ ⟨by omega, rfl⟩ (by omega)
      rw [← this]; rfl
  · obtain rfl : k = l.length := by omega
    rw [List.take_length]
    repeat (first | refine W_seq ?_ | refine W_region ?_ | refine W_exit ?_ | refine Then_n ?_ | refine Then_x ?_ | refine InBlock_hit ?_ | refine Round_x ?_ | refine WL_nil ?_ | refine W_condF rfl ?_ | refine WL_some rfl rfl rfl ?_ | refine op_move rfl rfl ?_)
    refine op_compl rfl rfl rfl ?_
    repeat (first | refine W_ret ?_ | refine Then_n ?_ | refine WL_nil ?_ | refine WL_some rfl rfl rfl ?_ | refine op_assign rfl rfl ?_)
    exact post1 (.inl rfl) rfl rfl ⟨rfl, rfl⟩
end Go.Proofs.YtbhnplghnhafiaaGreatDoor.Tryz
/-! bytes.Clone. -/
set_option linter.unusedVariables false
namespace Go.Proofs.YtbhnplghnhafiaaGreatDoor.Tryz
open Go Go.Vc

theorem clone_has (A : Option Addr) (n c : Nat) (l : List UInt8) (w : World) (hl : SliceOf Ru8 w (.slice A n c) l) (hb : l.length ≤ 1099511627776) :
    Has Go.Proofs.Tryz.prog 32 #[.slice A n c] w (fun v w' => Chg [] w w' ∧ Own w' 5 1 v l.length (u8s l) ∧ ∀ g, v.ownBlock = some g → w.heap.size ≤ g) := by
  obtain ⟨rfl, hl1, hl2⟩ := hl.len
  refine enter Go.Proofs.Tryz.func32 rfl rfl (by decide) rfl (e := [(0, .slice A l.length c)]) ⟨rfl, trivial⟩ ?_
  repeat (first | refine W_seq ?_ | refine W_region ?_ | refine Then_n ?_ | refine WL_nil ?_ | refine WL_some rfl rfl rfl ?_ | refine op_move rfl rfl ?_ | refine op_assign rfl rfl ?_)
  refine op_eql_nil T rfl rfl rfl rfl (fun hA => ?_) (fun ad hA => ?_)
  · have hl0 : l = [] := by
      cases l with
      | nil => rfl
      | cons c l => obtain ⟨ad, u, he, _⟩ := hl.get (i := 0) (x := c) rfl; rw [hA] at he; cases he
    subst hl0
    repeat (first | refine W_seq ?_ | refine W_region ?_ | refine W_ret ?_ | refine Then_n ?_ | refine Then_r ?_ | refine WL_nil ?_ | refine W_condT rfl ?_ | refine WL_some rfl rfl rfl ?_ | refine op_assign rfl rfl ?_)
    exact post1 (.inl rfl) rfl rfl ⟨Chg.refl _ _, Own.nil _ _ _, fun g h => by simp [Value.ownBlock] at h⟩
  · subst hA
    repeat (first | refine W_seq ?_ | refine W_region ?_ | refine W_skip ?_ | refine Then_n ?_ | refine WL_nil ?_ | refine W_condF rfl ?_ | refine WL_some rfl rfl rfl ?_)
    refine op_buildSlice T rfl rfl rfl rfl rfl rfl rfl (fun g w1 hgs hc1 hg1 => ?_)
    have ho : Own w1 5 1 (.slice (some ⟨g, 0, none⟩) 0 0) 0 [] := Own.mk hg1 (Nat.le_refl _) (Nat.zero_le _) rfl rfl
    have hl' := SliceOf.kept Ru8.kept _ _ _ _ hc1 hl
    repeat (first | refine WL_some rfl rfl rfl ?_ | refine op_move rfl rfl ?_)
    refine op_append T (n := 0) (xs := []) (m := l.length) (news := u8s l) rfl rfl rfl rfl rfl rfl rfl rfl ho (by rw [u8s_length, Nat.mul_one]) ?_ (by unfold maxLen; omega) (by show (0 + _) * 1 ≤ _; omega) ?_
    · intro j u hu
      obtain ⟨x, hx, rfl⟩ : ∃ x, l[j]? = some x ∧ u = .int .u8 (x.toNat : Int) := by
        unfold u8s at hu
        rw [List.getElem?_map] at hu
        cases hx : l[j]? with
        | none => simp [hx] at hu
        | some x => simp [hx] at hu; exact ⟨x, rfl, hu.symm⟩
      obtain ⟨ad', u', he, hu', rfl⟩ := hl'.get hx
      exact ⟨⟨ad', he, hu'⟩, rfl⟩
    · intro v w2 ho2 hc2 hown2 _
      repeat (first | refine W_ret ?_ | refine Then_n ?_ | refine WL_nil ?_ | refine WL_some rfl rfl rfl ?_ | refine op_assign rfl rfl ?_)
      refine post1 (.inl rfl) rfl rfl ⟨hc1.trans hc2 (by simp [Value.ownBlock]; omega), by simpa using ho2, fun g' hg' => ?_⟩
      have := hc1.size
      rcases hown2 with h | ⟨g2, h, hge⟩
      · rw [h] at hg'; simp [Value.ownBlock] at hg'; omega
      · rw [h] at hg'; injection hg' with hg'; omega
end Go.Proofs.YtbhnplghnhafiaaGreatDoor.Tryz
/-! Sums and seals. -/
set_option linter.unusedVariables false
namespace Go.Proofs.YtbhnplghnhafiaaGreatDoor.Tryz
open Go Go.Vc

theorem sum_has (A : Option Addr) (n c : Nat) (l : List UInt8) (w : World) (hl : SliceOf Ru8 w (.slice A n c) l) :
    Has Go.Proofs.Tryz.prog 72 #[.slice A n c] w (fun v w' => w' = w ∧ v = .int .u32 (crc l)) := by
  obtain ⟨rfl, hl1, hl2⟩ := hl.len
  unfold maxLen at hl2
  refine enter Go.Proofs.Tryz.func72 rfl rfl (by decide) rfl (e := [(0, .slice A l.length c)]) ⟨rfl, trivial⟩ ?_
  repeat (first | refine W_seq ?_ | refine W_block ?_ | refine W_region ?_ | refine Then_n ?_ | refine WL_nil ?_ | refine WL_some rfl rfl rfl ?_ | refine op_move rfl rfl ?_ | refine op_assign rfl rfl ?_ | refine op_len_slice T rfl rfl rfl rfl ?_)
  refine W_loop (σ := Nat) (fun k => [(3, .int .u32 (crcTo (l.take k))), (6, .slice A l.length c), (7, .int .i64 l.length), (8, .int .i64 k)])
    (fun (k : Nat) w' => k ≤ l.length ∧ w' = w) (fun k => l.length - k) 0 ⟨rfl, rfl, rfl, rfl, trivial⟩ ⟨by omega, rfl⟩ ?_
  rintro k w1 ⟨hk, rfl⟩
  repeat (first | refine W_seq ?_ | refine W_region ?_ | refine WL_some rfl rfl rfl ?_)
  (refine op_lss rfl rfl rfl (fun hc => ?_) (fun hc => ?_))
  · have hlt : k < l.length := by omega
    obtain ⟨ad, u, rfl, hu, rfl⟩ := hl.get (i := k) (List.getElem?_eq_getElem hlt)
    repeat (first | refine W_seq ?_ | refine W_block ?_ | refine W_region ?_ | refine W_skip ?_ | refine Then_n ?_ | refine WL_nil ?_ | refine W_condT rfl ?_ | refine WL_some rfl rfl rfl ?_ | refine op_move rfl rfl ?_ | refine op_assign rfl rfl ?_ | refine op_index_nat T rfl rfl rfl rfl rfl rfl (by omega) ?_ | refine op_load T rfl rfl rfl rfl (by assumption) ?_)
    refine op_convert_int T rfl rfl rfl rfl rfl ?_
    repeat (refine WL_some rfl rfl rfl ?_)
    refine op_xor rfl rfl rfl rfl ?_
    repeat (first | refine W_seq ?_ | refine W_block ?_ | refine W_region ?_ | refine Then_n ?_ | refine WL_nil ?_ | refine WL_some rfl rfl rfl ?_ | refine op_move rfl rfl ?_ | refine op_assign rfl rfl ?_)
    refine W_loop (σ := Nat) (fun j => [(3, .int .u32 (crcBits j (xorU (crcTo (l.take k)) (IntKind.u32.wrap (l[k].toNat : Int))))), (6, .slice (some ad) l.length c), (7, .int .i64 l.length), (8, .int .i64 k), (16, .int .i64 j)])
      (fun (j : Nat) w' => j ≤ 8 ∧ w' = w1) (fun j => 8 - j) 0 ⟨rfl, rfl, rfl, rfl, rfl, trivial⟩ ⟨by omega, rfl⟩ ?_
    rintro j w2 ⟨hj, rfl⟩
    repeat (first | refine W_seq ?_ | refine W_region ?_ | refine WL_some rfl rfl rfl ?_)
    (refine op_lss rfl rfl rfl (fun hc => ?_) (fun hc => ?_))
    · repeat (first | refine W_seq ?_ | refine W_block ?_ | refine W_region ?_ | refine W_skip ?_ | refine Then_n ?_ | refine WL_nil ?_ | refine W_condT rfl ?_ | refine WL_some rfl rfl rfl ?_ | refine op_move rfl rfl ?_)
      refine op_shr rfl rfl rfl (by decide) rfl ?_
      repeat (first | refine WL_some rfl rfl rfl ?_ | refine op_move rfl rfl ?_)
      refine op_and rfl rfl rfl rfl ?_
      repeat (refine WL_some rfl rfl rfl ?_)
      refine op_neg rfl rfl rfl ?_
      repeat (refine WL_some rfl rfl rfl ?_)
      refine op_and rfl rfl rfl rfl ?_
      repeat (refine WL_some rfl rfl rfl ?_)
      refine op_xor rfl rfl rfl rfl ?_
      repeat (first | refine W_region ?_ | refine Then_n ?_ | refine InBlock_n ?_ | refine WL_nil ?_ | refine WL_some rfl rfl rfl ?_ | refine op_move rfl rfl ?_ | refine op_assign rfl rfl ?_ | refine op_add rfl rfl rfl (wrap_i64_in (by omega) (by omega)) ?_)
      exact Round_n (j + 1) ⟨rfl, rfl, rfl, rfl, rfl, trivial⟩ ⟨by omega, rfl⟩ (by omega)
    · obtain rfl : j = 8 := by omega
      repeat (first | refine W_seq ?_ | refine W_region ?_ | refine W_exit ?_ | refine Then_n ?_ | refine Then_x ?_ | refine InBlock_hit ?_ | refine InBlock_n ?_ | refine Round_x ?_ | refine WL_nil ?_ | refine W_condF rfl ?_ | refine WL_some rfl rfl rfl ?_ | refine op_move rfl rfl ?_ | refine op_add rfl rfl rfl (wrap_i64_in (by omega) (by omega)) ?_)
      refine Round_n (k + 1) ⟨?_, rfl, rfl, rfl, trivial⟩ ⟨by omega, rfl⟩ (by omega)
      rw [crcTo_take l k hlt]
      rfl
  · obtain rfl : k = l.length := by omega
    rw [List.take_length]
    repeat (first | refine W_seq ?_ | refine W_region ?_ | refine W_exit ?_ | refine Then_n ?_ | refine Then_x ?_ | refine InBlock_hit ?_ | refine Round_x ?_ | refine WL_nil ?_ | refine W_condF rfl ?_ | refine WL_some rfl rfl rfl ?_ | refine op_move rfl rfl ?_)
    refine op_compl rfl rfl rfl ?_
    repeat (first | refine W_ret ?_ | refine Then_n ?_ | refine WL_nil ?_ | refine WL_some rfl rfl rfl ?_ | refine op_assign rfl rfl ?_)
    exact post1 (.inl rfl) rfl rfl ⟨rfl, rfl⟩

theorem sumN_has (A : Option Addr) (n c : Nat) (l : List UInt8) (w : World) (hl : SliceOf Ru8 w (.slice A n c) l) :
    Has Go.Proofs.Tryz.prog 72 #[.slice A n c] w (fun v w' => Chg [] w w' ∧ v = .int .u32 (crcN l : Nat)) :=
  (sum_has A n c l w hl).mono fun v w' ⟨h1, h2⟩ => ⟨h1 ▸ Chg.refl _ _, by rw [h2, crc_eq]⟩
theorem cloneB_has (A : Option Addr) (n c : Nat) (l : List UInt8) (w : World) (hl : SliceOf Ru8 w (.slice A n c) l) (hb : l.length ≤ 1099511627776) :
    Has Go.Proofs.Tryz.prog 32 #[.slice A n c] w (fun v w' => MadeB 5 w w' v l) := (clone_has A n c l w hl hb).mono fun v w' ⟨h1, h2, h3⟩ => ⟨h1, h2, h3⟩
set_option maxHeartbeats 1000000 in
theorem seal_has (A : Option Addr) (n c : Nat) (l : List UInt8) (w : World) (hl : SliceOf Ru8 w (.slice A n c) l) (hb : l.length < 4294967296) :
    Has Go.Proofs.Tryz.prog 53 #[.slice A n c] w (fun v w' => MadeB 5 w w' v (sealM l)) := by
  obtain ⟨rfl, hl1, hl2⟩ := hl.len
  refine enter Go.Proofs.Tryz.func53 rfl rfl (by decide) rfl (e := [(0, .slice A l.length c)]) ⟨rfl, trivial⟩ ?_
  repeat (first | refine W_seq ?_ | refine W_region ?_ | refine Then_n ?_ | refine WL_nil ?_ | refine WL_some rfl rfl rfl ?_ | refine op_move rfl rfl ?_ | refine op_assign rfl rfl ?_ | refine op_len_slice T rfl rfl rfl rfl ?_)
  refine op_convert_fit T rfl rfl rfl rfl (wrap_u32_in (by omega) (by omega)) ?_
  repeat (refine WL_some rfl rfl rfl ?_)
  refine op_call rfl rfl rfl (four_has l.length w hb) ?_
  intro v1 w1 m1
  repeat (first | refine W_seq ?_ | refine W_region ?_ | refine Then_n ?_ | refine WL_nil ?_ | refine WL_some rfl rfl rfl ?_ | refine op_move rfl rfl ?_ | refine op_assign rfl rfl ?_)
  obtain ⟨A1, c1, rfl, _, _⟩ := m1.form
  refine op_call rfl rfl rfl (cloneB_has A1 _ c1 _ w1 m1.reads (by simp [fourM_length])) ?_
  intro v2 w2 m2
  have k2 := m2.base m1.chg
  have r2 := SliceOf.kept Ru8.kept _ _ _ _ m2.chg m1.reads
  repeat (first | refine WL_some rfl rfl rfl ?_ | refine op_move rfl rfl ?_)
  refine op_call rfl rfl rfl (sumN_has A1 _ c1 _ w2 r2) ?_
  rintro _ w3 ⟨hc3, rfl⟩
  repeat (refine WL_some rfl rfl rfl ?_)
  refine op_call rfl rfl rfl (four_has _ w3 (crcN_lt _)) ?_
  intro v4 w4 m4
  repeat (refine WL_some rfl rfl rfl ?_)
  have k4 := (k2.keep0 hc3).keep0 m4.chg
  obtain ⟨A4, c4, rfl, _, _⟩ := m4.form
  refine op_appB T rfl rfl rfl rfl rfl rfl rfl rfl rfl k4 m4.reads (by simp [fourM_length]) (fun v5 w5 m5 _ _ => ?_)
  have r5 := SliceOf.kept Ru8.kept _ _ _ _ m5.chg hl
  repeat (first | refine W_seq ?_ | refine W_region ?_ | refine Then_n ?_ | refine WL_nil ?_ | refine WL_some rfl rfl rfl ?_ | refine op_move rfl rfl ?_ | refine op_assign rfl rfl ?_)
  refine op_call rfl rfl rfl (sumN_has A _ c _ w5 r5) ?_
  rintro _ w6 ⟨hc6, rfl⟩
  repeat (refine WL_some rfl rfl rfl ?_)
  refine op_call rfl rfl rfl (four_has _ w6 (crcN_lt _)) ?_
  intro v7 w7 m7
  repeat (refine WL_some rfl rfl rfl ?_)
  have k7 := (m5.keep0 hc6).keep0 m7.chg
  obtain ⟨A7, c7, rfl, _, _⟩ := m7.form
  refine op_appB T rfl rfl rfl rfl rfl rfl rfl rfl rfl k7 m7.reads (by simp [fourM_length]) (fun v8 w8 m8 _ _ => ?_)
  have r8 := SliceOf.kept Ru8.kept _ _ _ _ m8.chg hl
  repeat (first | refine WL_some rfl rfl rfl ?_ | refine op_move rfl rfl ?_)
  refine op_appB T rfl rfl rfl rfl rfl rfl rfl rfl rfl m8 r8 (by simp [fourM_length]; omega) (fun v9 w9 m9 _ _ => ?_)
  repeat (first | refine W_ret ?_ | refine Then_n ?_ | refine WL_nil ?_ | refine WL_some rfl rfl rfl ?_ | refine op_assign rfl rfl ?_)
  exact post1 (.inl rfl) rfl rfl m9
set_option maxHeartbeats 2000000 in
theorem first_has (A : Option Addr) (n c : Nat) (l : List UInt8) (w : World) (hl : SliceOf Ru8 w (.slice A n c) l) (hb : l.length < 4294967296) :
    Has Go.Proofs.Tryz.prog 66 #[.slice A n c] w (fun v w' => ∃ u, v = .tuple #[u, .int .i64 ((firstM l).2.1 : Nat), .bool (firstM l).2.2] ∧ MadeB 5 w w' u (firstM l).1) := by
  obtain ⟨rfl, hl1, hl2⟩ := hl.len
  unfold maxLen at hl2
  have hnil : ∀ w', Chg [] w w' → MadeB 5 w w' (.slice none 0 0) [] := fun w' hc => ⟨hc, Own.nil _ _ _, fun h hh => by simp [Value.ownBlock] at hh⟩
  unfold firstM
  refine enter Go.Proofs.Tryz.func66 rfl rfl (by decide) rfl (e := [(0, .slice A l.length c)]) ⟨rfl, trivial⟩ ?_
  repeat (first | refine W_seq ?_ | refine W_region ?_ | refine Then_n ?_ | refine WL_nil ?_ | refine WL_some rfl rfl rfl ?_ | refine op_move rfl rfl ?_ | refine op_assign rfl rfl ?_ | refine op_len_slice T rfl rfl rfl rfl ?_)
  (refine op_lss rfl rfl rfl (fun hc => ?_) (fun hc => ?_))
  · rw [if_pos (by omega)]
    repeat (first | refine W_seq ?_ | refine W_region ?_ | refine W_ret ?_ | refine Then_n ?_ | refine Then_r ?_ | refine WL_nil ?_ | refine W_condT rfl ?_ | refine WL_some rfl rfl rfl ?_ | refine op_assign rfl rfl ?_)
    exact post3 (.inl rfl) rfl rfl rfl rfl ⟨_, rfl, hnil _ (Chg.refl _ _)⟩
  rw [if_neg (by omega)]
  have s4 := hl.cut (l := 4) (k := l.length) (by omega) (Nat.le_refl _)
  rw [List.take_length] at s4
  have t4 := hl.cut (l := 0) (k := 4) (by omega) (by omega)
  rw [List.drop_zero] at t4
  have hg4 := getFourM_lt l
  repeat (first | refine W_seq ?_ | refine W_skip ?_ | refine Then_n ?_ | refine WL_nil ?_ | refine W_condF rfl ?_)
  refine W_meet (σ := Unit) (fun _ => [(0, .slice A l.length c), (2, .slice none 0 0), (16, .bool (decide (getFourM (l.drop 4) ≠ crcN (l.take 4))))]) (fun _ w' => Chg [] w w') ?_ ?_
  · refine W_walk 7 [] fol (by kernel_rfl) (by kernel_rfl) ?_
    refine Walk.plain rfl (by intro val w_ hR hp; exact op_move rfl rfl ⟨Chg.refl _ _, rfl⟩) ?_; dsimp only [List.nil_append, List.cons_append]
    refine Walk.plain rfl (by intro val w_ hR hp; exact op_slice T (l := 4) (h' := l.length) rfl rfl rfl rfl ⟨_, rfl⟩ rfl (by omega) (by omega) ⟨Chg.refl _ _, rfl⟩) ?_; dsimp only [List.nil_append, List.cons_append]
    refine Walk.plain rfl (by intro val w_ hR hp; exact op_call rfl rfl rfl (getFour_has _ _ _ _ w_ (SliceOf.kept Ru8.kept _ _ _ _ hR s4)) (fun v w' h => h)) ?_; dsimp only [List.nil_append, List.cons_append]
    refine Walk.plain rfl (by intro val w_ hR hp; exact op_move rfl rfl ⟨Chg.refl _ _, rfl⟩) ?_; dsimp only [List.nil_append, List.cons_append]
    refine Walk.plain rfl (by intro val w_ hR hp; exact op_slice T (l := 0) (h' := 4) rfl rfl rfl rfl rfl ⟨_, rfl⟩ (by omega) (by omega) ⟨Chg.refl _ _, rfl⟩) ?_; dsimp only [List.nil_append, List.cons_append]
    refine Walk.plain rfl (by intro val w_ hR hp; exact op_call rfl rfl rfl (sumN_has _ _ _ _ w_ (SliceOf.kept Ru8.kept _ _ _ _ hR t4)) (fun v w' h => h)) ?_; dsimp only [List.nil_append, List.cons_append]
    refine Walk.plain (v := .bool (decide (getFourM (l.drop 4) ≠ crcN (l.take 4)))) rfl (by intro val w_ hR hp; exact op_neq rfl rfl rfl (fun hc => ⟨Chg.refl _ _, by rw [decide_eq_true (by omega)]⟩) (fun hc => ⟨Chg.refl _ _, by rw [decide_eq_false (by omega)]⟩)) ?_; dsimp only [List.nil_append, List.cons_append]
    refine Walk.fin ?_
    intro val w1 hc1 hp
    repeat (refine WL_nil ?_)
    exact Meet_n () ⟨rfl, rfl, rfl, trivial⟩ hc1
  rintro _ w1 hc1
  by_cases hh : getFourM (l.drop 4) ≠ crcN (l.take 4)
  · rw [decide_eq_true hh, if_pos hh]
    repeat (first | refine W_seq ?_ | refine W_region ?_ | refine W_ret ?_ | refine Then_n ?_ | refine Then_r ?_ | refine WL_nil ?_ | refine W_condT rfl ?_ | refine WL_some rfl rfl rfl ?_ | refine op_assign rfl rfl ?_)
    exact post3 (.inl rfl) rfl rfl rfl rfl ⟨_, rfl, hnil _ hc1⟩
  rw [decide_eq_false hh, if_neg hh]
  have hl1' := SliceOf.kept Ru8.kept _ _ _ _ hc1 hl
  repeat (first | refine W_seq ?_ | refine W_region ?_ | refine W_skip ?_ | refine Then_n ?_ | refine W_condF rfl ?_ | refine WL_some rfl rfl rfl ?_ | refine op_move rfl rfl ?_)
  refine op_call rfl rfl rfl (getFour_has A _ c l w1 hl1') ?_
  rintro _ w2 ⟨hc2, rfl⟩
  have hl2' := SliceOf.kept Ru8.kept _ _ _ _ hc2 hl1'
  repeat (refine WL_some rfl rfl rfl ?_)
  refine op_convert_fit T rfl rfl rfl rfl (wrap_u64_in (by omega) (by omega)) ?_
  repeat (first | refine W_seq ?_ | refine W_region ?_ | refine Then_n ?_ | refine WL_nil ?_ | refine WL_some rfl rfl rfl ?_ | refine op_move rfl rfl ?_ | refine op_assign rfl rfl ?_ | refine op_len_slice T rfl rfl rfl rfl ?_ | refine op_subt rfl rfl rfl (wrap_i64_in (by omega) (by omega)) ?_)
  refine op_convert_fit T rfl rfl rfl rfl (wrap_u64_in (by omega) (by omega)) ?_
  repeat (refine WL_some rfl rfl rfl ?_)
  (refine op_gtr rfl rfl rfl (fun hc => ?_) (fun hc => ?_))
  · rw [if_pos (by omega)]
    repeat (first | refine W_seq ?_ | refine W_region ?_ | refine W_ret ?_ | refine Then_n ?_ | refine Then_r ?_ | refine WL_nil ?_ | refine W_condT rfl ?_ | refine WL_some rfl rfl rfl ?_ | refine op_assign rfl rfl ?_)
    exact post3 (.inl rfl) rfl rfl rfl rfl ⟨_, rfl, hnil _ (hc1.trans' hc2)⟩
  rw [if_neg (by omega)]
  generalize getFourM l = m at *
  repeat (first | refine W_seq ?_ | refine W_region ?_ | refine W_skip ?_ | refine Then_n ?_ | refine WL_nil ?_ | refine W_condF rfl ?_ | refine WL_some rfl rfl rfl ?_ | refine op_move rfl rfl ?_)
  refine op_convert_fit T rfl rfl rfl rfl (wrap_i64_in (by omega) (by omega)) ?_
  repeat (first | refine WL_some rfl rfl rfl ?_ | refine op_add rfl rfl rfl (wrap_i64_in (by omega) (by omega)) ?_)
  refine op_cut T (l := 12) (h' := 12 + m) rfl rfl rfl rfl rfl ⟨_, rfl⟩ ⟨_, some_int (by omega)⟩ hl2' (by omega) (by omega) (fun A6 hA6 => ?_)
  have s6 := hA6 w2 hl2'
  have ex : (l.take (12 + m)).drop 12 = (l.drop 12).take m := by rw [List.drop_take]; congr 1; omega
  rw [ex] at s6
  repeat (first | refine W_seq ?_ | refine W_region ?_ | refine Then_n ?_ | refine WL_nil ?_ | refine WL_some rfl rfl rfl ?_ | refine op_move rfl rfl ?_ | refine op_assign rfl rfl ?_)
  refine op_cut T (l := 8) (h' := l.length) rfl rfl rfl rfl rfl ⟨_, rfl⟩ rfl hl2' (by omega) (by omega) (fun A7 hA7 => ?_)
  have s7 := hA7 w2 hl2'
  rw [List.take_length] at s7
  repeat (refine WL_some rfl rfl rfl ?_)
  refine op_call rfl rfl rfl (getFour_has A7 _ _ _ w2 s7) ?_
  rintro _ w3 ⟨hc3, rfl⟩
  have s63 := SliceOf.kept Ru8.kept _ _ _ _ hc3 s6
  repeat (first | refine WL_some rfl rfl rfl ?_ | refine op_move rfl rfl ?_)
  refine op_call rfl rfl rfl (sumN_has A6 _ _ _ w3 s63) ?_
  rintro _ w4 ⟨hc4, rfl⟩
  have s64 := SliceOf.kept Ru8.kept _ _ _ _ hc4 s63
  have hc04 : Chg [] w w4 := ((hc1.trans' hc2).trans' hc3).trans' hc4
  repeat (refine WL_some rfl rfl rfl ?_)
  (refine op_neq rfl rfl rfl (fun hc => ?_) (fun hc => ?_))
  · rw [if_pos (by omega)]
    repeat (first | refine W_seq ?_ | refine W_region ?_ | refine W_ret ?_ | refine Then_n ?_ | refine Then_r ?_ | refine WL_nil ?_ | refine W_condT rfl ?_ | refine WL_some rfl rfl rfl ?_ | refine op_assign rfl rfl ?_)
    exact post3 (.inl rfl) rfl rfl rfl rfl ⟨_, rfl, hnil _ hc04⟩
  rw [if_neg (by omega)]
  repeat (first | refine W_seq ?_ | refine W_region ?_ | refine W_skip ?_ | refine Then_n ?_ | refine WL_nil ?_ | refine W_condF rfl ?_ | refine WL_some rfl rfl rfl ?_)
  refine op_buildSlice T rfl rfl rfl rfl rfl rfl rfl (fun g w5 hgs hc5 hg5 => ?_)
  have k5 : MadeB 5 w w5 (.slice (some ⟨g, 0, none⟩) 0 0) [] := ⟨hc04.trans' hc5, Own.mk hg5 (Nat.le_refl _) (Nat.zero_le _) rfl rfl, fun h hh => by simp [Value.ownBlock] at hh; have := hc04.size; omega⟩
  have s65 := SliceOf.kept Ru8.kept _ _ _ _ hc5 s64
  repeat (first | refine WL_some rfl rfl rfl ?_ | refine op_move rfl rfl ?_)
  refine op_appB T rfl rfl rfl rfl rfl rfl rfl rfl rfl k5 s65 (by simp; omega) (fun v6 w6 m6 _ _ => ?_)
  repeat (first | refine WL_some rfl rfl rfl ?_ | refine op_move rfl rfl ?_)
  refine op_convert_fit T rfl rfl rfl rfl (wrap_i64_in (by omega) (by omega)) ?_
  repeat (first | refine W_ret ?_ | refine Then_n ?_ | refine WL_nil ?_ | refine WL_some rfl rfl rfl ?_ | refine op_assign rfl rfl ?_ | refine op_add rfl rfl rfl (wrap_i64_in (by omega) (by omega)) ?_)
  exact post3 (.inl rfl) rfl rfl (some_int (by dsimp only; omega)) rfl ⟨_, rfl, m6⟩
end Go.Proofs.YtbhnplghnhafiaaGreatDoor.Tryz
/-! Seals, one behind the other. -/
set_option linter.unusedVariables false
namespace Go.Proofs.YtbhnplghnhafiaaGreatDoor.Tryz
open Go Go.Vc

/-- A slice of bytes in a row. -/
def Rbs (w : World) (u : Value) (x : List UInt8) : Prop := SliceOf Ru8 w u x
theorem Rbs.kept : Kept Rbs := SliceOf.kept Ru8.kept
set_option maxHeartbeats 1000000 in
theorem scan_has (A : Option Addr) (n c : Nat) (b : List UInt8) (w : World) (hl : SliceOf Ru8 w (.slice A n c) b) (hb : b.length ≤ 1000000000) :
    Has Go.Proofs.Tryz.prog 51 #[.slice A n c] w (fun v w' => ∃ u, v = .tuple #[u, .int .i64 ((scanM b).2.1 : Nat), .bool (scanM b).2.2] ∧ Chg [] w w' ∧ OwnOf Rbs 23 [] w' u (scanM b).1 ∧ ∀ h, u.ownBlock = some h → w.heap.size ≤ h) := by
  obtain ⟨rfl, hl1, hl2⟩ := hl.len
  unfold maxLen at hl2
  refine enter Go.Proofs.Tryz.func51 rfl rfl (by decide) rfl (e := [(0, .slice A b.length c)]) ⟨rfl, trivial⟩ ?_
  repeat (first | refine W_seq ?_ | refine W_block ?_ | refine W_region ?_ | refine Then_n ?_ | refine WL_nil ?_ | refine WL_some rfl rfl rfl ?_ | refine op_assign rfl rfl ?_)
  refine W_loop (σ := Nat × List (List UInt8) × Value) (fun s => [(0, .slice A b.length c), (5, s.2.2), (6, .int .i64 s.1)])
    (fun s w' => s.1 ≤ b.length ∧ 12 * s.2.1.length ≤ s.1 ∧ scanM b = (s.2.1 ++ (scanM (b.drop s.1)).1, s.1 + (scanM (b.drop s.1)).2.1, (scanM (b.drop s.1)).2.2) ∧ Chg [] w w' ∧ OwnOf Rbs 23 [] w' s.2.2 s.2.1 ∧ ∀ h, s.2.2.ownBlock = some h → w.heap.size ≤ h)
    (fun s => b.length - s.1) (0, [], .slice none 0 0) ⟨rfl, rfl, rfl, trivial⟩ ⟨Nat.zero_le _, Nat.zero_le _, by simp, Chg.refl _ _, OwnOf.nil _ _ _ _, fun h hh => by simp [Value.ownBlock] at hh⟩ ?_
  rintro ⟨at_, l, v⟩ w1 ⟨h1, h2, h3, h4, h5, h6⟩
  dsimp only at h1 h2 h3 h4 h5 h6 ⊢
  have hl1' := SliceOf.kept Ru8.kept _ _ _ _ h4 hl
  repeat (first | refine W_seq ?_ | refine W_block ?_ | refine W_region ?_ | refine WL_some rfl rfl rfl ?_ | refine op_move rfl rfl ?_)
  refine op_cut T (l := at_) (h' := b.length) rfl rfl rfl rfl rfl ⟨_, rfl⟩ rfl hl1' h1 (Nat.le_refl _) (fun A' hA' => ?_)
  have hs := hA' w1 hl1'
  rw [List.take_length] at hs
  repeat (refine WL_some rfl rfl rfl ?_)
  refine op_call rfl rfl rfl (first_has A' _ _ _ w1 hs (by rw [List.length_drop]; omega)) ?_
  rintro _ w2 ⟨u, rfl, hu⟩
  have h5' := h5.keep0 hu.chg
  have hbd := firstM_bound (b.drop at_)
  have hend := scanM_end (l := b.drop at_)
  have hstep := scanM_step (l := b.drop at_)
  rw [List.drop_drop] at hstep
  rw [List.length_drop] at hbd
  generalize firstM (b.drop at_) = q at *
  obtain ⟨x, k, cut⟩ := q
  dsimp only at *
  by_cases hk : k = 0
  · subst hk
    rw [hend rfl] at h3
    dsimp only at h3
    rw [h3]
    dsimp only
    repeat (first | refine W_seq ?_ | refine W_region ?_ | refine W_ret ?_ | refine Then_n ?_ | refine Then_r ?_ | refine InBlock_r ?_ | refine Round_r ?_ | refine WL_nil ?_ | refine W_condT rfl ?_ | refine WL_some rfl rfl rfl ?_ | refine op_move rfl rfl ?_ | refine op_assign rfl rfl ?_ | refine op_extract rfl rfl rfl ?_ | refine op_eql rfl rfl rfl (fun hc => ?_) (fun hc => False.elim (by omega)))
    exact post3 (.inl rfl) rfl rfl (some_int (by omega)) rfl ⟨_, rfl, h4.trans' hu.chg, by rw [List.append_nil]; exact h5', h6⟩
  · rw [hstep hk] at h3
    dsimp only at h3
    rcases hbd with hz | ⟨hb1, hb2, hb3⟩
    · exact absurd hz hk
    obtain ⟨A9, c9, rfl, _, _⟩ := hu.form
    repeat (first | refine W_seq ?_ | refine W_region ?_ | refine W_skip ?_ | refine Then_n ?_ | refine WL_nil ?_ | refine W_condF rfl ?_ | refine WL_some rfl rfl rfl ?_ | refine op_move rfl rfl ?_ | refine op_assign rfl rfl ?_ | refine op_extract rfl rfl rfl ?_ | refine op_eql rfl rfl rfl (fun hc => False.elim (by omega)) (fun hc => ?_))
    refine op_buildSlice T rfl rfl rfl rfl rfl rfl rfl (fun g w3 hgs hc3 hg3 => ?_)
    repeat (refine WL_some rfl rfl rfl ?_)
    refine op_push T (xa := x) rfl rfl rfl rfl rfl rfl rfl rfl (h5'.keep0 hc3) hg3 ?_ ?_ (by omega) rfl (fun v' w4 ho4 hc4 hb4 => ?_)
    · rfl
    · refine Firm.step0 (hu.firm (fun k hk => ?_)) hc3
      exact h5.lt (by simpa using hk)
    have hc14 : Chg [] w w4 := (h4.trans' hu.chg).trans' hc3 |>.trans hc4 (fun k hk hlt => by have := h6 k (by simpa using hk); omega)
    repeat (first | refine W_region ?_ | refine Then_n ?_ | refine InBlock_n ?_ | refine WL_nil ?_ | refine WL_some rfl rfl rfl ?_ | refine op_move rfl rfl ?_ | refine op_assign rfl rfl ?_ | refine op_add rfl rfl rfl (wrap_i64_in (by omega) (by omega)) ?_)
    refine Round_n (at_ + k, l ++ [x], v') ⟨rfl, rfl, some_int (by dsimp only; omega), trivial⟩ ⟨by dsimp only; omega, by dsimp only; simp; omega, ?_, hc14, ho4, fun h hh => ?_⟩ (by dsimp only; omega)
    · dsimp only
      rw [h3, List.append_assoc, Nat.add_assoc]; rfl
    · rcases hb4 with hb4 | ⟨g', hb4, hge⟩
      · exact h6 h (by rw [← hb4]; exact hh)
      · rw [hb4] at hh; injection hh with hh
        have := h4.size; have := hu.chg.size; have := hc3.size; omega
end Go.Proofs.YtbhnplghnhafiaaGreatDoor.Tryz
/-! Records: Check, Encode. -/
set_option linter.unusedVariables false
namespace Go.Proofs.YtbhnplghnhafiaaGreatDoor.Tryz
open Go Go.Vc

set_option maxHeartbeats 1000000 in
theorem check_has (r : RecM) (w : World) : Has Go.Proofs.Tryz.prog 60 #[.agg (recL r).toArray] w (fun v w' => Chg [] w w' ∧ v = .int .i64 (checkM r)) := by
  refine enter Go.Proofs.Tryz.func60 rfl rfl (by decide) rfl (e := [(0, .agg (recL r).toArray)]) ⟨rfl, trivial⟩ ?_
  obtain ⟨kd, sq, ky, vl⟩ := r
  repeat (first | refine W_seq ?_ | refine W_region ?_ | refine WL_some rfl rfl rfl ?_)
  refine op_box rfl rfl (fun g w1 hgs hc1 hg1 => ?_)
  have hg1 : Blk w1 g 32 [.int .i64 kd, .int .i64 sq, .string (str ky), .string (str vl)] := hg1
  unfold checkM
  dsimp only
  repeat (first | refine W_seq ?_ | refine W_block ?_ | refine W_region ?_ | refine Then_n ?_ | refine WL_nil ?_ | refine WL_some rfl rfl rfl ?_ | refine op_assign rfl rfl ?_ | refine op_fieldAddr T rfl rfl rfl rfl rfl rfl rfl rfl ?_ | refine op_loadB T rfl rfl rfl rfl (by assumption) (by exact rfl) ?_)
  refine op_str_eql (a := ky) (b := []) rfl rfl rfl (fun h => ?_) (fun h => ?_)
  · rw [if_pos h]
    repeat (first | refine W_seq ?_ | refine W_region ?_ | refine W_ret ?_ | refine Then_n ?_ | refine Then_r ?_ | refine InBlock_r ?_ | refine WL_nil ?_ | refine W_condT rfl ?_ | refine WL_some rfl rfl rfl ?_ | refine op_assign rfl rfl ?_)
    exact post1 (.inl rfl) rfl rfl ⟨hc1, rfl⟩
  rw [if_neg h]
  by_cases h2 : 100 < ky.length
  · rw [if_pos (.inl h2)]
    repeat (first | refine W_seq ?_ | refine W_region ?_ | refine W_skip ?_ | refine W_ret ?_ | refine Then_n ?_ | refine Then_r ?_ | refine InBlock_r ?_ | refine WL_nil ?_ | refine W_condT rfl ?_ | refine W_condF rfl ?_ | refine WL_some rfl rfl rfl ?_ | refine op_len_str T rfl rfl rfl rfl ?_ | refine op_assign rfl rfl ?_ | refine op_gtr rfl rfl rfl (fun hc => ?_) (fun hc => False.elim (by omega)) | refine op_fieldAddr T rfl rfl rfl rfl rfl rfl rfl rfl ?_ | refine op_loadB T rfl rfl rfl rfl (by assumption) (by exact rfl) ?_)
    exact post1 (.inl rfl) rfl rfl ⟨hc1, rfl⟩
  by_cases h3 : 4000 < vl.length
  · rw [if_pos (.inr h3)]
    repeat (first | refine W_seq ?_ | refine W_region ?_ | refine W_ret ?_ | refine Then_n ?_ | refine Then_r ?_ | refine InBlock_r ?_ | refine WL_nil ?_ | refine W_condT rfl ?_ | refine W_condF rfl ?_ | refine WL_some rfl rfl rfl ?_ | refine op_len_str T rfl rfl rfl rfl ?_ | refine op_assign rfl rfl ?_ | refine op_gtr rfl rfl rfl (fun hc => ?_) (fun hc => False.elim (by omega)) | refine op_gtr rfl rfl rfl (fun hc => False.elim (by omega)) (fun hc => ?_) | refine op_fieldAddr T rfl rfl rfl rfl rfl rfl rfl rfl ?_ | refine op_loadB T rfl rfl rfl rfl (by assumption) (by exact rfl) ?_)
    exact post1 (.inl rfl) rfl rfl ⟨hc1, rfl⟩
  rw [if_neg (by omega)]
  by_cases hk1 : kd = 1
  · by_cases hs1 : sq < 1
    · rw [if_pos (by omega)]
      repeat (first | refine W_seq ?_ | refine W_region ?_ | refine W_skip ?_ | refine W_ret ?_ | refine Then_n ?_ | refine Then_r ?_ | refine InBlock_r ?_ | refine WL_nil ?_ | refine W_condT rfl ?_ | refine W_condF rfl ?_ | refine WL_some rfl rfl rfl ?_ | refine WL_guardF rfl rfl rfl rfl rfl ?_ | refine op_len_str T rfl rfl rfl rfl ?_ | refine op_move rfl rfl ?_ | refine op_assign rfl rfl ?_ | refine op_pick rfl rfl rfl rfl ?_ | refine op_lss rfl rfl rfl (fun hc => ?_) (fun hc => False.elim (by omega)) | refine op_gtr rfl rfl rfl (fun hc => False.elim (by omega)) (fun hc => ?_) | refine op_eql rfl rfl rfl (fun hc => False.elim (by omega)) (fun hc => ?_) | refine op_neq rfl rfl rfl (fun hc => False.elim (by omega)) (fun hc => ?_) | refine op_fieldAddr T rfl rfl rfl rfl rfl rfl rfl rfl ?_ | refine op_loadB T rfl rfl rfl rfl (by assumption) (by exact rfl) ?_)
      exact post1 (.inl rfl) rfl rfl ⟨hc1, rfl⟩
    by_cases hs2 : 1125899906842624 < sq
    · rw [if_pos (by omega)]
      repeat (first | refine W_seq ?_ | refine W_region ?_ | refine W_ret ?_ | refine Then_n ?_ | refine Then_r ?_ | refine InBlock_r ?_ | refine WL_nil ?_ | refine W_condT rfl ?_ | refine W_condF rfl ?_ | refine WL_some rfl rfl rfl ?_ | refine WL_guardF rfl rfl rfl rfl rfl ?_ | refine op_len_str T rfl rfl rfl rfl ?_ | refine op_move rfl rfl ?_ | refine op_assign rfl rfl ?_ | refine op_pick rfl rfl rfl rfl ?_ | refine op_lss rfl rfl rfl (fun hc => False.elim (by omega)) (fun hc => ?_) | refine op_gtr rfl rfl rfl (fun hc => ?_) (fun hc => False.elim (by omega)) | refine op_gtr rfl rfl rfl (fun hc => False.elim (by omega)) (fun hc => ?_) | refine op_eql rfl rfl rfl (fun hc => False.elim (by omega)) (fun hc => ?_) | refine op_neq rfl rfl rfl (fun hc => False.elim (by omega)) (fun hc => ?_) | refine op_fieldAddr T rfl rfl rfl rfl rfl rfl rfl rfl ?_ | refine op_loadB T rfl rfl rfl rfl (by assumption) (by exact rfl) ?_)
      exact post1 (.inl rfl) rfl rfl ⟨hc1, rfl⟩
    rw [if_neg (by omega)]
    repeat (first | refine W_seq ?_ | refine W_region ?_ | refine W_skip ?_ | refine W_ret ?_ | refine Then_n ?_ | refine InBlock_n ?_ | refine WL_nil ?_ | refine W_condF rfl ?_ | refine WL_some rfl rfl rfl ?_ | refine WL_guardF rfl rfl rfl rfl rfl ?_ | refine op_len_str T rfl rfl rfl rfl ?_ | refine op_move rfl rfl ?_ | refine op_assign rfl rfl ?_ | refine op_pick rfl rfl rfl rfl ?_ | refine op_lss rfl rfl rfl (fun hc => False.elim (by omega)) (fun hc => ?_) | refine op_gtr rfl rfl rfl (fun hc => False.elim (by omega)) (fun hc => ?_) | refine op_eql rfl rfl rfl (fun hc => False.elim (by omega)) (fun hc => ?_) | refine op_neq rfl rfl rfl (fun hc => False.elim (by omega)) (fun hc => ?_) | refine op_fieldAddr T rfl rfl rfl rfl rfl rfl rfl rfl ?_ | refine op_loadB T rfl rfl rfl rfl (by assumption) (by exact rfl) ?_)
    exact post1 (.inl rfl) rfl rfl ⟨hc1, rfl⟩
  by_cases hk0 : kd = 0
  · by_cases hv : vl = []
    · by_cases hs1 : sq < 1
      · rw [if_pos (by omega)]
        repeat (first | refine W_seq ?_ | refine W_region ?_ | refine Then_n ?_ | refine WL_nil ?_ | refine W_condF rfl ?_ | refine WL_some rfl rfl rfl ?_ | refine WL_guardT rfl rfl rfl rfl ?_ | refine op_len_str T rfl rfl rfl rfl ?_ | refine op_move rfl rfl ?_ | refine op_assign rfl rfl ?_ | refine op_pick rfl rfl rfl rfl ?_ | refine op_gtr rfl rfl rfl (fun hc => False.elim (by omega)) (fun hc => ?_) | refine op_eql rfl rfl rfl (fun hc => ?_) (fun hc => False.elim (by omega)) | refine op_neq rfl rfl rfl (fun hc => ?_) (fun hc => False.elim (by omega)) | refine op_neq rfl rfl rfl (fun hc => False.elim (by omega)) (fun hc => ?_) | refine op_fieldAddr T rfl rfl rfl rfl rfl rfl rfl rfl ?_ | refine op_loadB T rfl rfl rfl rfl (by assumption) (by exact rfl) ?_)
        refine op_str_neq (a := vl) (b := []) rfl rfl rfl (fun h => absurd hv h) (fun h => ?_)
        repeat (first | refine W_seq ?_ | refine W_region ?_ | refine W_skip ?_ | refine W_ret ?_ | refine Then_n ?_ | refine Then_r ?_ | refine InBlock_r ?_ | refine WL_nil ?_ | refine W_condT rfl ?_ | refine W_condF rfl ?_ | refine WL_some rfl rfl rfl ?_ | refine op_assign rfl rfl ?_ | refine op_pick rfl rfl rfl rfl ?_ | refine op_lss rfl rfl rfl (fun hc => ?_) (fun hc => False.elim (by omega)) | refine op_fieldAddr T rfl rfl rfl rfl rfl rfl rfl rfl ?_ | refine op_loadB T rfl rfl rfl rfl (by assumption) (by exact rfl) ?_)
        exact post1 (.inl rfl) rfl rfl ⟨hc1, rfl⟩
      by_cases hs2 : 1125899906842624 < sq
      · rw [if_pos (by omega)]
        repeat (first | refine W_seq ?_ | refine W_region ?_ | refine Then_n ?_ | refine WL_nil ?_ | refine W_condF rfl ?_ | refine WL_some rfl rfl rfl ?_ | refine WL_guardT rfl rfl rfl rfl ?_ | refine op_len_str T rfl rfl rfl rfl ?_ | refine op_move rfl rfl ?_ | refine op_assign rfl rfl ?_ | refine op_pick rfl rfl rfl rfl ?_ | refine op_gtr rfl rfl rfl (fun hc => False.elim (by omega)) (fun hc => ?_) | refine op_eql rfl rfl rfl (fun hc => ?_) (fun hc => False.elim (by omega)) | refine op_neq rfl rfl rfl (fun hc => ?_) (fun hc => False.elim (by omega)) | refine op_neq rfl rfl rfl (fun hc => False.elim (by omega)) (fun hc => ?_) | refine op_fieldAddr T rfl rfl rfl rfl rfl rfl rfl rfl ?_ | refine op_loadB T rfl rfl rfl rfl (by assumption) (by exact rfl) ?_)
        refine op_str_neq (a := vl) (b := []) rfl rfl rfl (fun h => absurd hv h) (fun h => ?_)
        repeat (first | refine W_seq ?_ | refine W_region ?_ | refine W_ret ?_ | refine Then_n ?_ | refine Then_r ?_ | refine InBlock_r ?_ | refine WL_nil ?_ | refine W_condT rfl ?_ | refine W_condF rfl ?_ | refine WL_some rfl rfl rfl ?_ | refine op_assign rfl rfl ?_ | refine op_pick rfl rfl rfl rfl ?_ | refine op_lss rfl rfl rfl (fun hc => False.elim (by omega)) (fun hc => ?_) | refine op_gtr rfl rfl rfl (fun hc => ?_) (fun hc => False.elim (by omega)) | refine op_fieldAddr T rfl rfl rfl rfl rfl rfl rfl rfl ?_ | refine op_loadB T rfl rfl rfl rfl (by assumption) (by exact rfl) ?_)
        exact post1 (.inl rfl) rfl rfl ⟨hc1, rfl⟩
      rw [if_neg (by rintro (h | h | h | h); · omega
                     · exact h.2 hv
                     · omega
                     · omega)]
      repeat (first | refine W_seq ?_ | refine W_region ?_ | refine Then_n ?_ | refine WL_nil ?_ | refine W_condF rfl ?_ | refine WL_some rfl rfl rfl ?_ | refine WL_guardT rfl rfl rfl rfl ?_ | refine op_len_str T rfl rfl rfl rfl ?_ | refine op_move rfl rfl ?_ | refine op_assign rfl rfl ?_ | refine op_pick rfl rfl rfl rfl ?_ | refine op_gtr rfl rfl rfl (fun hc => False.elim (by omega)) (fun hc => ?_) | refine op_eql rfl rfl rfl (fun hc => ?_) (fun hc => False.elim (by omega)) | refine op_neq rfl rfl rfl (fun hc => ?_) (fun hc => False.elim (by omega)) | refine op_neq rfl rfl rfl (fun hc => False.elim (by omega)) (fun hc => ?_) | refine op_fieldAddr T rfl rfl rfl rfl rfl rfl rfl rfl ?_ | refine op_loadB T rfl rfl rfl rfl (by assumption) (by exact rfl) ?_)
      refine op_str_neq (a := vl) (b := []) rfl rfl rfl (fun h => absurd hv h) (fun h => ?_)
      repeat (first | refine W_seq ?_ | refine W_region ?_ | refine W_skip ?_ | refine W_ret ?_ | refine Then_n ?_ | refine InBlock_n ?_ | refine WL_nil ?_ | refine W_condF rfl ?_ | refine WL_some rfl rfl rfl ?_ | refine op_assign rfl rfl ?_ | refine op_pick rfl rfl rfl rfl ?_ | refine op_lss rfl rfl rfl (fun hc => False.elim (by omega)) (fun hc => ?_) | refine op_gtr rfl rfl rfl (fun hc => False.elim (by omega)) (fun hc => ?_) | refine op_fieldAddr T rfl rfl rfl rfl rfl rfl rfl rfl ?_ | refine op_loadB T rfl rfl rfl rfl (by assumption) (by exact rfl) ?_)
      exact post1 (.inl rfl) rfl rfl ⟨hc1, rfl⟩
    · rw [if_pos (.inr (.inl ⟨hk0, hv⟩))]
      repeat (first | refine W_seq ?_ | refine W_region ?_ | refine Then_n ?_ | refine WL_nil ?_ | refine W_condF rfl ?_ | refine WL_some rfl rfl rfl ?_ | refine WL_guardT rfl rfl rfl rfl ?_ | refine op_len_str T rfl rfl rfl rfl ?_ | refine op_move rfl rfl ?_ | refine op_assign rfl rfl ?_ | refine op_pick rfl rfl rfl rfl ?_ | refine op_gtr rfl rfl rfl (fun hc => False.elim (by omega)) (fun hc => ?_) | refine op_eql rfl rfl rfl (fun hc => ?_) (fun hc => False.elim (by omega)) | refine op_neq rfl rfl rfl (fun hc => ?_) (fun hc => False.elim (by omega)) | refine op_neq rfl rfl rfl (fun hc => False.elim (by omega)) (fun hc => ?_) | refine op_fieldAddr T rfl rfl rfl rfl rfl rfl rfl rfl ?_ | refine op_loadB T rfl rfl rfl rfl (by assumption) (by exact rfl) ?_)
      refine op_str_neq (a := vl) (b := []) rfl rfl rfl (fun h => ?_) (fun h => absurd h hv)
      repeat (first | refine W_seq ?_ | refine W_region ?_ | refine W_skip ?_ | refine W_ret ?_ | refine Then_n ?_ | refine Then_r ?_ | refine InBlock_r ?_ | refine WL_nil ?_ | refine W_condT rfl ?_ | refine WL_some rfl rfl rfl ?_ | refine op_assign rfl rfl ?_ | refine op_pick rfl rfl rfl rfl ?_)
      exact post1 (.inl rfl) rfl rfl ⟨hc1, rfl⟩
  · rw [if_pos (.inl ⟨hk1, hk0⟩)]
    repeat (first | refine W_seq ?_ | refine W_region ?_ | refine W_skip ?_ | refine W_ret ?_ | refine Then_n ?_ | refine Then_r ?_ | refine InBlock_r ?_ | refine WL_nil ?_ | refine W_condT rfl ?_ | refine W_condF rfl ?_ | refine WL_some rfl rfl rfl ?_ | refine WL_guardT rfl rfl rfl rfl ?_ | refine op_len_str T rfl rfl rfl rfl ?_ | refine op_move rfl rfl ?_ | refine op_assign rfl rfl ?_ | refine op_pick rfl rfl rfl rfl ?_ | refine op_gtr rfl rfl rfl (fun hc => False.elim (by omega)) (fun hc => ?_) | refine op_neq rfl rfl rfl (fun hc => ?_) (fun hc => False.elim (by omega)) | refine op_fieldAddr T rfl rfl rfl rfl rfl rfl rfl rfl ?_ | refine op_loadB T rfl rfl rfl rfl (by assumption) (by exact rfl) ?_)
    exact post1 (.inl rfl) rfl rfl ⟨hc1, rfl⟩
theorem kind_byte {k : Int} (h : k = 1 ∨ k = 0) : Value.int .u8 k = Value.int .u8 ((UInt8.ofNat k.toNat).toNat : Int) := by rcases h with rfl | rfl <;> rfl
end Go.Proofs.YtbhnplghnhafiaaGreatDoor.Tryz
/-! The references of numbers and records, walked. -/
set_option linter.unusedVariables false
namespace Go.Vc
open Go
def nullR : RecM := ⟨0, 0, [], []⟩
def recEq (a b : RecM) : Bool := decide (a.kind = b.kind ∧ a.seq = b.seq ∧ a.key = b.key ∧ a.val = b.val)
theorem recEq_iff {a b : RecM} : recEq a b = true ↔ a = b := by
  obtain ⟨a1, a2, a3, a4⟩ := a
  obtain ⟨b1, b2, b3, b4⟩ := b
  simp [recEq]
end Go.Vc
namespace Go.Proofs.YtbhnplghnhafiaaGreatDoor.Tryz
open Go Go.Vc
set_option maxHeartbeats 2000000 in
theorem rget_has (A : Option Addr) (n c : Nat) (l : List UInt8) (w : World) (hl : SliceOf Ru8 w (.slice A n c) l) :
    Has Go.Proofs.Tryz.prog 49 #[.slice A n c] w (fun v w' => w' = w ∧ v = .tuple #[.int .u64 ((getM l).1 : Nat), .int .i64 ((getM l).2 : Nat)]) := by
  obtain ⟨rfl, hl1, hl2⟩ := hl.len
  unfold maxLen at hl2
  refine enter Go.Proofs.Tryz.func49 rfl rfl (by decide) rfl (e := [(0, .slice A l.length c)]) ⟨rfl, trivial⟩ ?_
  repeat (first | refine W_seq ?_ | refine W_block ?_ | refine W_region ?_ | refine Then_n ?_ | refine WL_nil ?_ | refine WL_some rfl rfl rfl ?_ | refine op_assign rfl rfl ?_)
  refine W_loop (σ := Nat) (fun k => [(0, .slice A l.length c), (4, .int .i64 ((k : Int) + 1))])
    (fun (k : Nat) w' => k ≤ 10 ∧ k ≤ l.length ∧ (∀ x ∈ l.take k, 127 < x.toNat) ∧ w' = w) (fun k => l.length - k) 0 ⟨rfl, rfl, trivial⟩ ⟨by omega, by omega, by simp, rfl⟩ ?_
  rintro k w1 ⟨hk10, hkl, hbig, rfl⟩
  have hk1 : (k : Int) + 1 - 1 = (k : Int) := by omega
  by_cases h10 : k = 10
  · subst h10
    rw [getM_none hbig]
    repeat (first | refine W_seq ?_ | refine W_region ?_ | refine W_exit ?_ | refine W_ret ?_ | refine Then_n ?_ | refine Then_x ?_ | refine InBlock_hit ?_ | refine Round_x ?_ | refine WL_nil ?_ | refine W_condF rfl ?_ | refine WL_some rfl rfl rfl ?_ | refine WL_guardF rfl rfl rfl rfl rfl ?_ | refine op_move rfl rfl ?_ | refine op_assign rfl rfl ?_ | refine op_pick rfl rfl rfl rfl ?_ | refine op_leq rfl rfl rfl (fun hc => False.elim (by omega)) (fun hc => ?_))
    exact post2 (.inl rfl) rfl rfl rfl ⟨rfl, rfl⟩
  by_cases hend : k = l.length
  · rw [getM_none (fun x hx => hbig x (by rw [hend, List.take_length]; exact List.mem_of_mem_take hx))]
    repeat (first | refine W_seq ?_ | refine W_region ?_ | refine W_exit ?_ | refine W_ret ?_ | refine Then_n ?_ | refine Then_x ?_ | refine InBlock_hit ?_ | refine Round_x ?_ | refine WL_nil ?_ | refine W_condF rfl ?_ | refine WL_some rfl rfl rfl ?_ | refine WL_guardT rfl rfl rfl rfl ?_ | refine op_move rfl rfl ?_ | refine op_assign rfl rfl ?_ | refine op_pick rfl rfl rfl rfl ?_ | refine op_len_slice T rfl rfl rfl rfl ?_ | refine op_leq rfl rfl rfl (fun hc => ?_) (fun hc => False.elim (by omega)) | refine op_leq rfl rfl rfl (fun hc => False.elim (by omega)) (fun hc => ?_))
    exact post2 (.inl rfl) rfl rfl rfl ⟨rfl, rfl⟩
  have hlt : k < l.length := by omega
  have hget := List.getElem?_eq_getElem hlt
  obtain ⟨ad, u, rfl, hu, rfl⟩ := hl.get (i := k) hget
  have hat := fun hs => getM_at (b := l) (k := k) (by omega) hget hs hbig
  have htake : l.take (k + 1) = l.take k ++ [l[k]] := by rw [List.take_add_one, hget]; rfl
  generalize l[k] = ch at *
  have hch := ch.toNat_lt
  repeat (first | refine W_seq ?_ | refine W_block ?_ | refine W_region ?_ | refine W_skip ?_ | refine Then_n ?_ | refine WL_nil ?_ | refine W_condT rfl ?_ | refine WL_some rfl rfl rfl ?_ | refine WL_guardT rfl rfl rfl rfl ?_ | refine op_move rfl rfl ?_ | refine op_pick rfl rfl rfl rfl ?_ | refine op_len_slice T rfl rfl rfl rfl ?_ | refine op_subt rfl rfl rfl (wrap_i64_in (by omega) (by omega)) ?_ | refine op_leq rfl rfl rfl (fun hc => ?_) (fun hc => False.elim (by omega)))
  rw [hk1]
  repeat (first | refine WL_some rfl rfl rfl ?_ | refine op_index_nat T rfl rfl rfl rfl rfl rfl (by omega) ?_ | refine op_load T rfl rfl rfl rfl (by assumption) ?_)
  by_cases hgo : 127 < ch.toNat
  · repeat (first | refine W_region ?_ | refine W_exit ?_ | refine Then_n ?_ | refine Then_x ?_ | refine InBlock_hit ?_ | refine WL_nil ?_ | refine W_condT rfl ?_ | refine WL_some rfl rfl rfl ?_ | refine op_move rfl rfl ?_ | refine op_assign rfl rfl ?_ | refine op_add rfl rfl rfl (wrap_i64_in (by omega) (by omega)) ?_ | refine op_geq rfl rfl rfl (fun hc => ?_) (fun hc => False.elim (by omega)))
    refine Round_n (k + 1) ⟨rfl, some_int (by omega), trivial⟩ ⟨by omega, by omega, fun x hx => ?_, rfl⟩ (by omega)
    rw [htake] at hx
    rcases List.mem_append.1 hx with hx | hx
    · exact hbig x hx
    · simp at hx; subst hx; exact hgo
  have hat := hat hgo
  repeat (first | refine W_seq ?_ | refine W_block ?_ | refine W_region ?_ | refine W_skip ?_ | refine Then_n ?_ | refine WL_nil ?_ | refine W_condF rfl ?_ | refine WL_some rfl rfl rfl ?_ | refine op_move rfl rfl ?_ | refine op_assign rfl rfl ?_ | refine op_subt rfl rfl rfl (wrap_i64_in (by omega) (by omega)) ?_ | refine op_geq rfl rfl rfl (fun hc => False.elim (by omega)) (fun hc => ?_))
  rw [hk1]
  refine W_loop (σ := Nat) (fun j => [(0, .slice (some ad) l.length c), (4, .int .i64 ((k : Int) + 1)), (5, .int .u64 (horn ((l.take (k + 1)).drop j) : Nat)), (6, .int .i64 ((j : Int) - 1))])
    (fun (j : Nat) w' => j ≤ k + 1 ∧ (j = 0 → ¬ (k = 9 ∧ 1 < ch.toNat)) ∧ w' = w1) (fun j => j) (k + 1) ⟨rfl, rfl, ?_, some_int (by omega), trivial⟩ ⟨by omega, by omega, rfl⟩ ?_
  · have : (l.take (k + 1)).drop (k + 1) = [] := List.drop_eq_nil_of_le (by rw [List.length_take]; omega)
    rw [this]; rfl
  rintro j w2 ⟨hj, hnb, rfl⟩
  by_cases hj0 : j = 0
  · subst hj0
    rw [List.drop_zero]
    repeat (first | refine W_seq ?_ | refine W_region ?_ | refine W_exit ?_ | refine Then_n ?_ | refine Then_x ?_ | refine InBlock_hit ?_ | refine Round_x ?_ | refine WL_nil ?_ | refine W_condF rfl ?_ | refine WL_some rfl rfl rfl ?_ | refine op_move rfl rfl ?_ | refine op_geq rfl rfl rfl (fun hc => False.elim (by omega)) (fun hc => ?_))
    by_cases hz : 0 < k ∧ ch.toNat = 0
    · rw [if_pos (.inl hz)] at hat
      rw [hat]
      have : 0 < k := hz.1
      repeat (first | refine WL_some rfl rfl rfl ?_ | refine WL_guardT rfl rfl rfl rfl ?_ | refine op_move rfl rfl ?_ | refine op_subt rfl rfl rfl (wrap_i64_in (by omega) (by omega)) ?_ | refine op_gtr rfl rfl rfl (fun hc => ?_) (fun hc => False.elim (by omega)))
      rw [hk1]
      repeat (first | refine W_seq ?_ | refine W_region ?_ | refine W_ret ?_ | refine Then_n ?_ | refine Then_r ?_ | refine InBlock_r ?_ | refine Round_r ?_ | refine WL_nil ?_ | refine W_condT rfl ?_ | refine WL_some rfl rfl rfl ?_ | refine WL_guardT rfl rfl rfl rfl ?_ | refine op_assign rfl rfl ?_ | refine op_pick rfl rfl rfl rfl ?_ | refine op_index_nat T rfl rfl rfl rfl rfl rfl (by omega) ?_ | refine op_load T rfl rfl rfl rfl (by assumption) ?_ | refine op_eql rfl rfl rfl (fun hc => ?_) (fun hc => False.elim (by omega)))
      exact post2 (.inl rfl) rfl rfl rfl ⟨rfl, rfl⟩
    · have hbad := hnb rfl
      rw [if_neg (by omega)] at hat
      rw [hat]
      dsimp only
      by_cases hk0 : 0 < k
      · repeat (first | refine WL_some rfl rfl rfl ?_ | refine WL_guardT rfl rfl rfl rfl ?_ | refine op_move rfl rfl ?_ | refine op_subt rfl rfl rfl (wrap_i64_in (by omega) (by omega)) ?_ | refine op_gtr rfl rfl rfl (fun hc => ?_) (fun hc => False.elim (by omega)))
        rw [hk1]
        repeat (first | refine W_seq ?_ | refine W_region ?_ | refine W_skip ?_ | refine W_ret ?_ | refine Then_n ?_ | refine Then_r ?_ | refine InBlock_r ?_ | refine Round_r ?_ | refine WL_nil ?_ | refine W_condF rfl ?_ | refine WL_some rfl rfl rfl ?_ | refine WL_guardT rfl rfl rfl rfl ?_ | refine op_move rfl rfl ?_ | refine op_assign rfl rfl ?_ | refine op_pick rfl rfl rfl rfl ?_ | refine op_index_nat T rfl rfl rfl rfl rfl rfl (by omega) ?_ | refine op_load T rfl rfl rfl rfl (by assumption) ?_ | refine op_eql rfl rfl rfl (fun hc => False.elim (by omega)) (fun hc => ?_))
        exact post2 (.inl rfl) rfl rfl (some_int (by omega)) ⟨rfl, rfl⟩
      · repeat (first | refine W_seq ?_ | refine W_region ?_ | refine W_skip ?_ | refine W_ret ?_ | refine Then_n ?_ | refine Then_r ?_ | refine InBlock_r ?_ | refine Round_r ?_ | refine WL_nil ?_ | refine W_condF rfl ?_ | refine WL_some rfl rfl rfl ?_ | refine WL_guardF rfl rfl rfl rfl rfl ?_ | refine op_move rfl rfl ?_ | refine op_assign rfl rfl ?_ | refine op_pick rfl rfl rfl rfl ?_ | refine op_gtr rfl rfl rfl (fun hc => False.elim (by omega)) (fun hc => ?_))
        exact post2 (.inl rfl) rfl rfl (some_int (by omega)) ⟨rfl, rfl⟩
  · obtain ⟨i, rfl⟩ : ∃ i, j = i + 1 := ⟨j - 1, by omega⟩
    have hi1 : ((i + 1 : Nat) : Int) - 1 = (i : Int) := by omega
    have hilt : i < l.length := by omega
    have hgi := List.getElem?_eq_getElem hilt
    obtain ⟨_, u, he, hui, rfl⟩ := hl.get (i := i) hgi
    cases he
    have hdl : ((l.take (k + 1)).drop (i + 1)).length = k - i := by rw [List.length_drop, List.length_take]; omega
    have hstep : (l.take (k + 1)).drop i = l[i] :: (l.take (k + 1)).drop (i + 1) := by
      rw [List.drop_eq_getElem_cons (by rw [List.length_take]; omega)]
      simp
    have hh := horn_lt ((l.take (k + 1)).drop (i + 1))
    rw [hdl] at hh
    have hpow : 2 ^ (7 * (k - i)) ≤ 2 ^ 63 := Nat.pow_le_pow_right (by decide) (by omega)
    have hnext : horn ((l.take (k + 1)).drop i) = l[i].toNat % 128 + 128 * horn ((l.take (k + 1)).drop (i + 1)) := by rw [hstep]; rfl
    have h9 : k = 9 → i = 0 → horn ((l.take (k + 1)).drop (i + 1)) = horn ((l.take k).drop 1) + ch.toNat % 128 * 2 ^ 56 ∧ horn ((l.take k).drop 1) < 2 ^ 56 := fun e1 e2 => by
      subst e1; subst e2
      have hl8 : ((l.take 9).drop 1).length = 8 := by rw [List.length_drop, List.length_take]; omega
      have h8 := horn_lt ((l.take 9).drop 1)
      rw [hl8] at h8
      refine ⟨?_, h8⟩
      rw [htake, Nat.zero_add, List.drop_append_of_le_length (by rw [List.length_take]; omega), horn_append, hl8]
    have hsm : ¬ (k = 9 ∧ i = 0) → 2 ^ (7 * (k - i)) ≤ 2 ^ 56 := fun h => Nat.pow_le_pow_right (by decide) (by omega)
    generalize horn ((l.take (k + 1)).drop (i + 1)) = x at *
    generalize l[i] = ci at *
    have hci := ci.toNat_lt
    rw [hi1]
    by_cases hov : 144115188075855872 ≤ x
    · have e : k = 9 ∧ i = 0 := by
        by_cases e : k = 9 ∧ i = 0
        · exact e
        · have := hsm e; omega
      obtain ⟨h1, h2⟩ := h9 e.1 e.2
      rw [if_pos (.inr ⟨e.1, by omega⟩)] at hat
      rw [hat]
      repeat (first | refine W_seq ?_ | refine W_block ?_ | refine W_region ?_ | refine W_skip ?_ | refine W_ret ?_ | refine Then_n ?_ | refine Then_r ?_ | refine InBlock_r ?_ | refine Round_r ?_ | refine WL_nil ?_ | refine W_condT rfl ?_ | refine WL_some rfl rfl rfl ?_ | refine op_move rfl rfl ?_ | refine op_assign rfl rfl ?_ | refine op_geq rfl rfl rfl (fun hc => ?_) (fun hc => False.elim (by omega)))
      exact post2 (.inl rfl) rfl rfl rfl ⟨rfl, rfl⟩
    · repeat (first | refine W_seq ?_ | refine W_block ?_ | refine W_region ?_ | refine W_skip ?_ | refine Then_n ?_ | refine WL_nil ?_ | refine W_condT rfl ?_ | refine W_condF rfl ?_ | refine WL_some rfl rfl rfl ?_ | refine op_move rfl rfl ?_ | refine op_geq rfl rfl rfl (fun hc => ?_) (fun hc => False.elim (by omega)) | refine op_geq rfl rfl rfl (fun hc => False.elim (by omega)) (fun hc => ?_))
      refine op_mul rfl rfl rfl (wrap_u64_in (by omega) (by omega)) ?_
      repeat (first | refine WL_some rfl rfl rfl ?_ | refine op_move rfl rfl ?_ | refine op_rem rfl rfl rfl (by omega) rfl ?_ | refine op_index_nat T rfl rfl rfl rfl rfl rfl (by omega) ?_ | refine op_load T rfl rfl rfl rfl (by assumption) ?_)
      rw [show (ci.toNat : Int).tmod 128 = ((ci.toNat % 128 : Nat) : Int) from by rw [Int.tmod_eq_emod_of_nonneg (Int.natCast_nonneg _)]; omega]
      refine op_convert_fit T rfl rfl rfl rfl (wrap_u64_in (by omega) (by omega)) ?_
      repeat (refine WL_some rfl rfl rfl ?_)
      refine op_add rfl rfl rfl (wrap_u64_in (by omega) (by omega)) ?_
      repeat (first | refine W_region ?_ | refine Then_n ?_ | refine InBlock_n ?_ | refine WL_nil ?_ | refine WL_some rfl rfl rfl ?_ | refine op_move rfl rfl ?_ | refine op_assign rfl rfl ?_ | refine op_subt rfl rfl rfl (wrap_i64_in (by omega) (by omega)) ?_)
      refine Round_n i ⟨rfl, rfl, ?_, rfl, trivial⟩ ⟨by omega, fun e => ?_, rfl⟩ (by omega)
      · rw [hnext]; exact some_int (by omega)
      · rintro ⟨e1, e2⟩
        obtain ⟨h1, h2⟩ := h9 e1 e
        omega
end Go.Proofs.YtbhnplghnhafiaaGreatDoor.Tryz
/-! Records: Encode. -/
set_option linter.unusedVariables false
namespace Go.Proofs.YtbhnplghnhafiaaGreatDoor.Tryz
open Go Go.Vc

set_option maxHeartbeats 2000000 in
theorem encode_has (r : RecM) (w : World) : Has Go.Proofs.Tryz.prog 39 #[.agg (recL r).toArray] w (fun v w' => ∃ u, v = .tuple #[u, .int .i64 (encM r).2] ∧ MadeB 5 w w' u (encM r).1) := by
  refine enter Go.Proofs.Tryz.func39 rfl rfl (by decide) rfl (e := [(0, .agg (recL r).toArray)]) ⟨rfl, trivial⟩ ?_
  repeat (first | refine W_seq ?_ | refine W_region ?_ | refine WL_some rfl rfl rfl ?_)
  refine op_box rfl rfl (fun g w1 hgs hc1 hg1 => ?_)
  have hg1 : Blk w1 g 32 (recL r) := hg1
  repeat (first | refine W_seq ?_ | refine W_region ?_ | refine Then_n ?_ | refine WL_nil ?_ | refine WL_some rfl rfl rfl ?_ | refine op_assign rfl rfl ?_ | refine op_load_agg T rfl rfl rfl rfl (by assumption) (by exact Nat.le_of_ble_eq_true rfl) (by exact rfl) ?_)
  refine op_call rfl rfl rfl (check_has r w1) ?_
  rintro _ w2 ⟨hc2, rfl⟩
  unfold encM
  by_cases hck : checkM r ≠ 0
  · rw [if_pos hck]
    repeat (first | refine W_seq ?_ | refine W_region ?_ | refine W_ret ?_ | refine Then_n ?_ | refine Then_r ?_ | refine WL_nil ?_ | refine W_condT rfl ?_ | refine WL_some rfl rfl rfl ?_ | refine op_move rfl rfl ?_ | refine op_assign rfl rfl ?_ | refine op_neq rfl rfl rfl (fun hc => ?_) (fun hc => False.elim (by omega)))
    exact post2 (.inl rfl) rfl rfl rfl ⟨_, rfl, hc1.trans' hc2, Own.nil _ _ _, fun h hh => by simp [Value.ownBlock] at hh⟩
  rw [if_neg hck]
  have hok := checkM_ok.1 (Decidable.not_not.1 hck)
  have hkind : r.kind = 1 ∨ r.kind = 0 := hok.kind.imp id (·.1)
  have hs1 := hok.seq1; have hs2 := hok.seq2; have h100 := hok.key100; have h4000 := hok.val4000
  have hckz : checkM r = 0 := Decidable.not_not.1 hck
  rw [hckz]
  have hg2 := hg1.keep0 hc2
  have hc02 := hc1.trans' hc2
  unfold recL at hg2
  repeat (first | refine W_seq ?_ | refine W_region ?_ | refine W_skip ?_ | refine Then_n ?_ | refine WL_nil ?_ | refine W_condF rfl ?_ | refine WL_some rfl rfl rfl ?_ | refine op_move rfl rfl ?_ | refine op_assign rfl rfl ?_ | refine op_neq rfl rfl rfl (fun hc => False.elim (by omega)) (fun hc => ?_))
  refine W_walk 8 [] fol (by kernel_rfl) (by kernel_rfl) ?_
  refine Walk.plain rfl (by intro val w_ hR hp; exact op_fieldAddr T rfl rfl rfl rfl rfl rfl rfl rfl ⟨Chg.refl _ _, rfl⟩) ?_; dsimp only [List.nil_append, List.cons_append]
  refine Walk.plain rfl (by intro val w_ hR hp; exact op_load T rfl rfl rfl rfl ((Blk.keep0 hg2 hR).cell rfl) ⟨Chg.refl _ _, rfl⟩) ?_; dsimp only [List.nil_append, List.cons_append]
  refine Walk.plain rfl (by intro val w_ hR hp; exact op_convert_fit T rfl rfl rfl rfl (wrap_u8_in (by omega) (by omega)) ⟨Chg.refl _ _, rfl⟩) ?_; dsimp only [List.nil_append, List.cons_append]
  refine Walk.rel (fun u w => ∃ g5, u = .slice (some ⟨g5, 0, none⟩) 1 1 ∧ Blk w g5 5 [.int .u8 r.kind] ∧ w2.heap.size ≤ g5) rfl (fun u a b ⟨g5, h1, h2, h3⟩ hab => ⟨g5, h1, h2.keep0 hab, h3⟩) ?_ ?_
  · intro val w_ hR hp
    exact op_buildSlice T rfl rfl rfl rfl rfl rfl rfl (fun g5 w5 hs5 hc5 hg5 => ⟨hc5, g5, rfl, hg5, by have := hR.size; omega⟩)
  dsimp only [List.nil_append, List.cons_append]
  refine Walk.plain rfl (by intro val w_ hR hp; exact op_fieldAddr T rfl rfl rfl rfl rfl rfl rfl rfl ⟨Chg.refl _ _, rfl⟩) ?_; dsimp only [List.nil_append, List.cons_append]
  refine Walk.plain rfl (by intro val w_ hR hp; exact op_load T rfl rfl rfl rfl ((Blk.keep0 hg2 hR).cell rfl) ⟨Chg.refl _ _, rfl⟩) ?_; dsimp only [List.nil_append, List.cons_append]
  refine Walk.plain (v := .int .u64 (r.seq.toNat : Int)) rfl (by intro val w_ hR hp; exact op_convert_int T rfl rfl rfl rfl (by rw [wrap_u64_in (by omega) (by omega)]; exact (Int.toNat_of_nonneg (by omega)).symm) ⟨Chg.refl _ _, rfl⟩) ?_; dsimp only [List.nil_append, List.cons_append]
  refine Walk.rel (fun u w => MadeB 5 w2 w u (putM r.seq.toNat)) rfl (fun u a b h hab => h.keep0 hab) ?_ ?_
  · intro val w_ hR hp
    exact op_call rfl rfl rfl (put_has _ w_ (by omega)) (fun v w' h => ⟨h.chg, h.base hR⟩)
  dsimp only [List.nil_append, List.cons_append]
  refine Walk.fin ?_
  intro val w3 hc3 hp
  obtain ⟨g5, he, hg5, hs5⟩ : ∃ g5, val 3 = .slice (some ⟨g5, 0, none⟩) 1 1 ∧ Blk w3 g5 5 [.int .u8 r.kind] ∧ w2.heap.size ≤ g5 := hp 3 (by omega) _ _ rfl rfl
  have m7 : MadeB 5 w2 w3 (val 7) (putM r.seq.toNat) := hp 7 (by omega) _ _ rfl rfl
  clear hp
  obtain ⟨A7, c7, he7, _, _⟩ := m7.form
  have hg3 := hg2.keep0 hc3
  have m5 : MadeB 5 w2 w3 (.slice (some ⟨g5, 0, none⟩) 1 1) [UInt8.ofNat r.kind.toNat] := by
    rw [kind_byte hkind] at hg5
    exact ⟨hc3, Own.mk hg5 (Nat.le_refl _) (by decide) rfl rfl, fun h hh => by simp [Value.ownBlock] at hh; omega⟩
  refine WL_sub (e' := [(1, .pointer (some ⟨g, 0, none⟩)), (14, .slice (some ⟨g5, 0, none⟩) 1 1), (18, .slice A7 (putM r.seq.toNat).length c7), (3, .int .i64 0)]) ⟨rfl, congrArg some he, congrArg some he7, rfl, trivial⟩ ?_
  rw [he7] at m7
  have hp10 := putM_len10 (n := r.seq.toNat) (by omega)
  have ht1 := textM_len r.key (by omega)
  have ht2 := textM_len r.val (by omega)
  repeat (refine WL_some rfl rfl rfl ?_)
  refine op_appB T rfl rfl rfl rfl rfl rfl rfl rfl rfl m5 m7.reads (by simp; omega) (fun v8 w8 m8 hc8 _ => ?_)
  have hg8 := hg3.keep hc8 (fun hm => m5.sub hg2.lt g (by simpa using hm) rfl)
  repeat (first | refine W_seq ?_ | refine W_region ?_ | refine Then_n ?_ | refine WL_nil ?_ | refine WL_some rfl rfl rfl ?_ | refine op_move rfl rfl ?_ | refine op_assign rfl rfl ?_ | refine op_fieldAddr T rfl rfl rfl rfl rfl rfl rfl rfl ?_ | refine op_loadB T rfl rfl rfl rfl (by assumption) (by exact rfl) ?_)
  refine op_call rfl rfl rfl (text_has r.key w8 (by omega)) ?_
  intro v9 w9 m9
  obtain ⟨A9, c9, rfl, _, _⟩ := m9.form
  have hg9 := hg8.keep0 m9.chg
  have m8' := m8.keep0 m9.chg
  repeat (refine WL_some rfl rfl rfl ?_)
  refine op_appB T rfl rfl rfl rfl rfl rfl rfl rfl rfl m8' m9.reads (by simp; omega) (fun v10 w10 m10 hc10 _ => ?_)
  have hg10 := hg9.keep hc10 (fun hm => m8'.sub hg2.lt g (by simpa using hm) rfl)
  by_cases hk1 : r.kind = 1
  · have eb : bodyM r = [UInt8.ofNat r.kind.toNat] ++ putM r.seq.toNat ++ textM r.key ++ textM r.val := by unfold bodyM; rw [if_pos hk1]; rfl
    repeat (first | refine W_seq ?_ | refine W_region ?_ | refine Then_n ?_ | refine WL_nil ?_ | refine W_condT rfl ?_ | refine WL_some rfl rfl rfl ?_ | refine op_move rfl rfl ?_ | refine op_assign rfl rfl ?_ | refine op_eql rfl rfl rfl (fun hc => ?_) (fun hc => False.elim (by omega)) | refine op_fieldAddr T rfl rfl rfl rfl rfl rfl rfl rfl ?_ | refine op_loadB T rfl rfl rfl rfl (by assumption) (by exact rfl) ?_)
    refine op_call rfl rfl rfl (text_has r.val w10 (by omega)) ?_
    intro v11 w11 m11
    obtain ⟨A11, c11, rfl, _, _⟩ := m11.form
    repeat (refine WL_some rfl rfl rfl ?_)
    refine op_appB T rfl rfl rfl rfl rfl rfl rfl rfl rfl (m10.keep0 m11.chg) m11.reads (by simp; omega) (fun v12 w12 m12 _ _ => ?_)
    rw [← eb] at m12
    obtain ⟨A12, c12, rfl, _, _⟩ := m12.form
    have hbl := bodyM_len hok
    repeat (first | refine W_seq ?_ | refine W_region ?_ | refine Then_n ?_ | refine WL_nil ?_ | refine WL_some rfl rfl rfl ?_ | refine op_move rfl rfl ?_ | refine op_assign rfl rfl ?_)
    refine op_call rfl rfl rfl (seal_has A12 _ c12 _ w12 m12.reads (by omega)) ?_
    intro v13 w13 m13
    repeat (first | refine W_ret ?_ | refine Then_n ?_ | refine WL_nil ?_ | refine WL_some rfl rfl rfl ?_ | refine op_assign rfl rfl ?_)
    exact post2 (.inl rfl) rfl rfl rfl ⟨_, rfl, m13.base (hc02.trans' m12.chg)⟩
  · have eb : bodyM r = [UInt8.ofNat r.kind.toNat] ++ putM r.seq.toNat ++ textM r.key := by unfold bodyM; rw [if_neg hk1, List.append_nil]; rfl
    rw [← eb] at m10
    obtain ⟨A12, c12, rfl, _, _⟩ := m10.form
    have hbl := bodyM_len hok
    repeat (first | refine W_seq ?_ | refine W_region ?_ | refine W_skip ?_ | refine Then_n ?_ | refine WL_nil ?_ | refine W_condF rfl ?_ | refine WL_some rfl rfl rfl ?_ | refine op_move rfl rfl ?_ | refine op_assign rfl rfl ?_ | refine op_eql rfl rfl rfl (fun hc => False.elim (by omega)) (fun hc => ?_) | refine op_fieldAddr T rfl rfl rfl rfl rfl rfl rfl rfl ?_ | refine op_loadB T rfl rfl rfl rfl (by assumption) (by exact rfl) ?_)
    refine op_call rfl rfl rfl (seal_has A12 _ c12 _ w10 m10.reads (by omega)) ?_
    intro v13 w13 m13
    repeat (first | refine W_ret ?_ | refine Then_n ?_ | refine WL_nil ?_ | refine WL_some rfl rfl rfl ?_ | refine op_assign rfl rfl ?_)
    exact post2 (.inl rfl) rfl rfl rfl ⟨_, rfl, m13.base (hc02.trans' m10.chg)⟩
end Go.Proofs.YtbhnplghnhafiaaGreatDoor.Tryz
/-! Readers; a record out of bytes. -/
set_option linter.unusedVariables false
namespace Go.Vc
open Go
theorem Walk.guardR {P : Program} {N : Nat} {S : List Nat} {l : List Oper} {e : Env} {w : World} {fin : List VS → Prop} {i j : Nat} {want : Bool} {r : List Oper} {Vs : List VS} {o : Oper} (R : Value → World → Prop) (hg : o.guard = some (j, want)) (hj : (predsOf o).contains j = true) (hjd : ((l[j]?).bind (·.dst)).isSome = true) (hb : ∀ val, valOf Vs val j = .bool want) (hR : ∀ v w w', R v w → Chg S w w' → R v w')
    (h : ∀ (val : Nat → Value) (w1 : World), Chg S w w1 → (∀ j, (predsOf o).contains j = true → ∀ oj d, l[j]? = some oj → oj.dst = some d → (vsAt Vs j).holds (valOf Vs val j) w1) → OpW P N o (opEnv l Vs e i o val) w1 (fun u w' => Chg S w1 w' ∧ R u w'))
    (hr : Walk P N S l e w fin (i + 1) r (Vs ++ [.r R])) : Walk P N S l e w fin i (o :: r) Vs :=
  by
  unfold Walk
  exact ⟨.r R, hR, fun val w1 hc hp => by rw [hg]; exact ⟨want, hj, hjd, .inl (hb val), (fun _ => h val w1 hc hp), (fun hn => by cases want <;> cases hn)⟩, hr⟩
theorem scanM_bound : ∀ (n : Nat) (b : List UInt8), b.length ≤ n → 12 * (scanM b).1.length ≤ b.length ∧ ∀ s ∈ (scanM b).1, s.length ≤ b.length
  | 0, b, h => by
    have : b = [] := List.eq_nil_of_length_eq_zero (by omega)
    subst this
    rw [scanM_nil]
    simp
  | n + 1, b, h => by
    rcases firstM_bound b with hz | ⟨h1, h2, h3⟩
    · rw [scanM_end hz]
      simp
    · rw [scanM_step (by omega)]
      have hd : (b.drop (firstM b).2.1).length = b.length - (firstM b).2.1 := List.length_drop
      have ih := scanM_bound n (b.drop (firstM b).2.1) (by omega)
      refine ⟨by simp only [List.length_cons]; omega, fun s hs => ?_⟩
      rcases List.mem_cons.1 hs with rfl | hs
      · omega
      · have := ih.2 s hs; omega
end Go.Vc
namespace Go.Proofs.YtbhnplghnhafiaaGreatDoor.Tryz
open Go Go.Vc

/-- A reader of bytes that lay there in w0. -/
structure RdAt (w0 w : World) (g : Nat) (s : List UInt8 × Bool) : Prop where
  ex : ∃ A n c, Blk w g 104 [.slice A n c, .bool s.2] ∧ SliceOf Ru8 w0 (.slice A n c) s.1
  chg : Chg [] w0 w
  ge : w0.heap.size ≤ g
theorem RdAt.keep {w0 w w' : World} {g : Nat} {s : List UInt8 × Bool} {S : List Nat} (h : RdAt w0 w g s) (hc : Chg S w w') (hS : ∀ k ∈ S, w0.heap.size ≤ k) (hg : g ∉ S) : RdAt w0 w' g s :=
  let ⟨A, n, c, h1, h2⟩ := h.ex
  ⟨⟨A, n, c, h1.keep hc hg, h2⟩, h.chg.trans hc (fun k hk hlt => by have := hS k hk; omega), h.ge⟩
theorem RdAt.keep0 {w0 w w' : World} {g : Nat} {s : List UInt8 × Bool} (h : RdAt w0 w g s) (hc : Chg [] w w') : RdAt w0 w' g s := h.keep hc (fun k hk => by cases hk) (by simp)
theorem RdAt.lt {w0 w : World} {g : Nat} {s : List UInt8 × Bool} (h : RdAt w0 w g s) : g < w.heap.size := let ⟨_, _, _, h1, _⟩ := h.ex; h1.lt
theorem RdAt.own {w0 w w' : World} {g : Nat} {s : List UInt8 × Bool} (h : RdAt w0 w g s) (hc : Chg [g] w w') : Chg [] w0 w' := h.chg.trans hc (fun k hk hlt => by have := h.ge; simp at hk; omega)
theorem equal_has (A : Option Addr) (n c : Nat) (a : List UInt8) (A' : Option Addr) (n' c' : Nat) (b : List UInt8) (w : World) (ha : SliceOf Ru8 w (.slice A n c) a) (hb : SliceOf Ru8 w (.slice A' n' c') b) :
    Has Go.Proofs.Tryz.prog 70 #[.slice A n c, .slice A' n' c'] w (fun v w' => Chg [] w w' ∧ v = .bool (decide (a = b))) := by
  refine enter Go.Proofs.Tryz.func70 rfl rfl (by decide) rfl (e := [(0, .slice A n c), (1, .slice A' n' c')]) ⟨rfl, rfl, trivial⟩ ?_
  repeat (first | refine W_seq ?_ | refine W_region ?_ | refine Then_n ?_ | refine WL_nil ?_ | refine WL_some rfl rfl rfl ?_ | refine op_move rfl rfl ?_ | refine op_assign rfl rfl ?_)
  refine op_string T rfl rfl rfl rfl rfl ha ?_
  repeat (first | refine WL_some rfl rfl rfl ?_ | refine op_move rfl rfl ?_)
  refine op_string T rfl rfl rfl rfl rfl hb ?_
  repeat (refine WL_some rfl rfl rfl ?_)
  refine op_str_eql (a := a) (b := b) rfl rfl rfl (fun h => ?_) (fun h => ?_)
  · rw [decide_eq_true h]
    repeat (first | refine W_ret ?_ | refine Then_n ?_ | refine WL_nil ?_ | refine WL_some rfl rfl rfl ?_ | refine op_assign rfl rfl ?_)
    exact post1 (.inl rfl) rfl rfl ⟨Chg.refl _ _, rfl⟩
  · rw [decide_eq_false h]
    repeat (first | refine W_ret ?_ | refine Then_n ?_ | refine WL_nil ?_ | refine WL_some rfl rfl rfl ?_ | refine op_assign rfl rfl ?_)
    exact post1 (.inl rfl) rfl rfl ⟨Chg.refl _ _, rfl⟩
theorem step_has (w0 : World) (g : Nat) (s : List UInt8 × Bool) (n : Nat) (w : World) (hx : RdAt w0 w g s) (hn : n ≤ s.1.length) :
    Has Go.Proofs.Tryz.prog 82 #[.pointer (some ⟨g, 0, none⟩), .int .i64 (n : Int)] w (fun v w' => Chg [g] w w' ∧ RdAt w0 w' g (stepM s n)) := by
  refine enter Go.Proofs.Tryz.func82 rfl rfl (by decide) rfl (e := [(0, .pointer (some ⟨g, 0, none⟩)), (1, .int .i64 (n : Int))]) ⟨rfl, rfl, trivial⟩ ?_
  have hx0 := hx
  obtain ⟨A, k, c, hb, hf⟩ := hx.ex
  obtain ⟨l, bad⟩ := s
  dsimp only at hb hf hn
  have hnil : ∀ w', SliceOf Ru8 w' (.slice none 0 0) [] := fun w' => SliceOf.nil _ _
  cases bad with
  | true =>
    rw [show stepM (l, true) n = ([], true) from rfl]
    repeat (first | refine W_seq ?_ | refine W_region ?_ | refine WL_some rfl rfl rfl ?_ | refine WL_none rfl rfl ?_ | refine WL_guardF rfl rfl rfl rfl rfl ?_ | refine op_move rfl rfl ?_ | refine op_pick rfl rfl rfl rfl ?_ | refine op_nilCheck rfl rfl ?_ | refine op_fieldAddr T rfl rfl rfl rfl rfl rfl rfl rfl ?_ | refine op_loadB T rfl rfl rfl rfl (by assumption) (by exact rfl) ?_)
    refine op_store T rfl rfl rfl rfl rfl rfl hb (by simp) (fun w1 hc1 hb1 _ => ?_)
    have hb1 : Blk w1 g 104 [.slice A k c, .bool true] := hb1
    repeat (first | refine W_seq ?_ | refine W_region ?_ | refine Then_n ?_ | refine WL_nil ?_ | refine W_condT rfl ?_ | refine WL_some rfl rfl rfl ?_ | refine WL_none rfl rfl ?_ | refine op_move rfl rfl ?_ | refine op_nilCheck rfl rfl ?_ | refine op_fieldAddr T rfl rfl rfl rfl rfl rfl rfl rfl ?_ | refine op_loadB T rfl rfl rfl rfl (by assumption) (by exact rfl) ?_)
    refine op_store T rfl rfl rfl rfl rfl rfl hb1 (by simp) (fun w2 hc2 hb2 _ => ?_)
    repeat (first | refine W_ret ?_ | refine Then_n ?_ | refine Then_r ?_ | refine WL_nil ?_)
    exact post0 (.inl rfl) rfl ⟨hc1.trans hc2 (fun k hk _ => hk), ⟨none, 0, 0, hb2, hnil _⟩, hx0.own (hc1.trans hc2 (fun k hk _ => hk)), hx0.ge⟩
  | false =>
    by_cases h0 : n = 0
    · rw [show stepM (l, false) n = ([], true) from by unfold stepM; rw [if_pos (.inr h0)]]
      repeat (first | refine W_seq ?_ | refine W_region ?_ | refine WL_some rfl rfl rfl ?_ | refine WL_none rfl rfl ?_ | refine WL_guardT rfl rfl rfl rfl ?_ | refine op_move rfl rfl ?_ | refine op_pick rfl rfl rfl rfl ?_ | refine op_nilCheck rfl rfl ?_ | refine op_eql rfl rfl rfl (fun hc => ?_) (fun hc => False.elim (by omega)) | refine op_fieldAddr T rfl rfl rfl rfl rfl rfl rfl rfl ?_ | refine op_loadB T rfl rfl rfl rfl (by assumption) (by exact rfl) ?_)
      refine op_store T rfl rfl rfl rfl rfl rfl hb (by simp) (fun w1 hc1 hb1 _ => ?_)
      have hb1 : Blk w1 g 104 [.slice A k c, .bool true] := hb1
      repeat (first | refine W_seq ?_ | refine W_region ?_ | refine Then_n ?_ | refine WL_nil ?_ | refine W_condT rfl ?_ | refine WL_some rfl rfl rfl ?_ | refine WL_none rfl rfl ?_ | refine op_move rfl rfl ?_ | refine op_nilCheck rfl rfl ?_ | refine op_fieldAddr T rfl rfl rfl rfl rfl rfl rfl rfl ?_ | refine op_loadB T rfl rfl rfl rfl (by assumption) (by exact rfl) ?_)
      refine op_store T rfl rfl rfl rfl rfl rfl hb1 (by simp) (fun w2 hc2 hb2 _ => ?_)
      repeat (first | refine W_ret ?_ | refine Then_n ?_ | refine Then_r ?_ | refine WL_nil ?_)
      exact post0 (.inl rfl) rfl ⟨hc1.trans hc2 (fun k hk _ => hk), ⟨none, 0, 0, hb2, hnil _⟩, hx0.own (hc1.trans hc2 (fun k hk _ => hk)), hx0.ge⟩
    · rw [show stepM (l, false) n = (l.drop n, false) from by unfold stepM; rw [if_neg (fun h => h.elim (fun h => by cases h) h0)]]
      repeat (first | refine W_seq ?_ | refine W_region ?_ | refine WL_some rfl rfl rfl ?_ | refine WL_none rfl rfl ?_ | refine WL_guardT rfl rfl rfl rfl ?_ | refine op_move rfl rfl ?_ | refine op_pick rfl rfl rfl rfl ?_ | refine op_nilCheck rfl rfl ?_ | refine op_eql rfl rfl rfl (fun hc => False.elim (by omega)) (fun hc => ?_) | refine op_fieldAddr T rfl rfl rfl rfl rfl rfl rfl rfl ?_ | refine op_loadB T rfl rfl rfl rfl (by assumption) (by exact rfl) ?_)
      refine op_store T rfl rfl rfl rfl rfl rfl hb (by simp) (fun w1 hc1 hb1 _ => ?_)
      have hb1 : Blk w1 g 104 [.slice A k c, .bool false] := hb1
      have hf1 := SliceOf.kept Ru8.kept _ _ _ _ (hx0.own hc1) hf
      repeat (first | refine W_seq ?_ | refine W_region ?_ | refine W_skip ?_ | refine Then_n ?_ | refine WL_nil ?_ | refine W_condF rfl ?_ | refine WL_some rfl rfl rfl ?_ | refine op_move rfl rfl ?_ | refine op_nilCheck rfl rfl ?_ | refine op_fieldAddr T rfl rfl rfl rfl rfl rfl rfl rfl ?_ | refine op_loadB T rfl rfl rfl rfl (by assumption) (by exact rfl) ?_)
      refine op_cut T (l := n) (h' := l.length) rfl rfl rfl rfl rfl ⟨_, rfl⟩ hf1.len.1.symm hf1 hn (Nat.le_refl _) (fun A' hA' => ?_)
      repeat (first | refine WL_some rfl rfl rfl ?_ | refine WL_none rfl rfl ?_ | refine op_nilCheck rfl rfl ?_ | refine op_fieldAddr T rfl rfl rfl rfl rfl rfl rfl rfl ?_)
      refine op_store T rfl rfl rfl rfl rfl rfl hb1 (by simp) (fun w2 hc2 hb2 _ => ?_)
      repeat (refine WL_nil ?_)
      have hf0 := hA' w0 hf
      rw [List.take_length] at hf0
      exact post0 (.inr rfl) rfl ⟨hc1.trans hc2 (fun k hk _ => hk), ⟨A', _, _, hb2, hf0⟩, hx0.own (hc1.trans hc2 (fun k hk _ => hk)), hx0.ge⟩
theorem num_has (w0 : World) (g : Nat) (s : List UInt8 × Bool) (most : Nat) (w : World) (hx : RdAt w0 w g s) (hm : most < 9223372036854775808) :
    Has Go.Proofs.Tryz.prog 67 #[.pointer (some ⟨g, 0, none⟩), .int .i64 (most : Int)] w (fun v w' => Chg [g] w w' ∧ v = .int .i64 ((numM s most).1 : Int) ∧ RdAt w0 w' g (numM s most).2) := by
  refine enter Go.Proofs.Tryz.func67 rfl rfl (by decide) rfl (e := [(0, .pointer (some ⟨g, 0, none⟩)), (1, .int .i64 (most : Int))]) ⟨rfl, rfl, trivial⟩ ?_
  have hx0 := hx
  obtain ⟨A, k, c, hb, hf⟩ := hx.ex
  have hnow := SliceOf.kept Ru8.kept _ _ _ _ hx.chg hf
  repeat (first | refine W_seq ?_ | refine W_region ?_ | refine Then_n ?_ | refine WL_nil ?_ | refine WL_some rfl rfl rfl ?_ | refine op_move rfl rfl ?_ | refine op_assign rfl rfl ?_ | refine op_nilCheck rfl rfl ?_ | refine op_fieldAddr T rfl rfl rfl rfl rfl rfl rfl rfl ?_ | refine op_loadB T rfl rfl rfl rfl (by assumption) (by exact rfl) ?_)
  refine op_call rfl rfl rfl (get_has A k c s.1 w hnow) ?_
  rintro _ _ ⟨rfl, rfl⟩
  have hbd := getM_bound s.1
  unfold numM
  generalize getM s.1 = q at *
  obtain ⟨n, kk⟩ := q
  dsimp only at *
  by_cases hbig : most < n
  · rw [if_pos hbig]
    repeat (first | refine W_seq ?_ | refine W_region ?_ | refine Then_n ?_ | refine WL_nil ?_ | refine WL_some rfl rfl rfl ?_ | refine op_move rfl rfl ?_ | refine op_assign rfl rfl ?_ | refine op_extract rfl rfl rfl ?_)
    refine op_convert_fit T rfl rfl rfl rfl (wrap_u64_in (by omega) (by omega)) ?_
    repeat (first | refine W_seq ?_ | refine W_region ?_ | refine Then_n ?_ | refine WL_nil ?_ | refine W_condT rfl ?_ | refine WL_some rfl rfl rfl ?_ | refine op_move rfl rfl ?_ | refine op_assign rfl rfl ?_ | refine op_gtr rfl rfl rfl (fun hc => ?_) (fun hc => False.elim (by omega)))
    refine op_call rfl rfl rfl (step_has w0 g s 0 _ hx0 (Nat.zero_le _)) ?_
    rintro v w1 ⟨hc1, hx1⟩
    rw [show stepM s 0 = ([], true) from by unfold stepM; rw [if_pos (.inr rfl)]] at hx1 ⊢
    have hx2 := hx1
    obtain ⟨A1, k1, c1, hb1, hf1⟩ := hx1.ex
    rw [if_pos rfl]
    repeat (first | refine W_seq ?_ | refine W_region ?_ | refine W_ret ?_ | refine Then_n ?_ | refine Then_r ?_ | refine WL_nil ?_ | refine W_condT rfl ?_ | refine WL_some rfl rfl rfl ?_ | refine op_move rfl rfl ?_ | refine op_assign rfl rfl ?_ | refine op_nilCheck rfl rfl ?_ | refine op_fieldAddr T rfl rfl rfl rfl rfl rfl rfl rfl ?_ | refine op_loadB T rfl rfl rfl rfl (by assumption) (by exact rfl) ?_)
    exact post1 (.inl rfl) rfl rfl ⟨hc1, rfl, hx2⟩
  · rw [if_neg hbig]
    repeat (first | refine W_seq ?_ | refine W_region ?_ | refine Then_n ?_ | refine WL_nil ?_ | refine WL_some rfl rfl rfl ?_ | refine op_move rfl rfl ?_ | refine op_assign rfl rfl ?_ | refine op_extract rfl rfl rfl ?_)
    refine op_convert_fit T rfl rfl rfl rfl (wrap_u64_in (by omega) (by omega)) ?_
    repeat (first | refine W_seq ?_ | refine W_region ?_ | refine W_skip ?_ | refine Then_n ?_ | refine WL_nil ?_ | refine W_condF rfl ?_ | refine WL_some rfl rfl rfl ?_ | refine op_move rfl rfl ?_ | refine op_gtr rfl rfl rfl (fun hc => False.elim (by omega)) (fun hc => ?_))
    refine op_call rfl rfl rfl (step_has w0 g s kk _ hx0 (by omega)) ?_
    rintro v w1 ⟨hc1, hx1⟩
    have hx2 := hx1
    obtain ⟨A1, k1, c1, hb1, hf1⟩ := hx1.ex
    generalize stepM s kk = z at *
    obtain ⟨l', bad⟩ := z
    dsimp only at *
    cases bad with
    | true =>
      rw [if_pos rfl]
      repeat (first | refine W_seq ?_ | refine W_region ?_ | refine W_ret ?_ | refine Then_n ?_ | refine Then_r ?_ | refine WL_nil ?_ | refine W_condT rfl ?_ | refine WL_some rfl rfl rfl ?_ | refine op_move rfl rfl ?_ | refine op_assign rfl rfl ?_ | refine op_nilCheck rfl rfl ?_ | refine op_fieldAddr T rfl rfl rfl rfl rfl rfl rfl rfl ?_ | refine op_loadB T rfl rfl rfl rfl (by assumption) (by exact rfl) ?_)
      exact post1 (.inl rfl) rfl rfl ⟨hc1, rfl, hx2⟩
    | false =>
      rw [if_neg (by simp)]
      repeat (first | refine W_seq ?_ | refine W_region ?_ | refine W_skip ?_ | refine Then_n ?_ | refine WL_nil ?_ | refine W_condF rfl ?_ | refine WL_some rfl rfl rfl ?_ | refine op_move rfl rfl ?_ | refine op_nilCheck rfl rfl ?_ | refine op_fieldAddr T rfl rfl rfl rfl rfl rfl rfl rfl ?_ | refine op_loadB T rfl rfl rfl rfl (by assumption) (by exact rfl) ?_)
      refine op_convert_fit T rfl rfl rfl rfl (wrap_i64_in (by omega) (by omega)) ?_
      repeat (first | refine W_ret ?_ | refine Then_n ?_ | refine WL_nil ?_ | refine WL_some rfl rfl rfl ?_ | refine op_assign rfl rfl ?_)
      exact post1 (.inl rfl) rfl rfl ⟨hc1, rfl, hx2⟩
theorem rtext_has (w0 : World) (g : Nat) (s : List UInt8 × Bool) (w : World) (hx : RdAt w0 w g s) :
    Has Go.Proofs.Tryz.prog 68 #[.pointer (some ⟨g, 0, none⟩)] w (fun v w' => Chg [g] w w' ∧ v = .string (str (readM' s).1) ∧ RdAt w0 w' g (readM' s).2) := by
  refine enter Go.Proofs.Tryz.func68 rfl rfl (by decide) rfl (e := [(0, .pointer (some ⟨g, 0, none⟩))]) ⟨rfl, trivial⟩ ?_
  have hx0 := hx
  obtain ⟨A, k, c, hb, hf⟩ := hx.ex
  have hnow := SliceOf.kept Ru8.kept _ _ _ _ hx.chg hf
  repeat (first | refine W_seq ?_ | refine W_region ?_ | refine Then_n ?_ | refine WL_nil ?_ | refine WL_some rfl rfl rfl ?_ | refine op_move rfl rfl ?_ | refine op_assign rfl rfl ?_ | refine op_nilCheck rfl rfl ?_ | refine op_fieldAddr T rfl rfl rfl rfl rfl rfl rfl rfl ?_ | refine op_loadB T rfl rfl rfl rfl (by assumption) (by exact rfl) ?_)
  refine op_call rfl rfl rfl (getText_has A k c s.1 w hnow) ?_
  rintro _ _ ⟨rfl, rfl⟩
  have hbd := getTextM_bound s.1
  unfold readM'
  generalize getTextM s.1 = q at *
  obtain ⟨t, kk⟩ := q
  dsimp only at *
  repeat (first | refine W_seq ?_ | refine W_region ?_ | refine Then_n ?_ | refine WL_nil ?_ | refine WL_some rfl rfl rfl ?_ | refine op_move rfl rfl ?_ | refine op_assign rfl rfl ?_ | refine op_extract rfl rfl rfl ?_)
  refine op_call rfl rfl rfl (step_has w0 g s kk _ hx0 (by omega)) ?_
  rintro v w1 ⟨hc1, hx1⟩
  have hx2 := hx1
  obtain ⟨A1, k1, c1, hb1, hf1⟩ := hx1.ex
  generalize stepM s kk = z at *
  obtain ⟨l', bad⟩ := z
  dsimp only at *
  cases bad with
  | true =>
    rw [if_pos rfl]
    repeat (first | refine W_seq ?_ | refine W_region ?_ | refine W_ret ?_ | refine Then_n ?_ | refine Then_r ?_ | refine WL_nil ?_ | refine W_condT rfl ?_ | refine WL_some rfl rfl rfl ?_ | refine op_move rfl rfl ?_ | refine op_assign rfl rfl ?_ | refine op_nilCheck rfl rfl ?_ | refine op_fieldAddr T rfl rfl rfl rfl rfl rfl rfl rfl ?_ | refine op_loadB T rfl rfl rfl rfl (by assumption) (by exact rfl) ?_)
    exact post1 (.inl rfl) rfl rfl ⟨hc1, rfl, hx2⟩
  | false =>
    rw [if_neg (by simp)]
    repeat (first | refine W_seq ?_ | refine W_region ?_ | refine W_skip ?_ | refine W_ret ?_ | refine Then_n ?_ | refine WL_nil ?_ | refine W_condF rfl ?_ | refine WL_some rfl rfl rfl ?_ | refine op_move rfl rfl ?_ | refine op_assign rfl rfl ?_ | refine op_nilCheck rfl rfl ?_ | refine op_fieldAddr T rfl rfl rfl rfl rfl rfl rfl rfl ?_ | refine op_loadB T rfl rfl rfl rfl (by assumption) (by exact rfl) ?_)
    exact post1 (.inl rfl) rfl rfl ⟨hc1, rfl, hx2⟩
theorem done_has (w0 : World) (g : Nat) (s : List UInt8 × Bool) (w : World) (hx : RdAt w0 w g s) :
    Has Go.Proofs.Tryz.prog 69 #[.pointer (some ⟨g, 0, none⟩)] w (fun v w' => Chg [] w w' ∧ v = .bool (decide (s.2 = false ∧ s.1 = []))) := by
  refine enter Go.Proofs.Tryz.func69 rfl rfl (by decide) rfl (e := [(0, .pointer (some ⟨g, 0, none⟩))]) ⟨rfl, trivial⟩ ?_
  obtain ⟨A, k, c, hb, hf⟩ := hx.ex
  obtain ⟨l, bad⟩ := s
  dsimp only at *
  obtain ⟨rfl, _, _⟩ := hf.len
  cases bad with
  | true =>
    rw [decide_eq_false (by simp)]
    repeat (first | refine W_seq ?_ | refine W_region ?_ | refine W_ret ?_ | refine Then_n ?_ | refine WL_nil ?_ | refine WL_some rfl rfl rfl ?_ | refine WL_guardF rfl rfl rfl rfl rfl ?_ | refine op_move rfl rfl ?_ | refine op_assign rfl rfl ?_ | refine op_pick rfl rfl rfl rfl ?_ | refine op_notT rfl rfl ?_ | refine op_nilCheck rfl rfl ?_ | refine op_fieldAddr T rfl rfl rfl rfl rfl rfl rfl rfl ?_ | refine op_loadB T rfl rfl rfl rfl (by assumption) (by exact rfl) ?_)
    exact post1 (.inl rfl) rfl rfl ⟨Chg.refl _ _, rfl⟩
  | false =>
    by_cases hl : l.length = 0
    · rw [decide_eq_true ⟨rfl, List.eq_nil_of_length_eq_zero hl⟩]
      repeat (first | refine W_seq ?_ | refine W_region ?_ | refine W_ret ?_ | refine Then_n ?_ | refine WL_nil ?_ | refine WL_some rfl rfl rfl ?_ | refine WL_guardT rfl rfl rfl rfl ?_ | refine op_move rfl rfl ?_ | refine op_assign rfl rfl ?_ | refine op_pick rfl rfl rfl rfl ?_ | refine op_len_slice T rfl rfl rfl rfl ?_ | refine op_notF rfl rfl ?_ | refine op_nilCheck rfl rfl ?_ | refine op_eql rfl rfl rfl (fun hc => ?_) (fun hc => False.elim (by omega)) | refine op_fieldAddr T rfl rfl rfl rfl rfl rfl rfl rfl ?_ | refine op_loadB T rfl rfl rfl rfl (by assumption) (by exact rfl) ?_)
      exact post1 (.inl rfl) rfl rfl ⟨Chg.refl _ _, rfl⟩
    · rw [decide_eq_false (by rintro ⟨_, rfl⟩; exact hl rfl)]
      repeat (first | refine W_seq ?_ | refine W_region ?_ | refine W_ret ?_ | refine Then_n ?_ | refine WL_nil ?_ | refine WL_some rfl rfl rfl ?_ | refine WL_guardT rfl rfl rfl rfl ?_ | refine op_move rfl rfl ?_ | refine op_assign rfl rfl ?_ | refine op_pick rfl rfl rfl rfl ?_ | refine op_len_slice T rfl rfl rfl rfl ?_ | refine op_notF rfl rfl ?_ | refine op_nilCheck rfl rfl ?_ | refine op_eql rfl rfl rfl (fun hc => False.elim (by omega)) (fun hc => ?_) | refine op_fieldAddr T rfl rfl rfl rfl rfl rfl rfl rfl ?_ | refine op_loadB T rfl rfl rfl rfl (by assumption) (by exact rfl) ?_)
      exact post1 (.inl rfl) rfl rfl ⟨Chg.refl _ _, rfl⟩
end Go.Proofs.YtbhnplghnhafiaaGreatDoor.Tryz
/-! Records: decode. -/
set_option linter.unusedVariables false
namespace Go.Proofs.YtbhnplghnhafiaaGreatDoor.Tryz
open Go Go.Vc

set_option maxHeartbeats 4000000 in
theorem decode_has (A : Option Addr) (n c : Nat) (b : List UInt8) (w : World) (hl : SliceOf Ru8 w (.slice A n c) b) (hb : b.length ≤ 1000000000) :
    Has Go.Proofs.Tryz.prog 52 #[.slice A n c] w (fun v w' => Chg [] w w' ∧ v = .tuple #[.agg (recL (decR b)).toArray, .bool (decOk b)]) := by
  refine enter Go.Proofs.Tryz.func52 rfl rfl (by decide) rfl (e := [(0, .slice A n c)]) ⟨rfl, trivial⟩ ?_
  repeat (first | refine W_seq ?_ | refine W_region ?_ | refine WL_some rfl rfl rfl ?_)
  refine op_alloc T rfl rfl (fun g2 w1 hs1 hc1 hg2 => ?_)
  have hg2 : Blk w1 g2 32 [.int .i64 0, .int .i64 0, .string (str []), .string (str [])] := hg2
  repeat (first | refine W_seq ?_ | refine W_region ?_ | refine Then_n ?_ | refine WL_nil ?_ | refine WL_some rfl rfl rfl ?_ | refine op_move rfl rfl ?_ | refine op_assign rfl rfl ?_ | refine op_build T rfl rfl rfl rfl rfl rfl ?_)
  refine op_box rfl rfl (fun gr w2 hs2 hc2 hgr => ?_)
  have hgr : Blk w2 gr 104 [.slice A n c, .bool false] := hgr
  have hl1 := SliceOf.kept Ru8.kept _ _ _ _ hc1 hl
  have hl2 := SliceOf.kept Ru8.kept _ _ _ _ hc2 hl1
  have hgrw : gr ∉ ([] : List Nat) := by simp
  have hrge : w1.heap.size ≤ gr := hs2
  have x2 : RdAt w w2 gr (b, false) := ⟨⟨A, n, c, hgr, hl⟩, hc1.trans' hc2, by have := hc1.size; omega⟩
  have hlt1 : g2 < w1.heap.size := hg2.lt
  have hge1 : w.heap.size ≤ g2 := hs1
  have hne : g2 ∉ [gr] := by simp; omega
  have hg22 := hg2.keep0 hc2
  clear hgr
  repeat (first | refine W_seq ?_ | refine W_region ?_ | refine Then_n ?_ | refine WL_nil ?_ | refine WL_some rfl rfl rfl ?_ | refine op_move rfl rfl ?_ | refine op_assign rfl rfl ?_)
  refine op_call rfl rfl rfl (num_has w gr _ 1 w2 x2 (by decide)) ?_
  rintro _ w3 ⟨hc3, rfl, x3⟩
  have hg23 := hg22.keep hc3 hne
  repeat (first | refine WL_some rfl rfl rfl ?_ | refine op_move rfl rfl ?_)
  refine op_call rfl rfl rfl (num_has w gr _ 1125899906842624 w3 x3 (by decide)) ?_
  rintro _ w4 ⟨hc4, rfl, x4⟩
  have hg24 := hg23.keep hc4 hne
  repeat (first | refine WL_some rfl rfl rfl ?_ | refine op_move rfl rfl ?_)
  refine op_call rfl rfl rfl (rtext_has w gr _ w4 x4) ?_
  rintro _ w5 ⟨hc5, rfl, x5⟩
  have hg25 := hg24.keep hc5 hne
  have hcr : Chg [gr] w2 w5 := (hc3.trans hc4 (fun _ h _ => h)).trans hc5 (fun _ h _ => h)
  have hc05 : Chg [] w w5 := hc1.trans (hc2.trans hcr (S' := [gr]) (S := []) (fun k hk hlt => by simp at hk; omega)) (fun k hk => by cases hk)
  clear hc3 hc4 hc5 hg22 hg23 hg24 x2 x3 x4
  have e1 : (numM (b, false) 1).1 = (dec1 b).1 := rfl
  have e2 : (numM (numM (b, false) 1).2 1125899906842624).1 = (dec2 b).1 := rfl
  have e3 : (readM' (numM (numM (b, false) 1).2 1125899906842624).2).1 = (dec3 b).1 := rfl
  have e4 : (readM' (numM (numM (b, false) 1).2 1125899906842624).2).2 = (dec3 b).2 := rfl
  rw [e1, e2, e3]
  rw [e4] at x5
  clear e1 e2 e3 e4
  repeat (first | refine WL_some rfl rfl rfl ?_ | refine op_build T rfl rfl rfl rfl rfl rfl ?_)
  refine op_alloc T rfl rfl (fun g5 w6 hs6 hc6 hg5 => ?_)
  have hg5 : Blk w6 g5 32 [.int .i64 0, .int .i64 0, .string (str []), .string (str [])] := hg5
  have hs6 : w5.heap.size ≤ g5 := hs6
  have hg26 := hg25.keep0 hc6
  repeat (refine WL_none rfl rfl ?_)
  refine op_store_agg T rfl rfl rfl rfl rfl rfl hg5 (by exact Nat.le_of_ble_eq_true rfl) (fun w7 hc7 hg57 _ => ?_)
  have hg57 : Blk w7 g5 32 [.int .i64 (dec1 b).1, .int .i64 (dec2 b).1, .string (str (dec3 b).1), .string (str [])] := hg57
  have hlt5 : gr < w5.heap.size := x5.lt
  have hlt2 : g2 < w5.heap.size := hg25.lt
  have hc57 : Chg [] w5 w7 := hc6.trans hc7 (fun k hk hlt => by simp at hk; omega)
  have x7 := x5.keep0 hc57
  have hg27 := hg25.keep0 hc57
  have hc07 := hc05.trans' hc57
  refine WL_nil ?_
  refine Then_n ?_
  refine W_seq ?_
  refine W_meet (σ := Unit) (fun _ => [(0, .slice A n c), (2, .pointer (some ⟨g2, 0, none⟩)), (4, .pointer (some ⟨gr, 0, none⟩)), (5, .pointer (some ⟨g5, 0, none⟩))])
    (fun _ w' => Chg [] w w' ∧ Blk w' g5 32 (recL (decR b)) ∧ RdAt w w' gr (dec4 b).2 ∧ Blk w' g2 32 [.int .i64 0, .int .i64 0, .string (str []), .string (str [])]) ?_ ?_
  · by_cases hk : (dec1 b).1 = 1
    · have e4 : dec4 b = readM' (dec3 b).2 := by unfold dec4; rw [if_pos hk]
      repeat (first | refine W_seq ?_ | refine W_region ?_ | refine Then_n ?_ | refine WL_nil ?_ | refine W_condT rfl ?_ | refine WL_some rfl rfl rfl ?_ | refine op_move rfl rfl ?_ | refine op_eql rfl rfl rfl (fun hc => ?_) (fun hc => False.elim (by omega)) | refine op_fieldAddr T rfl rfl rfl rfl rfl rfl rfl rfl ?_ | refine op_loadB T rfl rfl rfl rfl (by assumption) (by exact rfl) ?_)
      refine op_call rfl rfl rfl (rtext_has w gr _ w7 x7) ?_
      rintro _ w8 ⟨hc8, rfl, x8⟩
      have hg58 := hg57.keep hc8 (by simp; omega)
      have hg28 := hg27.keep hc8 (by simp; omega)
      have hc08 : Chg [] w w8 := hc07.trans hc8 (fun k hk hlt => by simp at hk; have := hc1.size; omega)
      repeat (first | refine WL_some rfl rfl rfl ?_ | refine WL_none rfl rfl ?_ | refine op_fieldAddr T rfl rfl rfl rfl rfl rfl rfl rfl ?_)
      refine op_store T rfl rfl rfl rfl rfl rfl hg58 (by simp) (fun w9 hc9 hb9 _ => ?_)
      have hb9 : Blk w9 g5 32 [.int .i64 (dec1 b).1, .int .i64 (dec2 b).1, .string (str (dec3 b).1), .string (str (readM' (dec3 b).2).1)] := hb9
      have hc09 : Chg [] w w9 := hc08.trans hc9 (fun k hk hlt => by simp at hk; have := hc05.size; omega)
      repeat (refine WL_nil ?_)
      refine Meet_n () ⟨rfl, rfl, rfl, rfl, trivial⟩ ⟨hc09, ?_, ?_, hg28.keep hc9 (by simp; omega)⟩
      · unfold decR recL
        rw [e4]
        exact hb9
      · rw [e4]
        exact x8.keep hc9 (fun k hk => by simp at hk; have := hc1.size; have := hc2.size; have := hcr.size; omega) (by simp; omega)
    · have e4 : dec4 b = ([], (dec3 b).2) := by unfold dec4; rw [if_neg hk]
      repeat (first | refine W_seq ?_ | refine W_region ?_ | refine W_skip ?_ | refine Then_n ?_ | refine WL_nil ?_ | refine W_condF rfl ?_ | refine WL_some rfl rfl rfl ?_ | refine op_eql rfl rfl rfl (fun hc => False.elim (by omega)) (fun hc => ?_) | refine op_fieldAddr T rfl rfl rfl rfl rfl rfl rfl rfl ?_ | refine op_loadB T rfl rfl rfl rfl (by assumption) (by exact rfl) ?_)
      refine Meet_n () ⟨rfl, rfl, rfl, rfl, trivial⟩ ⟨hc07, ?_, ?_, hg27⟩
      · unfold decR recL
        rw [e4]
        exact hg57
      · rw [e4]; exact x7
  rintro _ w8 ⟨hc8, hg58, x8, hg28⟩
  have hl8 := SliceOf.kept Ru8.kept _ _ _ _ hc8 hl
  clear hc05 hc07 hg27 hg57 x7 hc7 hg25 x5 hcr hg5 hg26
  unfold recL at hg58
  repeat (first | refine W_seq ?_ | refine W_region ?_ | refine Then_n ?_ | refine WL_some rfl rfl rfl ?_ | refine op_load_agg T rfl rfl rfl rfl (by assumption) (by exact Nat.le_of_ble_eq_true rfl) (by exact rfl) ?_)
  refine op_call rfl rfl rfl (encode_has (decR b) w8) ?_
  rintro _ w9 ⟨u, rfl, mu⟩
  have hg59 := hg58.keep0 mu.chg
  have hg29 := hg28.keep0 mu.chg
  have x9 := x8.keep0 mu.chg
  have hl9 := SliceOf.kept Ru8.kept _ _ _ _ mu.chg hl8
  have hc9 := hc8.trans' mu.chg
  obtain ⟨Au, cu, rfl, _, _⟩ := mu.form
  have hok : decOk b = decide (((dec4 b).2.2 = false ∧ (dec4 b).2.1 = []) ∧ checkM (decR b) = 0 ∧ (encM (decR b)).1 = sealM b) := rfl
  have herr : (encM (decR b)).2 = checkM (decR b) := by unfold encM; split <;> simp_all
  rw [herr]
  have hne2 : g5 ∉ [g2] := by simp; have := hc6.size; omega
  have hner : gr ∉ [g2] := by simp; omega
  have hS2 : ∀ k ∈ [g2], w.heap.size ≤ k := fun k hk => by simp at hk; omega
  repeat (first | refine W_seq ?_ | refine Then_n ?_ | refine WL_nil ?_ | refine WL_some rfl rfl rfl ?_ | refine op_move rfl rfl ?_ | refine op_assign rfl rfl ?_ | refine op_extract rfl rfl rfl ?_)
  have hgood : ∀ w_, Chg [] w9 w_ → Blk w_ g2 32 [.int .i64 0, .int .i64 0, .string (str []), .string (str [])] := fun w_ h => hg29.keep0 h
  by_cases hd : (dec4 b).2.2 = false ∧ (dec4 b).2.1 = []
  · by_cases he : checkM (decR b) = 0
    · refine Q.W_walkf 14 13 [g2] fol (by kernel_rfl) (by kernel_rfl) ?_
      refine Q.Walk.plain (v := .agg (recL (decR b)).toArray) rfl rfl (by intro val w_ hR hp; exact op_load_agg T rfl rfl rfl rfl (hg59.keep hR hne2) (Nat.le_of_ble_eq_true rfl) rfl ⟨Chg.refl _ _, rfl⟩) ?_; dsimp only [List.nil_append, List.cons_append]
      refine Q.Walk.plain rfl rfl (by intro val w_ hR hp; exact op_move rfl rfl ⟨Chg.refl _ _, rfl⟩) ?_; dsimp only [List.nil_append, List.cons_append]
      refine Q.Walk.plain rfl rfl (by intro val w_ hR hp; exact op_call rfl rfl rfl (done_has w gr _ w_ (x9.keep hR hS2 hner)) (fun v w' h => h)) ?_; dsimp only [List.nil_append, List.cons_append]
      rw [decide_eq_true hd]
      refine Q.Walk.plain rfl rfl (by intro val w_ hR hp; exact op_move rfl rfl ⟨Chg.refl _ _, rfl⟩) ?_; dsimp only [List.nil_append, List.cons_append]
      refine Q.Walk.guardT rfl rfl rfl rfl (fun _ => rfl) (by intro val w_ hR hp; exact op_move rfl rfl ⟨Chg.refl _ _, rfl⟩) ?_; dsimp only [List.nil_append, List.cons_append]
      refine Q.Walk.guardT rfl rfl rfl rfl (fun _ => rfl) (by intro val w_ hR hp; exact op_eql rfl rfl rfl (fun hc => ⟨Chg.refl _ _, rfl⟩) (fun hc => False.elim (by omega))) ?_; dsimp only [List.nil_append, List.cons_append]
      refine Q.Walk.plain rfl rfl (by intro val w_ hR hp; exact op_pick rfl rfl rfl rfl ⟨Chg.refl _ _, rfl⟩) ?_; dsimp only [List.nil_append, List.cons_append]
      refine Q.Walk.plain rfl rfl (by intro val w_ hR hp; exact op_move rfl rfl ⟨Chg.refl _ _, rfl⟩) ?_; dsimp only [List.nil_append, List.cons_append]
      refine Q.Walk.guardT rfl rfl rfl rfl (fun _ => rfl) (by intro val w_ hR hp; exact op_move rfl rfl ⟨Chg.refl _ _, rfl⟩) ?_; dsimp only [List.nil_append, List.cons_append]
      refine Q.Walk.guardT rfl rfl rfl rfl (fun _ => rfl) (by intro val w_ hR hp; exact op_move rfl rfl ⟨Chg.refl _ _, rfl⟩) ?_; dsimp only [List.nil_append, List.cons_append]
      refine Q.Walk.guardR rfl (fun u w' => (∃ A' n' c', u = .slice A' n' c') ∧ Firm [g2] w' (fun w => SliceOf Ru8 w u (sealM b))) rfl rfl rfl (fun _ => rfl) (fun v a b' h hab => ⟨h.1, h.2.step hab (fun k hk _ => hk)⟩) ?_ ?_
      · intro val w_ hR hp
        have hlw := SliceOf.kept Ru8.kept _ _ _ _ (hc9.trans hR (fun k hk hlt => by have := hS2 k hk; omega)) hl
        refine op_call rfl rfl rfl (seal_has A n c b w_ hlw (by omega)) (fun v w' h => ⟨h.chg, ?_, h.firm (fun k hk => ?_)⟩)
        · obtain ⟨A', c', h', _⟩ := h.form
          exact ⟨A', _, c', h'⟩
        · simp at hk; have := hg29.lt; have := hR.size; omega
      dsimp only [List.nil_append, List.cons_append]
      refine Q.Walk.guardT (v := .bool (decide ((encM (decR b)).1 = sealM b))) rfl rfl rfl rfl (fun _ => rfl) ?_ ?_
      · intro val w_ hR hp
        obtain ⟨⟨A', n', c', hv⟩, hf⟩ : (∃ A' n' c', val 10 = .slice A' n' c') ∧ Firm [g2] w_ (fun w => SliceOf Ru8 w (val 10) (sealM b)) := hp 10 rfl _ _ rfl rfl
        have h1 := hf.now
        rw [hv] at h1
        have h2 := (mu.firm (S := [g2]) (fun k hk => by simp at hk; have := hg28.lt; omega)) w_ hR
        exact op_call rfl rfl (by rw [← hv]; rfl) (equal_has _ _ _ _ A' n' c' _ w_ h2 h1) (fun v w' h => h)
      dsimp only [List.nil_append, List.cons_append]
      refine Q.Walk.plain rfl rfl (by intro val w_ hR hp; exact op_pick rfl rfl rfl rfl ⟨Chg.refl _ _, rfl⟩) ?_; dsimp only [List.nil_append, List.cons_append]
      refine Q.Walk.turn rfl (fun _ w => Blk w g2 32 (recL (decR b))) rfl (fun _ _ _ h hab => h.keep0 hab) ?_ ?_
      · intro val w_ hR hp
        exact op_store_agg T rfl rfl rfl rfl rfl rfl (hgood w_ hR) (by exact Nat.le_of_ble_eq_true rfl) (fun w7 hc7 hg57 _ => ⟨hc7, hg57⟩)
      refine Q.Walk.fin ?_
      intro val w10 hc10 hp hn
      obtain ⟨_, hb10⟩ := hn 13 (by omega) _ rfl rfl
      have hb10 : Blk w10 g2 32 (recL (decR b)) := hb10
      have hcend := hc9.trans hc10 (S' := [g2]) (S := []) (fun k hk hlt => by have := hS2 k hk; omega)
      refine WL_sub (e' := [(2, .pointer (some ⟨g2, 0, none⟩)), (41, .bool (decide ((encM (decR b)).1 = sealM b)))]) ⟨rfl, rfl, trivial⟩ ?_
      repeat (first | refine W_ret ?_ | refine Then_n ?_ | refine WL_nil ?_ | refine WL_some rfl rfl rfl ?_ | refine op_assign rfl rfl ?_)
      refine post2c T (.inl rfl) rfl rfl rfl rfl rfl hb10 rfl ⟨hcend, ?_⟩
      rw [hok]
      simp only [hd, he, and_self, true_and]
    · rw [decide_eq_false (fun h => he h.2.1)] at hok
      refine Q.W_walkf 14 13 [g2] fol (by kernel_rfl) (by kernel_rfl) ?_
      refine Q.Walk.plain (v := .agg (recL (decR b)).toArray) rfl rfl (by intro val w_ hR hp; exact op_load_agg T rfl rfl rfl rfl (hg59.keep hR hne2) (Nat.le_of_ble_eq_true rfl) rfl ⟨Chg.refl _ _, rfl⟩) ?_; dsimp only [List.nil_append, List.cons_append]
      refine Q.Walk.plain rfl rfl (by intro val w_ hR hp; exact op_move rfl rfl ⟨Chg.refl _ _, rfl⟩) ?_; dsimp only [List.nil_append, List.cons_append]
      refine Q.Walk.plain rfl rfl (by intro val w_ hR hp; exact op_call rfl rfl rfl (done_has w gr _ w_ (x9.keep hR hS2 hner)) (fun v w' h => h)) ?_; dsimp only [List.nil_append, List.cons_append]
      rw [decide_eq_true hd]
      refine Q.Walk.plain rfl rfl (by intro val w_ hR hp; exact op_move rfl rfl ⟨Chg.refl _ _, rfl⟩) ?_; dsimp only [List.nil_append, List.cons_append]
      refine Q.Walk.guardT rfl rfl rfl rfl (fun _ => rfl) (by intro val w_ hR hp; exact op_move rfl rfl ⟨Chg.refl _ _, rfl⟩) ?_; dsimp only [List.nil_append, List.cons_append]
      refine Q.Walk.guardT rfl rfl rfl rfl (fun _ => rfl) (by intro val w_ hR hp; exact op_eql rfl rfl rfl (fun hc => False.elim (by omega)) (fun hc => ⟨Chg.refl _ _, rfl⟩)) ?_; dsimp only [List.nil_append, List.cons_append]
      refine Q.Walk.plain rfl rfl (by intro val w_ hR hp; exact op_pick rfl rfl rfl rfl ⟨Chg.refl _ _, rfl⟩) ?_; dsimp only [List.nil_append, List.cons_append]
      refine Q.Walk.plain rfl rfl (by intro val w_ hR hp; exact op_move rfl rfl ⟨Chg.refl _ _, rfl⟩) ?_; dsimp only [List.nil_append, List.cons_append]
      refine Q.Walk.guardF rfl rfl rfl (fun _ => rfl) rfl ?_; dsimp only [List.nil_append, List.cons_append]
      refine Q.Walk.guardF rfl rfl rfl (fun _ => rfl) rfl ?_; dsimp only [List.nil_append, List.cons_append]
      refine Q.Walk.guardF rfl rfl rfl (fun _ => rfl) rfl ?_; dsimp only [List.nil_append, List.cons_append]
      refine Q.Walk.guardF rfl rfl rfl (fun _ => rfl) rfl ?_; dsimp only [List.nil_append, List.cons_append]
      refine Q.Walk.plain rfl rfl (by intro val w_ hR hp; exact op_pick rfl rfl rfl rfl ⟨Chg.refl _ _, rfl⟩) ?_; dsimp only [List.nil_append, List.cons_append]
      refine Q.Walk.turn rfl (fun _ w => Blk w g2 32 (recL (decR b))) rfl (fun _ _ _ h hab => h.keep0 hab) ?_ ?_
      · intro val w_ hR hp
        exact op_store_agg T rfl rfl rfl rfl rfl rfl (hgood w_ hR) (by exact Nat.le_of_ble_eq_true rfl) (fun w7 hc7 hg57 _ => ⟨hc7, hg57⟩)
      refine Q.Walk.fin ?_
      intro val w10 hc10 hp hn
      obtain ⟨_, hb10⟩ := hn 13 (by omega) _ rfl rfl
      have hb10 : Blk w10 g2 32 (recL (decR b)) := hb10
      have hcend := hc9.trans hc10 (S' := [g2]) (S := []) (fun k hk hlt => by have := hS2 k hk; omega)
      refine WL_sub (e' := [(2, .pointer (some ⟨g2, 0, none⟩)), (41, .bool false)]) ⟨rfl, rfl, trivial⟩ ?_
      repeat (first | refine W_ret ?_ | refine Then_n ?_ | refine WL_nil ?_ | refine WL_some rfl rfl rfl ?_ | refine op_assign rfl rfl ?_)
      refine post2c T (.inl rfl) rfl rfl rfl rfl rfl hb10 rfl ⟨hcend, ?_⟩
      rw [hok]
  · rw [decide_eq_false (fun h => hd h.1)] at hok
    refine Q.W_walkf 14 13 [g2] fol (by kernel_rfl) (by kernel_rfl) ?_
    refine Q.Walk.plain (v := .agg (recL (decR b)).toArray) rfl rfl (by intro val w_ hR hp; exact op_load_agg T rfl rfl rfl rfl (hg59.keep hR hne2) (Nat.le_of_ble_eq_true rfl) rfl ⟨Chg.refl _ _, rfl⟩) ?_; dsimp only [List.nil_append, List.cons_append]
    refine Q.Walk.plain rfl rfl (by intro val w_ hR hp; exact op_move rfl rfl ⟨Chg.refl _ _, rfl⟩) ?_; dsimp only [List.nil_append, List.cons_append]
    refine Q.Walk.plain rfl rfl (by intro val w_ hR hp; exact op_call rfl rfl rfl (done_has w gr _ w_ (x9.keep hR hS2 hner)) (fun v w' h => h)) ?_; dsimp only [List.nil_append, List.cons_append]
    rw [decide_eq_false hd]
    refine Q.Walk.plain rfl rfl (by intro val w_ hR hp; exact op_move rfl rfl ⟨Chg.refl _ _, rfl⟩) ?_; dsimp only [List.nil_append, List.cons_append]
    refine Q.Walk.guardF rfl rfl rfl (fun _ => rfl) rfl ?_; dsimp only [List.nil_append, List.cons_append]
    refine Q.Walk.guardF rfl rfl rfl (fun _ => rfl) rfl ?_; dsimp only [List.nil_append, List.cons_append]
    refine Q.Walk.plain rfl rfl (by intro val w_ hR hp; exact op_pick rfl rfl rfl rfl ⟨Chg.refl _ _, rfl⟩) ?_; dsimp only [List.nil_append, List.cons_append]
    refine Q.Walk.plain rfl rfl (by intro val w_ hR hp; exact op_move rfl rfl ⟨Chg.refl _ _, rfl⟩) ?_; dsimp only [List.nil_append, List.cons_append]
    refine Q.Walk.guardF rfl rfl rfl (fun _ => rfl) rfl ?_; dsimp only [List.nil_append, List.cons_append]
    refine Q.Walk.guardF rfl rfl rfl (fun _ => rfl) rfl ?_; dsimp only [List.nil_append, List.cons_append]
    refine Q.Walk.guardF rfl rfl rfl (fun _ => rfl) rfl ?_; dsimp only [List.nil_append, List.cons_append]
    refine Q.Walk.guardF rfl rfl rfl (fun _ => rfl) rfl ?_; dsimp only [List.nil_append, List.cons_append]
    refine Q.Walk.plain rfl rfl (by intro val w_ hR hp; exact op_pick rfl rfl rfl rfl ⟨Chg.refl _ _, rfl⟩) ?_; dsimp only [List.nil_append, List.cons_append]
    refine Q.Walk.turn rfl (fun _ w => Blk w g2 32 (recL (decR b))) rfl (fun _ _ _ h hab => h.keep0 hab) ?_ ?_
    · intro val w_ hR hp
      exact op_store_agg T rfl rfl rfl rfl rfl rfl (hgood w_ hR) (by exact Nat.le_of_ble_eq_true rfl) (fun w7 hc7 hg57 _ => ⟨hc7, hg57⟩)
    refine Q.Walk.fin ?_
    intro val w10 hc10 hp hn
    obtain ⟨_, hb10⟩ := hn 13 (by omega) _ rfl rfl
    have hb10 : Blk w10 g2 32 (recL (decR b)) := hb10
    have hcend := hc9.trans hc10 (S' := [g2]) (S := []) (fun k hk hlt => by have := hS2 k hk; omega)
    refine WL_sub (e' := [(2, .pointer (some ⟨g2, 0, none⟩)), (41, .bool false)]) ⟨rfl, rfl, trivial⟩ ?_
    repeat (first | refine W_ret ?_ | refine Then_n ?_ | refine WL_nil ?_ | refine WL_some rfl rfl rfl ?_ | refine op_assign rfl rfl ?_)
    refine post2c T (.inl rfl) rfl rfl rfl rfl rfl hb10 rfl ⟨hcend, ?_⟩
    rw [hok]
end Go.Proofs.YtbhnplghnhafiaaGreatDoor.Tryz
/-! Slices whose elements have several cells, as they come in. -/
set_option linter.unusedSimpArgs false
set_option linter.unusedVariables false
namespace Go.Vc
open Go
/-- v is a slice that reads as L, each element's k cells by R. -/
def SliceK {α : Type} (k : Nat) (R : World → List Value → α → Prop) (w : World) (v : Value) (L : List α) : Prop :=
  ∃ A c, v = .slice A L.length c ∧ L.length ≤ c ∧ c ≤ maxLen ∧ ∀ i x, L[i]? = some x → ∃ ad cs, A = some ad ∧ cs.length = k ∧ (∀ j u, cs[j]? = some u → w.cell? (ad.add (i * k + j)) = some u) ∧ R w cs x
def KeptK {α : Type} (R : World → List Value → α → Prop) : Prop := ∀ w w' cs x, Chg [] w w' → R w cs x → R w' cs x
section
variable {α : Type} {k : Nat} {R : World → List Value → α → Prop} {w w' : World} {v : Value} {L : List α}
theorem SliceK.keep (hR : KeptK R) (hc : Chg [] w w') (h : SliceK k R w v L) : SliceK k R w' v L := by
  obtain ⟨A, c, rfl, h1, h2, h⟩ := h
  refine ⟨A, c, rfl, h1, h2, fun i x hx => ?_⟩
  obtain ⟨ad, cs, rfl, hl, hu, hr⟩ := h i x hx
  exact ⟨ad, cs, rfl, hl, fun j u hj => hc.cell0 (hu j u hj), hR _ _ _ _ hc hr⟩
theorem SliceK.nil (k : Nat) (R : World → List Value → α → Prop) (w : World) : SliceK k R w (.slice none 0 0) [] := ⟨none, 0, rfl, Nat.le_refl _, Nat.zero_le _, fun i x h => by simp at h⟩
theorem SliceK.form (h : SliceK k R w v L) : ∃ A c, v = .slice A L.length c ∧ L.length ≤ c ∧ c ≤ maxLen := let ⟨A, c, h1, h2, h3, _⟩ := h; ⟨A, c, h1, h2, h3⟩
theorem SliceK.len {A : Option Addr} {n c : Nat} (h : SliceK k R w (.slice A n c) L) : n = L.length ∧ L.length ≤ c ∧ c ≤ maxLen := by
  obtain ⟨A', c', he, h1, h2, _⟩ := h
  injection he with e1 e2 e3
  subst e2; subst e3
  exact ⟨rfl, h1, h2⟩
theorem SliceK.get {A : Option Addr} {n c : Nat} (h : SliceK k R w (.slice A n c) L) {i : Nat} {x : α} (hx : L[i]? = some x) : ∃ ad cs, A = some ad ∧ cs.length = k ∧ (∀ j u, cs[j]? = some u → w.cell? (ad.add (i * k + j)) = some u) ∧ R w cs x := by
  obtain ⟨A', c', he, _, _, hh⟩ := h
  injection he with h1 h2 h3
  subst h1
  exact hh i x hx
theorem SliceK.take {A : Option Addr} {n c m j : Nat} (h : SliceK k R w (.slice A n c) L) (hm : m = min j L.length) : SliceK k R w (.slice A m c) (L.take j) := by
  obtain ⟨hn, h1, h2⟩ := h.len
  refine ⟨A, c, by rw [List.length_take, hm], by rw [List.length_take]; omega, h2, fun i x hx => ?_⟩
  rw [List.getElem?_take] at hx
  split at hx
  · exact h.get hx
  · cases hx
end
section
variable {P : Program} {N : Nat} {e : Env} {w : World} {o : Oper} {K : Value → World → Prop}
/-- A struct out of cells that are known. -/
theorem op_load_cells (T : Types P) {x : Operand} {t : TypeId} {d : TInfo} {ad : Addr} {cs : List Value}
    (hop : o.op = .load t x) (hx : ev e x = some (.pointer (some ad))) (ht : T.tbl t = some d) (hd : aggI d = true) (hs' : Nat.beq d.size cs.length = true) (hcs : ∀ j u, cs[j]? = some u → w.cell? (ad.add j) = some u) (h : K (.agg cs.toArray) w) : OpW P N o e w K := by
  obtain ⟨q, hq, _, hs, _⟩ := T.inf t d ht
  refine OpW_run (fun a ha => ?_) h
  have hl := run_loadCells_list (P := P) w ad cs hcs
  have hlen : d.size = cs.length := Nat.eq_of_beq_eq_true hs'
  rw [← hlen] at hl
  have hagg := run_isAgg T ht w
  rw [hd] at hagg
  simp [execOp, hop, ha.ev hx, Instr.loadAt, Instr.sureAddr, loadVar, hagg, sizeOf, typeInfo, hq, hs, hl]
end
attribute [irreducible] SliceK
end Go.Vc
/-! Records, one behind the other. -/
set_option linter.unusedVariables false
namespace Go.Vc
open Go
theorem recGo_nth {seals : List (List UInt8)} {k at_ : Nat} {cut : Bool} {s : List UInt8} (h : seals[k]? = some s) : recGo (seals.drop k) at_ cut = if decOk s = true then (decR s :: (recGo (seals.drop (k + 1)) (at_ + (sealM s).length) cut).1, (recGo (seals.drop (k + 1)) (at_ + (sealM s).length) cut).2) else ([], at_, false) := by
  have hi := (List.getElem?_eq_some_iff.1 h).1
  rw [List.drop_eq_getElem_cons hi]
  have : seals[k] = s := (List.getElem?_eq_some_iff.1 h).2
  rw [this, recGo]
end Go.Vc
namespace Go.Proofs.YtbhnplghnhafiaaGreatDoor.Tryz
open Go Go.Vc
theorem recL_one (r : RecM) : ∀ u ∈ recL r, u.oneCell' = true := by
  intro u hu
  simp [recL] at hu
  rcases hu with rfl | rfl | rfl | rfl <;> rfl
set_option maxHeartbeats 4000000 in
theorem rscan_has (A : Option Addr) (n c : Nat) (b : List UInt8) (w : World) (hl : SliceOf Ru8 w (.slice A n c) b) (hb : b.length ≤ 1000000000) :
    Has Go.Proofs.Tryz.prog 36 #[.slice A n c] w (fun v w' => ∃ u, v = .tuple #[u, .int .i64 ((rscanM b).2.1 : Nat), .bool (rscanM b).2.2] ∧ Chg [] w w' ∧ Own w' 32 4 u (rscanM b).1.length ((rscanM b).1.flatMap recL) ∧ ∀ h, u.ownBlock = some h → w.heap.size ≤ h) := by
  refine enter Go.Proofs.Tryz.func36 rfl rfl (by decide) rfl (e := [(0, .slice A n c)]) ⟨rfl, trivial⟩ ?_
  repeat (first | refine W_seq ?_ | refine W_region ?_ | refine Then_n ?_ | refine WL_nil ?_ | refine WL_some rfl rfl rfl ?_ | refine op_move rfl rfl ?_ | refine op_assign rfl rfl ?_)
  refine op_call rfl rfl rfl (scan_has A n c b w hl hb) ?_
  rintro _ w1 ⟨us, rfl, hc1, hos, hfs⟩
  obtain ⟨hn1, hn2⟩ := scanM_bound b.length b (Nat.le_refl _)
  unfold rscanM
  generalize scanM b = q at *
  obtain ⟨seals, tot, cut⟩ := q
  dsimp only at *
  have hss := hos.reads
  obtain ⟨As, cs, rfl, hs1, hs2⟩ := hss.form
  clear hos hfs
  unfold maxLen at hs2
  repeat (first | refine W_seq ?_ | refine W_block ?_ | refine W_region ?_ | refine Then_n ?_ | refine WL_nil ?_ | refine WL_some rfl rfl rfl ?_ | refine op_move rfl rfl ?_ | refine op_assign rfl rfl ?_ | refine op_len_slice T rfl rfl rfl rfl ?_ | refine op_extract rfl rfl rfl ?_)
  refine W_loop (σ := Nat × List RecM × Nat × Value) (fun s => [(7, .bool cut), (8, s.2.2.2), (9, .int .i64 s.2.2.1), (20, .slice As seals.length cs), (21, .int .i64 seals.length), (22, .int .i64 s.1)])
    (fun s w' => s.1 ≤ seals.length ∧ s.2.1.length ≤ s.1 ∧ s.2.2.1 ≤ s.1 * 1000000100 ∧ recGo seals 0 cut = (s.2.1 ++ (recGo (seals.drop s.1) s.2.2.1 cut).1, (recGo (seals.drop s.1) s.2.2.1 cut).2) ∧ Chg [] w1 w' ∧ Own w' 32 4 s.2.2.2 s.2.1.length (s.2.1.flatMap recL) ∧ ∀ h, s.2.2.2.ownBlock = some h → w1.heap.size ≤ h)
    (fun s => seals.length - s.1) (0, [], 0, .slice none 0 0) ⟨rfl, rfl, rfl, rfl, rfl, rfl, trivial⟩ ⟨Nat.zero_le _, Nat.zero_le _, Nat.zero_le _, by simp, Chg.refl _ _, Own.nil _ _ _, fun h hh => by simp [Value.ownBlock] at hh⟩ ?_
  rintro ⟨k, l, at_, v⟩ w2 ⟨h1, h2, h3, h4, h5, h6, h7⟩
  dsimp only at h1 h2 h3 h4 h5 h6 h7 ⊢
  repeat (first | refine W_seq ?_ | refine W_region ?_ | refine WL_some rfl rfl rfl ?_)
  (refine op_lss rfl rfl rfl (fun hc => ?_) (fun hc => ?_))
  · have hk : k < seals.length := by omega
    obtain ⟨ad, us, rfl, hus1, hrs1⟩ := hss.get (i := k) (List.getElem?_eq_getElem hk)
    have hus := h5.cell0 hus1
    have hstep := recGo_nth (at_ := at_) (cut := cut) (List.getElem?_eq_getElem hk)
    have hsl : seals[k].length ≤ b.length := hn2 _ (List.getElem_mem hk)
    generalize seals[k] = s at *
    obtain ⟨A3, c3, rfl, _, _⟩ := SliceOf.form hrs1
    have hrs1 : SliceOf Ru8 w1 (.slice A3 s.length c3) s := hrs1
    have hrs : SliceOf Ru8 w2 (.slice A3 s.length c3) s := SliceOf.kept Ru8.kept _ _ _ _ h5 hrs1
    repeat (first | refine W_seq ?_ | refine W_block ?_ | refine W_region ?_ | refine W_skip ?_ | refine Then_n ?_ | refine WL_nil ?_ | refine W_condT rfl ?_ | refine WL_some rfl rfl rfl ?_ | refine op_move rfl rfl ?_ | refine op_assign rfl rfl ?_ | refine op_index_nat T rfl rfl rfl rfl rfl rfl (by omega) ?_ | refine op_load T rfl rfl rfl rfl (by assumption) ?_)
    refine op_call rfl rfl rfl (decode_has A3 _ c3 s w2 hrs (by omega)) ?_
    rintro _ w3 ⟨hc3, rfl⟩
    repeat (first | refine WL_some rfl rfl rfl ?_ | refine op_move rfl rfl ?_ | refine op_extract rfl rfl rfl ?_)
    refine op_alloc T rfl rfl (fun g w4 hs4 hc4 hg4 => ?_)
    have hg4 : Blk w4 g 32 [.int .i64 0, .int .i64 0, .string (str []), .string (str [])] := hg4
    have hs4 : w3.heap.size ≤ g := hs4
    repeat (refine WL_none rfl rfl ?_)
    refine op_store_agg T rfl rfl rfl rfl rfl rfl hg4 (by exact Nat.le_of_ble_eq_true rfl) (fun w5 hc5 hg5 _ => ?_)
    have hg5 : Blk w5 g 32 (recL (decR s)) := hg5
    have hc25 : Chg [] w2 w5 := (hc3.trans' hc4).trans hc5 (fun k hk hlt => by simp at hk; have := hc3.size; omega)
    by_cases hok : decOk s = true
    · rw [if_pos hok] at hstep
      rw [hok]
      have hrs5 := SliceOf.kept Ru8.kept _ _ _ _ hc25 hrs
      have h65 := h6.keep0 hc25
      unfold recL at hg5
      repeat (first | refine W_seq ?_ | refine W_region ?_ | refine W_skip ?_ | refine Then_n ?_ | refine WL_nil ?_ | refine W_condF rfl ?_ | refine WL_some rfl rfl rfl ?_ | refine op_move rfl rfl ?_ | refine op_assign rfl rfl ?_ | refine op_notT rfl rfl ?_ | refine op_load_agg T rfl rfl rfl rfl (by assumption) (by exact Nat.le_of_ble_eq_true rfl) (by exact rfl) ?_)
      refine op_buildSlice T rfl rfl rfl rfl rfl rfl rfl (fun g6 w6 hs6 hc6 hg6 => ?_)
      have hg6 : Blk w6 g6 32 (recL (decR s)) := hg6
      have h66 := h65.keep0 hc6
      obtain ⟨Av, cv, rfl, _, _⟩ := h66.form
      repeat (refine WL_some rfl rfl rfl ?_)
      refine op_append T (n := l.length) (xs := l.flatMap recL) (m := 1) (news := recL (decR s)) rfl rfl rfl rfl rfl rfl rfl rfl h66 rfl ?_ (by unfold maxLen; omega) (by show (l.length + 1) * 48 ≤ _; omega) ?_
      · intro j u hj
        exact ⟨⟨_, rfl, by rw [add_plain]; exact hg6.cell hj⟩, recL_one _ u (List.mem_of_getElem? hj)⟩
      · intro v7 w7 ho7 hc7 hb7 _
        have hfr : ∀ h, v7.ownBlock = some h → w1.heap.size ≤ h := fun h hh => by
          rcases hb7 with hb | ⟨g', hb, hge⟩
          · exact h7 h (by rw [← hb]; exact hh)
          · rw [hb] at hh; injection hh with hh; have := h5.size; have := hc25.size; have := hc6.size; omega
        have hc27 : Chg [] w1 w7 := ((h5.trans' hc25).trans' hc6).trans hc7 (fun k hk hlt => by have := h7 k (by simpa using hk); omega)
        have hrs7 := SliceOf.kept Ru8.kept _ _ _ _ hc27 hrs1
        repeat (first | refine W_region ?_ | refine Then_n ?_ | refine WL_nil ?_ | refine WL_some rfl rfl rfl ?_ | refine op_move rfl rfl ?_ | refine op_assign rfl rfl ?_)
        refine op_call rfl rfl rfl (seal_has A3 _ c3 s w7 hrs7 (by omega)) ?_
        intro v8 w8 m8
        obtain ⟨A8, c8, rfl, _, _⟩ := m8.form
        have hsz := sealM_length s
        repeat (first | refine W_region ?_ | refine Then_n ?_ | refine InBlock_n ?_ | refine WL_nil ?_ | refine WL_some rfl rfl rfl ?_ | refine op_move rfl rfl ?_ | refine op_assign rfl rfl ?_ | refine op_len_slice T rfl rfl rfl rfl ?_ | refine op_add rfl rfl rfl (wrap_i64_in (by omega) (by omega)) ?_)
        refine Round_n (k + 1, l ++ [decR s], at_ + (sealM s).length, v7) ⟨rfl, rfl, some_int (by dsimp only; omega), rfl, rfl, rfl, trivial⟩ ⟨by dsimp only; omega, by dsimp only; simp; omega, by dsimp only; omega, ?_, hc27.trans' m8.chg, ?_, hfr⟩ (by dsimp only; omega)
        · dsimp only
          rw [h4, hstep, List.append_assoc]; rfl
        · dsimp only
          rw [List.length_append, List.flatMap_append]
          simpa using ho7.keep0 m8.chg
    · rw [if_neg hok] at hstep
      rw [show decOk s = false from by simpa using hok]
      repeat (first | refine W_seq ?_ | refine W_region ?_ | refine W_ret ?_ | refine Then_n ?_ | refine Then_r ?_ | refine InBlock_r ?_ | refine Round_r ?_ | refine WL_nil ?_ | refine W_condT rfl ?_ | refine WL_some rfl rfl rfl ?_ | refine op_move rfl rfl ?_ | refine op_assign rfl rfl ?_ | refine op_notF rfl rfl ?_)
      rw [h4, hstep]
      refine post3 (.inl rfl) rfl rfl rfl rfl ⟨_, rfl, hc1.trans' (h5.trans' hc25), ?_, fun h hh => by have := h7 h hh; have := hc1.size; omega⟩
      rw [List.append_nil]
      exact h6.keep0 hc25
  · obtain rfl : k = seals.length := by omega
    rw [List.drop_length] at h4
    rw [h4]
    repeat (first | refine W_seq ?_ | refine W_region ?_ | refine W_exit ?_ | refine W_ret ?_ | refine Then_n ?_ | refine Then_x ?_ | refine InBlock_hit ?_ | refine Round_x ?_ | refine WL_nil ?_ | refine W_condF rfl ?_ | refine WL_some rfl rfl rfl ?_ | refine op_move rfl rfl ?_ | refine op_assign rfl rfl ?_)
    refine post3 (.inl rfl) rfl rfl rfl rfl ⟨_, rfl, hc1.trans' h5, ?_, fun h hh => by have := h7 h hh; have := hc1.size; omega⟩
    simp only [recGo, List.append_nil]
    exact h6
end Go.Proofs.YtbhnplghnhafiaaGreatDoor.Tryz
/-! The reference's records, walked: GetText, Check, Eq, one. -/
set_option linter.unusedVariables false
namespace Go.Proofs.YtbhnplghnhafiaaGreatDoor.Tryz
open Go Go.Vc
set_option maxHeartbeats 1000000 in
theorem rgetText_has (A : Option Addr) (n c : Nat) (l : List UInt8) (w : World) (hl : SliceOf Ru8 w (.slice A n c) l) :
    Has Go.Proofs.Tryz.prog 50 #[.slice A n c] w (fun v w' => w' = w ∧ v = .tuple #[.string (str (getTextM l).1), .int .i64 ((getTextM l).2 : Nat)]) := by
  obtain ⟨rfl, hl1, hl2⟩ := hl.len
  unfold maxLen at hl2
  have hb := getM_bound l
  refine enter Go.Proofs.Tryz.func50 rfl rfl (by decide) rfl (e := [(0, .slice A l.length c)]) ⟨rfl, trivial⟩ ?_
  refine run ?_
  refine go T 9 rfl ?_
  refine o1 rfl ?_
  refine op_call rfl rfl rfl (rget_has A l.length c l w hl) ?_
  rintro _ _ ⟨rfl, rfl⟩
  unfold getTextM
  generalize getM l = q at *
  obtain ⟨n, k⟩ := q
  dsimp only at *
  by_cases hk : k = 0
  · rw [if_pos (.inl hk)]
    refine go T 11 rfl ?_
    refine eqT rfl rfl rfl rfl (by omega) ?_
    refine go T 20 rfl ?_
    exact post2 (.inl rfl) rfl rfl rfl ⟨rfl, rfl⟩
  · by_cases hn : l.length - k < n
    · rw [if_pos (.inr hn)]
      refine go T 11 rfl ?_
      refine eqF rfl rfl rfl rfl (by omega) ?_
      refine go T 5 rfl ?_
      refine sbI rfl rfl rfl rfl (by omega) (by omega) ?_
      refine o1 rfl (op_convert_fit T rfl rfl rfl rfl (wrap_u64_in (by omega) (by omega)) ?_)
      refine gtT rfl rfl rfl rfl (by omega) ?_
      refine go T 12 rfl ?_
      exact post2 (.inl rfl) rfl rfl rfl ⟨rfl, rfl⟩
    · rw [if_neg (by omega)]
      refine go T 11 rfl ?_
      refine eqF rfl rfl rfl rfl (by omega) ?_
      refine go T 5 rfl ?_
      refine sbI rfl rfl rfl rfl (by omega) (by omega) ?_
      refine o1 rfl (op_convert_fit T rfl rfl rfl rfl (wrap_u64_in (by omega) (by omega)) ?_)
      refine gtF rfl rfl rfl rfl (by omega) ?_
      refine go T 12 rfl ?_
      refine o1 rfl (op_convert_fit T rfl rfl rfl rfl (wrap_i64_in (by omega) (by omega)) ?_)
      refine adI rfl rfl rfl rfl (by omega) (by omega) ?_
      refine o1 rfl ?_
      refine op_cut T (l := k) (h' := k + n) rfl rfl rfl rfl rfl ⟨_, rfl⟩ ⟨_, some_int (by omega)⟩ hl (by omega) (by omega) (fun A' hA' => ?_)
      have hs := hA' _ hl
      rw [show (l.take (k + n)).drop k = (l.drop k).take n from by rw [List.drop_take]; congr 1; omega] at hs
      refine o1 rfl ?_
      refine op_string T rfl rfl rfl rfl rfl hs ?_
      refine go T 2 rfl ?_
      refine o1 rfl (op_convert_fit T rfl rfl rfl rfl (wrap_i64_in (by omega) (by omega)) ?_)
      refine adI rfl rfl rfl rfl (by omega) (by omega) ?_
      refine go T 5 rfl ?_
      exact post2 (.inl rfl) rfl rfl (some_int (by omega)) ⟨rfl, rfl⟩
set_option maxHeartbeats 1000000 in
theorem rcheck_has (r : RecM) (w : World) : Has Go.Proofs.Tryz.prog 28 #[.agg (recL r).toArray] w (fun v w' => Chg [] w w' ∧ v = .int .i64 (checkM r)) := by
  refine enter Go.Proofs.Tryz.func28 rfl rfl (by decide) rfl (e := [(0, .agg (recL r).toArray)]) ⟨rfl, trivial⟩ ?_
  obtain ⟨kd, sq, ky, vl⟩ := r
  refine run ?_
  refine go T 2 rfl ?_
  refine o1 rfl ?_
  refine op_box rfl rfl (fun g w1 hgs hc1 hg1 => ?_)
  have hg1 : Blk w1 g 32 [.int .i64 kd, .int .i64 sq, .string (str ky), .string (str vl)] := hg1
  unfold checkM
  dsimp only
  refine go T 8 rfl ?_
  refine ldB T hg1 rfl rfl rfl rfl rfl rfl ?_
  refine o1 rfl ?_
  refine op_str_eql (a := ky) (b := []) rfl rfl rfl (fun h => ?_) (fun h => ?_)
  · rw [if_pos h]
    refine go T 12 rfl ?_
    exact post1 (.inl rfl) rfl rfl ⟨hc1, rfl⟩
  rw [if_neg h]
  by_cases h2 : 100 < ky.length
  · rw [if_pos (.inl h2)]
    refine go T 7 rfl ?_
    refine ldB T hg1 rfl rfl rfl rfl rfl rfl ?_
    refine o1 rfl (op_len_str T rfl rfl rfl rfl ?_)
    refine gtT rfl rfl rfl rfl (by omega) ?_
    refine go T 18 rfl ?_
    exact post1 (.inl rfl) rfl rfl ⟨hc1, rfl⟩
  by_cases h3 : 4000 < vl.length
  · rw [if_pos (.inr h3)]
    refine go T 7 rfl ?_
    refine ldB T hg1 rfl rfl rfl rfl rfl rfl ?_
    refine o1 rfl (op_len_str T rfl rfl rfl rfl ?_)
    refine gtF rfl rfl rfl rfl (by omega) ?_
    refine go T 2 rfl ?_
    refine ldB T hg1 rfl rfl rfl rfl rfl rfl ?_
    refine o1 rfl (op_len_str T rfl rfl rfl rfl ?_)
    refine gtT rfl rfl rfl rfl (by omega) ?_
    refine go T 13 rfl ?_
    exact post1 (.inl rfl) rfl rfl ⟨hc1, rfl⟩
  rw [if_neg (by omega)]
  by_cases hk1 : kd = 1
  · by_cases hs1 : sq < 1
    · rw [if_pos (by omega)]
      refine go T 7 rfl ?_
      refine ldB T hg1 rfl rfl rfl rfl rfl rfl ?_
      refine o1 rfl (op_len_str T rfl rfl rfl rfl ?_)
      refine gtF rfl rfl rfl rfl (by omega) ?_
      refine go T 2 rfl ?_
      refine ldB T hg1 rfl rfl rfl rfl rfl rfl ?_
      refine o1 rfl (op_len_str T rfl rfl rfl rfl ?_)
      refine gtF rfl rfl rfl rfl (by omega) ?_
      refine go T 8 rfl ?_
      refine ldB T hg1 rfl rfl rfl rfl rfl rfl ?_
      refine neF rfl rfl rfl rfl (by omega) ?_
      refine go T 7 rfl ?_
      refine ldB T hg1 rfl rfl rfl rfl rfl rfl ?_
      refine eqF rfl rfl rfl rfl (by omega) ?_
      refine go T 8 rfl ?_
      refine ldB T hg1 rfl rfl rfl rfl rfl rfl ?_
      refine ltT rfl rfl rfl rfl (by omega) ?_
      refine go T 18 rfl ?_
      exact post1 (.inl rfl) rfl rfl ⟨hc1, rfl⟩
    by_cases hs2 : 1125899906842624 < sq
    · rw [if_pos (by omega)]
      refine go T 7 rfl ?_
      refine ldB T hg1 rfl rfl rfl rfl rfl rfl ?_
      refine o1 rfl (op_len_str T rfl rfl rfl rfl ?_)
      refine gtF rfl rfl rfl rfl (by omega) ?_
      refine go T 2 rfl ?_
      refine ldB T hg1 rfl rfl rfl rfl rfl rfl ?_
      refine o1 rfl (op_len_str T rfl rfl rfl rfl ?_)
      refine gtF rfl rfl rfl rfl (by omega) ?_
      refine go T 8 rfl ?_
      refine ldB T hg1 rfl rfl rfl rfl rfl rfl ?_
      refine neF rfl rfl rfl rfl (by omega) ?_
      refine go T 7 rfl ?_
      refine ldB T hg1 rfl rfl rfl rfl rfl rfl ?_
      refine eqF rfl rfl rfl rfl (by omega) ?_
      refine go T 8 rfl ?_
      refine ldB T hg1 rfl rfl rfl rfl rfl rfl ?_
      refine ltF rfl rfl rfl rfl (by omega) ?_
      refine go T 3 rfl ?_
      refine ldB T hg1 rfl rfl rfl rfl rfl rfl ?_
      refine gtT rfl rfl rfl rfl (by omega) ?_
      refine go T 13 rfl ?_
      exact post1 (.inl rfl) rfl rfl ⟨hc1, rfl⟩
    rw [if_neg (by omega)]
    refine go T 7 rfl ?_
    refine ldB T hg1 rfl rfl rfl rfl rfl rfl ?_
    refine o1 rfl (op_len_str T rfl rfl rfl rfl ?_)
    refine gtF rfl rfl rfl rfl (by omega) ?_
    refine go T 2 rfl ?_
    refine ldB T hg1 rfl rfl rfl rfl rfl rfl ?_
    refine o1 rfl (op_len_str T rfl rfl rfl rfl ?_)
    refine gtF rfl rfl rfl rfl (by omega) ?_
    refine go T 8 rfl ?_
    refine ldB T hg1 rfl rfl rfl rfl rfl rfl ?_
    refine neF rfl rfl rfl rfl (by omega) ?_
    refine go T 7 rfl ?_
    refine ldB T hg1 rfl rfl rfl rfl rfl rfl ?_
    refine eqF rfl rfl rfl rfl (by omega) ?_
    refine go T 8 rfl ?_
    refine ldB T hg1 rfl rfl rfl rfl rfl rfl ?_
    refine ltF rfl rfl rfl rfl (by omega) ?_
    refine go T 3 rfl ?_
    refine ldB T hg1 rfl rfl rfl rfl rfl rfl ?_
    refine gtF rfl rfl rfl rfl (by omega) ?_
    refine go T 14 rfl ?_
    exact post1 (.inl rfl) rfl rfl ⟨hc1, rfl⟩
  by_cases hk0 : kd = 0
  · by_cases hv : vl = []
    · by_cases hs1 : sq < 1
      · rw [if_pos (by omega)]
        refine go T 7 rfl ?_
        refine ldB T hg1 rfl rfl rfl rfl rfl rfl ?_
        refine o1 rfl (op_len_str T rfl rfl rfl rfl ?_)
        refine gtF rfl rfl rfl rfl (by omega) ?_
        refine go T 2 rfl ?_
        refine ldB T hg1 rfl rfl rfl rfl rfl rfl ?_
        refine o1 rfl (op_len_str T rfl rfl rfl rfl ?_)
        refine gtF rfl rfl rfl rfl (by omega) ?_
        refine go T 8 rfl ?_
        refine ldB T hg1 rfl rfl rfl rfl rfl rfl ?_
        refine neT rfl rfl rfl rfl (by omega) ?_
        refine go T 2 rfl ?_
        refine ldB T hg1 rfl rfl rfl rfl rfl rfl ?_
        refine neF rfl rfl rfl rfl (by omega) ?_
        refine go T 3 rfl ?_
        refine ldB T hg1 rfl rfl rfl rfl rfl rfl ?_
        refine eqT rfl rfl rfl rfl (by omega) ?_
        refine go T 2 rfl ?_
        refine ldB T hg1 rfl rfl rfl rfl rfl rfl ?_
        refine o1 rfl ?_
        refine op_str_neq (a := vl) (b := []) rfl rfl rfl (fun h => absurd hv h) (fun h => ?_)
        refine go T 4 rfl ?_
        refine ldB T hg1 rfl rfl rfl rfl rfl rfl ?_
        refine ltT rfl rfl rfl rfl (by omega) ?_
        refine go T 18 rfl ?_
        exact post1 (.inl rfl) rfl rfl ⟨hc1, rfl⟩
      by_cases hs2 : 1125899906842624 < sq
      · rw [if_pos (by omega)]
        refine go T 7 rfl ?_
        refine ldB T hg1 rfl rfl rfl rfl rfl rfl ?_
        refine o1 rfl (op_len_str T rfl rfl rfl rfl ?_)
        refine gtF rfl rfl rfl rfl (by omega) ?_
        refine go T 2 rfl ?_
        refine ldB T hg1 rfl rfl rfl rfl rfl rfl ?_
        refine o1 rfl (op_len_str T rfl rfl rfl rfl ?_)
        refine gtF rfl rfl rfl rfl (by omega) ?_
        refine go T 8 rfl ?_
        refine ldB T hg1 rfl rfl rfl rfl rfl rfl ?_
        refine neT rfl rfl rfl rfl (by omega) ?_
        refine go T 2 rfl ?_
        refine ldB T hg1 rfl rfl rfl rfl rfl rfl ?_
        refine neF rfl rfl rfl rfl (by omega) ?_
        refine go T 3 rfl ?_
        refine ldB T hg1 rfl rfl rfl rfl rfl rfl ?_
        refine eqT rfl rfl rfl rfl (by omega) ?_
        refine go T 2 rfl ?_
        refine ldB T hg1 rfl rfl rfl rfl rfl rfl ?_
        refine o1 rfl ?_
        refine op_str_neq (a := vl) (b := []) rfl rfl rfl (fun h => absurd hv h) (fun h => ?_)
        refine go T 4 rfl ?_
        refine ldB T hg1 rfl rfl rfl rfl rfl rfl ?_
        refine ltF rfl rfl rfl rfl (by omega) ?_
        refine go T 3 rfl ?_
        refine ldB T hg1 rfl rfl rfl rfl rfl rfl ?_
        refine gtT rfl rfl rfl rfl (by omega) ?_
        refine go T 13 rfl ?_
        exact post1 (.inl rfl) rfl rfl ⟨hc1, rfl⟩
      rw [if_neg (by rintro (h | h | h | h); · omega
                     · exact h.2 hv
                     · omega
                     · omega)]
      refine go T 7 rfl ?_
      refine ldB T hg1 rfl rfl rfl rfl rfl rfl ?_
      refine o1 rfl (op_len_str T rfl rfl rfl rfl ?_)
      refine gtF rfl rfl rfl rfl (by omega) ?_
      refine go T 2 rfl ?_
      refine ldB T hg1 rfl rfl rfl rfl rfl rfl ?_
      refine o1 rfl (op_len_str T rfl rfl rfl rfl ?_)
      refine gtF rfl rfl rfl rfl (by omega) ?_
      refine go T 8 rfl ?_
      refine ldB T hg1 rfl rfl rfl rfl rfl rfl ?_
      refine neT rfl rfl rfl rfl (by omega) ?_
      refine go T 2 rfl ?_
      refine ldB T hg1 rfl rfl rfl rfl rfl rfl ?_
      refine neF rfl rfl rfl rfl (by omega) ?_
      refine go T 3 rfl ?_
      refine ldB T hg1 rfl rfl rfl rfl rfl rfl ?_
      refine eqT rfl rfl rfl rfl (by omega) ?_
      refine go T 2 rfl ?_
      refine ldB T hg1 rfl rfl rfl rfl rfl rfl ?_
      refine o1 rfl ?_
      refine op_str_neq (a := vl) (b := []) rfl rfl rfl (fun h => absurd hv h) (fun h => ?_)
      refine go T 4 rfl ?_
      refine ldB T hg1 rfl rfl rfl rfl rfl rfl ?_
      refine ltF rfl rfl rfl rfl (by omega) ?_
      refine go T 3 rfl ?_
      refine ldB T hg1 rfl rfl rfl rfl rfl rfl ?_
      refine gtF rfl rfl rfl rfl (by omega) ?_
      refine go T 14 rfl ?_
      exact post1 (.inl rfl) rfl rfl ⟨hc1, rfl⟩
    · rw [if_pos (.inr (.inl ⟨hk0, hv⟩))]
      refine go T 7 rfl ?_
      refine ldB T hg1 rfl rfl rfl rfl rfl rfl ?_
      refine o1 rfl (op_len_str T rfl rfl rfl rfl ?_)
      refine gtF rfl rfl rfl rfl (by omega) ?_
      refine go T 2 rfl ?_
      refine ldB T hg1 rfl rfl rfl rfl rfl rfl ?_
      refine o1 rfl (op_len_str T rfl rfl rfl rfl ?_)
      refine gtF rfl rfl rfl rfl (by omega) ?_
      refine go T 8 rfl ?_
      refine ldB T hg1 rfl rfl rfl rfl rfl rfl ?_
      refine neT rfl rfl rfl rfl (by omega) ?_
      refine go T 2 rfl ?_
      refine ldB T hg1 rfl rfl rfl rfl rfl rfl ?_
      refine neF rfl rfl rfl rfl (by omega) ?_
      refine go T 3 rfl ?_
      refine ldB T hg1 rfl rfl rfl rfl rfl rfl ?_
      refine eqT rfl rfl rfl rfl (by omega) ?_
      refine go T 2 rfl ?_
      refine ldB T hg1 rfl rfl rfl rfl rfl rfl ?_
      refine o1 rfl ?_
      refine op_str_neq (a := vl) (b := []) rfl rfl rfl (fun h => ?_) (fun h => absurd h hv)
      refine go T 24 rfl ?_
      exact post1 (.inl rfl) rfl rfl ⟨hc1, rfl⟩
  · rw [if_pos (.inl ⟨hk1, hk0⟩)]
    refine go T 7 rfl ?_
    refine ldB T hg1 rfl rfl rfl rfl rfl rfl ?_
    refine o1 rfl (op_len_str T rfl rfl rfl rfl ?_)
    refine gtF rfl rfl rfl rfl (by omega) ?_
    refine go T 2 rfl ?_
    refine ldB T hg1 rfl rfl rfl rfl rfl rfl ?_
    refine o1 rfl (op_len_str T rfl rfl rfl rfl ?_)
    refine gtF rfl rfl rfl rfl (by omega) ?_
    refine go T 8 rfl ?_
    refine ldB T hg1 rfl rfl rfl rfl rfl rfl ?_
    refine neT rfl rfl rfl rfl (by omega) ?_
    refine go T 2 rfl ?_
    refine ldB T hg1 rfl rfl rfl rfl rfl rfl ?_
    refine neT rfl rfl rfl rfl (by omega) ?_
    refine go T 33 rfl ?_
    exact post1 (.inl rfl) rfl rfl ⟨hc1, rfl⟩
set_option maxHeartbeats 1000000 in
theorem req_has (a b : RecM) (w : World) : Has Go.Proofs.Tryz.prog 41 #[.agg (recL a).toArray, .agg (recL b).toArray] w (fun v w' => Chg [] w w' ∧ v = .bool (recEq a b)) := by
  refine enter Go.Proofs.Tryz.func41 rfl rfl (by decide) rfl (e := [(0, .agg (recL a).toArray), (1, .agg (recL b).toArray)]) ⟨rfl, rfl, trivial⟩ ?_
  obtain ⟨a1, a2, a3, a4⟩ := a
  obtain ⟨b1, b2, b3, b4⟩ := b
  refine run ?_
  refine go T 2 rfl ?_
  refine o1 rfl ?_
  refine op_box rfl rfl (fun g w1 hgs hc1 hg1 => ?_)
  have hg1 : Blk w1 g 32 [.int .i64 a1, .int .i64 a2, .string (str a3), .string (str a4)] := hg1
  refine o1 rfl ?_
  refine op_box rfl rfl (fun g' w2 hgs' hc2 hg2 => ?_)
  have hg2 : Blk w2 g' 32 [.int .i64 b1, .int .i64 b2, .string (str b3), .string (str b4)] := hg2
  have hg12 := hg1.keep0 hc2
  have hcc := hc1.trans' hc2
  unfold recEq
  dsimp only
  by_cases h1 : a1 = b1
  · by_cases h2 : a2 = b2
    · by_cases h3 : a3 = b3
      · by_cases h4 : a4 = b4
        · rw [decide_eq_true ⟨h1, h2, h3, h4⟩]
          refine go T 6 rfl ?_
          refine ldB T hg12 rfl rfl rfl rfl rfl rfl ?_
          refine go T 1 rfl ?_
          refine ldB T hg2 rfl rfl rfl rfl rfl rfl ?_
          refine eqT rfl rfl rfl rfl (by omega) ?_
          refine go T 2 rfl ?_
          refine ldB T hg12 rfl rfl rfl rfl rfl rfl ?_
          refine go T 1 rfl ?_
          refine ldB T hg2 rfl rfl rfl rfl rfl rfl ?_
          refine eqT rfl rfl rfl rfl (by omega) ?_
          refine go T 3 rfl ?_
          refine ldB T hg12 rfl rfl rfl rfl rfl rfl ?_
          refine go T 1 rfl ?_
          refine ldB T hg2 rfl rfl rfl rfl rfl rfl ?_
          refine o1 rfl ?_
          refine op_str_eql (a := a3) (b := b3) rfl rfl rfl (fun h => ?_) (fun h => absurd h3 h)
          refine go T 3 rfl ?_
          refine ldB T hg12 rfl rfl rfl rfl rfl rfl ?_
          refine go T 1 rfl ?_
          refine ldB T hg2 rfl rfl rfl rfl rfl rfl ?_
          refine o1 rfl ?_
          refine op_str_eql (a := a4) (b := b4) rfl rfl rfl (fun h => ?_) (fun h => absurd h4 h)
          refine go T 5 rfl ?_
          exact post1 (.inl rfl) rfl rfl ⟨hcc, rfl⟩
        · rw [decide_eq_false (fun h => h4 h.2.2.2)]
          refine go T 6 rfl ?_
          refine ldB T hg12 rfl rfl rfl rfl rfl rfl ?_
          refine go T 1 rfl ?_
          refine ldB T hg2 rfl rfl rfl rfl rfl rfl ?_
          refine eqT rfl rfl rfl rfl (by omega) ?_
          refine go T 2 rfl ?_
          refine ldB T hg12 rfl rfl rfl rfl rfl rfl ?_
          refine go T 1 rfl ?_
          refine ldB T hg2 rfl rfl rfl rfl rfl rfl ?_
          refine eqT rfl rfl rfl rfl (by omega) ?_
          refine go T 3 rfl ?_
          refine ldB T hg12 rfl rfl rfl rfl rfl rfl ?_
          refine go T 1 rfl ?_
          refine ldB T hg2 rfl rfl rfl rfl rfl rfl ?_
          refine o1 rfl ?_
          refine op_str_eql (a := a3) (b := b3) rfl rfl rfl (fun h => ?_) (fun h => absurd h3 h)
          refine go T 3 rfl ?_
          refine ldB T hg12 rfl rfl rfl rfl rfl rfl ?_
          refine go T 1 rfl ?_
          refine ldB T hg2 rfl rfl rfl rfl rfl rfl ?_
          refine o1 rfl ?_
          refine op_str_eql (a := a4) (b := b4) rfl rfl rfl (fun h => absurd h h4) (fun h => ?_)
          refine go T 5 rfl ?_
          exact post1 (.inl rfl) rfl rfl ⟨hcc, rfl⟩
      · rw [decide_eq_false (fun h => h3 h.2.2.1)]
        refine go T 6 rfl ?_
        refine ldB T hg12 rfl rfl rfl rfl rfl rfl ?_
        refine go T 1 rfl ?_
        refine ldB T hg2 rfl rfl rfl rfl rfl rfl ?_
        refine eqT rfl rfl rfl rfl (by omega) ?_
        refine go T 2 rfl ?_
        refine ldB T hg12 rfl rfl rfl rfl rfl rfl ?_
        refine go T 1 rfl ?_
        refine ldB T hg2 rfl rfl rfl rfl rfl rfl ?_
        refine eqT rfl rfl rfl rfl (by omega) ?_
        refine go T 3 rfl ?_
        refine ldB T hg12 rfl rfl rfl rfl rfl rfl ?_
        refine go T 1 rfl ?_
        refine ldB T hg2 rfl rfl rfl rfl rfl rfl ?_
        refine o1 rfl ?_
        refine op_str_eql (a := a3) (b := b3) rfl rfl rfl (fun h => absurd h h3) (fun h => ?_)
        refine go T 12 rfl ?_
        exact post1 (.inl rfl) rfl rfl ⟨hcc, rfl⟩
    · rw [decide_eq_false (fun h => h2 h.2.1)]
      refine go T 6 rfl ?_
      refine ldB T hg12 rfl rfl rfl rfl rfl rfl ?_
      refine go T 1 rfl ?_
      refine ldB T hg2 rfl rfl rfl rfl rfl rfl ?_
      refine eqT rfl rfl rfl rfl (by omega) ?_
      refine go T 2 rfl ?_
      refine ldB T hg12 rfl rfl rfl rfl rfl rfl ?_
      refine go T 1 rfl ?_
      refine ldB T hg2 rfl rfl rfl rfl rfl rfl ?_
      refine eqF rfl rfl rfl rfl (by omega) ?_
      refine go T 19 rfl ?_
      exact post1 (.inl rfl) rfl rfl ⟨hcc, rfl⟩
  · rw [decide_eq_false (fun h => h1 h.1)]
    refine go T 6 rfl ?_
    refine ldB T hg12 rfl rfl rfl rfl rfl rfl ?_
    refine go T 1 rfl ?_
    refine ldB T hg2 rfl rfl rfl rfl rfl rfl ?_
    refine eqF rfl rfl rfl rfl (by omega) ?_
    refine go T 25 rfl ?_
    exact post1 (.inl rfl) rfl rfl ⟨hcc, rfl⟩
end Go.Proofs.YtbhnplghnhafiaaGreatDoor.Tryz
