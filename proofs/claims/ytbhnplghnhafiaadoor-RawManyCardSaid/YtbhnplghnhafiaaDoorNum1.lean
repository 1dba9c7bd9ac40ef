import Derived.Test.YtbhnplghnhafiaaDoorVcTypes
import Derived.Test.YtbhnplghnhafiaaDoorVcNum
import Derived.Test.YtbhnplghnhafiaaDoorVcStruct
/-! Numbers: Put, Get, Text, GetText, Four, GetFour; small decimal texts. -/
set_option linter.unusedVariables false
namespace Go.Proofs.YtbhnplghnhafiaaDoor.Tryd
open Go Go.Vc

set_option maxRecDepth 100000 in
theorem or128 : ∀ a, a < 256 → a ||| 128 = a % 128 + 128 := by decide
theorem byte_cell (n : Nat) : Value.int .u8 ((n % 2 ^ IntKind.u8.bits : Nat) : Int) = Value.int .u8 ((UInt8.ofNat n).toNat : Int) := by
  have : (UInt8.ofNat n).toNat = n % 2 ^ IntKind.u8.bits := by simp [IntKind.bits]
  rw [this]
theorem one_u8 {w : World} {g : Nat} {t : TypeId} (c : UInt8) (hg : Blk w g t [.int .u8 (c.toNat : Int)]) : SliceOf Ru8 w (.slice (some ⟨g, 0, none⟩) 1 1) [c] :=
  SliceOf.of_blk hg rfl (Nat.le_refl _) (by decide) (fun i y hy => by
    match i, hy with
    | 0, hy => cases hy; exact ⟨_, rfl, rfl⟩)

set_option maxHeartbeats 1000000 in
theorem put_has (n : Nat) (w : World) (hn : n < 18446744073709551616) :
    Has Go.Proofs.Tryd.prog 51 #[.int .u64 (n : Int)] w (fun v w' => MadeB 5 w w' v (putM n)) := by
  have hlen := putM_len10 hn
  refine enter Go.Proofs.Tryd.func51 rfl rfl (by decide) rfl (e := [(0, .int .u64 (n : Int))]) ⟨rfl, trivial⟩ ?_
  repeat (first | refine W_seq ?_ | refine W_region ?_ | refine Then_n ?_ | refine WL_nil ?_ | refine WL_some rfl rfl rfl ?_ | refine op_assign rfl rfl ?_)
  refine W_meet (σ := Nat × List UInt8 × Value) (fun s => [(0, .int .u64 (s.1 : Int)), (3, s.2.2)]) (fun s w' => s.1 < 128 ∧ s.2.1 ++ putM s.1 = putM n ∧ MadeB 5 w w' s.2.2 s.2.1) ?_ ?_
  · refine W_block ?_
    refine W_loop (σ := Nat × List UInt8 × Value) (fun s => [(0, .int .u64 (s.1 : Int)), (3, s.2.2)]) (fun s w' => s.1 < 18446744073709551616 ∧ s.2.1 ++ putM s.1 = putM n ∧ MadeB 5 w w' s.2.2 s.2.1) (fun s => s.1) (n, [], .slice none 0 0) ⟨rfl, rfl, trivial⟩ ⟨hn, rfl, MadeB.nil _ _⟩ ?_
    rintro ⟨m, l, v⟩ w1 ⟨h1, h2, h3⟩
    dsimp only at h1 h2 h3 ⊢
    repeat (first | refine W_seq ?_ | refine W_region ?_ | refine WL_some rfl rfl rfl ?_ | refine op_move rfl rfl ?_)
    (refine op_gtr rfl rfl rfl (fun hc => ?_) (fun hc => ?_))
    · have hm : ¬ m < 128 := by omega
      have hpl := putM_pos (m / 128)
      have hl : l.length ≤ 10 := by rw [← h2] at hlen; simp at hlen; omega
      repeat (first | refine W_seq ?_ | refine W_block ?_ | refine W_region ?_ | refine W_skip ?_ | refine Then_n ?_ | refine WL_nil ?_ | refine W_condT rfl ?_ | refine WL_some rfl rfl rfl ?_ | refine op_move rfl rfl ?_)
      refine op_convert_nat T rfl rfl rfl rfl rfl ?_
      repeat (refine WL_some rfl rfl rfl ?_)
      refine op_or_nat (a := m % 2 ^ IntKind.u8.bits) (b := 128) rfl (Nat.mod_lt _ (by decide)) (by decide) rfl rfl rfl ?_
      repeat (refine WL_some rfl rfl rfl ?_)
      refine op_buildSlice T rfl rfl rfl rfl rfl rfl rfl (fun g w2 hgs hc2 hg2 => ?_)
      have eb : Value.int .u8 (((m % 2 ^ IntKind.u8.bits ||| 128 : Nat)) : Int) = Value.int .u8 ((UInt8.ofNat (m % 128 + 128)).toNat : Int) := by
        have e1 : m % 2 ^ IntKind.u8.bits ||| 128 = m % 128 + 128 := by
          show m % 256 ||| 128 = _
          rw [or128 _ (Nat.mod_lt _ (by decide))]; omega
        rw [e1, toNat_ofNat (by omega)]
      have hs2 := one_u8 (UInt8.ofNat (m % 128 + 128)) (by rw [← eb]; exact hg2)
      repeat (refine WL_some rfl rfl rfl ?_)
      refine op_appB T rfl rfl rfl rfl rfl rfl rfl rfl rfl (h3.keep0 hc2) hs2 (by simp; omega) (fun v' w3 hm3 _ _ => ?_)
      repeat (first | refine W_region ?_ | refine Then_n ?_ | refine WL_nil ?_ | refine WL_some rfl rfl rfl ?_ | refine op_move rfl rfl ?_ | refine op_assign rfl rfl ?_)
      refine op_shr_nat (s := 7) (by decide) rfl rfl rfl ?_
      repeat (first | refine InBlock_n ?_ | refine WL_nil ?_ | refine WL_some rfl rfl rfl ?_ | refine op_assign rfl rfl ?_)
      refine Round_n (m / 128, l ++ [UInt8.ofNat (m % 128 + 128)], v') ⟨rfl, rfl, trivial⟩ ⟨by dsimp only; omega, ?_, hm3⟩ (by dsimp only; omega)
      dsimp only
      rw [← h2, putM_big hm, List.append_assoc]; rfl
    · repeat (first | refine W_exit ?_ | refine Then_n ?_ | refine Then_x ?_ | refine InBlock_hit ?_ | refine Round_x ?_ | refine WL_nil ?_ | refine W_condF rfl ?_)
      refine Meet_n (m, l, v) ⟨rfl, rfl, trivial⟩ ⟨?_, h2, h3⟩
      dsimp only; omega
  · rintro ⟨m, l, v⟩ w1 ⟨h1, h2, h3⟩
    dsimp only at h1 h2 h3 ⊢
    have hl : l.length ≤ 10 := by rw [← h2] at hlen; simp at hlen; omega
    repeat (first | refine W_seq ?_ | refine W_region ?_ | refine Then_n ?_ | refine WL_some rfl rfl rfl ?_ | refine op_move rfl rfl ?_)
    refine op_convert_nat T rfl rfl rfl rfl rfl ?_
    repeat (refine WL_some rfl rfl rfl ?_)
    refine op_buildSlice T rfl rfl rfl rfl rfl rfl rfl (fun g w2 hgs hc2 hg2 => ?_)
    have hs2 := one_u8 (UInt8.ofNat m) (by rw [← byte_cell]; exact hg2)
    repeat (refine WL_some rfl rfl rfl ?_)
    refine op_appB T rfl rfl rfl rfl rfl rfl rfl rfl rfl (h3.keep0 hc2) hs2 (by simp; omega) (fun v' w3 hm3 _ _ => ?_)
    repeat (first | refine W_ret ?_ | refine Then_n ?_ | refine WL_nil ?_ | refine WL_some rfl rfl rfl ?_ | refine op_assign rfl rfl ?_)
    refine post1 (.inl rfl) rfl rfl ?_
    rw [← h2, putM_small h1]
    exact hm3
theorem text_has (s : List UInt8) (w : World) (hs : s.length < 1000000000) :
    Has Go.Proofs.Tryd.prog 52 #[.string (str s)] w (fun v w' => MadeB 5 w w' v (textM s)) := by
  refine enter Go.Proofs.Tryd.func52 rfl rfl (by decide) rfl (e := [(0, .string (str s))]) ⟨rfl, trivial⟩ ?_
  repeat (first | refine W_seq ?_ | refine W_region ?_ | refine Then_n ?_ | refine WL_nil ?_ | refine WL_some rfl rfl rfl ?_ | refine op_len_str T rfl rfl rfl rfl ?_ | refine op_move rfl rfl ?_ | refine op_assign rfl rfl ?_)
  refine op_convert_fit T rfl rfl rfl rfl (wrap_u64_in (by omega) (by omega)) ?_
  repeat (refine WL_some rfl rfl rfl ?_)
  refine op_call rfl rfl rfl (put_has s.length w (by omega)) ?_
  intro v w1 h1
  repeat (first | refine WL_some rfl rfl rfl ?_ | refine op_move rfl rfl ?_)
  have hp := putM_len10 (n := s.length) (by omega)
  refine op_appS T rfl rfl rfl rfl rfl rfl rfl rfl rfl rfl h1 (by omega) (fun v' w2 h2 _ => ?_)
  repeat (first | refine W_ret ?_ | refine Then_n ?_ | refine WL_nil ?_ | refine WL_some rfl rfl rfl ?_ | refine op_assign rfl rfl ?_)
  exact post1 (.inl rfl) rfl rfl h2
theorem four_has (n : Nat) (w : World) (hn : n < 4294967296) :
    Has Go.Proofs.Tryd.prog 69 #[.int .u32 (n : Int)] w (fun v w' => MadeB 5 w w' v (fourM n)) := by
  refine enter Go.Proofs.Tryd.func69 rfl rfl (by decide) rfl (e := [(0, .int .u32 (n : Int))]) ⟨rfl, trivial⟩ ?_
  repeat (first | refine W_seq ?_ | refine W_region ?_ | refine Then_n ?_ | refine WL_nil ?_ | refine WL_some rfl rfl rfl ?_ | refine op_move rfl rfl ?_ | refine op_assign rfl rfl ?_)
  refine op_convert_nat T rfl rfl rfl rfl rfl ?_
  repeat (first | refine WL_some rfl rfl rfl ?_ | refine op_move rfl rfl ?_)
  refine op_shr_nat (s := 8) (by decide) rfl rfl rfl ?_
  repeat (refine WL_some rfl rfl rfl ?_)
  refine op_convert_nat T rfl rfl rfl rfl rfl ?_
  repeat (first | refine WL_some rfl rfl rfl ?_ | refine op_move rfl rfl ?_)
  refine op_shr_nat (s := 16) (by decide) rfl rfl rfl ?_
  repeat (refine WL_some rfl rfl rfl ?_)
  refine op_convert_nat T rfl rfl rfl rfl rfl ?_
  repeat (first | refine WL_some rfl rfl rfl ?_ | refine op_move rfl rfl ?_)
  refine op_shr_nat (s := 24) (by decide) rfl rfl rfl ?_
  repeat (refine WL_some rfl rfl rfl ?_)
  refine op_convert_nat T rfl rfl rfl rfl rfl ?_
  repeat (refine WL_some rfl rfl rfl ?_)
  refine op_buildSlice T rfl rfl rfl rfl rfl rfl rfl (fun g w2 hgs hc2 hg2 => ?_)
  repeat (first | refine W_ret ?_ | refine Then_n ?_ | refine WL_nil ?_ | refine WL_some rfl rfl rfl ?_ | refine op_assign rfl rfl ?_)
  have hg3 : Blk w2 g 5 (u8s (fourM n)) := by
    rw [byte_cell, byte_cell, byte_cell, byte_cell] at hg2
    exact hg2
  refine post1 (.inl rfl) rfl rfl ⟨hc2, Own.mk hg3 (Nat.le_refl _) (by decide) rfl rfl, fun h hh => ?_⟩
  simp [Value.ownBlock] at hh; omega
end Go.Proofs.YtbhnplghnhafiaaDoor.Tryd
