import Derived.Test.YtbhnplghnhafiaaDoorSeg3
/-! Segments: one record. -/
set_option linter.unusedVariables false
namespace Go.Vc
open Go
def kvR : RecM := ⟨1, 1, [107], [118]⟩
theorem kvR_ok : RecOk kvR := ⟨by decide, by decide, by decide, .inl rfl, by decide, by decide⟩
end Go.Vc
namespace Go.Proofs.YtbhnplghnhafiaaDoor.Tryd
open Go Go.Vc
set_option maxHeartbeats 2000000 in
theorem begun15_has (w : World) : Has Go.Proofs.Tryd.prog 7 #[] w (fun v w' => Chg [] w w' ∧ v = .bool true) := by
  refine enter Go.Proofs.Tryd.func7 rfl rfl (by decide) rfl (e := []) trivial ?_
  have hcr := create_one 10000 (rawNm 3) (may_raw (by decide))
  have hlen := sealM_length (bodyM kvR)
  have hbl := bodyM_len kvR_ok
  have hap := append_one' (roomM 10000) 1 (rawNm 3) [] 0 [] [⟨0, rawNm 3, [], some 0⟩] (sealM (bodyM kvR))
  rw [if_neg (by show ¬ (10000 : Int) - ((([] : List UInt8).length : Nat) : Int) < _; simp; omega)] at hap
  have hrd := read_one (roomM 10000) (1 + 1) (rawNm 3) ([] ++ sealM (bodyM kvR)) 0 [] [⟨0, rawNm 3, [], some 0⟩]
  rw [List.nil_append] at hrd hap
  repeat (first | refine W_seq ?_ | refine W_region ?_ | refine Then_n ?_ | refine WL_nil ?_ | refine WL_some rfl rfl rfl ?_ | refine op_assign rfl rfl ?_)
  refine op_call rfl rfl rfl (newO_has 10000 w) ?_
  rintro _ w1 ⟨g, p1, rfl, x1⟩
  unfold ptrV
  repeat (first | refine W_seq ?_ | refine W_region ?_ | refine Then_n ?_ | refine WL_nil ?_ | refine WL_some rfl rfl rfl ?_ | refine op_move rfl rfl ?_ | refine op_assign rfl rfl ?_)
  refine op_call rfl rfl rfl (createS_has x1 3 (by decide) (by decide) (by decide) (by rw [hcr])) ?_
  rintro _ w2 ⟨gs, p2, u2, rfl, x2⟩
  rw [hcr] at x2
  dsimp only at x2
  unfold ptrV
  repeat (first | refine W_seq ?_ | refine W_region ?_ | refine W_skip ?_ | refine Then_n ?_ | refine WL_nil ?_ | refine W_condF rfl ?_ | refine WL_some rfl rfl rfl ?_ | refine WL_guardT rfl rfl rfl rfl ?_ | refine op_move rfl rfl ?_ | refine op_assign rfl rfl ?_ | refine op_pick rfl rfl rfl rfl ?_ | refine op_extract rfl rfl rfl ?_ | refine op_neq rfl rfl rfl (fun hc => False.elim (by omega)) (fun hc => ?_) | refine op_eql_nilptr T rfl rfl rfl rfl rfl ?_ | refine op_build T rfl rfl rfl rfl rfl rfl ?_)
  have hcall := appendS_has x2 kvR kvR_ok (by show (1 : Int) < _; decide) (by decide) (by decide)
  rw [hap] at hcall
  refine op_call rfl rfl rfl hcall ?_
  rintro v3 w3 ⟨_, h3⟩
  obtain ⟨hv3, p3, u3, x3⟩ := h3 rfl
  obtain rfl : v3 = .tuple #[.int .i64 0, .int .i64 0] := hv3
  dsimp only at x3
  rw [Nat.zero_add, List.nil_append] at x3
  repeat (first | refine W_seq ?_ | refine W_region ?_ | refine Then_n ?_ | refine WL_nil ?_ | refine WL_some rfl rfl rfl ?_ | refine op_move rfl rfl ?_ | refine op_assign rfl rfl ?_ | refine op_extract rfl rfl rfl ?_)
  have hce : cellM (sealM (bodyM kvR)) 0 (sealM (bodyM kvR)).length = (kvR, 0) := by
    have := cellM_encs (rs := [kvR]) (i := 0) rfl kvR_ok []
    simpa [encs] using this
  have hget := getS_has x3 (sealM (bodyM kvR)) hrd (by omega) 0 0 (sealM (bodyM kvR)).length rfl rfl (Nat.zero_le _) (by decide)
  rw [hce] at hget
  refine op_call rfl rfl rfl hget ?_
  rintro v4 w4 ⟨hc4, hv4⟩
  obtain rfl : v4 = .tuple #[.agg (recL kvR).toArray, .int .i64 0] := hv4
  have x4 := x3.keep0 hc4
  repeat (first | refine WL_some rfl rfl rfl ?_ | refine op_move rfl rfl ?_ | refine op_extract rfl rfl rfl ?_)
  refine op_alloc T rfl rfl (fun g5 w5 hs5 hc5 hg5 => ?_)
  have hg5 : Blk w5 g5 33 [.int .i64 0, .int .i64 0, .string (str []), .string (str [])] := hg5
  have x5 := x4.keep0 hc5
  repeat (refine WL_none rfl rfl ?_)
  refine op_store_agg T rfl rfl rfl rfl rfl rfl hg5 (by exact Nat.le_of_ble_eq_true rfl) (fun w6 hc6 hg6 _ => ?_)
  have hg6 : Blk w6 g5 33 [.int .i64 1, .int .i64 1, .string (str [107]), .string (str [118])] := hg6
  have hs5 : w4.heap.size ≤ g5 := hs5
  have hc46 : Chg [] w4 w6 := hc5.trans hc6 (fun k hk hlt => by simp at hk; omega)
  have x6 := x4.keep0 hc46
  repeat (first | refine W_seq ?_ | refine W_region ?_ | refine Then_n ?_ | refine WL_nil ?_ | refine WL_some rfl rfl rfl ?_ | refine op_move rfl rfl ?_ | refine op_assign rfl rfl ?_)
  refine op_call rfl rfl rfl (getBad_has x6.seg 1 (.inr (by decide))) ?_
  rintro _ w7 ⟨hc7, rfl⟩
  have x7 := x6.keep0 hc7
  have hg7 := hg6.keep0 hc7
  repeat (first | refine WL_some rfl rfl rfl ?_ | refine op_move rfl rfl ?_ | refine op_extract rfl rfl rfl ?_)
  refine op_alloc T rfl rfl (fun g8 w8 hs8 hc8 hg8 => ?_)
  have hg8 : Blk w8 g8 33 [.int .i64 0, .int .i64 0, .string (str []), .string (str [])] := hg8
  have hs8 : w7.heap.size ≤ g8 := hs8
  repeat (refine WL_none rfl rfl ?_)
  refine op_store_agg T rfl rfl rfl rfl rfl rfl hg8 (by exact Nat.le_of_ble_eq_true rfl) (fun w9 hc9 _ _ => ?_)
  have hc79 : Chg [] w7 w9 := hc8.trans hc9 (fun k hk hlt => by simp at hk; omega)
  have x9 := x7.keep0 hc79
  have hg9 := hg7.keep0 hc79
  repeat (first | refine W_seq ?_ | refine W_region ?_ | refine Then_n ?_ | refine WL_nil ?_ | refine WL_some rfl rfl rfl ?_ | refine WL_guardT rfl rfl rfl rfl ?_ | refine op_move rfl rfl ?_ | refine op_assign rfl rfl ?_ | refine op_pick rfl rfl rfl rfl ?_ | refine op_eql rfl rfl rfl (fun hc => ?_) (fun hc => False.elim (by omega)) | refine op_fieldAddr T rfl rfl rfl rfl rfl rfl rfl rfl ?_ | refine op_loadB T rfl rfl rfl rfl (by assumption) (by exact rfl) ?_)
  refine op_str_eql (a := [118]) (b := [118]) rfl rfl rfl (fun _ => ?_) (fun h => absurd rfl h)
  repeat (first | refine WL_some rfl rfl rfl ?_ | refine WL_guardT rfl rfl rfl rfl ?_ | refine op_move rfl rfl ?_ | refine op_pick rfl rfl rfl rfl ?_ | refine op_eql rfl rfl rfl (fun hc => ?_) (fun hc => False.elim (by omega)))
  refine op_call rfl rfl rfl (lenS_has x9.seg) ?_
  rintro v10 _ ⟨rfl, hv10⟩
  obtain rfl : v10 = .int .i64 1 := hv10
  repeat (first | refine WL_some rfl rfl rfl ?_ | refine WL_guardT rfl rfl rfl rfl ?_ | refine op_move rfl rfl ?_ | refine op_pick rfl rfl rfl rfl ?_ | refine op_eql rfl rfl rfl (fun hc => ?_) (fun hc => False.elim (by omega)))
  refine op_call rfl rfl rfl (name_has 3 _ (by decide)) ?_
  rintro _ _ ⟨rfl, rfl⟩
  repeat (refine WL_guardT rfl rfl rfl rfl ?_)
  refine op_str_eql (a := rawNm 3) (b := [51, 46, 114, 97, 119]) rfl rfl rfl (fun _ => ?_) (fun h => absurd rfl h)
  repeat (first | refine W_ret ?_ | refine Then_n ?_ | refine WL_nil ?_ | refine WL_some rfl rfl rfl ?_ | refine op_assign rfl rfl ?_ | refine op_pick rfl rfl rfl rfl ?_)
  exact post1 (.inl rfl) rfl rfl ⟨x9.chg, rfl⟩
end Go.Proofs.YtbhnplghnhafiaaDoor.Tryd
