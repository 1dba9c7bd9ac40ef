import Derived.Test.YtbhnplghnhafiaaDoorSeg5
/-! RawNone, walked. -/
set_option linter.unusedVariables false
namespace Go.Proofs.YtbhnplghnhafiaaDoor.Tryd
open Go Go.Vc
set_option maxHeartbeats 4000000 in
theorem rawNone_has (w : World) : Has Go.Proofs.Tryd.prog 4 #[] w (fun v w' => Chg [] w w' ∧ v = .bool true) := by
  refine enter Go.Proofs.Tryd.func4 rfl rfl (by decide) rfl (e := []) trivial ?_
  repeat (first | refine W_seq ?_ | refine W_region ?_ | refine Then_n ?_ | refine WL_nil ?_ | refine WL_some rfl rfl rfl ?_ | refine op_assign rfl rfl ?_)
  refine op_call rfl rfl rfl (newO_has 1000 w) ?_
  rintro _ w1 ⟨g, p1, rfl, x1⟩
  unfold ptrV
  repeat (first | refine W_seq ?_ | refine W_region ?_ | refine Then_n ?_ | refine WL_nil ?_ | refine WL_some rfl rfl rfl ?_ | refine op_move rfl rfl ?_ | refine op_assign rfl rfl ?_)
  refine op_call rfl rfl rfl (createBad_has g w1) ?_
  rintro _ _ ⟨rfl, rfl⟩
  repeat (first | refine W_seq ?_ | refine W_region ?_ | refine Then_n ?_ | refine WL_nil ?_ | refine WL_some rfl rfl rfl ?_ | refine op_move rfl rfl ?_ | refine op_assign rfl rfl ?_ | refine op_extract rfl rfl rfl ?_)
  refine op_call rfl rfl rfl (openNone_has x1 9 (by decide) rfl) ?_
  rintro _ w2 ⟨hc2, rfl⟩
  have x2 := x1.keep0 hc2
  repeat (first | refine W_seq ?_ | refine W_region ?_ | refine Then_n ?_ | refine WL_nil ?_ | refine WL_some rfl rfl rfl ?_ | refine op_move rfl rfl ?_ | refine op_assign rfl rfl ?_ | refine op_extract rfl rfl rfl ?_ | refine op_build T rfl rfl rfl rfl rfl rfl ?_)
  refine op_call rfl rfl rfl (appendNilS_has w2 (recL ⟨1, 1, [107], []⟩) rfl) ?_
  rintro _ w3 ⟨hc3, rfl⟩
  have x3 := x2.keep0 hc3
  repeat (first | refine W_seq ?_ | refine W_region ?_ | refine Then_n ?_ | refine WL_nil ?_ | refine WL_some rfl rfl rfl ?_ | refine op_move rfl rfl ?_ | refine op_assign rfl rfl ?_ | refine op_extract rfl rfl rfl ?_)
  refine op_call rfl rfl rfl (getNil_has w3 0) ?_
  rintro _ w4 ⟨hc4, rfl⟩
  have x4 := x3.keep0 hc4
  repeat (first | refine WL_some rfl rfl rfl ?_ | refine op_move rfl rfl ?_ | refine op_extract rfl rfl rfl ?_)
  refine op_alloc T rfl rfl (fun g5 w5 hs5 hc5 hg5 => ?_)
  have hg5 : Blk w5 g5 33 [.int .i64 0, .int .i64 0, .string (str []), .string (str [])] := hg5
  have hs5 : w4.heap.size ≤ g5 := hs5
  repeat (refine WL_none rfl rfl ?_)
  refine op_store_agg T rfl rfl rfl rfl rfl rfl hg5 (by exact Nat.le_of_ble_eq_true rfl) (fun w6 hc6 hg6 _ => ?_)
  have x6 := x4.keep0 (hc5.trans hc6 (fun k hk hlt => by simp at hk; omega))
  repeat (first | refine W_seq ?_ | refine W_region ?_ | refine Then_n ?_ | refine WL_nil ?_ | refine WL_some rfl rfl rfl ?_ | refine op_assign rfl rfl ?_)
  refine op_call rfl rfl rfl (begun15_has w6) ?_
  rintro _ w7 ⟨hc7, rfl⟩
  have x7 := x6.keep0 hc7
  repeat (first | refine WL_some rfl rfl rfl ?_ | refine WL_guardT rfl rfl rfl rfl ?_ | refine op_move rfl rfl ?_ | refine op_pick rfl rfl rfl rfl ?_ | refine op_eql rfl rfl rfl (fun hc => ?_) (fun hc => False.elim (by omega)))
  refine op_call rfl rfl rfl (syncNilS_has w7) ?_
  rintro _ _ ⟨rfl, rfl⟩
  repeat (first | refine WL_some rfl rfl rfl ?_ | refine WL_guardT rfl rfl rfl rfl ?_ | refine op_move rfl rfl ?_ | refine op_pick rfl rfl rfl rfl ?_ | refine op_eql rfl rfl rfl (fun hc => ?_) (fun hc => False.elim (by omega)))
  refine op_call rfl rfl rfl (sizeNilS_has _) ?_
  rintro _ _ ⟨rfl, rfl⟩
  repeat (first | refine WL_some rfl rfl rfl ?_ | refine WL_guardT rfl rfl rfl rfl ?_ | refine op_move rfl rfl ?_ | refine op_pick rfl rfl rfl rfl ?_ | refine op_eql rfl rfl rfl (fun hc => ?_) (fun hc => False.elim (by omega)))
  refine op_call rfl rfl rfl (lenNilS_has _) ?_
  rintro _ _ ⟨rfl, rfl⟩
  repeat (first | refine W_ret ?_ | refine Then_n ?_ | refine WL_nil ?_ | refine WL_some rfl rfl rfl ?_ | refine WL_guardT rfl rfl rfl rfl ?_ | refine op_assign rfl rfl ?_ | refine op_pick rfl rfl rfl rfl ?_ | refine op_eql rfl rfl rfl (fun hc => ?_) (fun hc => False.elim (by omega)))
  exact post1 (.inl rfl) rfl rfl ⟨x7.chg, rfl⟩
end Go.Proofs.YtbhnplghnhafiaaDoor.Tryd
