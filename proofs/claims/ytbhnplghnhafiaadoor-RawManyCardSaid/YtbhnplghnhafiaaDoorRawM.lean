import Derived.Test.YtbhnplghnhafiaaDoorSeg5
import Derived.Test.YtbhnplghnhafiaaDoorRawF
/-! RawMany, walked. -/
set_option linter.unusedVariables false
namespace Go.Vc
open Go
theorem crash_one (room calls : Int) (nm : Nm) (b : List UInt8) : crashM (oneFs room calls nm b b.length [(nm, 0)] []) 0 [] = oneFs room 0 nm b b.length [(nm, 0)] [] := by
  simp [crashM, crashDir, crashFiles, cutM, tailOf, oneFs]
theorem fullRs_get (size : Nat) {n i : Nat} (hi : i < n) : (fullRs size n)[i]? = some (fullR size i) := by
  unfold fullRs
  rw [List.getElem?_map, List.getElem?_range hi]; rfl
end Go.Vc
namespace Go.Proofs.YtbhnplghnhafiaaDoor.Tryd
open Go Go.Vc
set_option maxHeartbeats 8000000 in
theorem rawMany_has (nn size : Int) (w : World) (hr0 : -9223372036854775808 ≤ nn ∧ nn ≤ 9223372036854775807) (hs0 : -9223372036854775808 ≤ size ∧ size ≤ 9223372036854775807) :
    Has Go.Proofs.Tryd.prog 6 #[.int .i64 nn, .int .i64 size] w (fun v w' => Chg [] w w' ∧ v = .bool true) := by
  refine enter Go.Proofs.Tryd.func6 rfl rfl (by decide) rfl (e := [(0, .int .i64 nn), (1, .int .i64 size)]) ⟨rfl, rfl, trivial⟩ ?_
  repeat (first | refine W_seq ?_ | refine W_region ?_ | refine Then_n ?_ | refine WL_nil ?_ | refine WL_some rfl rfl rfl ?_ | refine op_assign rfl rfl ?_)
  refine op_call rfl rfl rfl (begun15_has w) ?_
  rintro _ w1 ⟨hc1, rfl⟩
  by_cases hin : 0 ≤ nn ∧ nn ≤ 80 ∧ 0 ≤ size ∧ size ≤ 200
  rotate_left
  · have hcases : nn < 0 ∨ (0 ≤ nn ∧ 80 < nn) ∨ (0 ≤ nn ∧ nn ≤ 80 ∧ size < 0) ∨ (0 ≤ nn ∧ nn ≤ 80 ∧ 0 ≤ size ∧ 200 < size) := by omega
    rcases hcases with h | ⟨h, h2⟩ | ⟨h, h2, h3⟩ | ⟨h, h2, h3, h4⟩ <;>
    · repeat (first | refine W_seq ?_ | refine W_region ?_ | refine W_skip ?_ | refine W_ret ?_ | refine Then_n ?_ | refine Then_r ?_ | refine WL_nil ?_ | refine W_condT rfl ?_ | refine W_condF rfl ?_ | refine WL_some rfl rfl rfl ?_ | refine WL_guardT rfl rfl rfl rfl ?_ | refine WL_guardF rfl rfl rfl rfl rfl ?_ | refine op_move rfl rfl ?_ | refine op_assign rfl rfl ?_ | refine op_pick rfl rfl rfl rfl ?_ | refine op_notT rfl rfl ?_ | refine op_lss rfl rfl rfl (fun hc => ?_) (fun hc => False.elim (by omega)) | refine op_lss rfl rfl rfl (fun hc => False.elim (by omega)) (fun hc => ?_) | refine op_gtr rfl rfl rfl (fun hc => ?_) (fun hc => False.elim (by omega)) | refine op_gtr rfl rfl rfl (fun hc => False.elim (by omega)) (fun hc => ?_))
      exact post1 (.inl rfl) rfl rfl ⟨hc1, rfl⟩
  obtain ⟨hr1, hr2, hs1, hs2⟩ := hin
  obtain ⟨S, rfl⟩ : ∃ S : Nat, size = S := ⟨size.toNat, by omega⟩
  obtain ⟨N, rfl⟩ : ∃ N : Nat, nn = N := ⟨nn.toNat, by omega⟩
  have hS : S ≤ 200 := by omega
  have hN : N ≤ 80 := by omega
  have hcr := create_one 1048576 (rawNm 9) (may_raw (by decide))
  repeat (first | refine W_seq ?_ | refine W_region ?_ | refine W_skip ?_ | refine Then_n ?_ | refine WL_nil ?_ | refine W_condF rfl ?_ | refine WL_some rfl rfl rfl ?_ | refine WL_guardT rfl rfl rfl rfl ?_ | refine op_move rfl rfl ?_ | refine op_assign rfl rfl ?_ | refine op_pick rfl rfl rfl rfl ?_ | refine op_notT rfl rfl ?_ | refine op_lss rfl rfl rfl (fun hc => False.elim (by omega)) (fun hc => ?_) | refine op_gtr rfl rfl rfl (fun hc => False.elim (by omega)) (fun hc => ?_))
  refine op_call rfl rfl rfl (newO_has 1048576 w1) ?_
  rintro _ w2 ⟨g, p2, rfl, x2⟩
  unfold ptrV
  repeat (first | refine W_seq ?_ | refine W_region ?_ | refine Then_n ?_ | refine WL_nil ?_ | refine WL_some rfl rfl rfl ?_ | refine op_move rfl rfl ?_ | refine op_assign rfl rfl ?_)
  refine op_call rfl rfl rfl (createS_has x2 9 (by decide) (by decide) (by show (0 : Int) < _; decide) (by rw [hcr])) ?_
  rintro v3 w3 ⟨gs, p3, u3, hv3, x3⟩
  rw [hcr] at x3
  dsimp only at x3
  obtain rfl : v3 = .tuple #[.pointer (some ⟨gs, 0, none⟩), .int .i64 0] := hv3
  have x3 := x3.base hc1
  have x3 : SegO w w3 gs g (oneFs 1048576 1 (rawNm 9) [] 0 [] w9) p3 (rawNm 9) [] 0 u3 := x3
  clear x2
  repeat (first | refine W_seq ?_ | refine W_block ?_ | refine W_region ?_ | refine W_skip ?_ | refine Then_n ?_ | refine WL_nil ?_ | refine W_condF rfl ?_ | refine WL_some rfl rfl rfl ?_ | refine op_move rfl rfl ?_ | refine op_assign rfl rfl ?_ | refine op_extract rfl rfl rfl ?_ | refine op_neq rfl rfl rfl (fun hc => False.elim (by omega)) (fun hc => ?_))
  refine W_loop (σ := Nat) (fun n => [(0, .int .i64 (N : Int)), (1, .int .i64 (S : Int)), (6, .pointer (some ⟨g, 0, none⟩)), (7, .pointer (some ⟨gs, 0, none⟩)), (9, .int .i64 (n : Int))])
    (fun n w' => n ≤ N ∧ ∃ p u, SegO w w' gs g (oneFs 1048576 (1 + n) (rawNm 9) (encs (fullRs S n)) 0 [] w9) p (rawNm 9) (offs (fullRs S n)) (encs (fullRs S n)).length u)
    (fun n => N - n) 0 ⟨rfl, rfl, rfl, rfl, rfl, trivial⟩ ⟨by omega, p3, u3, x3⟩ ?_
  rintro n w4 ⟨hn, p4, u4, x4⟩
  have hel := encs_len (fullRs_ok hS (show n ≤ 1000 by omega))
  rw [fullRs_length] at hel
  have hoffl : (offs (fullRs S n)).length = n := by rw [offs_length, fullRs_length]
  repeat (first | refine W_seq ?_ | refine W_region ?_ | refine WL_some rfl rfl rfl ?_ | refine op_move rfl rfl ?_)
  (refine op_lss rfl rfl rfl (fun hc => ?_) (fun hc => ?_))
  · have hn2 : n < N := by omega
    have hok := fullR_ok hS (show n < 1000 by omega)
    repeat (first | refine W_seq ?_ | refine W_block ?_ | refine W_region ?_ | refine W_skip ?_ | refine Then_n ?_ | refine WL_nil ?_ | refine W_condT rfl ?_ | refine WL_some rfl rfl rfl ?_ | refine op_move rfl rfl ?_ | refine op_add rfl rfl rfl (wrap_i64_in (by omega) (by omega)) ?_)
    refine op_make T rfl rfl rfl rfl rfl (by omega) (by omega) (by show (1 : Int) * _ ≤ _; omega) (by omega) (fun gd w5 hs5 hc5 hg5 => ?_)
    rw [made_u8'] at hg5
    have hsl : SliceOf Ru8 w5 (.slice (some ⟨gd, 0, none⟩) (((S : Nat) : Int).toNat) (((S : Nat) : Int).toNat)) (List.replicate S 0) := SliceOf.of_blk hg5 (by simp) (Nat.le_refl _) (by unfold maxLen; omega) (fun i y hy => ⟨_, u8s_get hy, rfl⟩)
    have x5 := x4.keep0 hc5
    repeat (refine WL_some rfl rfl rfl ?_)
    refine op_string T rfl rfl rfl rfl rfl hsl ?_
    repeat (first | refine WL_some rfl rfl rfl ?_ | refine op_build T rfl rfl rfl rfl rfl rfl ?_)
    have hbl := bodyM_len hok
    have hsl2 := sealM_length (bodyM (fullR S n))
    have hcall := appendS_has x5 (fullR S n) hok (by show (1 : Int) + n < _; omega) (by omega) (by omega)
    rw [append_one', if_neg (by omega)] at hcall
    refine op_call rfl rfl rfl hcall ?_
    rintro v6 w6 ⟨_, h6⟩
    obtain ⟨rfl, p6, u6, x6⟩ := h6 rfl
    dsimp only at x6
    rw [hoffl]
    repeat (first | refine W_seq ?_ | refine W_region ?_ | refine W_skip ?_ | refine Then_n ?_ | refine InBlock_n ?_ | refine WL_nil ?_ | refine W_condF rfl ?_ | refine WL_some rfl rfl rfl ?_ | refine WL_guardT rfl rfl rfl rfl ?_ | refine op_move rfl rfl ?_ | refine op_assign rfl rfl ?_ | refine op_pick rfl rfl rfl rfl ?_ | refine op_add rfl rfl rfl (wrap_i64_in (by omega) (by omega)) ?_ | refine op_extract rfl rfl rfl ?_ | refine op_neq rfl rfl rfl (fun hc => False.elim (by omega)) (fun hc => ?_))
    refine Round_n (n + 1) ⟨rfl, rfl, rfl, rfl, rfl, trivial⟩ ⟨by omega, p6, u6, ?_⟩ (by omega)
    rw [fullRs_succ, encs_append, encs_one, List.length_append, offs_snoc, show (1 : Int) + ((n + 1 : Nat) : Int) = 1 + n + 1 from by omega]
    exact x6
  obtain rfl : n = N := by omega
  clear hr1 hr2 x3 hn
  have hrs := fullRs_ok hS (show n ≤ 1000 by omega)
  have hrl := fullRs_length S n
  generalize hRs : fullRs S n = rs at *
  repeat (first | refine W_seq ?_ | refine W_region ?_ | refine W_exit ?_ | refine Then_n ?_ | refine Then_x ?_ | refine InBlock_hit ?_ | refine Round_x ?_ | refine WL_nil ?_ | refine W_condF rfl ?_ | refine WL_some rfl rfl rfl ?_ | refine op_move rfl rfl ?_)
  refine op_call rfl rfl rfl (syncDir_has g _ p4 w4 x4.fs.at_ (by show (1 : Int) + n < _; omega)) ?_
  intro v5 w5 hd5
  rw [syncDir_one] at hd5
  obtain ⟨rfl, _, p5, x5⟩ := x4.step hd5
  dsimp only at x5
  have hcall := syncS_has x5 (by show (1 : Int) + n + 1 < _; omega)
  rw [sync_one] at hcall
  repeat (first | refine W_seq ?_ | refine W_region ?_ | refine Then_n ?_ | refine WL_nil ?_ | refine WL_some rfl rfl rfl ?_ | refine op_move rfl rfl ?_)
  refine op_call rfl rfl rfl hcall ?_
  rintro _ w6 ⟨rfl, p6, x6⟩
  dsimp only at x6
  have hcall := crashO_has x6.fs 0 (SliceOf.nil Ri64 w6) (by show (1 : Int) + n + 1 + 1 < _; omega)
  rw [crash_one] at hcall
  repeat (first | refine W_seq ?_ | refine W_region ?_ | refine W_skip ?_ | refine Then_n ?_ | refine WL_nil ?_ | refine W_condF rfl ?_ | refine WL_some rfl rfl rfl ?_ | refine op_move rfl rfl ?_ | refine op_neq rfl rfl rfl (fun hc => False.elim (by omega)) (fun hc => ?_))
  refine op_call rfl rfl rfl hcall ?_
  rintro _ w7 ⟨_, hc7, gc, pc, rfl, y7⟩
  have x7 := x6.keep0 hc7
  unfold ptrV
  repeat (refine WL_some rfl rfl rfl ?_)
  refine op_call rfl rfl rfl (openS_has y7 9 (by decide) rs hrs (by omega) (read_one _ _ _ _ _ _ _)) ?_
  rintro v8 w8 ⟨hc8, gt, ut, hv8, y8⟩
  obtain rfl : v8 = .tuple #[.pointer (some ⟨gt, 0, none⟩), .int .i64 0] := hv8
  have x8 := x7.keep0 hc8
  repeat (first | refine W_seq ?_ | refine W_region ?_ | refine Then_n ?_ | refine WL_nil ?_ | refine WL_some rfl rfl rfl ?_ | refine WL_guardT rfl rfl rfl rfl ?_ | refine op_move rfl rfl ?_ | refine op_assign rfl rfl ?_ | refine op_extract rfl rfl rfl ?_ | refine op_neq rfl rfl rfl (fun hc => False.elim (by omega)) (fun hc => ?_))
  refine op_call rfl rfl rfl (lenS_has y8.seg) ?_
  rintro _ w8 ⟨rfl, rfl⟩
  rw [hoffl]
  repeat (first | refine WL_some rfl rfl rfl ?_ | refine WL_guardT rfl rfl rfl rfl ?_ | refine op_move rfl rfl ?_ | refine op_pick rfl rfl rfl rfl ?_ | refine op_neq rfl rfl rfl (fun hc => False.elim (by omega)) (fun hc => ?_))
  refine op_call rfl rfl rfl (sizeS_has y8.seg) ?_
  rintro _ w8 ⟨rfl, rfl⟩
  repeat (first | refine WL_guardT rfl rfl rfl rfl ?_ | refine op_move rfl rfl ?_)
  refine op_call rfl rfl rfl (sizeS_has x8.seg) ?_
  rintro _ w8 ⟨rfl, rfl⟩
  repeat (first | refine W_seq ?_ | refine W_block ?_ | refine W_region ?_ | refine W_skip ?_ | refine Then_n ?_ | refine WL_nil ?_ | refine W_condF rfl ?_ | refine WL_some rfl rfl rfl ?_ | refine WL_guardT rfl rfl rfl rfl ?_ | refine op_assign rfl rfl ?_ | refine op_pick rfl rfl rfl rfl ?_ | refine op_neq rfl rfl rfl (fun hc => False.elim (by omega)) (fun hc => ?_))
  refine W_loop (σ := Nat) (fun i => [(0, .int .i64 (n : Int)), (1, .int .i64 (S : Int)), (7, .pointer (some ⟨gs, 0, none⟩)), (12, .pointer (some ⟨gt, 0, none⟩)), (13, .int .i64 (i : Int))])
    (fun i w' => i ≤ n ∧ Chg [] w8 w') (fun i => n - i) 0 ⟨rfl, rfl, rfl, rfl, rfl, trivial⟩ ⟨by omega, Chg.refl _ _⟩ ?_
  rintro i w9' ⟨hi, hc9⟩
  have x9 := x8.keep0 hc9
  have y9 := y8.keep0 hc9
  repeat (first | refine W_seq ?_ | refine W_region ?_ | refine WL_some rfl rfl rfl ?_ | refine op_move rfl rfl ?_)
  (refine op_lss rfl rfl rfl (fun hc => ?_) (fun hc => ?_))
  · have hi2 : i < n := by omega
    have hget : rs[i]? = some (fullR S i) := by rw [← hRs]; exact fullRs_get S hi2
    have hok := fullR_ok hS (show i < 1000 by omega)
    have hcell := cellM_encs hget hok []
    rw [List.append_nil] at hcell
    have h1 := getS_has x9 (encs rs) (read_one _ _ _ _ _ _ _) (by omega) i _ _ (offs_get rs (by omega)) (offs_next rs (by omega)) (encs_mono _ _) (by omega)
    rw [hcell] at h1
    repeat (first | refine W_seq ?_ | refine W_block ?_ | refine W_region ?_ | refine W_skip ?_ | refine Then_n ?_ | refine WL_nil ?_ | refine W_condT rfl ?_ | refine WL_some rfl rfl rfl ?_ | refine op_move rfl rfl ?_)
    refine op_call rfl rfl rfl h1 ?_
    rintro v10 w10 ⟨hc10, hv10⟩
    obtain rfl : v10 = .tuple #[.agg (recL (fullR S i)).toArray, .int .i64 0] := hv10
    repeat (first | refine WL_some rfl rfl rfl ?_ | refine op_move rfl rfl ?_ | refine op_extract rfl rfl rfl ?_)
    refine op_alloc T rfl rfl (fun g11 w11 hs11 hc11 hg11 => ?_)
    have hg11 : Blk w11 g11 33 [.int .i64 0, .int .i64 0, .string (str []), .string (str [])] := hg11
    have hs11 : w10.heap.size ≤ g11 := hs11
    repeat (refine WL_none rfl rfl ?_)
    refine op_store_agg T rfl rfl rfl rfl rfl rfl hg11 (by exact Nat.le_of_ble_eq_true rfl) (fun w12 hc12 hg12 _ => ?_)
    have hg12 : Blk w12 g11 33 [.int .i64 1, .int .i64 ((i : Int) + 1), .string (str [107]), .string (str (List.replicate S 0))] := hg12
    have hc1012 : Chg [] w10 w12 := hc11.trans hc12 (fun k hk hlt => by simp at hk; omega)
    have hc912 := hc10.trans' hc1012
    have y12 := y9.keep0 hc912
    have h2 := getS_has y12 (encs rs) (read_one _ _ _ _ _ _ _) (by omega) i _ _ (offs_get rs (by omega)) (offs_next rs (by omega)) (encs_mono _ _) (by omega)
    rw [hcell] at h2
    repeat (first | refine W_seq ?_ | refine W_region ?_ | refine Then_n ?_ | refine WL_nil ?_ | refine WL_some rfl rfl rfl ?_ | refine op_move rfl rfl ?_ | refine op_assign rfl rfl ?_)
    refine op_call rfl rfl rfl h2 ?_
    rintro v13 w13 ⟨hc13, hv13⟩
    obtain rfl : v13 = .tuple #[.agg (recL (fullR S i)).toArray, .int .i64 0] := hv13
    have hg13 := hg12.keep0 hc13
    repeat (first | refine WL_some rfl rfl rfl ?_ | refine op_move rfl rfl ?_ | refine op_extract rfl rfl rfl ?_)
    refine op_alloc T rfl rfl (fun g14 w14 hs14 hc14 hg14 => ?_)
    have hg14 : Blk w14 g14 33 [.int .i64 0, .int .i64 0, .string (str []), .string (str [])] := hg14
    have hs14 : w13.heap.size ≤ g14 := hs14
    repeat (refine WL_none rfl rfl ?_)
    refine op_store_agg T rfl rfl rfl rfl rfl rfl hg14 (by exact Nat.le_of_ble_eq_true rfl) (fun w15 hc15 hg15 _ => ?_)
    have hg15 : Blk w15 g14 33 [.int .i64 1, .int .i64 ((i : Int) + 1), .string (str [107]), .string (str (List.replicate S 0))] := hg15
    have hc1315 : Chg [] w13 w15 := hc14.trans hc15 (fun k hk hlt => by simp at hk; omega)
    have hg115 := hg13.keep0 hc1315
    have hrep : (List.replicate S (0 : UInt8)).length = S := List.length_replicate
    repeat (first | refine W_seq ?_ | refine W_region ?_ | refine W_skip ?_ | refine Then_n ?_ | refine InBlock_n ?_ | refine WL_nil ?_ | refine W_condF rfl ?_ | refine WL_some rfl rfl rfl ?_ | refine WL_guardT rfl rfl rfl rfl ?_ | refine op_len_str T rfl rfl rfl rfl ?_ | refine op_move rfl rfl ?_ | refine op_assign rfl rfl ?_ | refine op_pick rfl rfl rfl rfl ?_ | refine op_add rfl rfl rfl (wrap_i64_in (by omega) (by omega)) ?_ | refine op_neq rfl rfl rfl (fun hc => False.elim (by omega)) (fun hc => ?_) | refine op_fieldAddr T rfl rfl rfl rfl rfl rfl rfl rfl ?_ | refine op_loadB T rfl rfl rfl rfl (by assumption) (by exact rfl) ?_)
    exact Round_n (i + 1) ⟨rfl, rfl, rfl, rfl, rfl, trivial⟩ ⟨by omega, ((hc9.trans' hc912).trans' hc13).trans' hc1315⟩ (by omega)
  · repeat (first | refine W_seq ?_ | refine W_region ?_ | refine W_exit ?_ | refine W_ret ?_ | refine Then_n ?_ | refine Then_x ?_ | refine InBlock_hit ?_ | refine Round_x ?_ | refine WL_nil ?_ | refine W_condF rfl ?_ | refine WL_some rfl rfl rfl ?_ | refine op_assign rfl rfl ?_)
    exact post1 (.inl rfl) rfl rfl ⟨x9.chg, rfl⟩
end Go.Proofs.YtbhnplghnhafiaaDoor.Tryd
