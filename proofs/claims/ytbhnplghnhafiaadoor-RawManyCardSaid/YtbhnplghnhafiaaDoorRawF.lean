import Derived.Test.YtbhnplghnhafiaaDoorSeg4
/-! RawFull, walked. -/
set_option linter.unusedVariables false
namespace Go.Vc
open Go
def fullR (size i : Nat) : RecM := ⟨1, (i : Int) + 1, [107], List.replicate size 0⟩
theorem fullR_ok {size i : Nat} (hs : size ≤ 200) (hi : i < 1000) : RecOk (fullR size i) := ⟨by simp [fullR], by simp [fullR], by simp [fullR]; omega, .inl rfl, by simp [fullR]; omega, by simp [fullR]; omega⟩
def fullRs (size n : Nat) : List RecM := (List.range n).map (fullR size)
theorem fullRs_succ (size n : Nat) : fullRs size (n + 1) = fullRs size n ++ [fullR size n] := by simp [fullRs, List.range_succ]
theorem fullRs_length (size n : Nat) : (fullRs size n).length = n := by simp [fullRs]
theorem fullRs_ok {size n : Nat} (hs : size ≤ 200) (hn : n ≤ 1000) : ∀ r ∈ fullRs size n, RecOk r := by
  intro r hr
  simp only [fullRs, List.mem_map, List.mem_range] at hr
  obtain ⟨i, hi, rfl⟩ := hr
  exact fullR_ok hs (by omega)
theorem made_one' (v : Value) (n : Nat) : (madeCells #[v] n).toList = List.replicate n v := by
  apply List.ext_getElem?
  intro i
  by_cases h : i < n
  · simp [madeCells, h, Nat.mod_one]
  · simp [madeCells, h]
theorem made_u8' (n : Nat) : (madeCells (Value.int .u8 0).cells (((n : Nat) : Int).toNat * 1)).toList = u8s (List.replicate n 0) := by
  rw [show (Value.int .u8 0).cells = #[Value.int .u8 0] from rfl, made_one']; simp [u8s]
def delR : RecM := ⟨0, 500, [107], []⟩
theorem delR_ok : RecOk delR := ⟨by decide, by decide, by decide, .inr ⟨rfl, rfl⟩, by decide, by decide⟩
end Go.Vc
namespace Go.Proofs.YtbhnplghnhafiaaDoor.Tryd
open Go Go.Vc
theorem SegO.fsTurn {w0 w w' : World} {gs g : Nat} {s s' : FsM} {p : FsP} {nm : Nm} {ats : List Nat} {en : Nat} {u : Value} (x : SegO w0 w gs g s p nm ats en u) (hc : Chg (p.fp g) w w') (hx : FsAt w' g s' p) : SegO w0 w' gs g s' p nm ats en u :=
  ⟨⟨x.fs.chgFp hc, hx, x.fs.fresh⟩, x.seg.keep hc x.out1 x.out2, x.out1, x.out2, x.fr1, x.fr2⟩
def w9 : List ChM := [⟨0, rawNm 9, [], some 0⟩]
set_option maxHeartbeats 8000000 in
theorem rawFull_has (room size : Int) (w : World) (hr0 : -9223372036854775808 ≤ room ∧ room ≤ 9223372036854775807) (hs0 : -9223372036854775808 ≤ size ∧ size ≤ 9223372036854775807) :
    Has Go.Proofs.Tryd.prog 3 #[.int .i64 room, .int .i64 size] w (fun v w' => Chg [] w w' ∧ v = .bool true) := by
  refine enter Go.Proofs.Tryd.func3 rfl rfl (by decide) rfl (e := [(0, .int .i64 room), (1, .int .i64 size)]) ⟨rfl, rfl, trivial⟩ ?_
  repeat (first | refine W_seq ?_ | refine W_region ?_ | refine Then_n ?_ | refine WL_nil ?_ | refine WL_some rfl rfl rfl ?_ | refine op_assign rfl rfl ?_)
  refine op_call rfl rfl rfl (begun15_has w) ?_
  rintro _ w1 ⟨hc1, rfl⟩
  by_cases hin : 0 ≤ room ∧ room ≤ 2000 ∧ 0 ≤ size ∧ size ≤ 200
  rotate_left
  · have hcases : room < 0 ∨ (0 ≤ room ∧ 2000 < room) ∨ (0 ≤ room ∧ room ≤ 2000 ∧ size < 0) ∨ (0 ≤ room ∧ room ≤ 2000 ∧ 0 ≤ size ∧ 200 < size) := by omega
    rcases hcases with h | ⟨h, h2⟩ | ⟨h, h2, h3⟩ | ⟨h, h2, h3, h4⟩ <;>
    · repeat (first | refine W_seq ?_ | refine W_region ?_ | refine W_skip ?_ | refine W_ret ?_ | refine Then_n ?_ | refine Then_r ?_ | refine WL_nil ?_ | refine W_condT rfl ?_ | refine W_condF rfl ?_ | refine WL_some rfl rfl rfl ?_ | refine WL_guardT rfl rfl rfl rfl ?_ | refine WL_guardF rfl rfl rfl rfl rfl ?_ | refine op_move rfl rfl ?_ | refine op_assign rfl rfl ?_ | refine op_pick rfl rfl rfl rfl ?_ | refine op_notT rfl rfl ?_ | refine op_lss rfl rfl rfl (fun hc => ?_) (fun hc => False.elim (by omega)) | refine op_lss rfl rfl rfl (fun hc => False.elim (by omega)) (fun hc => ?_) | refine op_gtr rfl rfl rfl (fun hc => ?_) (fun hc => False.elim (by omega)) | refine op_gtr rfl rfl rfl (fun hc => False.elim (by omega)) (fun hc => ?_))
      exact post1 (.inl rfl) rfl rfl ⟨hc1, rfl⟩
  obtain ⟨hr1, hr2, hs1, hs2⟩ := hin
  obtain ⟨S, rfl⟩ : ∃ S : Nat, size = S := ⟨size.toNat, by omega⟩
  have hS : S ≤ 200 := by omega
  have hrm : roomM room = room := by unfold roomM; omega
  have hcr := create_one room (rawNm 9) (may_raw (by decide))
  rw [hrm] at hcr
  repeat (first | refine W_seq ?_ | refine W_region ?_ | refine W_skip ?_ | refine Then_n ?_ | refine WL_nil ?_ | refine W_condF rfl ?_ | refine WL_some rfl rfl rfl ?_ | refine WL_guardT rfl rfl rfl rfl ?_ | refine op_move rfl rfl ?_ | refine op_assign rfl rfl ?_ | refine op_pick rfl rfl rfl rfl ?_ | refine op_notT rfl rfl ?_ | refine op_lss rfl rfl rfl (fun hc => False.elim (by omega)) (fun hc => ?_) | refine op_gtr rfl rfl rfl (fun hc => False.elim (by omega)) (fun hc => ?_))
  refine op_call rfl rfl rfl (newO_has room w1) ?_
  rintro _ w2 ⟨g, p2, rfl, x2⟩
  unfold ptrV
  repeat (first | refine W_seq ?_ | refine W_region ?_ | refine Then_n ?_ | refine WL_nil ?_ | refine WL_some rfl rfl rfl ?_ | refine op_move rfl rfl ?_ | refine op_assign rfl rfl ?_)
  refine op_call rfl rfl rfl (createS_has x2 9 (by decide) (by decide) (by show (0 : Int) < _; decide) (by rw [hcr])) ?_
  rintro v3 w3 ⟨gs, p3, u3, hv3, x3⟩
  rw [hcr] at x3
  dsimp only at x3
  obtain rfl : v3 = .tuple #[.pointer (some ⟨gs, 0, none⟩), .int .i64 0] := hv3
  have x3 := x3.base hc1
  have x3 : SegO w w3 gs g (oneFs room 1 (rawNm 9) [] 0 [] w9) p3 (rawNm 9) [] 0 u3 := x3
  clear x2
  repeat (first | refine W_seq ?_ | refine W_region ?_ | refine W_skip ?_ | refine Then_n ?_ | refine WL_nil ?_ | refine W_condF rfl ?_ | refine WL_some rfl rfl rfl ?_ | refine op_move rfl rfl ?_ | refine op_assign rfl rfl ?_ | refine op_extract rfl rfl rfl ?_ | refine op_neq rfl rfl rfl (fun hc => False.elim (by omega)) (fun hc => ?_))
  refine W_meet (σ := Nat × Int) (fun q => [(0, .int .i64 room), (1, .int .i64 (S : Int)), (6, .pointer (some ⟨g, 0, none⟩)), (7, .pointer (some ⟨gs, 0, none⟩)), (9, .int .i64 (q.1 : Int))])
    (fun q w' => q.1 ≤ 200 ∧ (1 : Int) ≤ q.2 ∧ q.2 ≤ 300 ∧ ((encs (fullRs S q.1)).length : Int) ≤ room ∧ ∃ p u, SegO w w' gs g (oneFs room q.2 (rawNm 9) (encs (fullRs S q.1)) 0 [] w9) p (rawNm 9) (offs (fullRs S q.1)) (encs (fullRs S q.1)).length u) ?_ ?_
  · refine W_block ?_
    refine W_loop (σ := Nat) (fun n => [(0, .int .i64 room), (1, .int .i64 (S : Int)), (6, .pointer (some ⟨g, 0, none⟩)), (7, .pointer (some ⟨gs, 0, none⟩)), (9, .int .i64 (n : Int))])
      (fun n w' => n ≤ 200 ∧ ((encs (fullRs S n)).length : Int) ≤ room ∧ ∃ p u, SegO w w' gs g (oneFs room (1 + n) (rawNm 9) (encs (fullRs S n)) 0 [] w9) p (rawNm 9) (offs (fullRs S n)) (encs (fullRs S n)).length u)
      (fun n => 200 - n) 0 ⟨rfl, rfl, rfl, rfl, rfl, trivial⟩ ⟨by omega, by simpa [encs, fullRs] using hr1, p3, u3, x3⟩ ?_
    rintro n w4 ⟨hn, hen, p4, u4, x4⟩
    repeat (first | refine W_seq ?_ | refine W_region ?_ | refine WL_some rfl rfl rfl ?_ | refine op_move rfl rfl ?_)
    (refine op_lss rfl rfl rfl (fun hc => ?_) (fun hc => ?_))
    · have hn2 : n < 200 := by omega
      have hok := fullR_ok hS (show n < 1000 by omega)
      have hoffl : (offs (fullRs S n)).length = n := by rw [offs_length, fullRs_length]
      repeat (first | refine W_seq ?_ | refine W_block ?_ | refine W_region ?_ | refine W_skip ?_ | refine Then_n ?_ | refine WL_nil ?_ | refine W_condT rfl ?_ | refine WL_some rfl rfl rfl ?_ | refine op_move rfl rfl ?_ | refine op_add rfl rfl rfl (wrap_i64_in (by omega) (by omega)) ?_)
      refine op_make T rfl rfl rfl rfl rfl (by omega) (by omega) (by show (1 : Int) * _ ≤ _; omega) (by omega) (fun gd w5 hs5 hc5 hg5 => ?_)
      rw [made_u8'] at hg5
      have hsl : SliceOf Ru8 w5 (.slice (some ⟨gd, 0, none⟩) (((S : Nat) : Int).toNat) (((S : Nat) : Int).toNat)) (List.replicate S 0) := SliceOf.of_blk hg5 (by simp) (Nat.le_refl _) (by unfold maxLen; omega) (fun i y hy => ⟨_, u8s_get hy, rfl⟩)
      have x5 := x4.keep0 hc5
      repeat (refine WL_some rfl rfl rfl ?_)
      refine op_string T rfl rfl rfl rfl rfl hsl ?_
      repeat (first | refine WL_some rfl rfl rfl ?_ | refine op_build T rfl rfl rfl rfl rfl rfl ?_)
      have hcall := appendS_has x5 (fullR S n) hok (by show (1 : Int) + n < _; omega) (by omega) (by omega)
      rw [append_one'] at hcall
      by_cases hfull : room - (encs (fullRs S n)).length < (sealM (bodyM (fullR S n))).length
      · rw [if_pos hfull] at hcall
        refine op_call rfl rfl rfl hcall ?_
        rintro v6 w6 ⟨h6, _⟩
        obtain ⟨rfl, p6, x6⟩ := h6 (by simp)
        dsimp only at x6
        repeat (first | refine W_seq ?_ | refine W_region ?_ | refine W_skip ?_ | refine W_exit ?_ | refine Then_n ?_ | refine Then_x ?_ | refine InBlock_hit ?_ | refine InBlock_miss rfl ?_ | refine Round_x ?_ | refine WL_nil ?_ | refine W_condT rfl ?_ | refine W_condF rfl ?_ | refine WL_some rfl rfl rfl ?_ | refine WL_guardT rfl rfl rfl rfl ?_ | refine op_move rfl rfl ?_ | refine op_assign rfl rfl ?_ | refine op_pick rfl rfl rfl rfl ?_ | refine op_extract rfl rfl rfl ?_ | refine op_neq rfl rfl rfl (fun hc => ?_) (fun hc => False.elim (by omega)) | refine op_neq rfl rfl rfl (fun hc => False.elim (by omega)) (fun hc => ?_))
        exact Meet_n (n, 1 + (n : Int) + 1) ⟨rfl, rfl, rfl, rfl, rfl, trivial⟩ ⟨by dsimp only; omega, by dsimp only; omega, by dsimp only; omega, hen, p6, u4, x6⟩
      · rw [if_neg hfull] at hcall
        refine op_call rfl rfl rfl hcall ?_
        rintro v6 w6 ⟨_, h6⟩
        obtain ⟨rfl, p6, u6, x6⟩ := h6 rfl
        dsimp only at x6
        repeat (first | refine W_seq ?_ | refine W_region ?_ | refine W_skip ?_ | refine Then_n ?_ | refine InBlock_n ?_ | refine WL_nil ?_ | refine W_condF rfl ?_ | refine WL_some rfl rfl rfl ?_ | refine op_move rfl rfl ?_ | refine op_assign rfl rfl ?_ | refine op_add rfl rfl rfl (wrap_i64_in (by omega) (by omega)) ?_ | refine op_extract rfl rfl rfl ?_ | refine op_neq rfl rfl rfl (fun hc => False.elim (by omega)) (fun hc => ?_))
        refine Round_n (n + 1) ⟨rfl, rfl, rfl, rfl, rfl, trivial⟩ ⟨by omega, ?_, p6, u6, ?_⟩ (by omega)
        · rw [fullRs_succ, encs_append, encs_one, List.length_append]; omega
        · rw [fullRs_succ, encs_append, encs_one, List.length_append, offs_snoc, show (1 : Int) + ((n + 1 : Nat) : Int) = 1 + n + 1 from by omega]
          exact x6
    · obtain rfl : n = 200 := by omega
      repeat (first | refine W_exit ?_ | refine Then_n ?_ | refine Then_x ?_ | refine InBlock_hit ?_ | refine Round_x ?_ | refine WL_nil ?_ | refine W_condF rfl ?_)
      exact Meet_n (200, 1 + 200) ⟨rfl, rfl, rfl, rfl, rfl, trivial⟩ ⟨by decide, by decide, by decide, hen, p4, u4, x4⟩
  rintro ⟨n, cl⟩ w4 ⟨hn, hcl, hcl2, hen, p4, u4, x4⟩
  dsimp only at hn hcl hcl2 hen x4 ⊢
  have hoffl : (offs (fullRs S n)).length = n := by rw [offs_length, fullRs_length]
  repeat (first | refine W_seq ?_ | refine W_region ?_ | refine Then_n ?_ | refine WL_some rfl rfl rfl ?_ | refine op_move rfl rfl ?_)
  refine op_call rfl rfl rfl (lenS_has x4.seg) ?_
  rintro _ _ ⟨rfl, rfl⟩
  rw [hoffl]
  repeat (first | refine WL_some rfl rfl rfl ?_ | refine WL_guardT rfl rfl rfl rfl ?_ | refine op_move rfl rfl ?_ | refine op_neq rfl rfl rfl (fun hc => False.elim (by omega)) (fun hc => ?_))
  refine op_call rfl rfl rfl (used_has g _ _ _ x4.fs.at_) ?_
  rintro _ w5 ⟨hc5, rfl⟩
  rw [used_one]
  have x5 := x4.keep0 hc5
  repeat (first | refine W_seq ?_ | refine W_region ?_ | refine W_skip ?_ | refine Then_n ?_ | refine WL_nil ?_ | refine W_condF rfl ?_ | refine WL_some rfl rfl rfl ?_ | refine WL_guardT rfl rfl rfl rfl ?_ | refine op_move rfl rfl ?_ | refine op_pick rfl rfl rfl rfl ?_ | refine op_gtr rfl rfl rfl (fun hc => False.elim (by omega)) (fun hc => ?_))
  refine op_call rfl rfl rfl (roomF_has g _ _ 1048576 _ x5.fs.at_) ?_
  rintro _ w6 ⟨hc6, hx6⟩
  have x6 : SegO w w6 gs g (oneFs 1048576 cl (rawNm 9) (encs (fullRs S n)) 0 [] w9) p4 (rawNm 9) (offs (fullRs S n)) (encs (fullRs S n)).length u4 := x5.fsTurn (chg_self hc6) hx6
  have hdl := sealM_length (bodyM delR)
  have hdb := bodyM_len delR_ok
  have hcall := appendS_has x6 delR delR_ok (by show cl < _; omega) (by omega) (by omega)
  rw [append_one', if_neg (by omega)] at hcall
  repeat (first | refine W_seq ?_ | refine W_region ?_ | refine Then_n ?_ | refine WL_nil ?_ | refine WL_some rfl rfl rfl ?_ | refine op_move rfl rfl ?_ | refine op_build T rfl rfl rfl rfl rfl rfl ?_)
  refine op_call rfl rfl rfl hcall ?_
  rintro v7 w7 ⟨_, h7⟩
  obtain ⟨rfl, p7, u7, x7⟩ := h7 rfl
  dsimp only at x7
  rw [hoffl]
  rw [← encs_one delR, ← encs_append] at x7
  rw [← offs_snoc, ← List.length_append, ← encs_append] at x7
  repeat (first | refine W_seq ?_ | refine W_region ?_ | refine W_skip ?_ | refine Then_n ?_ | refine WL_nil ?_ | refine W_condF rfl ?_ | refine WL_some rfl rfl rfl ?_ | refine WL_guardT rfl rfl rfl rfl ?_ | refine op_move rfl rfl ?_ | refine op_assign rfl rfl ?_ | refine op_pick rfl rfl rfl rfl ?_ | refine op_extract rfl rfl rfl ?_ | refine op_neq rfl rfl rfl (fun hc => False.elim (by omega)) (fun hc => ?_))
  have hlast : (fullRs S n ++ [delR])[n]? = some delR := by rw [List.getElem?_append_right (by rw [fullRs_length]; exact Nat.le_refl _), fullRs_length, Nat.sub_self]; rfl
  have hln : n < (fullRs S n ++ [delR]).length := by simp [fullRs_length]
  have htot : (encs (fullRs S n ++ [delR])).length ≤ 10000 := by rw [encs_append, encs_one, List.length_append]; omega
  have hget := getS_has x7 (encs (fullRs S n ++ [delR])) (read_one _ _ _ _ _ _ _) (by omega) n _ _ (offs_get _ hln) (offs_next _ hln) (encs_mono _ _) (by rw [offs_length]; simp [fullRs_length]; omega)
  have hcell := cellM_encs hlast delR_ok []
  rw [List.append_nil] at hcell
  rw [hcell] at hget
  refine op_call rfl rfl rfl hget ?_
  rintro v8 w8 ⟨hc8, hv8⟩
  obtain rfl : v8 = .tuple #[.agg (recL delR).toArray, .int .i64 0] := hv8
  have x8 := x7.keep0 hc8
  repeat (first | refine WL_some rfl rfl rfl ?_ | refine op_move rfl rfl ?_ | refine op_extract rfl rfl rfl ?_)
  refine op_alloc T rfl rfl (fun g9 w9' hs9 hc9 hg9 => ?_)
  have hg9 : Blk w9' g9 33 [.int .i64 0, .int .i64 0, .string (str []), .string (str [])] := hg9
  have hs9 : w8.heap.size ≤ g9 := hs9
  repeat (refine WL_none rfl rfl ?_)
  refine op_store_agg T rfl rfl rfl rfl rfl rfl hg9 (by exact Nat.le_of_ble_eq_true rfl) (fun w10 hc10 hg10 _ => ?_)
  have hg10 : Blk w10 g9 33 [.int .i64 0, .int .i64 500, .string (str [107]), .string (str [])] := hg10
  have x10 := x8.keep0 (hc9.trans hc10 (fun k hk hlt => by simp at hk; omega))
  repeat (first | refine W_seq ?_ | refine W_region ?_ | refine W_ret ?_ | refine Then_n ?_ | refine WL_nil ?_ | refine WL_some rfl rfl rfl ?_ | refine WL_guardT rfl rfl rfl rfl ?_ | refine op_move rfl rfl ?_ | refine op_assign rfl rfl ?_ | refine op_pick rfl rfl rfl rfl ?_ | refine op_eql rfl rfl rfl (fun hc => ?_) (fun hc => False.elim (by omega)) | refine op_fieldAddr T rfl rfl rfl rfl rfl rfl rfl rfl ?_ | refine op_loadB T rfl rfl rfl rfl (by assumption) (by exact rfl) ?_)
  exact post1 (.inl rfl) rfl rfl ⟨x10.chg, rfl⟩
end Go.Proofs.YtbhnplghnhafiaaDoor.Tryd
