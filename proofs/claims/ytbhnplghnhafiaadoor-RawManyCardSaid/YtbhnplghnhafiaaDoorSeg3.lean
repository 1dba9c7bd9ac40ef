import Derived.Test.YtbhnplghnhafiaaDoorSeg2
/-! Segments: records one behind the other, in plain words; no segment; what is out of range. -/
set_option linter.unusedVariables false
namespace Go.Vc
open Go
/-- Records one behind the other. -/
def encs (rs : List RecM) : List UInt8 := rs.flatMap fun r => sealM (bodyM r)
def offs (rs : List RecM) : List Nat := (List.range rs.length).map fun i => (encs (rs.take i)).length
theorem encs_append (a b : List RecM) : encs (a ++ b) = encs a ++ encs b := by simp [encs]
theorem encs_one (r : RecM) : encs [r] = sealM (bodyM r) := by simp [encs]
theorem offs_length (rs : List RecM) : (offs rs).length = rs.length := by simp [offs]
theorem offs_snoc (rs : List RecM) (r : RecM) : offs (rs ++ [r]) = offs rs ++ [(encs rs).length] := by
  unfold offs
  rw [List.length_append, List.length_singleton, List.range_succ, List.map_append, List.map_singleton, List.take_left' rfl]
  congr 1
  apply List.map_congr_left
  intro i hi
  rw [List.mem_range] at hi
  rw [List.take_append_of_le_length (by omega)]
theorem offs_get (rs : List RecM) {i : Nat} (hi : i < rs.length) : (offs rs)[i]? = some (encs (rs.take i)).length := by
  unfold offs
  rw [List.getElem?_map, List.getElem?_range hi]; rfl
theorem offs_next (rs : List RecM) {i : Nat} (hi : i < rs.length) : (offs rs ++ [(encs rs).length])[i + 1]? = some (encs (rs.take (i + 1))).length := by
  by_cases h : i + 1 < rs.length
  · rw [List.getElem?_append_left (by rw [offs_length]; exact h), offs_get rs h]
  · have : i + 1 = rs.length := by omega
    rw [List.getElem?_append_right (by rw [offs_length]; omega), offs_length, this, Nat.sub_self, List.take_length]; rfl
theorem encs_take (rs : List RecM) {i : Nat} {r : RecM} (hi : rs[i]? = some r) : encs (rs.take (i + 1)) = encs (rs.take i) ++ sealM (bodyM r) := by
  rw [List.take_add_one, hi, encs_append]
  simp [encs]
theorem encs_prefix (rs : List RecM) (k : Nat) : encs rs = encs (rs.take k) ++ encs (rs.drop k) := by rw [← encs_append, List.take_append_drop]
theorem encs_cut (rs : List RecM) {i : Nat} {r : RecM} (hi : rs[i]? = some r) (more : List UInt8) : ((encs rs ++ more).take (encs (rs.take (i + 1))).length).drop (encs (rs.take i)).length = sealM (bodyM r) := by
  rw [encs_prefix rs (i + 1), List.append_assoc, List.take_left' rfl, encs_take rs hi, List.drop_left' rfl]
theorem encs_len {rs : List RecM} (h : ∀ r ∈ rs, RecOk r) : (encs rs).length ≤ 4212 * rs.length := by
  induction rs with
  | nil => simp [encs]
  | cons r rs ih =>
    have h1 := bodyM_len (h r (by simp))
    have h2 := ih (fun r hr => h r (by simp [hr]))
    have : encs (r :: rs) = sealM (bodyM r) ++ encs rs := by simp [encs]
    rw [this, List.length_append, sealM_length, List.length_cons]
    omega
theorem encs_mono (rs : List RecM) (i : Nat) : (encs (rs.take i)).length ≤ (encs (rs.take (i + 1))).length := by
  cases h : rs[i]? with
  | none => rw [List.take_add_one, h]; simp
  | some r => rw [encs_take rs h]; simp
/-- A record is read again, where it lies. -/
theorem cellM_encs {rs : List RecM} {i : Nat} {r : RecM} (hi : rs[i]? = some r) (hr : RecOk r) (more : List UInt8) : cellM (encs rs ++ more) (encs (rs.take i)).length (encs (rs.take (i + 1))).length = (r, 0) := by
  have hl : (encs (rs.take (i + 1))).length ≤ (encs rs ++ more).length := by rw [encs_prefix rs (i + 1)]; simp
  have hs := rscanM_enc hr []
  rw [List.append_nil, rscanM_nil] at hs
  unfold cellM
  rw [if_neg (by omega), encs_cut rs hi, hs, if_pos ⟨rfl, by rw [encs_take rs hi]; simp⟩]
  rfl
theorem rscanM_encs {rs : List RecM} (h : ∀ r ∈ rs, RecOk r) : rscanM (encs rs) = (rs, (encs rs).length, true) := by
  induction rs with
  | nil => exact rscanM_nil
  | cons r rs ih =>
    have e : encs (r :: rs) = sealM (bodyM r) ++ encs rs := by simp [encs]
    rw [e, rscanM_enc (h r (by simp)), ih (fun r hr => h r (by simp [hr]))]
    simp
/-! ### Files that have one file -/
def oneFs (room calls : Int) (nm : Nm) (b : List UInt8) (sy : Nat) (las : Dir) (ws : List ChM) : FsM := ⟨room, calls, -1, [⟨b, sy⟩], [(nm, 0)], las, ws⟩
theorem looks_one (nm : Nm) : looks [(nm, 0)] nm = some 0 := by simp [looks]
theorem used_one (room calls : Int) (nm : Nm) (b : List UInt8) (sy : Nat) (las : Dir) (ws : List ChM) : usedM (oneFs room calls nm b sy las ws) = b.length := by simp [usedM, lenOf, oneFs]
theorem min21 : min (2 : Int) 1 = 1 := by decide
theorem create_one (n : Int) (nm : Nm) (hn : mayM nm = true) : createM (newM n) nm = (oneFs (roomM n) 1 nm [] 0 [] [⟨0, nm, [], some 0⟩], 0) := by
  unfold createM newM callM failsM changeM doM oneFs
  simp [hn, looks, ins, min21]
theorem append_one' (room calls : Int) (nm : Nm) (b : List UInt8) (sy : Nat) (las : Dir) (ws : List ChM) (c : List UInt8) : appendM (oneFs room calls nm b sy las ws) nm c = if room - b.length < c.length then (oneFs room (calls + 1) nm b sy las ws, 4) else (oneFs room (calls + 1) nm (b ++ c) sy las ws, 0) := by
  have hu : usedM (callM (oneFs room calls nm b sy las ws)) = b.length := used_one room (calls + 1) nm b sy las ws
  unfold appendM
  dsimp only
  rw [hu]
  simp [failsM, oneFs, callM, looks, min21]
theorem sync_one (room calls : Int) (nm : Nm) (b : List UInt8) (sy : Nat) (las : Dir) (ws : List ChM) : syncM (oneFs room calls nm b sy las ws) nm = (oneFs room (calls + 1) nm b b.length las ws, 0) := by
  simp [syncM, failsM, oneFs, callM, looks, min21]
theorem syncDir_one (room calls : Int) (nm : Nm) (b : List UInt8) (sy : Nat) (las : Dir) (ws : List ChM) : syncDirM (oneFs room calls nm b sy las ws) = (oneFs room (calls + 1) nm b sy [(nm, 0)] [], 0) := by
  simp [syncDirM, failsM, oneFs, callM, min21]
theorem read_one (room calls : Int) (nm : Nm) (b : List UInt8) (sy : Nat) (las : Dir) (ws : List ChM) : readM (oneFs room calls nm b sy las ws) nm = some b := by
  simp [readM, oneFs, looks]
theorem may_raw {n : Nat} (hn : n < 10) : mayM (rawNm n) = true := by
  revert n
  decide
end Go.Vc
namespace Go.Proofs.YtbhnplghnhafiaaDoor.Tryd
open Go Go.Vc
theorem zero_rec : (recL zeroR) = [.int .i64 0, .int .i64 0, .string (str []), .string (str [])] := rfl
/-- Get of what there is not. -/
theorem getBad_has {w : World} {gs g : Nat} {nm : Nm} {ats : List Nat} {en : Nat} {u : Value} (x : SegB w gs g nm ats en u) (i : Int) (hi : i < 0 ∨ (ats.length : Int) ≤ i) :
    Has Go.Proofs.Tryd.prog 14 #[.pointer (some ⟨gs, 0, none⟩), .int .i64 i] w (fun v w' => Chg [] w w' ∧ v = .tuple #[.agg (recL zeroR).toArray, .int .i64 7]) := by
  refine enter Go.Proofs.Tryd.func14 rfl rfl (by decide) rfl (e := [(0, .pointer (some ⟨gs, 0, none⟩)), (1, .int .i64 i)]) ⟨rfl, rfl, trivial⟩ ?_
  obtain ⟨A, c, rfl, _, _⟩ := x.own.form
  repeat (first | refine W_seq ?_ | refine W_region ?_ | refine WL_some rfl rfl rfl ?_)
  refine op_alloc T rfl rfl (fun g4 w1 hs1 hc1 hg4 => ?_)
  have hg4 : Blk w1 g4 33 [.int .i64 0, .int .i64 0, .string (str []), .string (str [])] := hg4
  have hbk := (x.keep0 hc1).blk
  by_cases h0 : i < 0
  · repeat (first | refine W_seq ?_ | refine W_block ?_ | refine W_region ?_ | refine Then_n ?_ | refine WL_nil ?_ | refine W_condT rfl ?_ | refine W_condF rfl ?_ | refine WL_some rfl rfl rfl ?_ | refine WL_none rfl rfl ?_ | refine WL_guardF rfl rfl rfl rfl rfl ?_ | refine op_move rfl rfl ?_ | refine op_assign rfl rfl ?_ | refine op_pick rfl rfl rfl rfl ?_ | refine op_lss rfl rfl rfl (fun hc => ?_) (fun hc => False.elim (by omega)) | refine op_eql_nilptr T rfl rfl rfl rfl rfl ?_ | refine op_build T rfl rfl rfl rfl rfl rfl ?_)
    refine op_store_agg T rfl rfl rfl rfl rfl rfl hg4 (by exact Nat.le_of_ble_eq_true rfl) (fun w4 hc4 hb4 _ => ?_)
    repeat (first | refine W_ret ?_ | refine Then_n ?_ | refine Then_r ?_ | refine InBlock_r ?_ | refine WL_nil ?_ | refine WL_some rfl rfl rfl ?_ | refine op_assign rfl rfl ?_)
    exact post2c T (.inl rfl) rfl rfl rfl rfl rfl hb4 rfl ⟨hc1.trans hc4 (fun k hk hlt => by simp at hk; omega), rfl⟩
  · repeat (first | refine W_seq ?_ | refine W_block ?_ | refine W_region ?_ | refine Then_n ?_ | refine WL_nil ?_ | refine W_condT rfl ?_ | refine W_condF rfl ?_ | refine WL_some rfl rfl rfl ?_ | refine WL_none rfl rfl ?_ | refine WL_guardT rfl rfl rfl rfl ?_ | refine op_move rfl rfl ?_ | refine op_assign rfl rfl ?_ | refine op_pick rfl rfl rfl rfl ?_ | refine op_len_slice T rfl rfl rfl rfl ?_ | refine op_nilCheck rfl rfl ?_ | refine op_lss rfl rfl rfl (fun hc => False.elim (by omega)) (fun hc => ?_) | refine op_geq rfl rfl rfl (fun hc => ?_) (fun hc => False.elim (by omega)) | refine op_fieldAddr T rfl rfl rfl rfl rfl rfl rfl rfl ?_ | refine op_eql_nilptr T rfl rfl rfl rfl rfl ?_ | refine op_build T rfl rfl rfl rfl rfl rfl ?_ | refine op_loadB T rfl rfl rfl rfl (by assumption) (by exact rfl) ?_)
    refine op_store_agg T rfl rfl rfl rfl rfl rfl hg4 (by exact Nat.le_of_ble_eq_true rfl) (fun w4 hc4 hb4 _ => ?_)
    repeat (first | refine W_ret ?_ | refine Then_n ?_ | refine Then_r ?_ | refine InBlock_r ?_ | refine WL_nil ?_ | refine WL_some rfl rfl rfl ?_ | refine op_assign rfl rfl ?_)
    exact post2c T (.inl rfl) rfl rfl rfl rfl rfl hb4 rfl ⟨hc1.trans hc4 (fun k hk hlt => by simp at hk; omega), rfl⟩
theorem getNil_has (w : World) (i : Int) :
    Has Go.Proofs.Tryd.prog 14 #[.pointer none, .int .i64 i] w (fun v w' => Chg [] w w' ∧ v = .tuple #[.agg (recL zeroR).toArray, .int .i64 9]) := by
  refine enter Go.Proofs.Tryd.func14 rfl rfl (by decide) rfl (e := [(0, .pointer none), (1, .int .i64 i)]) ⟨rfl, rfl, trivial⟩ ?_
  repeat (first | refine W_seq ?_ | refine W_region ?_ | refine WL_some rfl rfl rfl ?_)
  refine op_alloc T rfl rfl (fun g4 w1 hs1 hc1 hg4 => ?_)
  have hg4 : Blk w1 g4 33 [.int .i64 0, .int .i64 0, .string (str []), .string (str [])] := hg4
  repeat (first | refine W_seq ?_ | refine W_block ?_ | refine W_region ?_ | refine Then_n ?_ | refine WL_nil ?_ | refine W_condT rfl ?_ | refine WL_some rfl rfl rfl ?_ | refine WL_none rfl rfl ?_ | refine op_move rfl rfl ?_ | refine op_assign rfl rfl ?_ | refine op_eql_nilptr T rfl rfl rfl rfl rfl ?_ | refine op_build T rfl rfl rfl rfl rfl rfl ?_)
  refine op_store_agg T rfl rfl rfl rfl rfl rfl hg4 (by exact Nat.le_of_ble_eq_true rfl) (fun w4 hc4 hb4 _ => ?_)
  repeat (first | refine W_ret ?_ | refine Then_n ?_ | refine Then_r ?_ | refine InBlock_r ?_ | refine WL_nil ?_ | refine WL_some rfl rfl rfl ?_ | refine op_assign rfl rfl ?_)
  exact post2c T (.inl rfl) rfl rfl rfl rfl rfl hb4 rfl ⟨hc1.trans hc4 (fun k hk hlt => by simp at hk; omega), rfl⟩
theorem appendNilS_has (w : World) (cs : List Value) (hcs : cs.length = 4) :
    Has Go.Proofs.Tryd.prog 10 #[.pointer none, .agg cs.toArray] w (fun v w' => Chg [] w w' ∧ v = .tuple #[.int .i64 (-1), .int .i64 9]) := by
  refine enter Go.Proofs.Tryd.func10 rfl rfl (by decide) rfl (e := [(0, .pointer none), (1, .agg cs.toArray)]) ⟨rfl, rfl, trivial⟩ ?_
  repeat (first | refine W_seq ?_ | refine W_region ?_ | refine WL_some rfl rfl rfl ?_)
  refine op_box rfl rfl (fun gr w1 hs1 hc1 hg1 => ?_)
  repeat (first | refine W_seq ?_ | refine W_region ?_ | refine W_ret ?_ | refine Then_n ?_ | refine Then_r ?_ | refine WL_nil ?_ | refine W_condT rfl ?_ | refine WL_some rfl rfl rfl ?_ | refine op_move rfl rfl ?_ | refine op_assign rfl rfl ?_ | refine op_eql_nilptr T rfl rfl rfl rfl rfl ?_)
  exact post2 (.inl rfl) rfl rfl rfl ⟨hc1, rfl⟩
theorem syncNilS_has (w : World) : Has Go.Proofs.Tryd.prog 16 #[.pointer none] w (fun v w' => w' = w ∧ v = .int .i64 9) := by
  refine enter Go.Proofs.Tryd.func16 rfl rfl (by decide) rfl (e := [(0, .pointer none)]) ⟨rfl, trivial⟩ ?_
  repeat (first | refine W_seq ?_ | refine W_region ?_ | refine W_ret ?_ | refine Then_n ?_ | refine Then_r ?_ | refine WL_nil ?_ | refine W_condT rfl ?_ | refine WL_some rfl rfl rfl ?_ | refine op_move rfl rfl ?_ | refine op_assign rfl rfl ?_ | refine op_eql_nilptr T rfl rfl rfl rfl rfl ?_)
  exact post1 (.inl rfl) rfl rfl ⟨rfl, rfl⟩
theorem sizeNilS_has (w : World) : Has Go.Proofs.Tryd.prog 17 #[.pointer none] w (fun v w' => w' = w ∧ v = .int .i64 0) := by
  refine enter Go.Proofs.Tryd.func17 rfl rfl (by decide) rfl (e := [(0, .pointer none)]) ⟨rfl, trivial⟩ ?_
  repeat (first | refine W_seq ?_ | refine W_region ?_ | refine W_ret ?_ | refine Then_n ?_ | refine Then_r ?_ | refine WL_nil ?_ | refine W_condT rfl ?_ | refine WL_some rfl rfl rfl ?_ | refine op_move rfl rfl ?_ | refine op_assign rfl rfl ?_ | refine op_eql_nilptr T rfl rfl rfl rfl rfl ?_)
  exact post1 (.inl rfl) rfl rfl ⟨rfl, rfl⟩
theorem lenNilS_has (w : World) : Has Go.Proofs.Tryd.prog 11 #[.pointer none] w (fun v w' => w' = w ∧ v = .int .i64 0) := by
  refine enter Go.Proofs.Tryd.func11 rfl rfl (by decide) rfl (e := [(0, .pointer none)]) ⟨rfl, trivial⟩ ?_
  repeat (first | refine W_seq ?_ | refine W_region ?_ | refine W_ret ?_ | refine Then_n ?_ | refine Then_r ?_ | refine WL_nil ?_ | refine W_condT rfl ?_ | refine WL_some rfl rfl rfl ?_ | refine op_move rfl rfl ?_ | refine op_assign rfl rfl ?_ | refine op_eql_nilptr T rfl rfl rfl rfl rfl ?_)
  exact post1 (.inl rfl) rfl rfl ⟨rfl, rfl⟩
end Go.Proofs.YtbhnplghnhafiaaDoor.Tryd
