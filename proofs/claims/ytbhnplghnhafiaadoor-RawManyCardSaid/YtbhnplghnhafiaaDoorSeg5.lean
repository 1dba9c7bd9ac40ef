import Derived.Test.YtbhnplghnhafiaaDoorSeg4
/-! Segments: Open of what there is not, and of whole records. -/
set_option linter.unusedVariables false
namespace Go.Vc
open Go
theorem flat_get {α β : Type} {f : α → List β} {k : Nat} (hf : ∀ x, (f x).length = k) : ∀ (l : List α) {i j : Nat} {x : α}, l[i]? = some x → j < k → (l.flatMap f)[i * k + j]? = (f x)[j]?
  | [], i, j, x, h, _ => by simp at h
  | a :: l, 0, j, x, h, hj => by
    simp at h
    subst h
    rw [List.flatMap_cons, Nat.zero_mul, Nat.zero_add, List.getElem?_append_left (by rw [hf]; exact hj)]
  | a :: l, i + 1, j, x, h, hj => by
    rw [List.flatMap_cons, List.getElem?_append_right (by rw [hf, Nat.succ_mul]; omega), hf, show (i + 1) * k + j - k = i * k + j from by rw [Nat.succ_mul]; omega]
    exact flat_get hf l (by simpa using h) hj
end Go.Vc
namespace Go.Proofs.YtbhnplghnhafiaaDoor.Tryd
open Go Go.Vc
theorem createBad_has (g : Nat) (w : World) : Has Go.Proofs.Tryd.prog 9 #[ptrV g, .int .i64 0] w (fun v w' => w' = w ∧ v = .tuple #[.pointer none, .int .i64 7]) := by
  refine enter Go.Proofs.Tryd.func9 rfl rfl (by decide) rfl (e := [(0, ptrV g), (1, .int .i64 0)]) ⟨rfl, rfl, trivial⟩ ?_
  unfold ptrV
  repeat (first | refine W_seq ?_ | refine W_region ?_ | refine W_ret ?_ | refine Then_n ?_ | refine Then_r ?_ | refine WL_nil ?_ | refine W_condT rfl ?_ | refine WL_some rfl rfl rfl ?_ | refine WL_guardF rfl rfl rfl rfl rfl ?_ | refine op_move rfl rfl ?_ | refine op_assign rfl rfl ?_ | refine op_pick rfl rfl rfl rfl ?_ | refine op_lss rfl rfl rfl (fun hc => ?_) (fun hc => False.elim (by omega)))
  exact post2 (.inl rfl) rfl rfl rfl ⟨rfl, rfl⟩
theorem openNone_has {w0 w : World} {g : Nat} {s : FsM} {p : FsP} (x : FsO w0 w g s p) (n : Nat) (hn : n < 10) (hread : readM s (rawNm n) = none) :
    Has Go.Proofs.Tryd.prog 15 #[ptrV g, .int .i64 (n : Int)] w (fun v w' => Chg [] w w' ∧ v = .tuple #[.pointer none, .int .i64 3]) := by
  refine enter Go.Proofs.Tryd.func15 rfl rfl (by decide) rfl (e := [(0, ptrV g), (1, .int .i64 (n : Int))]) ⟨rfl, rfl, trivial⟩ ?_
  unfold ptrV
  repeat (first | refine W_seq ?_ | refine W_region ?_ | refine Then_n ?_ | refine WL_nil ?_ | refine WL_some rfl rfl rfl ?_ | refine op_move rfl rfl ?_ | refine op_assign rfl rfl ?_)
  refine op_call rfl rfl rfl (name_has n w hn) ?_
  rintro _ _ ⟨rfl, rfl⟩
  repeat (refine WL_some rfl rfl rfl ?_)
  refine op_call rfl rfl rfl (readO_has x (rawNm n)) ?_
  rintro v1 w1 ⟨x1, hc1, h1⟩
  rw [hread] at h1
  obtain rfl : v1 = .tuple #[.slice none 0 0, .int .i64 3] := h1
  repeat (first | refine W_seq ?_ | refine W_region ?_ | refine W_ret ?_ | refine Then_n ?_ | refine Then_r ?_ | refine WL_nil ?_ | refine W_condT rfl ?_ | refine WL_some rfl rfl rfl ?_ | refine op_move rfl rfl ?_ | refine op_assign rfl rfl ?_ | refine op_extract rfl rfl rfl ?_ | refine op_neq rfl rfl rfl (fun hc => ?_) (fun hc => False.elim (by omega)))
  exact post2 (.inl rfl) rfl rfl rfl ⟨hc1, rfl⟩
set_option maxHeartbeats 2000000 in
/-- Open of a file of whole records. -/
theorem openS_has {w0 w : World} {g : Nat} {s : FsM} {p : FsP} (x : FsO w0 w g s p) (n : Nat) (hn : n < 10) (rs : List RecM) (hrs : ∀ r ∈ rs, RecOk r) (hlen : rs.length ≤ 1000) (hread : readM s (rawNm n) = some (encs rs)) :
    Has Go.Proofs.Tryd.prog 15 #[ptrV g, .int .i64 (n : Int)] w (fun v w' => Chg [] w w' ∧ ∃ gs u, v = .tuple #[ptrV gs, .int .i64 0] ∧ SegO w0 w' gs g s p (rawNm n) (offs rs) (encs rs).length u) := by
  refine enter Go.Proofs.Tryd.func15 rfl rfl (by decide) rfl (e := [(0, ptrV g), (1, .int .i64 (n : Int))]) ⟨rfl, rfl, trivial⟩ ?_
  have hel := encs_len hrs
  unfold ptrV
  repeat (first | refine W_seq ?_ | refine W_region ?_ | refine Then_n ?_ | refine WL_nil ?_ | refine WL_some rfl rfl rfl ?_ | refine op_move rfl rfl ?_ | refine op_assign rfl rfl ?_)
  refine op_call rfl rfl rfl (name_has n w hn) ?_
  rintro _ w ⟨rfl, rfl⟩
  repeat (refine WL_some rfl rfl rfl ?_)
  refine op_call rfl rfl rfl (readO_has x (rawNm n)) ?_
  rintro v1 w1 ⟨x1, hc1, h1⟩
  rw [hread] at h1
  obtain ⟨ub, rfl, hob, hfb⟩ : ∃ u, v1 = .tuple #[u, .int .i64 0] ∧ Own w1 5 1 u (encs rs).length (u8s (encs rs)) ∧ ∀ h, u.ownBlock = some h → _ ≤ h := h1
  have hsb := hob.bytes
  obtain ⟨Ab, cb, rfl, _, _⟩ := hob.form
  repeat (first | refine W_seq ?_ | refine W_region ?_ | refine W_skip ?_ | refine Then_n ?_ | refine WL_nil ?_ | refine W_condF rfl ?_ | refine WL_some rfl rfl rfl ?_ | refine op_move rfl rfl ?_ | refine op_assign rfl rfl ?_ | refine op_extract rfl rfl rfl ?_ | refine op_neq rfl rfl rfl (fun hc => False.elim (by omega)) (fun hc => ?_))
  refine op_call rfl rfl rfl (rscan_has Ab _ cb _ w1 hsb (by omega)) ?_
  rintro _ w2 ⟨ul, rfl, hc2, hol, hfl⟩
  rw [rscanM_encs hrs]
  rw [rscanM_encs hrs] at hol
  dsimp only at hol ⊢
  have x2 := x1.keep0 hc2
  obtain ⟨Al, cl, rfl, _, _⟩ := hol.form
  repeat (first | refine W_seq ?_ | refine W_region ?_ | refine W_skip ?_ | refine Then_n ?_ | refine WL_nil ?_ | refine W_condF rfl ?_ | refine WL_some rfl rfl rfl ?_ | refine op_move rfl rfl ?_ | refine op_assign rfl rfl ?_ | refine op_len_slice T rfl rfl rfl rfl ?_ | refine op_notT rfl rfl ?_ | refine op_extract rfl rfl rfl ?_ | refine op_lss rfl rfl rfl (fun hc => False.elim (by omega)) (fun hc => ?_))
  refine op_call rfl rfl rfl (name_has n w2 hn) ?_
  rintro _ w2 ⟨rfl, rfl⟩
  repeat (first | refine WL_some rfl rfl rfl ?_ | refine op_build T rfl rfl rfl rfl rfl rfl ?_)
  refine op_box rfl rfl (fun gs w3 hs3 hc3 hg3 => ?_)
  have hg3 : Blk w3 gs 60 [ptrV g, .string (str (rawNm n)), .slice none 0 0, .int .i64 0] := hg3
  have hge : _ ≤ gs := hs3
  have x3 := x2.keep0 hc3
  have hol3 := hol.keep0 hc3
  have xs3 : SegO w0 w3 gs g s p (rawNm n) [] 0 (.slice none 0 0) := ⟨x3, ⟨hg3, Own.nil _ _ _⟩, fun hm => by have := x2.at_.lt gs hm; omega, fun k hk => by simp [Value.ownBlock] at hk, by have := x2.chg.size; omega, fun k hk => by simp [Value.ownBlock] at hk⟩
  have hc13 : Chg [] w w3 := (hc1.trans' hc2).trans' hc3
  repeat (first | refine W_seq ?_ | refine W_block ?_ | refine W_region ?_ | refine Then_n ?_ | refine WL_nil ?_ | refine WL_some rfl rfl rfl ?_ | refine op_move rfl rfl ?_ | refine op_assign rfl rfl ?_ | refine op_len_slice T rfl rfl rfl rfl ?_)
  refine W_loop (σ := Nat) (fun k => [(12, .pointer (some ⟨gs, 0, none⟩)), (57, .slice Al rs.length cl), (58, .int .i64 (rs.length : Nat)), (59, .int .i64 (k : Int))])
    (fun k w' => k ≤ rs.length ∧ Chg [] w w' ∧ Own w' 33 4 (.slice Al rs.length cl) rs.length (rs.flatMap recL) ∧ ∃ u, SegO w0 w' gs g s p (rawNm n) (offs (rs.take k)) (encs (rs.take k)).length u ∧ ∀ h, u.ownBlock = some h → w.heap.size ≤ h)
    (fun k => rs.length - k) 0 ⟨rfl, rfl, rfl, rfl, trivial⟩ ⟨by omega, hc13, hol3, .slice none 0 0, by simpa [offs, encs] using xs3, fun h hh => by simp [Value.ownBlock] at hh⟩ ?_
  rintro k w4 ⟨hk, hc4, ho4, u4, x4, hu4⟩
  repeat (first | refine W_seq ?_ | refine W_region ?_ | refine WL_some rfl rfl rfl ?_)
  (refine op_lss rfl rfl rfl (fun hc => ?_) (fun hc => ?_))
  · have hkl : k < rs.length := by omega
    have hr : rs[k]? = some rs[k] := List.getElem?_eq_getElem hkl
    have hok := hrs _ (List.getElem_mem hkl)
    have htake := encs_take rs hr
    have hoff : offs (rs.take (k + 1)) = offs (rs.take k) ++ [(encs (rs.take k)).length] := by rw [List.take_add_one, hr]; exact offs_snoc _ _
    have hmono : (encs (rs.take (k + 1))).length ≤ (encs rs).length := by rw [encs_prefix rs (k + 1)]; simp
    have hofl : (offs (rs.take k)).length ≤ 1000 := by rw [offs_length, List.length_take]; omega
    obtain ⟨gl, hgl, hcells⟩ : ∃ gl, Al = some ⟨gl, 0, none⟩ ∧ ∀ j v, (recL rs[k])[j]? = some v → w4.cell? ((⟨gl, 0, none⟩ : Addr).add (k * 4 + j)) = some v := by
      have hcell : ∀ j v, (recL rs[k])[j]? = some v → (rs.flatMap recL)[k * 4 + j]? = some v := fun j v hj => by
        have hj4 : j < 4 := by have := (List.getElem?_eq_some_iff.1 hj).1; simpa [recL] using this
        have := flat_get (f := recL) (k := 4) (fun r => rfl) rs hr hj4
        rw [this]; exact hj
      obtain ⟨g0, h1, ⟨c', h2⟩, _⟩ := ho4.cell (hcell 0 _ rfl)
      injection h2 with h2
      refine ⟨g0, h2, fun j v hj => ?_⟩
      obtain ⟨g1, h3, _, h5⟩ := ho4.cell (hcell j v hj)
      rw [h1] at h3
      injection h3 with h3
      subst h3
      rw [add_plain]; exact h5
    subst hgl
    generalize rs[k] = r at *
    repeat (first | refine W_seq ?_ | refine W_block ?_ | refine W_region ?_ | refine W_skip ?_ | refine Then_n ?_ | refine WL_nil ?_ | refine W_condT rfl ?_ | refine WL_some rfl rfl rfl ?_)
    refine op_index_slice T rfl rfl rfl rfl rfl (by omega) (by omega) (p := (⟨gl, 0, none⟩ : Addr).add (k * 4)) (by rw [Int.toNat_natCast]) ?_
    repeat (refine WL_some rfl rfl rfl ?_)
    refine op_load_cells (cs := recL r) T rfl rfl rfl rfl rfl (fun j v hj => by rw [add_of_add]; exact hcells j v hj) ?_
    repeat (refine WL_some rfl rfl rfl ?_)
    refine op_alloc T rfl rfl (fun g5 w5 hs5 hc5 hg5 => ?_)
    have hg5 : Blk w5 g5 33 [.int .i64 0, .int .i64 0, .string (str []), .string (str [])] := hg5
    have hs5 : w4.heap.size ≤ g5 := hs5
    repeat (refine WL_none rfl rfl ?_)
    refine op_store_agg T rfl rfl rfl rfl rfl rfl hg5 (by exact Nat.le_of_ble_eq_true rfl) (fun w6 hc6 hg6 _ => ?_)
    have hg6 : Blk w6 g5 33 (recL r) := hg6
    have hc46 : Chg [] w4 w6 := hc5.trans hc6 (fun k hk hlt => by simp at hk; omega)
    repeat (first | refine W_seq ?_ | refine W_region ?_ | refine Then_n ?_ | refine WL_nil ?_ | refine WL_some rfl rfl rfl ?_ | refine op_load_agg T rfl rfl rfl rfl (by assumption) (by exact Nat.le_of_ble_eq_true rfl) (by exact rfl) ?_)
    refine op_call rfl rfl rfl (encode_has r w6) ?_
    rintro _ w7 ⟨ue, rfl, me⟩
    have henc : encM r = (sealM (bodyM r), 0) := by unfold encM; rw [if_neg (by simp [checkM_ok.2 hok])]
    rw [henc] at me
    rw [henc]
    dsimp only at me
    obtain ⟨Ae, ce, rfl, _, _⟩ := me.form
    have hc47 := hc46.trans' me.chg
    have x7 := x4.keep0 hc47
    have ho7 := ho4.keep0 hc47
    repeat (first | refine W_region ?_ | refine Then_n ?_ | refine WL_nil ?_ | refine WL_some rfl rfl rfl ?_ | refine op_move rfl rfl ?_ | refine op_assign rfl rfl ?_ | refine op_len_slice T rfl rfl rfl rfl ?_ | refine op_extract rfl rfl rfl ?_)
    refine op_call rfl rfl rfl (addS_has x7.seg (sealM (bodyM r)).length (by omega) (by rw [htake, List.length_append] at hmono; omega)) ?_
    rintro v8 w8 ⟨hc8, u8, hs8, hb8⟩
    have x8 := x7.turn hc8 hs8 hb8
    rw [← hoff, ← List.length_append, ← htake] at x8
    have ho8 := ho7.keep hc8 (fun h hh hm => by
      obtain ⟨cur, hrow⟩ := ho7.row hh
      rcases List.mem_cons.1 hm with rfl | hm
      · exact hrow.ne_ x7.seg.blk (by decide) rfl
      · obtain ⟨cur2, hrow2⟩ := x7.seg.own.row (show u4.ownBlock = some h by simpa using hm)
        exact hrow.ne_ hrow2 (by decide) rfl)
    have hgw : w.heap.size ≤ gs := by have := hc1.size; have := hc2.size; omega
    have hc08 : Chg [] w w8 := (hc4.trans' hc47).trans hc8 (fun k hk hlt => by
      rcases List.mem_cons.1 hk with rfl | hk
      · omega
      · have := hu4 k (by simpa using hk); omega)
    repeat (first | refine W_region ?_ | refine Then_n ?_ | refine InBlock_n ?_ | refine WL_nil ?_ | refine WL_some rfl rfl rfl ?_ | refine op_move rfl rfl ?_ | refine op_add rfl rfl rfl (wrap_i64_in (by omega) (by omega)) ?_)
    refine Round_n (k + 1) ⟨rfl, rfl, rfl, rfl, trivial⟩ ⟨by omega, hc08, ho8, u8, x8, fun h hh => ?_⟩ (by omega)
    rcases hb8 with hb | ⟨h', hb, hge'⟩
    · exact hu4 h (by rw [← hb]; exact hh)
    · rw [hb] at hh; injection hh with hh; have := hc4.size; have := hc47.size; omega
  · obtain rfl : k = rs.length := by omega
    rw [List.take_length] at x4
    repeat (first | refine W_seq ?_ | refine W_region ?_ | refine W_exit ?_ | refine W_ret ?_ | refine Then_n ?_ | refine Then_x ?_ | refine InBlock_hit ?_ | refine Round_x ?_ | refine WL_nil ?_ | refine W_condF rfl ?_ | refine WL_some rfl rfl rfl ?_ | refine op_move rfl rfl ?_ | refine op_assign rfl rfl ?_)
    exact post2 (.inl rfl) rfl rfl rfl ⟨hc4, gs, u4, rfl, x4⟩
end Go.Proofs.YtbhnplghnhafiaaDoor.Tryd
