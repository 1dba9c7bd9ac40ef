import Derived.Test.YtbhnplghnhafiaaDoorRec4
import Derived.Test.YtbhnplghnhafiaaDoorVcSliceK
/-! Records, one behind the other. -/
set_option linter.unusedVariables false
namespace Go.Vc
open Go
theorem recGo_nth {seals : List (List UInt8)} {k at_ : Nat} {cut : Bool} {s : List UInt8} (h : seals[k]? = some s) : recGo (seals.drop k) at_ cut = if decOk s = true then (decR s :: (recGo (seals.drop (k + 1)) (at_ + (sealM s).length) cut).1, (recGo (seals.drop (k + 1)) (at_ + (sealM s).length) cut).2) else ([], at_, false) := by
  have hi := (List.getElem?_eq_some_iff.1 h).1
  rw [List.drop_eq_getElem_cons hi]
  have : seals[k] = s := (List.getElem?_eq_some_iff.1 h).2
  rw [this, recGo]
end Go.Vc
namespace Go.Proofs.YtbhnplghnhafiaaDoor.Tryd
open Go Go.Vc
theorem recL_one (r : RecM) : ∀ u ∈ recL r, u.oneCell' = true := by
  intro u hu
  simp [recL] at hu
  rcases hu with rfl | rfl | rfl | rfl <;> rfl
set_option maxHeartbeats 4000000 in
theorem rscan_has (A : Option Addr) (n c : Nat) (b : List UInt8) (w : World) (hl : SliceOf Ru8 w (.slice A n c) b) (hb : b.length ≤ 1000000000) :
    Has Go.Proofs.Tryd.prog 32 #[.slice A n c] w (fun v w' => ∃ u, v = .tuple #[u, .int .i64 ((rscanM b).2.1 : Nat), .bool (rscanM b).2.2] ∧ Chg [] w w' ∧ Own w' 33 4 u (rscanM b).1.length ((rscanM b).1.flatMap recL) ∧ ∀ h, u.ownBlock = some h → w.heap.size ≤ h) := by
  refine enter Go.Proofs.Tryd.func32 rfl rfl (by decide) rfl (e := [(0, .slice A n c)]) ⟨rfl, trivial⟩ ?_
  repeat (first | refine W_seq ?_ | refine W_region ?_ | refine Then_n ?_ | refine WL_nil ?_ | refine WL_some rfl rfl rfl ?_ | refine op_move rfl rfl ?_ | refine op_assign rfl rfl ?_)
  refine op_call rfl rfl rfl (scan_has A n c b w hl hb) ?_
  rintro _ w1 ⟨us, rfl, hc1, hos, hfs⟩
  obtain ⟨hn1, hn2⟩ := scanM_bound b.length b (Nat.le_refl _)
  unfold rscanM
  generalize scanM b = q at *
  obtain ⟨seals, tot, cut⟩ := q
  dsimp only at *
  have hss := hos.reads
  obtain ⟨As, cs, rfl, hs1, hs2⟩ := hss.form
  clear hos hfs
  unfold maxLen at hs2
  repeat (first | refine W_seq ?_ | refine W_block ?_ | refine W_region ?_ | refine Then_n ?_ | refine WL_nil ?_ | refine WL_some rfl rfl rfl ?_ | refine op_move rfl rfl ?_ | refine op_assign rfl rfl ?_ | refine op_len_slice T rfl rfl rfl rfl ?_ | refine op_extract rfl rfl rfl ?_)
  refine W_loop (σ := Nat × List RecM × Nat × Value) (fun s => [(7, .bool cut), (8, s.2.2.2), (9, .int .i64 s.2.2.1), (20, .slice As seals.length cs), (21, .int .i64 seals.length), (22, .int .i64 s.1)])
    (fun s w' => s.1 ≤ seals.length ∧ s.2.1.length ≤ s.1 ∧ s.2.2.1 ≤ s.1 * 1000000100 ∧ recGo seals 0 cut = (s.2.1 ++ (recGo (seals.drop s.1) s.2.2.1 cut).1, (recGo (seals.drop s.1) s.2.2.1 cut).2) ∧ Chg [] w1 w' ∧ Own w' 33 4 s.2.2.2 s.2.1.length (s.2.1.flatMap recL) ∧ ∀ h, s.2.2.2.ownBlock = some h → w1.heap.size ≤ h)
    (fun s => seals.length - s.1) (0, [], 0, .slice none 0 0) ⟨rfl, rfl, rfl, rfl, rfl, rfl, trivial⟩ ⟨Nat.zero_le _, Nat.zero_le _, Nat.zero_le _, by simp, Chg.refl _ _, Own.nil _ _ _, fun h hh => by simp [Value.ownBlock] at hh⟩ ?_
  rintro ⟨k, l, at_, v⟩ w2 ⟨h1, h2, h3, h4, h5, h6, h7⟩
  dsimp only at h1 h2 h3 h4 h5 h6 h7 ⊢
  repeat (first | refine W_seq ?_ | refine W_region ?_ | refine WL_some rfl rfl rfl ?_)
  (refine op_lss rfl rfl rfl (fun hc => ?_) (fun hc => ?_))
  · have hk : k < seals.length := by omega
    obtain ⟨ad, us, rfl, hus1, hrs1⟩ := hss.get (i := k) (List.getElem?_eq_getElem hk)
    have hus := h5.cell0 hus1
    have hstep := recGo_nth (at_ := at_) (cut := cut) (List.getElem?_eq_getElem hk)
    have hsl : seals[k].length ≤ b.length := hn2 _ (List.getElem_mem hk)
    generalize seals[k] = s at *
    obtain ⟨A3, c3, rfl, _, _⟩ := SliceOf.form hrs1
    have hrs1 : SliceOf Ru8 w1 (.slice A3 s.length c3) s := hrs1
    have hrs : SliceOf Ru8 w2 (.slice A3 s.length c3) s := SliceOf.kept Ru8.kept _ _ _ _ h5 hrs1
    repeat (first | refine W_seq ?_ | refine W_block ?_ | refine W_region ?_ | refine W_skip ?_ | refine Then_n ?_ | refine WL_nil ?_ | refine W_condT rfl ?_ | refine WL_some rfl rfl rfl ?_ | refine op_move rfl rfl ?_ | refine op_assign rfl rfl ?_ | refine op_index_nat T rfl rfl rfl rfl rfl rfl (by omega) ?_ | refine op_load T rfl rfl rfl rfl (by assumption) ?_)
    refine op_call rfl rfl rfl (decode_has A3 _ c3 s w2 hrs (by omega)) ?_
    rintro _ w3 ⟨hc3, rfl⟩
    repeat (first | refine WL_some rfl rfl rfl ?_ | refine op_move rfl rfl ?_ | refine op_extract rfl rfl rfl ?_)
    refine op_alloc T rfl rfl (fun g w4 hs4 hc4 hg4 => ?_)
    have hg4 : Blk w4 g 33 [.int .i64 0, .int .i64 0, .string (str []), .string (str [])] := hg4
    have hs4 : w3.heap.size ≤ g := hs4
    repeat (refine WL_none rfl rfl ?_)
    refine op_store_agg T rfl rfl rfl rfl rfl rfl hg4 (by exact Nat.le_of_ble_eq_true rfl) (fun w5 hc5 hg5 _ => ?_)
    have hg5 : Blk w5 g 33 (recL (decR s)) := hg5
    have hc25 : Chg [] w2 w5 := (hc3.trans' hc4).trans hc5 (fun k hk hlt => by simp at hk; have := hc3.size; omega)
    by_cases hok : decOk s = true
    · rw [if_pos hok] at hstep
      rw [hok]
      have hrs5 := SliceOf.kept Ru8.kept _ _ _ _ hc25 hrs
      have h65 := h6.keep0 hc25
      unfold recL at hg5
      repeat (first | refine W_seq ?_ | refine W_region ?_ | refine W_skip ?_ | refine Then_n ?_ | refine WL_nil ?_ | refine W_condF rfl ?_ | refine WL_some rfl rfl rfl ?_ | refine op_move rfl rfl ?_ | refine op_assign rfl rfl ?_ | refine op_notT rfl rfl ?_ | refine op_load_agg T rfl rfl rfl rfl (by assumption) (by exact Nat.le_of_ble_eq_true rfl) (by exact rfl) ?_)
      refine op_buildSlice T rfl rfl rfl rfl rfl rfl rfl (fun g6 w6 hs6 hc6 hg6 => ?_)
      have hg6 : Blk w6 g6 33 (recL (decR s)) := hg6
      have h66 := h65.keep0 hc6
      obtain ⟨Av, cv, rfl, _, _⟩ := h66.form
      repeat (refine WL_some rfl rfl rfl ?_)
      refine op_append T (n := l.length) (xs := l.flatMap recL) (m := 1) (news := recL (decR s)) rfl rfl rfl rfl rfl rfl rfl rfl h66 rfl ?_ (by unfold maxLen; omega) (by show (l.length + 1) * 48 ≤ _; omega) ?_
      · intro j u hj
        exact ⟨⟨_, rfl, by rw [add_plain]; exact hg6.cell hj⟩, recL_one _ u (List.mem_of_getElem? hj)⟩
      · intro v7 w7 ho7 hc7 hb7 _
        have hfr : ∀ h, v7.ownBlock = some h → w1.heap.size ≤ h := fun h hh => by
          rcases hb7 with hb | ⟨g', hb, hge⟩
          · exact h7 h (by rw [← hb]; exact hh)
          · rw [hb] at hh; injection hh with hh; have := h5.size; have := hc25.size; have := hc6.size; omega
        have hc27 : Chg [] w1 w7 := ((h5.trans' hc25).trans' hc6).trans hc7 (fun k hk hlt => by have := h7 k (by simpa using hk); omega)
        have hrs7 := SliceOf.kept Ru8.kept _ _ _ _ hc27 hrs1
        repeat (first | refine W_region ?_ | refine Then_n ?_ | refine WL_nil ?_ | refine WL_some rfl rfl rfl ?_ | refine op_move rfl rfl ?_ | refine op_assign rfl rfl ?_)
        refine op_call rfl rfl rfl (seal_has A3 _ c3 s w7 hrs7 (by omega)) ?_
        intro v8 w8 m8
        obtain ⟨A8, c8, rfl, _, _⟩ := m8.form
        have hsz := sealM_length s
        repeat (first | refine W_region ?_ | refine Then_n ?_ | refine InBlock_n ?_ | refine WL_nil ?_ | refine WL_some rfl rfl rfl ?_ | refine op_move rfl rfl ?_ | refine op_assign rfl rfl ?_ | refine op_len_slice T rfl rfl rfl rfl ?_ | refine op_add rfl rfl rfl (wrap_i64_in (by omega) (by omega)) ?_)
        refine Round_n (k + 1, l ++ [decR s], at_ + (sealM s).length, v7) ⟨rfl, rfl, some_int (by dsimp only; omega), rfl, rfl, rfl, trivial⟩ ⟨by dsimp only; omega, by dsimp only; simp; omega, by dsimp only; omega, ?_, hc27.trans' m8.chg, ?_, hfr⟩ (by dsimp only; omega)
        · dsimp only
          rw [h4, hstep, List.append_assoc]; rfl
        · dsimp only
          rw [List.length_append, List.flatMap_append]
          simpa using ho7.keep0 m8.chg
    · rw [if_neg hok] at hstep
      rw [show decOk s = false from by simpa using hok]
      repeat (first | refine W_seq ?_ | refine W_region ?_ | refine W_ret ?_ | refine Then_n ?_ | refine Then_r ?_ | refine InBlock_r ?_ | refine Round_r ?_ | refine WL_nil ?_ | refine W_condT rfl ?_ | refine WL_some rfl rfl rfl ?_ | refine op_move rfl rfl ?_ | refine op_assign rfl rfl ?_ | refine op_notF rfl rfl ?_)
      rw [h4, hstep]
      refine post3 (.inl rfl) rfl rfl rfl rfl ⟨_, rfl, hc1.trans' (h5.trans' hc25), ?_, fun h hh => by have := h7 h hh; have := hc1.size; omega⟩
      rw [List.append_nil]
      exact h6.keep0 hc25
  · obtain rfl : k = seals.length := by omega
    rw [List.drop_length] at h4
    rw [h4]
    repeat (first | refine W_seq ?_ | refine W_region ?_ | refine W_exit ?_ | refine W_ret ?_ | refine Then_n ?_ | refine Then_x ?_ | refine InBlock_hit ?_ | refine Round_x ?_ | refine WL_nil ?_ | refine W_condF rfl ?_ | refine WL_some rfl rfl rfl ?_ | refine op_move rfl rfl ?_ | refine op_assign rfl rfl ?_)
    refine post3 (.inl rfl) rfl rfl rfl rfl ⟨_, rfl, hc1.trans' h5, ?_, fun h hh => by have := h7 h hh; have := hc1.size; omega⟩
    simp only [recGo, List.append_nil]
    exact h6
end Go.Proofs.YtbhnplghnhafiaaDoor.Tryd
