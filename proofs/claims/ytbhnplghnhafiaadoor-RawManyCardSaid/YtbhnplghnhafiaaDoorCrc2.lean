import Derived.Test.YtbhnplghnhafiaaDoorCrc1
/-! Seals, one behind the other. -/
set_option linter.unusedVariables false
namespace Go.Proofs.YtbhnplghnhafiaaDoor.Tryd
open Go Go.Vc

/-- A slice of bytes in a row. -/
def Rbs (w : World) (u : Value) (x : List UInt8) : Prop := SliceOf Ru8 w u x
theorem Rbs.kept : Kept Rbs := SliceOf.kept Ru8.kept
set_option maxHeartbeats 1000000 in
theorem scan_has (A : Option Addr) (n c : Nat) (b : List UInt8) (w : World) (hl : SliceOf Ru8 w (.slice A n c) b) (hb : b.length ≤ 1000000000) :
    Has Go.Proofs.Tryd.prog 54 #[.slice A n c] w (fun v w' => ∃ u, v = .tuple #[u, .int .i64 ((scanM b).2.1 : Nat), .bool (scanM b).2.2] ∧ Chg [] w w' ∧ OwnOf Rbs 31 [] w' u (scanM b).1 ∧ ∀ h, u.ownBlock = some h → w.heap.size ≤ h) := by
  obtain ⟨rfl, hl1, hl2⟩ := hl.len
  unfold maxLen at hl2
  refine enter Go.Proofs.Tryd.func54 rfl rfl (by decide) rfl (e := [(0, .slice A b.length c)]) ⟨rfl, trivial⟩ ?_
  repeat (first | refine W_seq ?_ | refine W_block ?_ | refine W_region ?_ | refine Then_n ?_ | refine WL_nil ?_ | refine WL_some rfl rfl rfl ?_ | refine op_assign rfl rfl ?_)
  refine W_loop (σ := Nat × List (List UInt8) × Value) (fun s => [(0, .slice A b.length c), (5, s.2.2), (6, .int .i64 s.1)])
    (fun s w' => s.1 ≤ b.length ∧ 12 * s.2.1.length ≤ s.1 ∧ scanM b = (s.2.1 ++ (scanM (b.drop s.1)).1, s.1 + (scanM (b.drop s.1)).2.1, (scanM (b.drop s.1)).2.2) ∧ Chg [] w w' ∧ OwnOf Rbs 31 [] w' s.2.2 s.2.1 ∧ ∀ h, s.2.2.ownBlock = some h → w.heap.size ≤ h)
    (fun s => b.length - s.1) (0, [], .slice none 0 0) ⟨rfl, rfl, rfl, trivial⟩ ⟨Nat.zero_le _, Nat.zero_le _, by simp, Chg.refl _ _, OwnOf.nil _ _ _ _, fun h hh => by simp [Value.ownBlock] at hh⟩ ?_
  rintro ⟨at_, l, v⟩ w1 ⟨h1, h2, h3, h4, h5, h6⟩
  dsimp only at h1 h2 h3 h4 h5 h6 ⊢
  have hl1' := SliceOf.kept Ru8.kept _ _ _ _ h4 hl
  repeat (first | refine W_seq ?_ | refine W_block ?_ | refine W_region ?_ | refine WL_some rfl rfl rfl ?_ | refine op_move rfl rfl ?_)
  refine op_cut T (l := at_) (h' := b.length) rfl rfl rfl rfl rfl ⟨_, rfl⟩ rfl hl1' h1 (Nat.le_refl _) (fun A' hA' => ?_)
  have hs := hA' w1 hl1'
  rw [List.take_length] at hs
  repeat (refine WL_some rfl rfl rfl ?_)
  refine op_call rfl rfl rfl (first_has A' _ _ _ w1 hs (by rw [List.length_drop]; omega)) ?_
  rintro _ w2 ⟨u, rfl, hu⟩
  have h5' := h5.keep0 hu.chg
  have hbd := firstM_bound (b.drop at_)
  have hend := scanM_end (l := b.drop at_)
  have hstep := scanM_step (l := b.drop at_)
  rw [List.drop_drop] at hstep
  rw [List.length_drop] at hbd
  generalize firstM (b.drop at_) = q at *
  obtain ⟨x, k, cut⟩ := q
  dsimp only at *
  by_cases hk : k = 0
  · subst hk
    rw [hend rfl] at h3
    dsimp only at h3
    rw [h3]
    dsimp only
    repeat (first | refine W_seq ?_ | refine W_region ?_ | refine W_ret ?_ | refine Then_n ?_ | refine Then_r ?_ | refine InBlock_r ?_ | refine Round_r ?_ | refine WL_nil ?_ | refine W_condT rfl ?_ | refine WL_some rfl rfl rfl ?_ | refine op_move rfl rfl ?_ | refine op_assign rfl rfl ?_ | refine op_extract rfl rfl rfl ?_ | refine op_eql rfl rfl rfl (fun hc => ?_) (fun hc => False.elim (by omega)))
    exact post3 (.inl rfl) rfl rfl (some_int (by omega)) rfl ⟨_, rfl, h4.trans' hu.chg, by rw [List.append_nil]; exact h5', h6⟩
  · rw [hstep hk] at h3
    dsimp only at h3
    rcases hbd with hz | ⟨hb1, hb2, hb3⟩
    · exact absurd hz hk
    obtain ⟨A9, c9, rfl, _, _⟩ := hu.form
    repeat (first | refine W_seq ?_ | refine W_region ?_ | refine W_skip ?_ | refine Then_n ?_ | refine WL_nil ?_ | refine W_condF rfl ?_ | refine WL_some rfl rfl rfl ?_ | refine op_move rfl rfl ?_ | refine op_assign rfl rfl ?_ | refine op_extract rfl rfl rfl ?_ | refine op_eql rfl rfl rfl (fun hc => False.elim (by omega)) (fun hc => ?_))
    refine op_buildSlice T rfl rfl rfl rfl rfl rfl rfl (fun g w3 hgs hc3 hg3 => ?_)
    repeat (refine WL_some rfl rfl rfl ?_)
    refine op_push T (xa := x) rfl rfl rfl rfl rfl rfl rfl rfl (h5'.keep0 hc3) hg3 ?_ ?_ (by omega) rfl (fun v' w4 ho4 hc4 hb4 => ?_)
    · rfl
    · refine Firm.step0 (hu.firm (fun k hk => ?_)) hc3
      exact h5.lt (by simpa using hk)
    have hc14 : Chg [] w w4 := (h4.trans' hu.chg).trans' hc3 |>.trans hc4 (fun k hk hlt => by have := h6 k (by simpa using hk); omega)
    repeat (first | refine W_region ?_ | refine Then_n ?_ | refine InBlock_n ?_ | refine WL_nil ?_ | refine WL_some rfl rfl rfl ?_ | refine op_move rfl rfl ?_ | refine op_assign rfl rfl ?_ | refine op_add rfl rfl rfl (wrap_i64_in (by omega) (by omega)) ?_)
    refine Round_n (at_ + k, l ++ [x], v') ⟨rfl, rfl, some_int (by dsimp only; omega), trivial⟩ ⟨by dsimp only; omega, by dsimp only; simp; omega, ?_, hc14, ho4, fun h hh => ?_⟩ (by dsimp only; omega)
    · dsimp only
      rw [h3, List.append_assoc, Nat.add_assoc]; rfl
    · rcases hb4 with hb4 | ⟨g', hb4, hge⟩
      · exact h6 h (by rw [← hb4]; exact hh)
      · rw [hb4] at hh; injection hh with hh
        have := h4.size; have := hu.chg.size; have := hc3.size; omega
end Go.Proofs.YtbhnplghnhafiaaDoor.Tryd
