import Derived.Test.YtbhnplghnhafiaaDoorVcTypes
import Derived.Test.YtbhnplghnhafiaaDoorVcPlus
/-! bytes.Clone. -/
set_option linter.unusedVariables false
namespace Go.Proofs.YtbhnplghnhafiaaDoor.Tryd
open Go Go.Vc

theorem clone_has (A : Option Addr) (n c : Nat) (l : List UInt8) (w : World) (hl : SliceOf Ru8 w (.slice A n c) l) (hb : l.length ≤ 1099511627776) :
    Has Go.Proofs.Tryd.prog 38 #[.slice A n c] w (fun v w' => Chg [] w w' ∧ Own w' 5 1 v l.length (u8s l) ∧ ∀ g, v.ownBlock = some g → w.heap.size ≤ g) := by
  obtain ⟨rfl, hl1, hl2⟩ := hl.len
  refine enter Go.Proofs.Tryd.func38 rfl rfl (by decide) rfl (e := [(0, .slice A l.length c)]) ⟨rfl, trivial⟩ ?_
  repeat (first | refine W_seq ?_ | refine W_region ?_ | refine Then_n ?_ | refine WL_nil ?_ | refine WL_some rfl rfl rfl ?_ | refine op_move rfl rfl ?_ | refine op_assign rfl rfl ?_)
  refine op_eql_nil T rfl rfl rfl rfl (fun hA => ?_) (fun ad hA => ?_)
  · have hl0 : l = [] := by
      cases l with
      | nil => rfl
      | cons c l => obtain ⟨ad, u, he, _⟩ := hl.get (i := 0) (x := c) rfl; rw [hA] at he; cases he
    subst hl0
    repeat (first | refine W_seq ?_ | refine W_region ?_ | refine W_ret ?_ | refine Then_n ?_ | refine Then_r ?_ | refine WL_nil ?_ | refine W_condT rfl ?_ | refine WL_some rfl rfl rfl ?_ | refine op_assign rfl rfl ?_)
    exact post1 (.inl rfl) rfl rfl ⟨Chg.refl _ _, Own.nil _ _ _, fun g h => by simp [Value.ownBlock] at h⟩
  · subst hA
    repeat (first | refine W_seq ?_ | refine W_region ?_ | refine W_skip ?_ | refine Then_n ?_ | refine WL_nil ?_ | refine W_condF rfl ?_ | refine WL_some rfl rfl rfl ?_)
    refine op_buildSlice T rfl rfl rfl rfl rfl rfl rfl (fun g w1 hgs hc1 hg1 => ?_)
    have ho : Own w1 5 1 (.slice (some ⟨g, 0, none⟩) 0 0) 0 [] := Own.mk hg1 (Nat.le_refl _) (Nat.zero_le _) rfl rfl
    have hl' := SliceOf.kept Ru8.kept _ _ _ _ hc1 hl
    repeat (first | refine WL_some rfl rfl rfl ?_ | refine op_move rfl rfl ?_)
    refine op_append T (n := 0) (xs := []) (m := l.length) (news := u8s l) rfl rfl rfl rfl rfl rfl rfl rfl ho (by rw [u8s_length, Nat.mul_one]) ?_ (by unfold maxLen; omega) (by show (0 + _) * 1 ≤ _; omega) ?_
    · intro j u hu
      obtain ⟨x, hx, rfl⟩ : ∃ x, l[j]? = some x ∧ u = .int .u8 (x.toNat : Int) := by
        unfold u8s at hu
        rw [List.getElem?_map] at hu
        cases hx : l[j]? with
        | none => simp [hx] at hu
        | some x => simp [hx] at hu; exact ⟨x, rfl, hu.symm⟩
      obtain ⟨ad', u', he, hu', rfl⟩ := hl'.get hx
      exact ⟨⟨ad', he, hu'⟩, rfl⟩
    · intro v w2 ho2 hc2 hown2 _
      repeat (first | refine W_ret ?_ | refine Then_n ?_ | refine WL_nil ?_ | refine WL_some rfl rfl rfl ?_ | refine op_assign rfl rfl ?_)
      refine post1 (.inl rfl) rfl rfl ⟨hc1.trans hc2 (by simp [Value.ownBlock]; omega), by simpa using ho2, fun g' hg' => ?_⟩
      have := hc1.size
      rcases hown2 with h | ⟨g2, h, hge⟩
      · rw [h] at hg'; simp [Value.ownBlock] at hg'; omega
      · rw [h] at hg'; injection hg' with hg'; omega
end Go.Proofs.YtbhnplghnhafiaaDoor.Tryd
