/- FilesTwins: whatever the arguments that can be read as data, in whatever memory, the call returns true and leaves what was there as it was. No condition. -/
import Derived.Test.YtbhnplghnhafiaaDskFo
import Derived.Test.YtbhnplghnhafiaaVcRow
set_option linter.unusedVariables false
namespace Go.Proofs.Ytbhnplghnhafiaa
open Go Go.Vc Go.ChangeShapes Go.WideShapes Go.ChangeAt Go.RowKit
theorem filesTwins_own : ownKnob Go.Proofs.Try.prog.godebug = none := by kernel_rfl
theorem filesTwins_laid : laidOutB Go.Proofs.Try.prog = true := by kernel_rfl
set_option maxRecDepth 100000 in
theorem filesTwins_walk (W : World) (base : Nat) (args : Array Value) {H : Type} {enc : TypeId × Value → H} (ds : List (DataW H)) (ps : List MemPlace) (hval0 : ∀ (j : Nat) t v, Go.Proofs.Try.f7.params[j]? = some t → args[j]? = some v → Value.okWide Go.Proofs.Try.prog W .any base t v)
    (hA : DataW.TrodAll enc Go.Proofs.Try.prog W 0 (fun _ => true) true Go.Proofs.Try.f7.params.toList args.toList ds ps) : Calls Go.Proofs.Try.prog 7 args W fun e W' => e = .returned (.bool true) ∧ Chg [] W W' := by
  have hval := hval0
  rw [Go.Proofs.Try.params7] at hA hval
  obtain ⟨v0, vs0, d0, ds0, p0, q0, hargs, rfl, rfl, h0, r0⟩ := trodAll_cons hA
  obtain ⟨rfl, rfl, rfl⟩ := trodAll_nil r0
  obtain rfl : args = #[v0] := by cases args; simp_all
  obtain ⟨a0, x0⟩ := Opens.arg (OpensK.slice (k := 7) Go.Proofs.Try.underlying42 (by kernel_rfl : Go.Proofs.Try.prog.cellsOf 44 = 7) Try.opOpens) (.inr (.inr (.inr ⟨_, Go.Proofs.Try.underlying42⟩))) (hval 0 _ v0 rfl rfl) h0
  obtain ⟨A, c, rfl, _⟩ := x0.form
  refine (Try.filesTwins_has A _ c a0 W x0).2.mono ?_
  rintro e W' ⟨v, rfl, hc, rfl⟩
  exact ⟨rfl, hc⟩
set_option maxRecDepth 100000 in
theorem filesTwins_lifted (os : Os) (started : os.Started) (H : Type) (enc : TypeId × Value → H) :
    ReturnsInHanded {} Go.Proofs.Try.checked os 7 .any (Rows.filesTwinsSpec.pre6 enc Go.Proofs.Try.prog Go.Proofs.Try.f7 Rows.filesTwinsRow.domain false) (Rows.filesTwinsSpec.post enc Go.Proofs.Try.prog Go.Proofs.Try.f7 false true false false) := by
  refine law_lifted (C := Go.Proofs.Try.checked) (tb := 4) filesTwins_own filesTwins_laid started (by kernel_rfl) Go.Proofs.Try.func7 rfl rfl Go.Proofs.Try.underlying4 ?_ ?_
    (ChangeSpec.witness6 (enc := enc) (C := Go.Proofs.Try.checked) false ⟨#[], #[.slice none 0 0], []⟩ 8 (by kernel_rfl) (by kernel_rfl) (by kernel_rfl) (by kernel_rfl)) (fun W base args ds ps hval hA => filesTwins_walk W base args ds ps hval hA)
  · intro t ht
    rw [Go.Proofs.Try.params7] at ht
    simp only [List.mem_cons, List.not_mem_nil, or_false] at ht
    subst ht
    all_goals exact ⟨by kernel_rfl, of_decide_eq_true (by kernel_rfl)⟩
  · intro ds hd
    rw [Go.Proofs.Try.params7] at hd
    match ds, hd with
    | [d0], _ => rfl
theorem filesTwins_holds : Rows.FilesTwinsSaid :=
  OpenClaim.holds_of_wide 7 Go.Proofs.Try.f7 rfl rfl rfl rfl rfl rfl rfl ⟨rfl, rfl, rfl, rfl, rfl⟩ rfl rfl rfl rfl rfl (by kernel_rfl) Go.Proofs.Try.func7 (by kernel_rfl)
    (of_decide_eq_true (by kernel_rfl)) (by unfold Func.isWrapper; first | (rw [if_pos (by decide +kernel)]; kernel_rfl) | (rw [if_neg (by decide +kernel)]; exact ⟨rfl, rfl⟩))
    (fun os started H enc _ => filesTwins_lifted os started H enc)
#print axioms filesTwins_holds
end Go.Proofs.Ytbhnplghnhafiaa
