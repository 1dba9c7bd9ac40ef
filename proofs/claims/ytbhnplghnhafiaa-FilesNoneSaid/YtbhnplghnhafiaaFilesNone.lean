/- FilesNone: whatever the arguments that can be read as data, in whatever memory, the call returns true and leaves what was there as it was. No condition. -/
import Derived.Test.YtbhnplghnhafiaaDskH
import Derived.Test.YtbhnplghnhafiaaVcRow
set_option linter.unusedVariables false
namespace Go.Proofs.Ytbhnplghnhafiaa
open Go Go.Vc Go.ChangeShapes Go.WideShapes Go.ChangeAt Go.RowKit
theorem filesNone_own : ownKnob Go.Proofs.Try.prog.godebug = none := by kernel_rfl
theorem filesNone_laid : laidOutB Go.Proofs.Try.prog = true := by kernel_rfl
set_option maxRecDepth 100000 in
theorem filesNone_walk (W : World) (base : Nat) (args : Array Value) {H : Type} {enc : TypeId × Value → H} (ds : List (DataW H)) (ps : List MemPlace) (hval0 : ∀ (j : Nat) t v, Go.Proofs.Try.f8.params[j]? = some t → args[j]? = some v → Value.okWide Go.Proofs.Try.prog W .any base t v)
    (hA : DataW.TrodAll enc Go.Proofs.Try.prog W 0 (fun _ => true) true Go.Proofs.Try.f8.params.toList args.toList ds ps) : Calls Go.Proofs.Try.prog 8 args W fun e W' => e = .returned (.bool true) ∧ Chg [] W W' := by
  have hval := hval0
  rw [Go.Proofs.Try.params8] at hA hval
  obtain ⟨hargs, rfl, rfl⟩ := trodAll_nil hA
  obtain rfl : args = #[] := by cases args; simp_all
  refine (Try.filesNone_has W).2.mono ?_
  rintro e W' ⟨v, rfl, hc, rfl⟩
  exact ⟨rfl, hc⟩
set_option maxRecDepth 100000 in
theorem filesNone_lifted (os : Os) (started : os.Started) (H : Type) (enc : TypeId × Value → H) :
    ReturnsInHanded {} Go.Proofs.Try.checked os 8 .any (Rows.filesNoneSpec.pre6 enc Go.Proofs.Try.prog Go.Proofs.Try.f8 Rows.filesNoneRow.domain false) (Rows.filesNoneSpec.post enc Go.Proofs.Try.prog Go.Proofs.Try.f8 false true false false) := by
  refine law_lifted (C := Go.Proofs.Try.checked) (tb := 4) filesNone_own filesNone_laid started (by kernel_rfl) Go.Proofs.Try.func8 rfl rfl Go.Proofs.Try.underlying4 ?_ ?_
    (ChangeSpec.witness6 (enc := enc) (C := Go.Proofs.Try.checked) false ⟨#[], #[], []⟩ 8 (by kernel_rfl) (by kernel_rfl) (by kernel_rfl) (by kernel_rfl)) (fun W base args ds ps hval hA => filesNone_walk W base args ds ps hval hA)
  · intro t ht
    rw [Go.Proofs.Try.params8] at ht
    cases ht
  · intro ds hd
    rw [Go.Proofs.Try.params8] at hd
    match ds, hd with
    | [], _ => rfl
theorem filesNone_holds : Rows.FilesNoneSaid :=
  OpenClaim.holds_of_wide 8 Go.Proofs.Try.f8 rfl rfl rfl rfl rfl rfl rfl ⟨rfl, rfl, rfl, rfl, rfl⟩ rfl rfl rfl rfl rfl (by kernel_rfl) Go.Proofs.Try.func8 (by kernel_rfl)
    (of_decide_eq_true (by kernel_rfl)) (by unfold Func.isWrapper; first | (rw [if_pos (by decide +kernel)]; kernel_rfl) | (rw [if_neg (by decide +kernel)]; exact ⟨rfl, rfl⟩))
    (fun os started H enc _ => filesNone_lifted os started H enc)
#print axioms filesNone_holds
end Go.Proofs.Ytbhnplghnhafiaa
