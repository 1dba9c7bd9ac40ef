/- FilesRot: whatever the arguments that can be read as data, in whatever memory, the call returns true and leaves what was there as it was. No condition. -/
import Derived.Test.YtbhnplghnhafiaaDskG
import Derived.Test.YtbhnplghnhafiaaVcRow
set_option linter.unusedVariables false
namespace Go.Proofs.Ytbhnplghnhafiaa
open Go Go.Vc Go.ChangeShapes Go.WideShapes Go.ChangeAt Go.RowKit
theorem filesRot_own : ownKnob Go.Proofs.Try.prog.godebug = none := by kernel_rfl
theorem filesRot_laid : laidOutB Go.Proofs.Try.prog = true := by kernel_rfl
set_option maxRecDepth 100000 in
theorem filesRot_walk (W : World) (base : Nat) (args : Array Value) {H : Type} {enc : TypeId × Value → H} (ds : List (DataW H)) (ps : List MemPlace) (hval0 : ∀ (j : Nat) t v, Go.Proofs.Try.f4.params[j]? = some t → args[j]? = some v → Value.okWide Go.Proofs.Try.prog W .any base t v)
    (hA : DataW.TrodAll enc Go.Proofs.Try.prog W 0 (fun _ => true) true Go.Proofs.Try.f4.params.toList args.toList ds ps) : Calls Go.Proofs.Try.prog 4 args W fun e W' => e = .returned (.bool true) ∧ Chg [] W W' := by
  have hval := hval0
  rw [Go.Proofs.Try.params4] at hA hval
  obtain ⟨v0, vs0, d0, ds0, p0, q0, hargs, rfl, rfl, h0, r0⟩ := trodAll_cons hA
  obtain ⟨v1, vs1, d1, ds1, p1, q1, rfl, rfl, rfl, h1, r1⟩ := trodAll_cons r0
  obtain ⟨v2, vs2, d2, ds2, p2, q2, rfl, rfl, rfl, h2, r2⟩ := trodAll_cons r1
  obtain ⟨rfl, rfl, rfl⟩ := trodAll_nil r2
  obtain rfl : args = #[v0, v1, v2] := by cases args; simp_all
  obtain ⟨a0, x0⟩ := Opens.arg (Opens.i64 Go.Proofs.Try.underlying3) (.inr (.inr (.inl ⟨_, Go.Proofs.Try.underlying3⟩))) (hval 0 _ v0 rfl rfl) h0
  obtain ⟨a1, x1⟩ := Opens.arg (Opens.i64 Go.Proofs.Try.underlying3) (.inr (.inr (.inl ⟨_, Go.Proofs.Try.underlying3⟩))) (hval 1 _ v1 rfl rfl) h1
  obtain ⟨a2, x2⟩ := Opens.arg (Opens.u8 Go.Proofs.Try.underlying5) (.inr (.inr (.inl ⟨_, Go.Proofs.Try.underlying5⟩))) (hval 2 _ v2 rfl rfl) h2
  obtain ⟨rfl, hl0, hh0⟩ := x0; obtain ⟨rfl, hl1, hh1⟩ := x1; obtain rfl := x2
  refine (Try.filesRot_has a0 a1 a2 W ⟨hl0, hh0⟩ ⟨hl1, hh1⟩).2.mono ?_
  rintro e W' ⟨v, rfl, hc, rfl⟩
  exact ⟨rfl, hc⟩
set_option maxRecDepth 100000 in
theorem filesRot_lifted (os : Os) (started : os.Started) (H : Type) (enc : TypeId × Value → H) :
    ReturnsInHanded {} Go.Proofs.Try.checked os 4 .any (Rows.filesRotSpec.pre6 enc Go.Proofs.Try.prog Go.Proofs.Try.f4 Rows.filesRotRow.domain false) (Rows.filesRotSpec.post enc Go.Proofs.Try.prog Go.Proofs.Try.f4 false true false false) := by
  refine law_lifted (C := Go.Proofs.Try.checked) (tb := 4) filesRot_own filesRot_laid started (by kernel_rfl) Go.Proofs.Try.func4 rfl rfl Go.Proofs.Try.underlying4 ?_ ?_
    (ChangeSpec.witness6 (enc := enc) (C := Go.Proofs.Try.checked) false ⟨#[], #[.int .i64 0, .int .i64 0, .int .u8 0], []⟩ 8 (by kernel_rfl) (by kernel_rfl) (by kernel_rfl) (by kernel_rfl)) (fun W base args ds ps hval hA => filesRot_walk W base args ds ps hval hA)
  · intro t ht
    rw [Go.Proofs.Try.params4] at ht
    simp only [List.mem_cons, List.not_mem_nil, or_false] at ht
    rcases ht with rfl | rfl | rfl
    all_goals exact ⟨by kernel_rfl, of_decide_eq_true (by kernel_rfl)⟩
  · intro ds hd
    rw [Go.Proofs.Try.params4] at hd
    match ds, hd with
    | [d0, d1, d2], _ => rfl
theorem filesRot_holds : Rows.FilesRotSaid :=
  OpenClaim.holds_of_wide 4 Go.Proofs.Try.f4 rfl rfl rfl rfl rfl rfl rfl ⟨rfl, rfl, rfl, rfl, rfl⟩ rfl rfl rfl rfl rfl (by kernel_rfl) Go.Proofs.Try.func4 (by kernel_rfl)
    (of_decide_eq_true (by kernel_rfl)) (by unfold Func.isWrapper; first | (rw [if_pos (by decide +kernel)]; kernel_rfl) | (rw [if_neg (by decide +kernel)]; exact ⟨rfl, rfl⟩))
    (fun os started H enc _ => filesRot_lifted os started H enc)
#print axioms filesRot_holds
end Go.Proofs.Ytbhnplghnhafiaa
