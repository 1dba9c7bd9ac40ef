/- RawFull: whatever the arguments that can be read as data, in whatever memory, the call returns true and leaves what was there as it was. No condition. -/
import Derived.Test.YtbhnplghnhafiaaDoorRawF
import Derived.Test.YtbhnplghnhafiaaDoorVcCard
import Derived.Test.YtbhnplghnhafiaaDoorCards
import Derived.Test.YtbhnplghnhafiaaDoorTie
import Derived.SevenTiedAt
set_option linter.unusedVariables false
namespace Go.Proofs.YtbhnplghnhafiaaDoor
open Go Go.Vc Go.ChangeShapes Go.WideShapes Go.ChangeAt Go.RowKit
theorem rawFull_own : ownKnob Go.Proofs.Tryd.prog.godebug = none := by kernel_rfl
theorem rawFull_laid : laidOutB Go.Proofs.Tryd.prog = true := by kernel_rfl
set_option maxRecDepth 100000 in
theorem rawFull_walk (W : World) (base : Nat) (args : Array Value) {H : Type} {enc : TypeId × Value → H} (ds : List (DataW H)) (ps : List MemPlace) (hval0 : ∀ (j : Nat) t v, Go.Proofs.Tryd.f3.params[j]? = some t → args[j]? = some v → Value.okWide Go.Proofs.Tryd.prog W .any base t v)
    (hA : DataW.TrodAll enc Go.Proofs.Tryd.prog W 0 (fun _ => true) true Go.Proofs.Tryd.f3.params.toList args.toList ds ps) : Calls Go.Proofs.Tryd.prog 3 args W fun e W' => e = .returned (.bool true) ∧ Chg [] W W' := by
  have hval := hval0
  rw [Go.Proofs.Tryd.params3] at hA hval
  obtain ⟨v0, vs0, d0, ds0, p0, q0, hargs, rfl, rfl, h0, r0⟩ := trodAll_cons hA
  obtain ⟨v1, vs1, d1, ds1, p1, q1, rfl, rfl, rfl, h1, r1⟩ := trodAll_cons r0
  obtain ⟨rfl, rfl, rfl⟩ := trodAll_nil r1
  obtain rfl : args = #[v0, v1] := by cases args; simp_all
  obtain ⟨a0, x0⟩ := Opens.arg (Opens.i64 Go.Proofs.Tryd.underlying3) (.inr (.inr (.inl ⟨_, Go.Proofs.Tryd.underlying3⟩))) (hval 0 _ v0 rfl rfl) h0
  obtain ⟨a1, x1⟩ := Opens.arg (Opens.i64 Go.Proofs.Tryd.underlying3) (.inr (.inr (.inl ⟨_, Go.Proofs.Tryd.underlying3⟩))) (hval 1 _ v1 rfl rfl) h1
  obtain ⟨rfl, hl0, hh0⟩ := x0; obtain ⟨rfl, hl1, hh1⟩ := x1
  refine (Tryd.rawFull_has a0 a1 W ⟨hl0, hh0⟩ ⟨hl1, hh1⟩).2.mono ?_
  rintro e W' ⟨v, rfl, hc, rfl⟩
  exact ⟨rfl, hc⟩
theorem rawFull_door (os : Os) (args : Array Value) : laidMetH Go.Proofs.Tryd.prog Rows.rawFullRow.laid ((World.doorLaid Go.Proofs.Tryd.prog 400 os).forCall (fun _ _ => 0) ⟨#[], args, []⟩).memory :=
  laidMetH_of_parts3 (fuel := 8) (laidMet_of_run' 8 (by kernel_rfl) (by kernel_rfl)) (by kernel_rfl) (by kernel_rfl)
set_option maxRecDepth 100000 in
theorem rawFull_lifted (os : Os) (started : os.Started) (H : Type) (enc : TypeId × Value → H) :
    ReturnsInHanded {} Go.Proofs.Tryd.checked os 3 .any (fun w args => (Rows.rawFullSpec.pre enc Go.Proofs.Tryd.prog Go.Proofs.Tryd.f3 [] false w args ∧ laidMetH Go.Proofs.Tryd.prog Rows.rawFullRow.laid w) ∧ sizedMet enc Go.Proofs.Tryd.prog Go.Proofs.Tryd.f3 (OpenSpec.ofChange Rows.rawFullSpec) false w args) (Rows.rawFullSpec.post enc Go.Proofs.Tryd.prog Go.Proofs.Tryd.f3 false true false false) := by
  refine law_laid (C := Go.Proofs.Tryd.checked) (tb := 4) (L := Rows.rawFullRow.laid) rawFull_own rawFull_laid started (by kernel_rfl) Go.Proofs.Tryd.func3 rfl rfl Go.Proofs.Tryd.underlying4 ?_ ?_
    (ChangeSpec.witness_shaped (enc := enc) (C := Go.Proofs.Tryd.checked) (os := os) (X := fun w _ => laidMetH Go.Proofs.Tryd.prog Rows.rawFullRow.laid w) false (World.doorLaid Go.Proofs.Tryd.prog 400 os) #[.int .i64 0, .int .i64 0] 8 rfl (World.shaped_of_RefB (by kernel_rfl) (by kernel_rfl)) (by kernel_rfl) (by kernel_rfl) (by kernel_rfl) (rawFull_door os _)) (fun W base args ds ps hval hA => rawFull_walk W base args ds ps hval hA)
  · intro t ht
    rw [Go.Proofs.Tryd.params3] at ht
    simp only [List.mem_cons, List.not_mem_nil, or_false] at ht
    rcases ht with rfl | rfl
    all_goals exact ⟨by kernel_rfl, of_decide_eq_true (by kernel_rfl)⟩
  · intro ds hd
    rw [Go.Proofs.Tryd.params3] at hd
    match ds, hd with
    | [d0, d1], _ => rfl
theorem rawFull_holds : Rows.RawFullSaid :=
  OpenClaim.holds_of_wide 3 Go.Proofs.Tryd.f3 rfl rfl rfl rfl rfl rfl rfl ⟨rfl, rfl, rfl, rfl, rfl⟩ rfl rfl rfl rfl rfl (by kernel_rfl) Go.Proofs.Tryd.func3 (by kernel_rfl)
    (of_decide_eq_true (by kernel_rfl)) (by unfold Func.isWrapper; first | (rw [if_pos (by decide +kernel)]; kernel_rfl) | (rw [if_neg (by decide +kernel)]; exact ⟨rfl, rfl⟩))
    (fun os started H enc _ => rawFull_lifted os started H enc)
theorem rawFull_card : Rows.RawFullCardSaid :=
  Claim7.holds_tied_plain_at .later [] [.data, .data, .data] true (true, "c3739f440933ab4bc5e329d97d371277364ffbb99a33385bca323120945fc367") true
    rawFull_holds (fun _ h => by cases h) (by kernel_rfl) (fun _ h => by cases h) rawFull_row_tie rfl ⟨rfl, rfl⟩ (by kernel_rfl) rfl
    (fun f fn hf hfn => by
      obtain rfl : f = 3 := Option.some.inj ((show Go.Proofs.Tryd.prog.funcNamed Rows.rawFullRow.func = some 3 by kernel_rfl).symm.trans hf) |>.symm
      obtain rfl : fn = Go.Proofs.Tryd.f3 := (Option.some.inj (Go.Proofs.Tryd.func3.symm.trans hfn)).symm
      exact ⟨by kernel_rfl, fun j t ht => by
        rw [Go.Proofs.Tryd.params3] at ht
        have hall : (Go.Proofs.Tryd.f3.params.toList.all fun u => !Go.Proofs.Tryd.prog.wantsStandIn u) = true := by kernel_rfl
        have hm : t ∈ Go.Proofs.Tryd.f3.params.toList := by rw [Go.Proofs.Tryd.params3]; exact List.mem_of_getElem? (by simpa using ht)
        exact (show Go.Proofs.Tryd.prog.wantsStandIn t = false by simpa using List.all_eq_true.1 hall t hm)⟩)
    (by kernel_rfl)
#print axioms rawFull_card
end Go.Proofs.YtbhnplghnhafiaaDoor
