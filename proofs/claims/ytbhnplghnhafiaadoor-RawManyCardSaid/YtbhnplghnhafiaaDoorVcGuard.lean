import Derived.Test.YtbhnplghnhafiaaDoorVcMore
/-! An operation whose guard's own operation was passed over is passed over, too. -/
namespace Go.Vc
open Go
variable {P : Program} {N : Nat} {Q : Post} {e : Env} {w : World} {ops : Array Oper} {rest : List Oper} {o : Oper}
theorem wanted_undef {a : Act} (ha : Fits N e a) {j : Nat} {want : Bool} (hg : o.guard = some (j, want)) (hv : guardVal ops e j = some undef) : Region.wanted o (yielded ops a.tmps) = false := by
  unfold guardVal at hv
  unfold Region.wanted yielded
  rw [hg]
  cases hd : (ops[j]?).bind (·.dst) with
  | none => simp [hd] at hv
  | some d =>
    simp only [hd] at hv
    have := ha.look d _ hv
    simp only [hd, Option.bind_some, this]
    cases want <;> rfl
theorem WL_guardU {j d : Nat} {want : Bool} (hg : o.guard = some (j, want)) (hv : guardVal ops e j = some undef) (hdst : o.dst = some d) (hd : Nat.blt d N = true)
    (h2 : WL P N ops rest Q ((d, undef) :: e) w) : WL P N ops (o :: rest) Q e w := by
  unfold WL
  intro a ha
  unfold wpList
  rw [wanted_undef ha hg hv]
  simp only [Bool.false_eq_true, if_false]
  have h3 : ∀ a, Fits N ((d, undef) :: e) a → wpList P ops (Lift N Q) rest a w := by unfold WL at h2; exact h2
  rw [hdst]
  exact h3 _ (ha.put (d := some d) (show dstOk N (some d) = true from hd) undef)
end Go.Vc
