import Derived.Test.YtbhnplghnhafiaaVcRow
import Derived.Test.YtbhnplghnhafiaaVcSliceK
/-! Arguments that are slices of structs, opened. -/
set_option linter.unusedVariables false
set_option linter.unusedSimpArgs false
namespace Go.Vc
open Go Go.RowKit Go.ChangeShapes Go.WideShapes Go.ChangeAt
/-- A reading at type t, of k cells, gives some a with R. -/
def OpensK (P : Program) (t : TypeId) (k : Nat) {α : Type} (R : World → List Value → α → Prop) : Prop :=
  ∀ {H : Type} (enc : TypeId × Value → H) (w : World) (base : Nat) (spare : Nat → Bool) (held : Bool) (fuel : Nat) (cs : List Value) (x : DataW H × List MemPlace),
    DataW.trod enc P w base spare held fuel t cs = some x → ∃ a, cs.length = k ∧ R w cs a
theorem OpensK.slice {P : Program} {t e : TypeId} {k : Nat} {α : Type} {R : World → List Value → α → Prop} (ht : P.underlying t = some (.slice e)) (hc : P.cellsOf e = k) (hR : OpensK P e k R) : Opens P t (SliceK k R) := by
  intro H enc w base spare held fuel cs x h
  rcases Go.Deep.open_slice ht h with ⟨rfl, _⟩ | ⟨a, len, cap, m, n, D, Pl, rfl, hb, hl, hm, hmm, _, hx⟩
  · exact ⟨_, [], rfl, SliceK.nil _ _ _⟩
  · have hlm : len ≤ m := by rw [hmm]; split <;> omega
    obtain ⟨L, hlen, hL⟩ := list_of (p := fun i a' => ∃ cs', cs'.length = k ∧ (∀ j u, cs'[j]? = some u → w.cell? (a.add (i * k + j)) = some u) ∧ R w cs' a') len (fun i hi => by
      obtain ⟨cs', h1, htr⟩ := hx i (by omega)
      rw [hc] at h1
      obtain ⟨_, hl', hcell⟩ := World.cells?_some h1
      obtain ⟨a', _, hr⟩ := hR enc w base spare held n _ _ htr
      refine ⟨a', cs', hl', fun j u hu => ?_, hr⟩
      have hj : j < k := by have := (List.getElem?_eq_some_iff.1 hu).1; omega
      have := hcell j hj
      rw [add_of_add] at this
      rw [this]; exact hu)
    refine ⟨_, L, rfl, ?_⟩
    unfold SliceK
    refine ⟨some a, cap, by rw [hlen], by omega, hm, fun i a' ha => ?_⟩
    obtain ⟨cs', h1, h2, h3⟩ := hL i a' ha
    exact ⟨a, cs', rfl, h1, h2, h3⟩
/-- A field of a struct. -/
theorem trod_field {H : Type} {enc : TypeId × Value → H} {P : Program} {w : World} {base : Nat} {spare : Nat → Bool} {held : Bool} {fuel : Nat} {t : TypeId} {cs : List Value} {x : DataW H × List MemPlace} {fs : Array Field} (ht : P.underlying t = some (.struct fs))
    (h : DataW.trod enc P w base spare held fuel t cs = some x) : cs.length = P.cellsOf t ∧ ∃ n, ∀ (i : Nat) (f : Field), fs[i]? = some f → ∃ y, DataW.trod enc P w base spare held n f.type ((cs.drop f.offset).take (P.cellsOf f.type)) = some y := by
  obtain ⟨xs, n, _, _, h1, h2, h3⟩ := DataW.trod_struct ht h
  refine ⟨h1, n, fun i f hf => ?_⟩
  have hi := (Array.getElem?_eq_some_iff.1 hf).1
  rw [h3 i f hf]
  exact ⟨_, List.getElem?_eq_getElem (by omega)⟩
end Go.Vc
