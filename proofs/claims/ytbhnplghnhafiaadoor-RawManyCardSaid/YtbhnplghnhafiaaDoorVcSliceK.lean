import Derived.Test.YtbhnplghnhafiaaDoorVcPlus
/-! Slices whose elements have several cells, as they come in. -/
set_option linter.unusedSimpArgs false
set_option linter.unusedVariables false
namespace Go.Vc
open Go
/-- v is a slice that reads as L, each element's k cells by R. -/
def SliceK {α : Type} (k : Nat) (R : World → List Value → α → Prop) (w : World) (v : Value) (L : List α) : Prop :=
  ∃ A c, v = .slice A L.length c ∧ L.length ≤ c ∧ c ≤ maxLen ∧ ∀ i x, L[i]? = some x → ∃ ad cs, A = some ad ∧ cs.length = k ∧ (∀ j u, cs[j]? = some u → w.cell? (ad.add (i * k + j)) = some u) ∧ R w cs x
def KeptK {α : Type} (R : World → List Value → α → Prop) : Prop := ∀ w w' cs x, Chg [] w w' → R w cs x → R w' cs x
section
variable {α : Type} {k : Nat} {R : World → List Value → α → Prop} {w w' : World} {v : Value} {L : List α}
theorem SliceK.keep (hR : KeptK R) (hc : Chg [] w w') (h : SliceK k R w v L) : SliceK k R w' v L := by
  obtain ⟨A, c, rfl, h1, h2, h⟩ := h
  refine ⟨A, c, rfl, h1, h2, fun i x hx => ?_⟩
  obtain ⟨ad, cs, rfl, hl, hu, hr⟩ := h i x hx
  exact ⟨ad, cs, rfl, hl, fun j u hj => hc.cell0 (hu j u hj), hR _ _ _ _ hc hr⟩
theorem SliceK.nil (k : Nat) (R : World → List Value → α → Prop) (w : World) : SliceK k R w (.slice none 0 0) [] := ⟨none, 0, rfl, Nat.le_refl _, Nat.zero_le _, fun i x h => by simp at h⟩
theorem SliceK.form (h : SliceK k R w v L) : ∃ A c, v = .slice A L.length c ∧ L.length ≤ c ∧ c ≤ maxLen := let ⟨A, c, h1, h2, h3, _⟩ := h; ⟨A, c, h1, h2, h3⟩
theorem SliceK.len {A : Option Addr} {n c : Nat} (h : SliceK k R w (.slice A n c) L) : n = L.length ∧ L.length ≤ c ∧ c ≤ maxLen := by
  obtain ⟨A', c', he, h1, h2, _⟩ := h
  injection he with e1 e2 e3
  subst e2; subst e3
  exact ⟨rfl, h1, h2⟩
theorem SliceK.get {A : Option Addr} {n c : Nat} (h : SliceK k R w (.slice A n c) L) {i : Nat} {x : α} (hx : L[i]? = some x) : ∃ ad cs, A = some ad ∧ cs.length = k ∧ (∀ j u, cs[j]? = some u → w.cell? (ad.add (i * k + j)) = some u) ∧ R w cs x := by
  obtain ⟨A', c', he, _, _, hh⟩ := h
  injection he with h1 h2 h3
  subst h1
  exact hh i x hx
theorem SliceK.take {A : Option Addr} {n c m j : Nat} (h : SliceK k R w (.slice A n c) L) (hm : m = min j L.length) : SliceK k R w (.slice A m c) (L.take j) := by
  obtain ⟨hn, h1, h2⟩ := h.len
  refine ⟨A, c, by rw [List.length_take, hm], by rw [List.length_take]; omega, h2, fun i x hx => ?_⟩
  rw [List.getElem?_take] at hx
  split at hx
  · exact h.get hx
  · cases hx
end
section
variable {P : Program} {N : Nat} {e : Env} {w : World} {o : Oper} {K : Value → World → Prop}
/-- A struct out of cells that are known. -/
theorem op_load_cells (T : Types P) {x : Operand} {t : TypeId} {d : TInfo} {ad : Addr} {cs : List Value}
    (hop : o.op = .load t x) (hx : ev e x = some (.pointer (some ad))) (ht : T.tbl t = some d) (hd : aggI d = true) (hs' : Nat.beq d.size cs.length = true) (hcs : ∀ j u, cs[j]? = some u → w.cell? (ad.add j) = some u) (h : K (.agg cs.toArray) w) : OpW P N o e w K := by
  obtain ⟨q, hq, _, hs, _⟩ := T.inf t d ht
  refine OpW_run (fun a ha => ?_) h
  have hl := run_loadCells_list (P := P) w ad cs hcs
  have hlen : d.size = cs.length := Nat.eq_of_beq_eq_true hs'
  rw [← hlen] at hl
  have hagg := run_isAgg T ht w
  rw [hd] at hagg
  simp [execOp, hop, ha.ev hx, Instr.loadAt, Instr.sureAddr, loadVar, hagg, sizeOf, typeInfo, hq, hs, hl]
end
attribute [irreducible] SliceK
end Go.Vc
