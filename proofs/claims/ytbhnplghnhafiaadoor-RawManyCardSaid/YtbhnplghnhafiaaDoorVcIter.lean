import Derived.Test.YtbhnplghnhafiaaDoorVcStruct
/-! Ranges over a map, in whatever order. -/
set_option linter.unusedSimpArgs false
set_option linter.unusedVariables false
namespace Go.Vc
open Go Go.MapKept
open Go.ChangeMaps (setBlock)

/-- Block it goes over map r, and has met ks. -/
def IterAt {κ β : Type} (kv : κ → Value) (bv : β → Value) (w : World) (it r : Nat) (f : κ → Option β) (ks : List κ) : Prop :=
  ∃ es clk seen, w.heap[r]? = some (.map es clk) ∧ w.heap[it]? = some (.mapIter (some r) clk seen clk) ∧ Stamped es clk ∧ (∀ e ∈ es.toList, ∃ k b, e.key = kv k ∧ e.val = bv b ∧ f k = some b) ∧ (∀ k b, f k = some b → ∃ e ∈ es.toList, e.key = kv k) ∧
    ks.Nodup ∧ (∀ e ∈ es.toList, ∀ k, e.key = kv k → (seen.contains e.born = true ↔ k ∈ ks)) ∧ (∀ k ∈ ks, ∃ b, f k = some b) ∧ (∀ ks' k, ks = ks' ++ [k] → ∃ e ∈ es.toList, ∃ seen' : Array Nat, seen = seen'.push e.born ∧ e.key = kv k)
section
variable {κ β : Type} {kv : κ → Value} {bv : β → Value} {w w' : World} {it r : Nat} {f : κ → Option β} {ks : List κ} {S : List Nat}
theorem IterAt.lt (h : IterAt kv bv w it r f ks) : it < w.heap.size := let ⟨_, _, _, _, h1, _⟩ := h; (Array.getElem?_eq_some_iff.1 h1).1
theorem IterAt.lt_map (h : IterAt kv bv w it r f ks) : r < w.heap.size := let ⟨_, _, _, h1, _⟩ := h; (Array.getElem?_eq_some_iff.1 h1).1
theorem IterAt.map (h : IterAt kv bv w it r f ks) : MapAt kv bv w r f := let ⟨es, clk, _, h1, _, h2, h3, h4, _⟩ := h; ⟨es, clk, h1, h2, h3, h4⟩
theorem IterAt.keep (h : IterAt kv bv w it r f ks) (hc : Chg S w w') (hi : it ∉ S) (hr : r ∉ S) : IterAt kv bv w' it r f ks := by
  have hlt := h.lt
  have hlm := h.lt_map
  obtain ⟨es, clk, seen, h1, h2, h3⟩ := h
  exact ⟨es, clk, seen, (hc.keep r hlm hr).trans h1, (hc.keep it hlt hi).trans h2, h3⟩
theorem IterAt.keep0 (h : IterAt kv bv w it r f ks) (hc : Chg [] w w') : IterAt kv bv w' it r f ks := h.keep hc (by simp) (by simp)
theorem IterAt.ne_blk (h : IterAt kv bv w it r f ks) {g : Nat} {t : TypeId} {cs : List Value} (hb : Blk w g t cs) : it ≠ g := by
  rintro rfl
  obtain ⟨_, _, _, _, h1, _⟩ := h
  unfold Blk at hb
  rw [h1] at hb
  cases hb
end
section
variable {P : Program} {N : Nat} {e : Env} {w : World} {o : Oper} {K : Value → World → Prop}
theorem op_range (T : Types P) {κ β : Type} {kv : κ → Value} {bv : β → Value} {f : κ → Option β} {r : Nat} {t key el : TypeId} {x : Operand} {d : TypeDesc} (hk : KeyEnc d kv)
    (hop : o.op = .range t x) (hx : ev e x = some (.map (some r))) (ht : T.d t = some (.map key el)) (hm : MapAt kv bv w r f)
    (h : ∀ it w1, w.heap.size ≤ it → Chg [] w w1 → IterAt kv bv w1 it r f [] → K (.pointer (some ⟨it, 0, none⟩)) w1) : OpW P N o e w K := by
  have hlt := hm.lt
  obtain ⟨es, clk, h1, h2, h3, h4⟩ := hm
  have hr := run_range_map (P := P) w t key el r es clk (T.und' ht) h1
  refine OpW_run (w' := w.alloc (.mapIter (some r) clk #[] clk)) (fun a ha => by simp [execOp, hop, ha.ev hx, hr, Result.andThen]) (h w.heap.size _ (Nat.le_refl _) (Chg.alloc w _)
    ⟨es, clk, #[], (MapKept.heap_alloc w _).2 r hlt |>.trans h1, (MapKept.heap_alloc w _).1, h2, h3, h4, List.nodup_nil, fun e _ k _ => by simp, by simp, fun ks' k h => by simp at h⟩)

theorem op_next {κ β : Type} [DecidableEq κ] {kv : κ → Value} {bv : β → Value} {f : κ → Option β} {it r : Nat} {ks : List κ} {x : Operand} {d : TypeDesc} (hk : KeyEnc d kv)
    (hop : o.op = .next x false) (hx : ev e x = some (.pointer (some ⟨it, 0, none⟩))) (hI : IterAt kv bv w it r f ks)
    (h0 : (∀ k b, f k = some b → k ∈ ks) → K (.tuple #[.bool false]) w)
    (h1 : ∀ k b w1, f k = some b → k ∉ ks → Chg [it] w w1 → w1.heap.size = w.heap.size → IterAt kv bv w1 it r f (ks ++ [k]) → K (.tuple #[.bool true, kv k, bv b]) w1) : OpW P N o e w K := by
  have hir : it ≠ r := by
    rintro rfl
    obtain ⟨_, _, _, a1, a2, _⟩ := hI
    rw [a1] at a2
    cases a2
  obtain ⟨es, clk, seen, g1, g2, g3, g4, g5, g6, g7, g8, g9⟩ := hI
  rcases run_next_at (P := P) w o.type it r clk clk seen es clk g2 g1 g3.1 (Nat.le_refl _) with ⟨hs, hr⟩ | ⟨en, hen, w1, hw1, hr⟩
  · refine OpW_run (w' := w) (fun a ha => by simp [execOp, hop, ha.ev hx, hr, Result.andThen]) (h0 fun k b hf => ?_)
    obtain ⟨en, hen, hek⟩ := g5 k b hf
    refine (g7 en hen k hek).1 ?_
    cases hc : seen.contains en.born with
    | true => rfl
    | false =>
      have : en ∈ (leftOf es seen).toList := by
        unfold leftOf
        simp only [Array.toList_filter, List.mem_filter]
        exact ⟨hen, by rw [hc]; rfl⟩
      have hne : (leftOf es seen).toList.length = 0 := by simpa using hs
      rw [List.eq_nil_of_length_eq_zero hne] at this
      cases this
  · obtain ⟨hmem, hnot⟩ := mem_left hen
    obtain ⟨k, b, e1, e2, e3⟩ := g4 en hmem
    have hheap : w1.heap = w.heap := by rcases hw1 with rfl | rfl <;> rfl
    have hkn : k ∉ ks := fun h => by rw [(g7 en hmem k e1).2 h] at hnot; cases hnot
    have hlt : it < w.heap.size := (Array.getElem?_eq_some_iff.1 g2).1
    have hchg : Chg [it] w (setBlock w1 it (.mapIter (some r) clk (seen.push en.born) clk)) := by
      have a1 : Chg [it] w w1 := by rcases hw1 with rfl | rfl; exact Chg.refl _ _; exact Chg.drew _ _
      exact a1.trans (Chg.setMap _) (fun _ h _ => h)
    have hsz : (setBlock w1 it (.mapIter (some r) clk (seen.push en.born) clk)).heap.size = w.heap.size := by simp [setBlock, hheap]
    have hit : (setBlock w1 it (.mapIter (some r) clk (seen.push en.born) clk)).heap[it]? = some (.mapIter (some r) clk (seen.push en.born) clk) := by simp [setBlock, hheap, hlt]
    have hmp : (setBlock w1 it (.mapIter (some r) clk (seen.push en.born) clk)).heap[r]? = some (.map es clk) := by
      simp only [setBlock, hheap]
      rw [Array.getElem?_setIfInBounds_ne hir]
      exact g1
    rw [e1, e2] at hr
    refine OpW_run (w' := setBlock w1 it (.mapIter (some r) clk (seen.push en.born) clk)) (fun a ha => by simp [execOp, hop, ha.ev hx, hr, Result.andThen]) (h1 k b _ e3 hkn hchg hsz ⟨es, clk, _, hmp, hit, g3, g4, g5, ?_, fun e' he' k' hk' => ?_, fun k' hk' => ?_, fun ks' k' hks => ?_⟩)
    · exact List.nodup_append.2 ⟨g6, by simp, fun a ha b hb => by simp at hb; subst hb; rintro rfl; exact hkn ha⟩
    · rw [contains_push]
      by_cases hee : e'.born = en.born
      · have : e' = en := by
          obtain ⟨i, hi⟩ := List.getElem?_of_mem he'
          obtain ⟨j, hj⟩ := List.getElem?_of_mem hmem
          have hb : (es.toList.map (·.born))[i]? = (es.toList.map (·.born))[j]? := by rw [List.getElem?_map, List.getElem?_map, hi, hj]; simp [hee]
          have hil : i < (es.toList.map (·.born)).length := by rw [List.length_map]; exact (List.getElem?_eq_some_iff.1 hi).1
          have := (List.getElem?_inj hil g3.2.1).1 hb
          subst this
          rw [hi] at hj; injection hj
        subst this
        have : k' = k := hk.inj _ _ (hk'.symm.trans e1)
        subst this
        simp
      · have h7 := g7 e' he' k' hk'
        have hne : k' ≠ k := fun h => by
          subst h
          obtain ⟨i, hi⟩ := List.getElem?_of_mem he'
          obtain ⟨j, hj⟩ := List.getElem?_of_mem hmem
          have hb : (es.toList.map (·.key))[i]? = (es.toList.map (·.key))[j]? := by rw [List.getElem?_map, List.getElem?_map, hi, hj]; simp [hk', e1]
          have hil : i < (es.toList.map (·.key)).length := by rw [List.length_map]; exact (List.getElem?_eq_some_iff.1 hi).1
          have := (List.getElem?_inj hil g3.2.2).1 hb
          subst this
          rw [hi] at hj; injection hj with hj
          exact hee (by rw [hj])
        have hbe : (e'.born == en.born) = false := by simpa using hee
        rw [hbe, Bool.or_false, h7, List.mem_append]
        simp [hne]
    · rcases List.mem_append.1 hk' with h | h
      · exact g8 k' h
      · simp at h; subst h; exact ⟨b, e3⟩
    · have : k' = k := by have := (List.append_inj' hks rfl).2; simpa using this.symm
      subst this
      exact ⟨en, hmem, seen, rfl, e1⟩
/-- The key and the value that were met last. -/
theorem op_entry {κ β : Type} {kv : κ → Value} {bv : β → Value} {f : κ → Option β} {it r : Nat} {ks : List κ} {k : κ} {b : β} {x : Operand} {d : TypeDesc} (hk : KeyEnc d kv)
    (hop : o.op = .entry x) (hx : ev e x = some (.pointer (some ⟨it, 0, none⟩))) (hI : IterAt kv bv w it r f (ks ++ [k])) (hf : f k = some b) (h : K (.tuple #[kv k, bv b]) w) : OpW P N o e w K := by
  obtain ⟨es, clk, seen, g1, g2, g3, g4, g5, g6, g7, g8, g9⟩ := hI
  obtain ⟨en, hen, seen', rfl, e1⟩ := g9 ks k rfl
  obtain ⟨k', b', e2, e3, e4⟩ := g4 en hen
  have : k' = k := hk.inj _ _ (e2.symm.trans e1)
  subst this
  rw [hf] at e4
  injection e4 with e4
  subst e4
  have hr := run_entry_at (P := P) w it r clk seen' es clk en g2 g1 hen g3.2.1
  rw [e1, e3] at hr
  exact OpW_run (fun a ha => by simp [execOp, hop, ha.ev hx, hr, Result.andThen]) h
end
end Go.Vc
