import Derived.Test.YtdmekobddchdlaaPar3
/-! Plain laws of parity. -/
set_option linter.unusedVariables false
namespace Go.Proofs.Ytdmekobddchdlaa.Try
open Go Go.Vc

theorem foldl_acc (L : List (List UInt8)) (k : Nat) : ∀ c : UInt8, L.foldl (fun x b => x ^^^ (b[k]?.getD 0)) c = c ^^^ xorAt L k := by
  unfold xorAt
  induction L with
  | nil => intro c; simp
  | cons b L ih => intro c; rw [List.foldl_cons, ih, List.foldl_cons, ih (0 ^^^ _)]; simp [UInt8.xor_assoc]
theorem xorAt_append (A B : List (List UInt8)) (k : Nat) : xorAt (A ++ B) k = xorAt A k ^^^ xorAt B k := by
  rw [xorAt, List.foldl_append, foldl_acc]; rfl
theorem xorAt_cons (b : List UInt8) (B : List (List UInt8)) (k : Nat) : xorAt (b :: B) k = (b[k]?.getD 0) ^^^ xorAt B k := by
  rw [xorAt, List.foldl_cons, foldl_acc]; simp
theorem maxOf_append (A B : List (List UInt8)) : maxOf (A ++ B) = max (maxOf A) (maxOf B) := by
  have : ∀ (B : List (List UInt8)) (n : Nat), B.foldl (fun n b => max n b.length) n = max n (maxOf B) := by
    intro B
    induction B with
    | nil => intro n; simp [maxOf]
    | cons b B ih => intro n; rw [List.foldl_cons, ih, show maxOf (b :: B) = B.foldl (fun n b => max n b.length) (max 0 b.length) from rfl, ih (max 0 b.length)]; omega
  rw [maxOf, List.foldl_append, this]; rfl
theorem maxOf_mem (L : List (List UInt8)) (b : List UInt8) (h : b ∈ L) : b.length ≤ maxOf L := by
  obtain ⟨A, B, rfl⟩ := List.append_of_mem h
  rw [maxOf_append, show b :: B = [b] ++ B from rfl, maxOf_append]
  have : maxOf [b] = b.length := by simp [maxOf]
  omega
theorem maxS_lens (L : List (List UInt8)) : maxS (L.map fun b => (b.length : Int)) = maxOf L := by
  have : ∀ (L : List (List UInt8)) (n : Nat), (L.map fun b => (b.length : Int)).foldl max (n : Int) = ((L.foldl (fun n b => max n b.length) n : Nat) : Int) := by
    intro L
    induction L with
    | nil => intro n; rfl
    | cons b L ih => intro n; rw [List.map_cons, List.foldl_cons, List.foldl_cons, ← ih]; congr 1; omega
  exact this L 0

/-- Rows none of which is lost, and whose sizes are right, are gone over. -/
theorem repGo_pass (S : List Int) (lost : List Bool) (T : List (List UInt8)) : ∀ (R : List (List UInt8)) (i : Nat) (at_ : Option Nat) (ag : List UInt8) (out : List (List UInt8)),
    (∀ j b, R[j]? = some b → lost.getD (i + j) false = false ∧ (b.length : Int) = S.getD (i + j) 0) →
    repGo S lost i (R ++ T) at_ ag out = repGo S lost (i + R.length) T at_ (R.foldl xorInto ag) (out ++ R)
  | [], i, at_, ag, out, _ => by simp
  | b :: R, i, at_, ag, out, h => by
    obtain ⟨h1, h2⟩ := h 0 b rfl
    rw [Nat.add_zero] at h1 h2
    rw [List.cons_append, repGo, h1]
    simp only [Bool.false_eq_true, if_false]
    rw [if_pos h2, repGo_pass S lost T R (i + 1) at_ (xorInto ag b) (out ++ [b]) (fun j c hj => by
      have := h (j + 1) c (by simpa using hj)
      rw [show i + 1 + j = i + (j + 1) from by omega]; exact this)]
    rw [List.foldl_cons, List.length_cons, List.append_assoc]
    rw [show i + 1 + R.length = i + (R.length + 1) from by omega]; rfl

/-- One member is lost: it is made again. -/
theorem repair_one (A B : List (List UInt8)) (b junk : List UInt8) (lost : List Bool) (hlen : lost.length = A.length + 1 + B.length)
    (hlost : ∀ j, lost.getD j false = decide (j = A.length)) :
    repair (A ++ junk :: B) (parity (A ++ b :: B)) ((A ++ b :: B).map fun b => (b.length : Int)) lost = some (A ++ b :: B) := by
  have hS : ∀ j c, (A ++ b :: B)[j]? = some c → ((A ++ b :: B).map fun b => (b.length : Int)).getD j 0 = c.length := by
    intro j c hj; rw [List.getD_eq_getElem?_getD, List.getElem?_map, hj]; rfl
  have hpos : ∀ s ∈ (A ++ b :: B).map (fun b => (b.length : Int)), 0 ≤ s := by
    intro s hs
    obtain ⟨c, _, rfl⟩ := List.mem_map.1 hs
    omega
  unfold repair
  rw [if_pos ⟨hpos, by simp, by rw [hlen]; simp; omega, by rw [maxS_lens, parity_length]⟩]
  · rw [repGo_pass _ _ _ A 0 none _ [] (fun j c hj => by
      have hjl := (List.getElem?_eq_some_iff.1 hj).1
      rw [Nat.zero_add]
      exact ⟨by rw [hlost]; simp; omega, (hS j c (by rw [List.getElem?_append_left hjl]; exact hj)).symm⟩)]
    rw [Nat.zero_add, repGo, hlost]
    simp only [decide_true, if_true, Option.isSome_none, Bool.false_eq_true, if_false, List.nil_append]
    have hp := repGo_pass ((A ++ b :: B).map fun b => (b.length : Int)) lost [] B (A.length + 1) (some A.length) (A.foldl xorInto (parity (A ++ b :: B))) (A ++ [[]]) (fun j c hj => by
      refine ⟨by rw [hlost]; simp; omega, (hS (A.length + 1 + j) c ?_).symm⟩
      rw [List.getElem?_append_right (by omega), show A.length + 1 + j - A.length = j + 1 from by omega]; simpa using hj)
    rw [List.append_nil] at hp
    rw [hp, repGo]
    simp only [Option.map_some, repEnd]
    congr 1
    have hsz : ((A ++ b :: B).map fun b => (b.length : Int)).getD A.length 0 = b.length := hS _ b (by rw [List.getElem?_append_right (Nat.le_refl _)]; simp)
    rw [hsz, Int.toNat_natCast, List.append_assoc, List.set_append_right _ _ (Nat.le_refl _), Nat.sub_self]
    simp only [List.cons_append, List.nil_append, List.set_cons_zero]
    congr 2
    -- the row itself
    have hbm : b.length ≤ maxOf (A ++ b :: B) := maxOf_mem _ _ (by simp)
    apply List.ext_getElem?
    intro k
    rw [List.getElem?_take]
    by_cases hk : k < b.length
    · rw [if_pos hk, foldl_xor_get, foldl_xor_get, parity_get _ _ (by omega)]
      simp only [Option.map_some]
      rw [foldl_acc, foldl_acc, xorAt_append, xorAt_cons, List.getElem?_eq_getElem hk]
      simp only [Option.getD_some]
      congr 1
      generalize xorAt A k = x
      generalize xorAt B k = y
      generalize b[k] = z
      rw [UInt8.xor_comm x (z ^^^ y), UInt8.xor_assoc (z ^^^ y), UInt8.xor_self, UInt8.xor_zero, UInt8.xor_assoc, UInt8.xor_self, UInt8.xor_zero]
    · rw [if_neg hk, List.getElem?_eq_none (by omega)]

/-- None is lost. -/
theorem repair_all (L : List (List UInt8)) (lost : List Bool) (hlen : lost.length = L.length) (hlost : ∀ j, lost.getD j false = false) :
    repair L (parity L) (L.map fun b => (b.length : Int)) lost = some L := by
  have hpos : ∀ s ∈ L.map (fun b => (b.length : Int)), 0 ≤ s := by
    intro s hs
    obtain ⟨c, _, rfl⟩ := List.mem_map.1 hs
    omega
  unfold repair
  rw [if_pos ⟨hpos, by simp, hlen, by rw [maxS_lens, parity_length]⟩]
  · have hp := repGo_pass (L.map fun b => (b.length : Int)) lost [] L 0 none (parity L) [] (fun j c hj => by
      rw [Nat.zero_add]
      refine ⟨hlost j, ?_⟩
      rw [List.getD_eq_getElem?_getD, List.getElem?_map, hj]; rfl)
    rw [List.append_nil] at hp
    rw [hp, repGo]
    rfl

/-- Two are lost. -/
theorem repair_two (L : List (List UInt8)) (par : List UInt8) (lost : List Bool) (a b : Nat) (hab : a < b) (hb : b < L.length) (hlost : ∀ j, lost.getD j false = decide (j = a ∨ j = b)) :
    repair L par (L.map fun b => (b.length : Int)) lost = none := by
  unfold repair
  split
  · have hS : ∀ j c, L[j]? = some c → (L.map fun b => (b.length : Int)).getD j 0 = c.length := by
      intro j c hj; rw [List.getD_eq_getElem?_getD, List.getElem?_map, hj]; rfl
    have h1 : L = L.take a ++ L[a] :: (L.drop (a + 1)) := by
      rw [← List.drop_eq_getElem_cons (by omega), List.take_append_drop]
    have h2 : L.drop (a + 1) = (L.drop (a + 1)).take (b - a - 1) ++ L[b] :: L.drop (b + 1) := by
      have : L[b] :: L.drop (b + 1) = (L.drop (a + 1)).drop (b - a - 1) := by
        rw [List.drop_drop, show a + 1 + (b - a - 1) = b from by omega, ← List.drop_eq_getElem_cons hb]
      rw [this, List.take_append_drop]
    have h3 : repGo (L.map fun b => (b.length : Int)) lost 0 L none par [] = none := by
      generalize hSS : (L.map fun b => (b.length : Int)) = S at hS ⊢
      have ht : (L.take a).length = a := by rw [List.length_take]; omega
      have hstep := repGo_pass S lost (L[a] :: L.drop (a + 1)) (L.take a) 0 none par [] (fun j c hj => by
        have hjl := (List.getElem?_eq_some_iff.1 hj).1
        rw [Nat.zero_add]
        rw [List.getElem?_take] at hj
        split at hj
        · exact ⟨by rw [hlost]; simp; omega, (hS j c hj).symm⟩
        · cases hj)
      rw [← h1, ht, Nat.zero_add, repGo, hlost] at hstep
      simp only [true_or, decide_true, if_true, Option.isSome_none, Bool.false_eq_true, if_false] at hstep
      have ht2 : ((L.drop (a + 1)).take (b - a - 1)).length = b - a - 1 := by rw [List.length_take, List.length_drop]; omega
      have hstep2 := repGo_pass S lost (L[b] :: L.drop (b + 1)) ((L.drop (a + 1)).take (b - a - 1)) (a + 1) (some a) ((L.take a).foldl xorInto par) ([] ++ L.take a ++ [[]]) (fun j c hj => by
        rw [List.getElem?_take] at hj
        split at hj
        · rw [List.getElem?_drop] at hj
          exact ⟨by rw [hlost]; simp; omega, (hS (a + 1 + j) c hj).symm⟩
        · cases hj)
      rw [← h2, ht2, show a + 1 + (b - a - 1) = b from by omega, repGo, hlost] at hstep2
      simp only [or_true, decide_true, if_true, Option.isSome_some] at hstep2
      rw [hstep, hstep2]
    rw [h3]; rfl
  · rfl

theorem parity_turn (L : List (List UInt8)) (k : Nat) : parity (L.drop k ++ L.take k) = parity L := by
  have hm : maxOf (L.drop k ++ L.take k) = maxOf L := by
    rw [maxOf_append]
    have := maxOf_append (L.take k) (L.drop k)
    rw [List.take_append_drop] at this
    rw [this]; omega
  have hx : ∀ i, xorAt (L.drop k ++ L.take k) i = xorAt L i := by
    intro i
    rw [xorAt_append]
    have := xorAt_append (L.take k) (L.drop k) i
    rw [List.take_append_drop] at this
    rw [this, UInt8.xor_comm]
  rw [parity_eq, parity_eq, hm]
  exact List.map_congr_left fun i _ => hx i

theorem parity_twice (L : List (List UInt8)) : parity (L ++ [parity L]) = List.replicate (maxOf L) 0 := by
  have hm : maxOf (L ++ [parity L]) = maxOf L := by
    rw [maxOf_append]
    have : maxOf [parity L] = maxOf L := by simp [maxOf, parity_length]
    omega
  apply List.ext_getElem?
  intro k
  by_cases hk : k < maxOf L
  · rw [parity_get _ _ (by omega), xorAt_append, xorAt_cons, parity_get L k hk, List.getElem?_replicate, if_pos hk]
    simp [xorAt]
  · rw [List.getElem?_eq_none (by rw [parity_length]; omega), List.getElem?_eq_none (by simp; omega)]

theorem parity_begun : parity [[97, 98], [99]] = [2, 98] := by decide
theorem repair_begun : repair [[], [99]] [2, 98] [2, 1] [true, false] = some [[97, 98], [99]] := by decide
end Go.Proofs.Ytdmekobddchdlaa.Try
