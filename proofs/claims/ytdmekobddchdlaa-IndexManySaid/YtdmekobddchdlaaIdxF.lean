import Derived.Test.YtdmekobddchdlaaIdxE
/-! Index: many keys. Plain laws. -/
set_option linter.unusedVariables false
namespace Go.Vc
open Go
theorem countP_upd (seen : Nat → Option Nat) (j q : Nat) : ∀ N, j < N → seen j = none → (List.range N).countP (fun i => (upd seen j q i).isSome) = (List.range N).countP (fun i => (seen i).isSome) + 1
  | 0, h, _ => by omega
  | N + 1, h, hs => by
    rw [List.range_succ, List.countP_append, List.countP_append]
    by_cases hj : j = N
    · subst hj
      have : (List.range j).countP (fun i => (upd seen j q i).isSome) = (List.range j).countP (fun i => (seen i).isSome) := List.countP_congr fun i hi => by
        rw [upd_other _ _ _ _ (by have := List.mem_range.1 hi; omega)]
      rw [this]
      simp [upd_same, hs]
    · rw [countP_upd seen j q N (by omega) hs]
      simp [upd_other seen j N q (fun e => hj e.symm)]
      omega
theorem countP_same (seen : Nat → Option Nat) (j q : Nat) (N : Nat) (hs : (seen j).isSome = true) : (List.range N).countP (fun i => (upd seen j q i).isSome) = (List.range N).countP (fun i => (seen i).isSome) :=
  List.countP_congr fun i _ => by
    by_cases h : i = j
    · subst h; rw [upd_same, hs]; simp
    · rw [upd_other _ _ _ _ h]
theorem countP_step (l : List Nat) (g : Nat → Nat) (s : Nat) : l.countP (fun j => decide (g j < s + 1)) = l.countP (fun j => decide (g j < s)) + l.countP (fun j => decide (g j = s)) := by
  induction l with
  | nil => rfl
  | cons a l ih =>
    simp only [List.countP_cons, ih, decide_eq_true_eq]
    by_cases h1 : g a < s
    · rw [if_pos (by omega), if_pos h1, if_neg (by omega)]; omega
    · by_cases h2 : g a = s
      · rw [if_pos (by omega), if_neg h1, if_pos h2]; omega
      · rw [if_neg (by omega), if_neg h1, if_neg h2]; omega
end Go.Vc
namespace Go.Proofs.Ytdmekobddchdlaa.Try
open Go Go.Vc
theorem nameL_inj {i j : Nat} (hi : i < 676) (hj : j < 676) (h : nameL i = nameL j) : i = j := by
  unfold nameL at h
  injection h with _ h
  injection h with h1 h
  injection h with h2 _
  have h1 := congrArg UInt8.toNat h1
  have h2 := congrArg UInt8.toNat h2
  rw [UInt8.toNat_ofNat', UInt8.toNat_ofNat'] at h1 h2
  omega
def entJ (j q : Nat) : Ent := ⟨q, ⟨((j % 5 : Nat) : Int) + 1, j, q⟩, true⟩
/-- After i rounds: of each number the last change. -/
structure ManyF (N i : Nat) (seen : Nat → Option Nat) (f : List UInt8 → Option Ent) : Prop where
  at_ : ∀ j, j < 676 → f (nameL j) = (seen j).map (entJ j)
  only : ∀ k x, f k = some x → ∃ j, j < N ∧ k = nameL j
  low : ∀ j q, seen j = some q → j < N ∧ q ≤ i
def boolsOf (seen : Nat → Option Nat) : List Value := (List.range 200).map fun j => .bool (seen j).isSome
def cnt (N : Nat) (seen : Nat → Option Nat) : Nat := (List.range N).countP fun j => (seen j).isSome
theorem boolsOf_get (seen : Nat → Option Nat) (j : Nat) (h : j < 200) : (boolsOf seen)[j]? = some (.bool (seen j).isSome) := by
  unfold boolsOf; simp [h]
theorem boolsOf_set (seen : Nat → Option Nat) (j q : Nat) (h : j < 200) : (boolsOf seen).set j (.bool true) = boolsOf (upd seen j q) := by
  unfold boolsOf
  apply List.ext_getElem?
  intro i
  rw [List.getElem?_set]
  by_cases hij : j = i
  · subst hij; simp [h, upd_same]
  · rw [if_neg hij, List.getElem?_map, List.getElem?_map]
    by_cases hi : i < 200
    · simp [hi, upd_other _ _ _ _ (Ne.symm hij)]
    · simp [hi]
theorem boolsOf_same (seen : Nat → Option Nat) (j q : Nat) (h : (seen j).isSome = true) : boolsOf seen = boolsOf (upd seen j q) := by
  unfold boolsOf
  refine List.map_congr_left fun i _ => ?_
  by_cases hij : i = j
  · subst hij; rw [upd_same, h]; rfl
  · rw [upd_other _ _ _ _ hij]
theorem ManyF.newer_ {N i : Nat} {seen : Nat → Option Nat} {f : List UInt8 → Option Ent} (h : ManyF N i seen f) (j : Nat) (hj : j < N) (hN : N ≤ 200) : newer f (nameL j) ⟨(i : Int) + 1, ⟨((j % 5 : Nat) : Int) + 1, j, (i : Int) + 1⟩, true⟩ = true := by
  unfold newer
  rw [h.at_ j (by omega)]
  cases hs : seen j with
  | none => rfl
  | some q =>
    have := (h.low j q hs).2
    simp [entJ]
    omega
theorem ManyF.step {N i : Nat} {seen : Nat → Option Nat} {f : List UInt8 → Option Ent} (h : ManyF N i seen f) (j : Nat) (hj : j < N) (hN : N ≤ 200) :
    ManyF N (i + 1) (upd seen j (i + 1)) (setF f (nameL j) ⟨(i : Int) + 1, ⟨((j % 5 : Nat) : Int) + 1, j, (i : Int) + 1⟩, true⟩) := by
  unfold setF
  rw [if_pos (h.newer_ j hj hN)]
  refine ⟨fun j' hj' => ?_, fun k x hk => ?_, fun j' q hq => ?_⟩
  · by_cases e : j' = j
    · subst e; rw [upd_same, upd_same]; simp [entJ]
    · rw [upd_other _ _ _ _ e, upd_other _ _ _ _ (fun e' => e (nameL_inj hj' (by omega) e')), h.at_ j' hj']
  · by_cases e : k = nameL j
    · exact ⟨j, hj, e⟩
    · rw [upd_other _ _ _ _ e] at hk; exact h.only k x hk
  · by_cases e : j' = j
    · subst e; rw [upd_same] at hq; injection hq with hq; exact ⟨hj, by omega⟩
    · rw [upd_other _ _ _ _ e] at hq; have := h.low j' q hq; exact ⟨this.1, by omega⟩
def names (N : Nat) (seen : Nat → Option Nat) : List (List UInt8) := ((List.range N).filter fun j => (seen j).isSome).map nameL
theorem ManyF.perm {N i : Nat} {seen : Nat → Option Nat} {f : List UInt8 → Option Ent} (h : ManyF N i seen f) (hN : N ≤ 200) {ss : List (List UInt8)} (hn : ss.Nodup) (hs : ∀ k, k ∈ ss ↔ onF f k = true) : ss.Perm (names N seen) := by
  refine (List.perm_ext_iff_of_nodup hn ?_).2 fun k => ?_
  · unfold names
    refine List.pairwise_map.2 ((List.Pairwise.filter _ List.nodup_range).imp_of_mem fun {a b} ha hb hne e => ?_)
    simp only [List.mem_filter, List.mem_range] at ha hb
    exact hne (nameL_inj (by omega) (by omega) e)
  · rw [hs, onF_iff]
    unfold names
    simp only [List.mem_map, List.mem_filter, List.mem_range]
    constructor
    · rintro ⟨x, hx, _⟩
      obtain ⟨j, hj, rfl⟩ := h.only k x hx
      rw [h.at_ j (by omega)] at hx
      cases hsj : seen j with
      | none => rw [hsj] at hx; cases hx
      | some q => exact ⟨j, ⟨hj, by simp [hsj]⟩, rfl⟩
    · rintro ⟨j, ⟨hj, hsj⟩, rfl⟩
      obtain ⟨q, hq⟩ := Option.isSome_iff_exists.1 hsj
      exact ⟨entJ j q, by rw [h.at_ j (by omega), hq]; rfl, rfl⟩
theorem names_length (N : Nat) (seen : Nat → Option Nat) : (names N seen).length = cnt N seen := by
  unfold names cnt
  rw [List.length_map, List.countP_eq_length_filter]
theorem sorted_perm (ss : List (List UInt8)) : (sorted ss).Perm ss := List.mergeSort_perm _ _
theorem ManyF.seg {N i : Nat} {seen : Nat → Option Nat} {f : List UInt8 → Option Ent} (h : ManyF N i seen f) (hN : N ≤ 200) {ss : List (List UInt8)} (hn : ss.Nodup) (hs : ∀ k, k ∈ ss ↔ onF f k = true) (s : Nat) :
    ((sorted ss).filter fun k => segOf f k == (s : Int)).length = ((List.range N).filter fun j => (seen j).isSome).countP (fun j => decide (j % 5 + 1 = s)) := by
  rw [(((sorted_perm ss).trans (h.perm hN hn hs)).filter _).length_eq]
  unfold names
  rw [← List.countP_eq_length_filter, List.countP_map]
  refine List.countP_congr fun j hj => ?_
  simp only [List.mem_filter, List.mem_range] at hj
  obtain ⟨q, hq⟩ := Option.isSome_iff_exists.1 hj.2
  have : segOf f (nameL j) = ((j % 5 : Nat) : Int) + 1 := by
    unfold segOf getF
    rw [h.at_ j (by omega), hq]
    rfl
  simp only [Function.comp, this, beq_iff_eq, decide_eq_true_eq]
  omega
theorem ManyF.get {N i : Nat} {seen : Nat → Option Nat} {f : List UInt8 → Option Ent} (h : ManyF N i seen f) (j : Nat) (hj : j < 676) : getF f (nameL j) = (seen j).map fun q => ⟨((j % 5 : Nat) : Int) + 1, j, q⟩ := by
  unfold getF
  rw [h.at_ j hj]
  cases seen j with
  | none => rfl
  | some q => rfl
theorem le_trans_l (a b c : List UInt8) (h1 : a ≤ b) (h2 : b ≤ c) : a ≤ c := List.le_trans h1 h2
theorem sorted_up (ss : List (List UInt8)) : (sorted ss).Pairwise (fun x y => x ≤ y) := by
  have := List.pairwise_mergeSort (le := fun x y : List UInt8 => decide (x ≤ y)) (fun a b c h1 h2 => by simp at h1 h2 ⊢; exact List.le_trans h1 h2) (fun a b => by simp; exact List.le_total a b) ss
  exact this.imp (fun h => by simpa using h)
/-- Strictly rising. -/
theorem sorted_lt {ss : List (List UInt8)} (hn : ss.Nodup) {i : Nat} {a b : List UInt8} (ha : (sorted ss)[i]? = some a) (hb : (sorted ss)[i + 1]? = some b) : (Op.bytesLess b a || b == a) = false := by
  have hnd : (sorted ss).Nodup := (sorted_perm ss).nodup_iff.2 hn
  have hl := (List.getElem?_eq_some_iff.1 hb).1
  have e1 := (List.getElem?_eq_some_iff.1 ha).2
  have e2 := (List.getElem?_eq_some_iff.1 hb).2
  have hle : a ≤ b := by
    have := List.pairwise_iff_getElem.1 (sorted_up ss) i (i + 1) (by omega) hl (by omega)
    rw [e1, e2] at this; exact this
  have hne : b ≠ a := by
    have := List.pairwise_iff_getElem.1 hnd i (i + 1) (by omega) hl (by omega)
    rw [e1, e2] at this; exact fun e => this e.symm
  rw [Go.Proofs.bytesLess_eq]
  simp [hne]
  exact hle
end Go.Proofs.Ytdmekobddchdlaa.Try
