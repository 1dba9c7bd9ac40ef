import Derived.Test.YtdmekobddchdlaaSec4
/-! Sectors: what rots is made again. The plain law. -/
set_option linter.unusedVariables false
namespace Go.Proofs.Ytdmekobddchdlaa.Try
open Go Go.Vc

/-- The first k bytes of row i, rotten where they are bad. -/
def rotTo (Bd : List (List Bool)) (x : UInt8) (i k : Nat) (row : List UInt8) : List UInt8 := row.mapIdx fun j b => if j < k ∧ isBad Bd i (j / 64) = true then b ^^^ x else b
def rotRow (Bd : List (List Bool)) (x : UInt8) (i : Nat) (row : List UInt8) : List UInt8 := rotTo Bd x i row.length row
def rot (Bd : List (List Bool)) (x : UInt8) (M : List (List UInt8)) : List (List UInt8) := M.mapIdx fun i row => rotRow Bd x i row
section
variable (Bd : List (List Bool)) (x : UInt8)
theorem rotTo_length (i k : Nat) (row : List UInt8) : (rotTo Bd x i k row).length = row.length := by simp [rotTo]
theorem rotTo_zero (i : Nat) (row : List UInt8) : rotTo Bd x i 0 row = row := by
  apply List.ext_getElem?
  intro j
  simp [rotTo]
theorem rotTo_get (i k : Nat) (row : List UInt8) (j : Nat) (hj : j < row.length) : (rotTo Bd x i k row)[j]? = some (if j < k ∧ isBad Bd i (j / 64) = true then row[j] ^^^ x else row[j]) := by simp [rotTo, hj]
theorem rotTo_stay (i k : Nat) (row : List UInt8) (h : isBad Bd i (k / 64) = false) : rotTo Bd x i (k + 1) row = rotTo Bd x i k row := by
  apply List.ext_getElem?
  intro j
  by_cases hj : j < row.length
  · rw [rotTo_get _ _ _ _ _ _ hj, rotTo_get _ _ _ _ _ _ hj]
    congr 1
    by_cases e : j = k
    · subst e; rw [h]; simp
    · have : j < k + 1 ↔ j < k := by omega
      simp only [this]
  · rw [List.getElem?_eq_none (by rw [rotTo_length]; omega), List.getElem?_eq_none (by rw [rotTo_length]; omega)]
theorem rotTo_turn (i k : Nat) (row : List UInt8) (hk : k < row.length) (h : isBad Bd i (k / 64) = true) : (rotTo Bd x i k row).set k (row[k] ^^^ x) = rotTo Bd x i (k + 1) row := by
  apply List.ext_getElem?
  intro j
  rw [List.getElem?_set]
  by_cases e : k = j
  · subst e
    rw [if_pos rfl, rotTo_length, if_pos hk, rotTo_get _ _ _ _ _ _ hk, if_pos ⟨by omega, h⟩]
  · rw [if_neg e]
    by_cases hj : j < row.length
    · rw [rotTo_get _ _ _ _ _ _ hj, rotTo_get _ _ _ _ _ _ hj]
      have : j < k + 1 ↔ j < k := by omega
      simp only [this]
    · rw [List.getElem?_eq_none (by rw [rotTo_length]; omega), List.getElem?_eq_none (by rw [rotTo_length]; omega)]
theorem rotTo_none (i k : Nat) (row : List UInt8) (h : Bd.length ≤ i) : rotTo Bd x i k row = row := by
  apply List.ext_getElem?
  intro j
  by_cases hj : j < row.length
  · rw [rotTo_get _ _ _ _ _ _ hj, if_neg, List.getElem?_eq_getElem hj]
    rintro ⟨_, h2⟩
    unfold isBad at h2
    rw [List.getD_eq_getElem?_getD (l := Bd), List.getElem?_eq_none h] at h2
    simp at h2
  · rw [List.getElem?_eq_none (by rw [rotTo_length]; omega), List.getElem?_eq_none (by omega)]
theorem rot_length (M : List (List UInt8)) : (rot Bd x M).length = M.length := by simp [rot]
theorem rot_get (M : List (List UInt8)) (i : Nat) (hi : i < M.length) : (rot Bd x M)[i]? = some (rotRow Bd x i M[i]) := by simp [rot, hi]
theorem rot_lens (M : List (List UInt8)) : lens (rot Bd x M) = lens M := by
  apply List.ext_getElem?
  intro i
  by_cases hi : i < M.length
  · rw [lens, lens, List.getElem?_map, List.getElem?_map, rot_get _ _ _ _ hi, List.getElem?_eq_getElem hi]
    simp [rotRow, rotTo_length]
  · rw [List.getElem?_eq_none (by rw [lens_length, rot_length]; omega), List.getElem?_eq_none (by rw [lens_length]; omega)]
theorem rot_max (M : List (List UInt8)) : maxOf (rot Bd x M) = maxOf M := by
  have h1 := maxS_lens (rot Bd x M)
  have h2 := maxS_lens M
  have h3 : lens (rot Bd x M) = lens M := rot_lens Bd x M
  unfold lens at h3
  rw [h3] at h1
  omega
theorem rot_row (M : List (List UInt8)) : ∀ r ∈ rot Bd x M, ∃ r' ∈ M, r.length = r'.length := by
  intro r hr
  obtain ⟨i, hi⟩ := List.getElem?_of_mem hr
  have hl : i < M.length := by have := (List.getElem?_eq_some_iff.1 hi).1; rw [rot_length] at this; exact this
  rw [rot_get _ _ _ _ hl] at hi
  injection hi with hi
  subst hi
  exact ⟨M[i], List.getElem_mem hl, by rw [rotRow, rotTo_length]⟩
end
theorem xorNot_all (M : List (List UInt8)) (a j : Nat) (c : UInt8) : ∀ m, m ≤ M.length → xorNot M (fun i => i == a) j m c = c ^^^ xorAt (M.take m) j ^^^ (if a < m then (M.getD a []).getD j 0 else 0) := by
  intro m
  induction m with
  | zero => intro _; simp [xorNot, xorAt]
  | succ m ih =>
    intro hm
    have hms : xorAt (M.take (m + 1)) j = xorAt (M.take m) j ^^^ (M.getD m []).getD j 0 := by
      rw [List.take_add_one, List.getElem?_eq_getElem (by omega), xorAt_append, getD_row (show m < M.length by omega)]
      simp [xorAt]
    rw [xorNot, ih (by omega), hms]
    by_cases e : m = a
    · subst e
      rw [if_pos (by simp), if_neg (by omega), if_pos (by omega), UInt8.xor_zero]
      rw [← UInt8.xor_assoc, UInt8.xor_assoc (c ^^^ _), UInt8.xor_self, UInt8.xor_zero]
    · rw [if_neg (by simpa using e)]
      by_cases h : a < m
      · rw [if_pos h, if_pos (by omega)]
        rw [← UInt8.xor_assoc, UInt8.xor_assoc (c ^^^ _), UInt8.xor_assoc (c ^^^ _), UInt8.xor_comm ((M.getD a []).getD j 0)]
      · rw [if_neg h, if_neg (by omega), UInt8.xor_zero, UInt8.xor_zero, UInt8.xor_assoc]
theorem xorNot_rows (D M : List (List UInt8)) (p : Nat → Bool) (j : Nat) (c : UInt8) : ∀ m, (∀ i, i < m → p i = false → (D.getD i []).getD j 0 = (M.getD i []).getD j 0) → xorNot D p j m c = xorNot M p j m c := by
  intro m
  induction m with
  | zero => intro _; rfl
  | succ m ih =>
    intro h
    rw [xorNot, xorNot, ih (fun i hi => h i (by omega))]
    cases hp : p m with
    | true => rfl
    | false => rw [h m (by omega) hp]
/-- What is answered is what was there. -/
theorem sectors_rot (M : List (List UInt8)) (Bd : List (List Bool)) (x : UInt8) (R : List (List UInt8)) (h : sectors (rot Bd x M) (parity M) Bd = some R) : R = M := by
  unfold sectors at h
  split at h
  case isFalse => cases h
  rename_i hok
  injection h with h
  subst h
  symm
  have hl := rot_length Bd x M
  refine stage_ext _ _ _ _ M hl.symm fun i r hr hi => ?_
  have hiM : i < M.length := by omega
  have hD : (rot Bd x M)[i] = rotRow Bd x i M[i] := by
    have := rot_get Bd x M i hiM
    rw [List.getElem?_eq_getElem hi] at this
    injection this
  rw [List.getElem?_eq_getElem hiM] at hr
  injection hr with hr
  subst hr
  have hlen : (rot Bd x M)[i].length = M[i].length := by rw [hD, rotRow, rotTo_length]
  refine ⟨hlen.symm, fun j hj => ?_⟩
  have hjM : j < M[i].length := by omega
  rw [List.getElem?_eq_getElem hjM]
  congr 1
  -- a byte that is not bad is as it was
  have hsame : ∀ i' (hi' : i' < M.length), cand (rot Bd x M) Bd (j / 64) i' = false → ((rot Bd x M).getD i' []).getD j 0 = (M.getD i' []).getD j 0 := by
    intro i' hi' hc
    have hg : (rot Bd x M).getD i' [] = rotRow Bd x i' M[i'] := by rw [List.getD_eq_getElem?_getD, rot_get _ _ _ _ hi']; rfl
    rw [getD_row hi', hg]
    unfold cand at hc
    rw [hg, rotRow, rotTo_length] at hc
    by_cases hj' : j < M[i'].length
    · rw [decide_eq_true (show j / 64 * 64 < M[i'].length by omega), Bool.true_and] at hc
      rw [rotRow, List.getD_eq_getElem?_getD, rotTo_get _ _ _ _ _ _ hj', hc, if_neg (by simp), List.getD_eq_getElem?_getD, List.getElem?_eq_getElem hj']
    · rw [List.getD_eq_getElem?_getD, List.getD_eq_getElem?_getD, List.getElem?_eq_none (by rw [rotRow, rotTo_length]; omega), List.getElem?_eq_none (by omega)]
  have hself : cand (rot Bd x M) Bd (j / 64) i = false → (rot Bd x M)[i][j] = M[i][j] := by
    intro hc
    have := hsame i hiM hc
    rw [getD_row hi, getD_row hiM, toNat_u8 _ j hj, toNat_u8 _ j hjM] at this
    exact this
  have hjm : j < maxOf (rot Bd x M) := by have := maxOf_mem (rot Bd x M) _ (List.getElem_mem hi); omega
  have hst := hok.2 (j / 64) (by omega) (by omega)
  unfold fixed
  unfold stripeOk at hst
  cases hgo : stripeGo (rot Bd x M) Bd (j / 64) (rot Bd x M).length with
  | none => rw [hgo] at hst; cases hst
  | some at_ =>
    cases at_ with
    | none =>
      rw [if_neg (by rintro ⟨_, h⟩; cases h)]
      exact (hself (stripeGo_none _ _ _ _ hgo i hi)).symm
    | some a =>
      obtain ⟨ha, hca, hcn⟩ := stripeGo_lt _ _ _ _ a hgo
      by_cases e : a = i
      · subst e
        rw [if_pos ⟨hjm, rfl⟩, xorNot_rows _ M _ j _ _ (fun i' hi' hp => hsame i' (by omega) (hcn i' hi' (by simpa using hp))), hl, xorNot_all M a j _ _ (Nat.le_refl _), List.take_length, if_pos hiM]
        have hpj : (parity M).getD j 0 = xorAt M j := by rw [List.getD_eq_getElem?_getD, parity_get M j (by rw [rot_max] at hjm; exact hjm)]; rfl
        rw [hpj, UInt8.xor_self, UInt8.zero_xor, getD_row hiM, toNat_u8 _ j hjM]
      · rw [if_neg (by rintro ⟨_, h⟩; injection h with h; injection h with h; exact e h)]
        exact (hself (hcn i hi (fun h => e h.symm))).symm
end Go.Proofs.Ytdmekobddchdlaa.Try
