import Derived.Test.YtbhnplghnhafiaaDoorVcPlus
/-! Numbers, sums, seals and records, in plain words. -/
set_option linter.unusedVariables false
namespace Go.Vc
open Go
/-! ### numbers -/
def putM (n : Nat) : List UInt8 := if n < 128 then [UInt8.ofNat n] else UInt8.ofNat (n % 128 + 128) :: putM (n / 128)
termination_by n
decreasing_by omega
theorem putM_small {n : Nat} (h : n < 128) : putM n = [UInt8.ofNat n] := by rw [putM]; exact if_pos h
theorem putM_big {n : Nat} (h : ¬ n < 128) : putM n = UInt8.ofNat (n % 128 + 128) :: putM (n / 128) := by rw [putM]; exact if_neg h
theorem putM_len : ∀ (k n : Nat), n < 128 ^ (k + 1) → (putM n).length ≤ k + 1
  | 0, n, h => by rw [putM_small (by omega)]; simp
  | k + 1, n, h => by
    by_cases hn : n < 128
    · rw [putM_small hn]; simp
    · rw [putM_big hn]
      have : n / 128 < 128 ^ (k + 1) := by rw [Nat.pow_succ] at h; omega
      have := putM_len k (n / 128) this
      simp only [List.length_cons]; omega
theorem putM_len10 {n : Nat} (h : n < 18446744073709551616) : (putM n).length ≤ 10 := putM_len 9 n (Nat.lt_of_lt_of_le h (by decide))
theorem putM_pos (n : Nat) : 1 ≤ (putM n).length := by
  by_cases hn : n < 128
  · rw [putM_small hn]; simp
  · rw [putM_big hn]; simp
def getAcc (acc : Nat) (c : UInt8) (i : Nat) : Nat := acc ||| (((c.toNat &&& 127) * 2 ^ (7 * i)) % 18446744073709551616)
def getGo : Nat → Nat → List UInt8 → Nat × Nat
  | _, _, [] => (0, 0)
  | i, acc, c :: t => if 127 < c.toNat then getGo (i + 1) (getAcc acc c i) t else if (0 < i ∧ c.toNat = 0) ∨ (i = 9 ∧ 1 < c.toNat) then (0, 0) else (getAcc acc c i, i + 1)
def getM (b : List UInt8) : Nat × Nat := getGo 0 0 (b.take 10)
theorem getAcc_lt {acc i : Nat} {c : UInt8} (h : acc < 18446744073709551616) : getAcc acc c i < 18446744073709551616 := by
  unfold getAcc
  exact Nat.or_lt_two_pow (n := 64) h (Nat.mod_lt _ (by decide))
theorem getAcc_eq {acc i : Nat} {c : UInt8} (h : acc < 2 ^ (7 * i)) (hc : (c.toNat % 128) * 2 ^ (7 * i) < 18446744073709551616) : getAcc acc c i = acc + (c.toNat % 128) * 2 ^ (7 * i) := by
  unfold getAcc
  have e1 : c.toNat &&& 127 = c.toNat % 128 := Nat.and_two_pow_sub_one_eq_mod _ 7
  rw [e1, Nat.mod_eq_of_lt hc, Nat.or_comm, ← Nat.shiftLeft_eq, ← Nat.shiftLeft_add_eq_or_of_lt h, Nat.add_comm]
theorem getGo_bound : ∀ (l : List UInt8) (i acc : Nat), acc < 18446744073709551616 → (getGo i acc l).1 < 18446744073709551616 ∧ (getGo i acc l).2 ≤ i + l.length
  | [], i, acc, h => ⟨by simp [getGo], by simp [getGo]⟩
  | c :: t, i, acc, h => by
    have := getGo_bound t (i + 1) (getAcc acc c i) (getAcc_lt h)
    unfold getGo
    split
    · exact ⟨this.1, by have := this.2; simp only [List.length_cons]; omega⟩
    · split
      · exact ⟨by simp, by simp⟩
      · exact ⟨getAcc_lt h, by simp only [List.length_cons]; omega⟩
theorem getM_bound (b : List UInt8) : (getM b).1 < 18446744073709551616 ∧ (getM b).2 ≤ b.length ∧ (getM b).2 ≤ 10 := by
  have := getGo_bound (b.take 10) 0 0 (by decide)
  rw [List.length_take] at this
  exact ⟨this.1, by have := this.2; unfold getM; omega, by have := this.2; unfold getM; omega⟩
theorem toNat_ofNat {n : Nat} (h : n < 256) : (UInt8.ofNat n).toNat = n := by simp; omega
theorem getGo_putM (rest : List UInt8) : ∀ (n i acc : Nat), i ≤ 9 → n < 2 ^ (64 - 7 * i) → acc < 2 ^ (7 * i) → (0 < i → 0 < n) → getGo i acc ((putM n ++ rest).take (10 - i)) = (acc + n * 2 ^ (7 * i), i + (putM n).length) := by
  intro n
  induction n using Nat.strongRecOn with
  | ind n ih =>
    intro i acc hi hn ha h0
    have hmul : ∀ a, a ≤ n → a * 2 ^ (7 * i) < 18446744073709551616 := fun a hle => by
      have h1 : a * 2 ^ (7 * i) < 2 ^ (64 - 7 * i) * 2 ^ (7 * i) := Nat.mul_lt_mul_of_pos_right (by omega) (Nat.two_pow_pos _)
      rw [← Nat.pow_add, show 64 - 7 * i + 7 * i = 64 from by omega] at h1
      exact h1
    obtain ⟨j, hj⟩ : ∃ j, 10 - i = j + 1 := ⟨9 - i, by omega⟩
    by_cases hs : n < 128
    · rw [putM_small hs, hj]
      have hc := toNat_ofNat (n := n) (by omega)
      have hm : (UInt8.ofNat n).toNat % 128 = n := by rw [hc]; omega
      simp only [List.cons_append, List.nil_append, List.take_succ_cons]
      unfold getGo
      rw [if_neg (by rw [hc]; omega), if_neg ?_, getAcc_eq ha (by rw [hm]; exact hmul n (Nat.le_refl _)), hm]
      · simp
      · rw [hc]
        rintro (⟨h1, h2⟩ | ⟨h1, h2⟩)
        · have := h0 h1; omega
        · subst h1; have : n < 2 := hn; omega
    · have hi9 : i ≠ 9 := by
        rintro rfl
        have : n < 2 := hn
        omega
      rw [putM_big hs, hj]
      have hc := toNat_ofNat (n := n % 128 + 128) (by omega)
      have hm : (UInt8.ofNat (n % 128 + 128)).toNat % 128 = n % 128 := by rw [hc]; omega
      simp only [List.cons_append, List.take_succ_cons]
      unfold getGo
      rw [if_pos (by rw [hc]; omega), getAcc_eq ha (by rw [hm]; exact hmul _ (Nat.mod_le _ _)), hm, show j = 10 - (i + 1) from by omega]
      have hp : 2 ^ (7 * (i + 1)) = 128 * 2 ^ (7 * i) := by rw [Nat.mul_add, Nat.pow_add, Nat.mul_comm]
      have hq : 2 ^ (64 - 7 * i) = 128 * 2 ^ (64 - 7 * (i + 1)) := by rw [show 64 - 7 * i = 7 + (64 - 7 * (i + 1)) from by omega, Nat.pow_add]
      rw [ih (n / 128) (by omega) (i + 1) _ (by omega) (by rw [hq] at hn; omega) (by
        rw [hp]
        have h1 : n % 128 * 2 ^ (7 * i) ≤ 127 * 2 ^ (7 * i) := Nat.mul_le_mul_right _ (by omega)
        omega) (fun _ => by omega)]
      simp only [List.length_cons, Prod.mk.injEq]
      refine ⟨?_, by omega⟩
      rw [hp, ← Nat.mul_assoc, Nat.add_assoc, ← Nat.add_mul]
      congr 2
      omega
theorem getM_putM {n : Nat} (rest : List UInt8) (h : n < 18446744073709551616) : getM (putM n ++ rest) = (n, (putM n).length) := by
  have := getGo_putM rest n 0 0 (by decide) (by simpa using h) (by decide) (fun h => by omega)
  unfold getM
  simpa using this
def textM (s : List UInt8) : List UInt8 := putM s.length ++ s
def getTextM (b : List UInt8) : List UInt8 × Nat := if (getM b).2 = 0 ∨ b.length - (getM b).2 < (getM b).1 then ([], 0) else ((b.drop (getM b).2).take (getM b).1, (getM b).2 + (getM b).1)
theorem getTextM_textM (s rest : List UInt8) (h : s.length < 1000000000) : getTextM (textM s ++ rest) = (s, (textM s).length) := by
  have e : getM (textM s ++ rest) = (s.length, (putM s.length).length) := by unfold textM; rw [List.append_assoc]; exact getM_putM _ (by omega)
  have hp := putM_pos s.length
  unfold getTextM
  rw [e, if_neg (by simp [textM]; exact fun h => by rw [h] at hp; simp at hp)]
  refine Prod.ext ?_ (by simp [textM])
  simp [textM]
theorem getTextM_bound (b : List UInt8) : (getTextM b).1.length ≤ b.length ∧ (getTextM b).2 ≤ b.length := by
  have := getM_bound b
  unfold getTextM
  split
  · simp
  · rename_i h
    refine ⟨by simp [List.length_take, List.length_drop]; omega, ?_⟩
    show _ + _ ≤ _
    omega
def fourM (n : Nat) : List UInt8 := [UInt8.ofNat n, UInt8.ofNat (n / 256), UInt8.ofNat (n / 65536), UInt8.ofNat (n / 16777216)]
def getFourM : List UInt8 → Nat
  | a :: b :: c :: d :: _ => a.toNat + 256 * b.toNat + 65536 * c.toNat + 16777216 * d.toNat
  | _ => 0
theorem getFourM_fourM (n : Nat) (rest : List UInt8) (h : n < 4294967296) : getFourM (fourM n ++ rest) = n := by
  simp only [fourM, List.cons_append, List.nil_append, getFourM, UInt8.toNat_ofNat']
  omega
theorem getFourM_lt (l : List UInt8) : getFourM l < 4294967296 := by
  unfold getFourM
  split
  · rename_i a b c d t
    have := a.toNat_lt; have := b.toNat_lt; have := c.toNat_lt; have := d.toNat_lt
    omega
  · decide
end Go.Vc
