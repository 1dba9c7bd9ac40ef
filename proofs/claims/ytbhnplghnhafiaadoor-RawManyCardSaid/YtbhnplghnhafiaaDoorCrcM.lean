import Derived.Test.YtbhnplghnhafiaaDoorNumM
/-! Sums and seals, in plain words. -/
set_option linter.unusedVariables false
namespace Go.Vc
open Go
def xorU (x y : Int) : Int := IntKind.u32.wrap ((BitVec.ofInt 32 x ^^^ BitVec.ofInt 32 y).toNat : Int)
def andU (x y : Int) : Int := IntKind.u32.wrap ((BitVec.ofInt 32 x &&& BitVec.ofInt 32 y).toNat : Int)
def crcBit (x : Int) : Int := xorU (x.fdiv (2 ^ (min (1 : Int).toNat 32))) (andU 3988292384 (IntKind.u32.wrap (0 - andU x 1)))
def crcBits : Nat → Int → Int
  | 0, x => x
  | n + 1, x => crcBit (crcBits n x)
def crcByte (x : Int) (c : UInt8) : Int := crcBits 8 (xorU x (IntKind.u32.wrap (c.toNat : Int)))
def crcTo (l : List UInt8) : Int := l.foldl crcByte 4294967295
def crc (l : List UInt8) : Int := IntKind.u32.wrap ((BitVec.ofInt 32 4294967295 ^^^ BitVec.ofInt 32 (crcTo l)).toNat : Int)
theorem crcTo_take (l : List UInt8) (k : Nat) (h : k < l.length) : crcTo (l.take (k + 1)) = crcByte (crcTo (l.take k)) l[k] := by
  rw [List.take_add_one, List.getElem?_eq_getElem h]
  exact List.foldl_append
theorem wrap_u32_range (n : Int) : 0 ≤ IntKind.u32.wrap n ∧ IntKind.u32.wrap n < 4294967296 := by
  simp [IntKind.wrap, IntKind.signed, IntKind.bits]
  omega
def crcN (l : List UInt8) : Nat := (crc l).toNat
theorem crc_eq (l : List UInt8) : crc l = (crcN l : Int) := by
  have := (wrap_u32_range ((BitVec.ofInt 32 4294967295 ^^^ BitVec.ofInt 32 (crcTo l)).toNat : Int)).1
  exact (Int.toNat_of_nonneg this).symm
theorem crcN_lt (l : List UInt8) : crcN l < 4294967296 := by
  have := (wrap_u32_range ((BitVec.ofInt 32 4294967295 ^^^ BitVec.ofInt 32 (crcTo l)).toNat : Int)).2
  have h2 : crc l < 4294967296 := this
  have := crc_eq l
  omega
/-- The seal of bytes. -/
def sealM (b : List UInt8) : List UInt8 := fourM b.length ++ fourM (crcN (fourM b.length)) ++ fourM (crcN b) ++ b
theorem fourM_length (n : Nat) : (fourM n).length = 4 := rfl
theorem sealM_length (b : List UInt8) : (sealM b).length = 12 + b.length := by simp [sealM, fourM_length]; omega
def firstM (l : List UInt8) : List UInt8 × Nat × Bool :=
  if l.length < 12 then ([], 0, true)
  else if getFourM (l.drop 4) ≠ crcN (l.take 4) then ([], 0, false)
  else if l.length - 12 < getFourM l then ([], 0, true)
  else if getFourM (l.drop 8) ≠ crcN ((l.drop 12).take (getFourM l)) then ([], 0, false)
  else ((l.drop 12).take (getFourM l), 12 + getFourM l, true)
theorem firstM_bound (l : List UInt8) : (firstM l).2.1 = 0 ∨ (12 ≤ (firstM l).2.1 ∧ (firstM l).2.1 ≤ l.length ∧ (firstM l).1.length + 12 = (firstM l).2.1) := by
  unfold firstM
  split
  · exact .inl rfl
  split
  · exact .inl rfl
  split
  · exact .inl rfl
  split
  · exact .inl rfl
  · refine .inr ⟨by dsimp only; omega, by dsimp only; omega, ?_⟩
    simp [List.length_take, List.length_drop]
    omega
def scanM (l : List UInt8) : List (List UInt8) × Nat × Bool :=
  if h : (firstM l).2.1 = 0 then ([], 0, (firstM l).2.2)
  else ((firstM l).1 :: (scanM (l.drop (firstM l).2.1)).1, (firstM l).2.1 + (scanM (l.drop (firstM l).2.1)).2.1, (scanM (l.drop (firstM l).2.1)).2.2)
termination_by l.length
decreasing_by
  all_goals
    rcases firstM_bound l with h' | ⟨h1, h2, _⟩
    · exact absurd h' h
    · rw [List.length_drop]; omega
theorem scanM_end {l : List UInt8} (h : (firstM l).2.1 = 0) : scanM l = ([], 0, (firstM l).2.2) := by rw [scanM]; exact dif_pos h
theorem scanM_step {l : List UInt8} (h : ¬ (firstM l).2.1 = 0) : scanM l = ((firstM l).1 :: (scanM (l.drop (firstM l).2.1)).1, (firstM l).2.1 + (scanM (l.drop (firstM l).2.1)).2.1, (scanM (l.drop (firstM l).2.1)).2.2) := by
  rw [scanM]; exact dif_neg h
/-- What is sealed is opened, whatever stands behind. -/
theorem firstM_sealM (b rest : List UInt8) (hb : b.length < 4294967296) : firstM (sealM b ++ rest) = (b, 12 + b.length, true) := by
  have e0 : sealM b ++ rest = fourM b.length ++ (fourM (crcN (fourM b.length)) ++ (fourM (crcN b) ++ (b ++ rest))) := by simp [sealM]
  have l0 : (sealM b ++ rest).length = 12 + b.length + rest.length := by rw [List.length_append, sealM_length]
  have h1 : getFourM (sealM b ++ rest) = b.length := by rw [e0]; exact getFourM_fourM _ _ hb
  have h2 : (sealM b ++ rest).drop 4 = fourM (crcN (fourM b.length)) ++ (fourM (crcN b) ++ (b ++ rest)) := by rw [e0]; exact List.drop_left' (fourM_length _)
  have h3 : (sealM b ++ rest).take 4 = fourM b.length := by rw [e0]; exact List.take_left' (fourM_length _)
  have h4 : (sealM b ++ rest).drop 8 = fourM (crcN b) ++ (b ++ rest) := by rw [show 8 = 4 + 4 from rfl, ← List.drop_drop, h2]; exact List.drop_left' (fourM_length _)
  have h5 : (sealM b ++ rest).drop 12 = b ++ rest := by rw [show 12 = 8 + 4 from rfl, ← List.drop_drop, h4]; exact List.drop_left' (fourM_length _)
  unfold firstM
  rw [if_neg (by omega), if_neg (by rw [h2, h3, getFourM_fourM _ _ (crcN_lt _)]; simp), if_neg (by omega), h1, h5, List.take_left' rfl, h4, getFourM_fourM _ _ (crcN_lt _), if_neg (by simp)]
theorem scanM_sealM (b rest : List UInt8) (hb : b.length < 4294967296) : scanM (sealM b ++ rest) = (b :: (scanM rest).1, 12 + b.length + (scanM rest).2.1, (scanM rest).2.2) := by
  have h := firstM_sealM b rest hb
  rw [scanM_step (by rw [h]; simp), h]
  dsimp only
  have : (sealM b ++ rest).drop (12 + b.length) = rest := List.drop_left' (sealM_length b)
  rw [this]
theorem scanM_nil : scanM [] = ([], 0, true) := by
  have : firstM [] = ([], 0, true) := by unfold firstM; rw [if_pos (by decide)]
  rw [scanM_end (by rw [this]), this]
end Go.Vc
