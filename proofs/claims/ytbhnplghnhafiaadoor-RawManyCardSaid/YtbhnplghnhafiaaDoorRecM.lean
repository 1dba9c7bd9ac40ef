import Derived.Test.YtbhnplghnhafiaaDoorCrcM
/-! Records, in plain words. -/
set_option linter.unusedVariables false
namespace Go.Vc
open Go
structure RecM where
  kind : Int
  seq : Int
  key : List UInt8
  val : List UInt8
def recL (r : RecM) : List Value := [.int .i64 r.kind, .int .i64 r.seq, .string (str r.key), .string (str r.val)]
def checkM (r : RecM) : Int :=
  if r.key = [] then 1
  else if 100 < r.key.length ∨ 4000 < r.val.length then 2
  else if (r.kind ≠ 1 ∧ r.kind ≠ 0) ∨ (r.kind = 0 ∧ r.val ≠ []) ∨ r.seq < 1 ∨ 1125899906842624 < r.seq then 10
  else 0
structure RecOk (r : RecM) : Prop where
  key : r.key ≠ []
  key100 : r.key.length ≤ 100
  val4000 : r.val.length ≤ 4000
  kind : r.kind = 1 ∨ (r.kind = 0 ∧ r.val = [])
  seq1 : 1 ≤ r.seq
  seq2 : r.seq ≤ 1125899906842624
theorem checkM_ok {r : RecM} : checkM r = 0 ↔ RecOk r := by
  unfold checkM
  constructor
  · intro h
    split at h
    · cases h
    split at h
    · cases h
    split at h
    · cases h
    · rename_i h1 h2 h3
      refine ⟨h1, by omega, by omega, ?_, by omega, by omega⟩
      by_cases hk : r.kind = 1
      · exact .inl hk
      · refine .inr ⟨by omega, ?_⟩
        by_cases hv : r.val = []
        · exact hv
        · exact absurd (.inr (.inl ⟨by omega, hv⟩)) h3
  · rintro ⟨h1, h2, h3, h4, h5, h6⟩
    rw [if_neg h1, if_neg (by omega), if_neg ?_]
    rintro (h | h | h | h)
    · omega
    · rcases h4 with h4 | ⟨_, h4⟩
      · omega
      · exact h.2 h4
    · omega
    · omega
def bodyM (r : RecM) : List UInt8 := UInt8.ofNat r.kind.toNat :: putM r.seq.toNat ++ textM r.key ++ (if r.kind = 1 then textM r.val else [])
def encM (r : RecM) : List UInt8 × Int := if checkM r ≠ 0 then ([], checkM r) else (sealM (bodyM r), 0)
theorem textM_len (s : List UInt8) (h : s.length < 1000000000) : (textM s).length ≤ 10 + s.length := by
  have := putM_len10 (n := s.length) (by omega)
  unfold textM
  rw [List.length_append]; omega
theorem bodyM_len {r : RecM} (h : RecOk r) : (bodyM r).length ≤ 4200 := by
  have h1 := putM_len10 (n := r.seq.toNat) (by have := h.seq2; omega)
  have h2 := textM_len r.key (by have := h.key100; omega)
  have h3 := textM_len r.val (by have := h.val4000; omega)
  have := h.key100; have := h.val4000
  unfold bodyM
  simp only [List.length_append, List.length_cons]
  split
  · omega
  · simp; omega
/-- A reader: what is left, and whether something did not go. -/
def stepM (s : List UInt8 × Bool) (n : Nat) : List UInt8 × Bool := if s.2 = true ∨ n = 0 then ([], true) else (s.1.drop n, false)
def numM (s : List UInt8 × Bool) (most : Nat) : Nat × (List UInt8 × Bool) :=
  (if (stepM s (if most < (getM s.1).1 then 0 else (getM s.1).2)).2 = true then 0 else (getM s.1).1, stepM s (if most < (getM s.1).1 then 0 else (getM s.1).2))
def readM' (s : List UInt8 × Bool) : List UInt8 × (List UInt8 × Bool) := (if (stepM s (getTextM s.1).2).2 = true then [] else (getTextM s.1).1, stepM s (getTextM s.1).2)
def dec1 (b : List UInt8) : Nat × (List UInt8 × Bool) := numM (b, false) 1
def dec2 (b : List UInt8) : Nat × (List UInt8 × Bool) := numM (dec1 b).2 1125899906842624
def dec3 (b : List UInt8) : List UInt8 × (List UInt8 × Bool) := readM' (dec2 b).2
def dec4 (b : List UInt8) : List UInt8 × (List UInt8 × Bool) := if (dec1 b).1 = 1 then readM' (dec3 b).2 else ([], (dec3 b).2)
def decR (b : List UInt8) : RecM := ⟨(dec1 b).1, (dec2 b).1, (dec3 b).1, (dec4 b).1⟩
def decOk (b : List UInt8) : Bool := decide (((dec4 b).2.2 = false ∧ (dec4 b).2.1 = []) ∧ checkM (decR b) = 0 ∧ (encM (decR b)).1 = sealM b)
theorem numM_putM {n most : Nat} (rest : List UInt8) (h : n ≤ most) (hm : most < 18446744073709551616) : numM (putM n ++ rest, false) most = (n, (rest, false)) := by
  have hp := putM_pos n
  have hs : stepM (putM n ++ rest, false) (if most < (getM (putM n ++ rest)).1 then 0 else (getM (putM n ++ rest)).2) = (rest, false) := by
    rw [getM_putM rest (by omega)]
    dsimp only
    rw [if_neg (by omega)]
    unfold stepM
    rw [if_neg (by rintro (h | h); · cases h
                   · omega)]
    simp
  unfold numM
  dsimp only
  rw [hs, getM_putM rest (by omega)]
  rfl
theorem readM'_textM (s rest : List UInt8) (h : s.length < 1000000000) : readM' (textM s ++ rest, false) = (s, (rest, false)) := by
  have hp := putM_pos s.length
  have hs : stepM (textM s ++ rest, false) (getTextM (textM s ++ rest)).2 = (rest, false) := by
    rw [getTextM_textM s rest h]
    unfold stepM
    rw [if_neg (by rintro (h | h); · cases h
                   · simp [textM] at h; rw [h.1] at hp; simp at hp)]
    simp
  unfold readM'
  rw [hs]
  dsimp only
  rw [getTextM_textM s rest h]
  rfl
theorem dec_body {r : RecM} (h : RecOk r) : decR (bodyM r) = r ∧ decOk (bodyM r) = true := by
  obtain ⟨k, q, ky, vl⟩ := r
  have hk := h.kind
  have h1 := h.seq1; have h2 := h.seq2; have h3 := h.key100; have h4 := h.val4000
  dsimp only at hk h1 h2 h3 h4
  have hkn : k.toNat < 128 := by rcases hk with hk | hk <;> omega
  have e0 : bodyM ⟨k, q, ky, vl⟩ = putM k.toNat ++ (putM q.toNat ++ (textM ky ++ (if k = 1 then textM vl else []))) := by
    rw [putM_small hkn]
    unfold bodyM
    simp only [List.cons_append, List.nil_append, List.append_assoc]
  have d1 : dec1 (bodyM ⟨k, q, ky, vl⟩) = (k.toNat, (putM q.toNat ++ (textM ky ++ (if k = 1 then textM vl else [])), false)) := by
    unfold dec1
    rw [e0]
    exact numM_putM _ (by rcases hk with hk | hk <;> omega) (by decide)
  have d2 : dec2 (bodyM ⟨k, q, ky, vl⟩) = (q.toNat, (textM ky ++ (if k = 1 then textM vl else []), false)) := by
    unfold dec2
    rw [d1]
    exact numM_putM _ (by omega) (by decide)
  have d3 : dec3 (bodyM ⟨k, q, ky, vl⟩) = (ky, ((if k = 1 then textM vl else []), false)) := by
    unfold dec3
    rw [d2]
    exact readM'_textM _ _ (by omega)
  have d4 : dec4 (bodyM ⟨k, q, ky, vl⟩) = (vl, ([], false)) := by
    unfold dec4
    rw [d1, d3]
    dsimp only
    rcases hk with hk | ⟨hk, hv⟩
    · rw [if_pos (by omega), if_pos hk]
      have := readM'_textM vl [] (by omega)
      rwa [List.append_nil] at this
    · rw [if_neg (by omega), if_neg (by omega), hv]
  have hr : decR (bodyM ⟨k, q, ky, vl⟩) = ⟨k, q, ky, vl⟩ := by
    unfold decR
    rw [d1, d2, d3, d4]
    dsimp only
    rw [Int.toNat_of_nonneg (by rcases hk with hk | hk <;> omega), Int.toNat_of_nonneg (by omega)]
  refine ⟨hr, ?_⟩
  unfold decOk
  have hc := checkM_ok.2 h
  rw [hr, d4, decide_eq_true ⟨⟨rfl, rfl⟩, hc, by unfold encM; rw [if_neg (by simp [hc])]⟩]
/-- The records of seals. -/
def recGo : List (List UInt8) → Nat → Bool → List RecM × Nat × Bool
  | [], at_, cut => ([], at_, cut)
  | s :: t, at_, cut => if decOk s = true then (decR s :: (recGo t (at_ + (sealM s).length) cut).1, (recGo t (at_ + (sealM s).length) cut).2) else ([], at_, false)
def rscanM (b : List UInt8) : List RecM × Nat × Bool := recGo (scanM b).1 0 (scanM b).2.2
theorem recGo_at : ∀ (l : List (List UInt8)) (k : Nat) (cut : Bool), recGo l k cut = ((recGo l 0 cut).1, k + (recGo l 0 cut).2.1, (recGo l 0 cut).2.2)
  | [], k, cut => by simp [recGo]
  | s :: t, k, cut => by
    have h1 := recGo_at t (k + (sealM s).length) cut
    have h2 := recGo_at t (0 + (sealM s).length) cut
    unfold recGo
    split
    · rw [h1, h2]
      simp only [Prod.mk.injEq, true_and]
      refine ⟨by omega, trivial⟩
    · simp
theorem rscanM_nil : rscanM [] = ([], 0, true) := by unfold rscanM; rw [scanM_nil]; rfl
theorem rscanM_enc {r : RecM} (h : RecOk r) (rest : List UInt8) : rscanM (sealM (bodyM r) ++ rest) = (r :: (rscanM rest).1, (sealM (bodyM r)).length + (rscanM rest).2.1, (rscanM rest).2.2) := by
  have hb := bodyM_len h
  obtain ⟨h1, h2⟩ := dec_body h
  unfold rscanM
  rw [scanM_sealM _ _ (by omega)]
  dsimp only
  rw [recGo, if_pos h2, h1, recGo_at]
  simp
end Go.Vc
