import Derived.Test.YtdmekobddchdlaaSec1
/-! Sectors: what is made again; rows of a call's own. -/
set_option linter.unusedVariables false
namespace Go.Proofs.Ytdmekobddchdlaa.Try
open Go Go.Vc

/-- Byte j of all rows but those of p, into c. -/
def xorNot (D : List (List UInt8)) (p : Nat → Bool) (j : Nat) : Nat → UInt8 → UInt8
  | 0, c => c
  | m + 1, c => if p m then xorNot D p j m c else xorNot D p j m c ^^^ (D.getD m []).getD j 0
theorem xorNot_congr (D : List (List UInt8)) (p q : Nat → Bool) (j : Nat) (c : UInt8) : ∀ m, (∀ i, i < m → p i = q i) → xorNot D p j m c = xorNot D q j m c := by
  intro m
  induction m with
  | zero => intro _; rfl
  | succ m ih =>
    intro h
    rw [xorNot, xorNot, h m (by omega), ih (fun i hi => h i (by omega))]
def fixed (D : List (List UInt8)) (Bd : List (List Bool)) (par : List UInt8) (m i j : Nat) (c : UInt8) : UInt8 :=
  if j < m ∧ stripeGo D Bd (j / 64) D.length = some (some i) then xorNot D (fun q => q == i) j D.length (par.getD j 0) else c
/-- The rows, made again below m. -/
def stage (D : List (List UInt8)) (Bd : List (List Bool)) (par : List UInt8) (m : Nat) : List (List UInt8) := D.mapIdx fun i row => row.mapIdx fun j c => fixed D Bd par m i j c
def stripeOk (D : List (List UInt8)) (Bd : List (List Bool)) (k : Nat) : Bool := (stripeEnd Bd D.length k (stripeGo D Bd k D.length)).2
def sectors (D : List (List UInt8)) (par : List UInt8) (Bd : List (List Bool)) : Option (List (List UInt8)) :=
  if Bd.length = D.length + 1 ∧ ∀ k, k < maxOf D → k * 64 < maxOf D → stripeOk D Bd k = true then some (stage D Bd par (maxOf D)) else none
section
variable (D : List (List UInt8)) (Bd : List (List Bool)) (par : List UInt8)
theorem stage_length (m : Nat) : (stage D Bd par m).length = D.length := by simp [stage]
theorem stage_get (m i : Nat) (h : i < D.length) : (stage D Bd par m)[i]? = some (D[i].mapIdx fun j c => fixed D Bd par m i j c) := by simp [stage, h]
theorem stage_ext (m : Nat) (R : List (List UInt8)) (hl : R.length = D.length) (h : ∀ (i : Nat) r, R[i]? = some r → ∀ (hi : i < D.length), r.length = D[i].length ∧ ∀ (j : Nat) (hj : j < D[i].length), r[j]? = some (fixed D Bd par m i j D[i][j])) : R = stage D Bd par m := by
  apply List.ext_getElem?
  intro i
  by_cases hi : i < D.length
  · rw [stage_get D Bd par m i hi, List.getElem?_eq_getElem (by omega)]
    obtain ⟨h1, h2⟩ := h i _ (List.getElem?_eq_getElem (by omega)) hi
    congr 1
    apply List.ext_getElem?
    intro j
    by_cases hj : j < D[i].length
    · rw [h2 j hj]; simp [hj]
    · rw [List.getElem?_eq_none (by omega), List.getElem?_eq_none (by simp; omega)]
  · rw [List.getElem?_eq_none (by omega), List.getElem?_eq_none (by rw [stage_length]; omega)]
theorem stage_zero : stage D Bd par 0 = D := by
  refine (stage_ext D Bd par 0 D rfl fun i r hr hi => ?_).symm
  rw [List.getElem?_eq_getElem hi] at hr
  injection hr with hr
  subst hr
  exact ⟨rfl, fun j hj => by rw [List.getElem?_eq_getElem hj, fixed, if_neg (by omega)]⟩
theorem stage_row (m i : Nat) (r : List UInt8) (hr : (stage D Bd par m)[i]? = some r) (hi : i < D.length) : r.length = D[i].length ∧ ∀ (j : Nat) (hj : j < D[i].length), r[j]? = some (fixed D Bd par m i j D[i][j]) := by
  rw [stage_get D Bd par m i hi] at hr
  injection hr with hr
  subst hr
  exact ⟨by simp, fun j hj => by simp [hj]⟩
/-- Where nothing turns between m and m', the stages are alike. -/
theorem stage_same (m m' : Nat) (h : ∀ i j, i < D.length → (∀ r, D[i]? = some r → j < r.length) → ((j < m ∧ stripeGo D Bd (j / 64) D.length = some (some i)) ↔ (j < m' ∧ stripeGo D Bd (j / 64) D.length = some (some i)))) : stage D Bd par m = stage D Bd par m' := by
  refine stage_ext D Bd par m' _ (stage_length D Bd par m) fun i r hr hi => ?_
  obtain ⟨h1, h2⟩ := stage_row D Bd par m i r hr hi
  refine ⟨h1, fun j hj => ?_⟩
  rw [h2 j hj, fixed, fixed]
  have := h i j hi (fun r hr => by rw [List.getElem?_eq_getElem hi] at hr; injection hr with hr; subst hr; exact hj)
  by_cases hc : j < m ∧ stripeGo D Bd (j / 64) D.length = some (some i)
  · rw [if_pos hc, if_pos (this.1 hc)]
  · rw [if_neg hc, if_neg (fun h => hc (this.2 h))]
theorem stage_big (m : Nat) (h : maxOf D ≤ m) : stage D Bd par m = stage D Bd par (maxOf D) := by
  refine stage_same D Bd par _ _ fun i j hi hj => ?_
  have h1 := hj _ (List.getElem?_eq_getElem hi)
  have h2 := maxOf_mem D D[i] (List.getElem_mem hi)
  constructor <;> rintro ⟨_, h⟩ <;> exact ⟨by omega, h⟩
theorem stage_skip (k : Nat) (h : stripeGo D Bd k D.length = some none) : stage D Bd par (k * 64 + 64) = stage D Bd par (k * 64) := by
  refine stage_same D Bd par _ _ fun i j hi hj => ?_
  constructor
  · rintro ⟨h1, h2⟩
    refine ⟨?_, h2⟩
    by_cases hjk : j < k * 64
    · exact hjk
    · rw [show j / 64 = k by omega, h] at h2
      cases h2
  · rintro ⟨h1, h2⟩; exact ⟨by omega, h2⟩
/-- A stripe made again: the one row of it. -/
theorem stage_step (k a q : Nat) (row ag : List UInt8) (ha : stripeGo D Bd k D.length = some (some a)) (haD : a < D.length) (hrow : (stage D Bd par (k * 64))[a]? = some row) (hq : k * 64 + q = min (k * 64 + 64) D[a].length)
    (hag : ∀ t, t < q → ag[t]? = some (xorNot D (fun i => i == a) (k * 64 + t) D.length (par.getD (k * 64 + t) 0))) :
    (stage D Bd par (k * 64)).set a (row.take (k * 64) ++ ag.take q ++ row.drop (k * 64 + q)) = stage D Bd par (k * 64 + 64) := by
  obtain ⟨hl, hr⟩ := stage_row D Bd par _ a row hrow haD
  have hagl : q ≤ ag.length := by
    by_cases h0 : q = 0
    · omega
    · have := (List.getElem?_eq_some_iff.1 (hag (q - 1) (by omega))).1; omega
  refine stage_ext D Bd par _ _ (by rw [List.length_set, stage_length]) fun i r hi hiD => ?_
  rw [List.getElem?_set] at hi
  by_cases e : a = i
  · subst e
    rw [if_pos rfl, if_pos (by rw [stage_length]; exact haD)] at hi
    injection hi with hi
    subst hi
    have l1 : (row.take (k * 64)).length = k * 64 := by rw [List.length_take]; omega
    have l2 : (ag.take q).length = q := by rw [List.length_take]; omega
    refine ⟨by simp only [List.length_append, l1, l2, List.length_drop]; omega, fun j hj => ?_⟩
    by_cases h1 : j < k * 64
    · rw [List.append_assoc, List.getElem?_append_left (by omega), List.getElem?_take, if_pos h1, hr j hj, fixed, fixed]
      by_cases hc : stripeGo D Bd (j / 64) D.length = some (some a)
      · rw [if_pos ⟨h1, hc⟩, if_pos ⟨by omega, hc⟩]
      · rw [if_neg (fun h => hc h.2), if_neg (fun h => hc h.2)]
    · by_cases h2 : j < k * 64 + q
      · rw [List.getElem?_append_left (by rw [List.length_append]; omega), List.getElem?_append_right (by omega), l1, List.getElem?_take, if_pos (by omega), hag (j - k * 64) (by omega), fixed, show k * 64 + (j - k * 64) = j by omega,
          if_pos ⟨by omega, by rw [show j / 64 = k by omega]; exact ha⟩]
      · rw [List.getElem?_append_right (by rw [List.length_append]; omega), List.length_append, l1, l2, List.getElem?_drop, show k * 64 + q + (j - (k * 64 + q)) = j by omega, hr j hj, fixed, fixed,
          if_neg (by omega), if_neg (by omega)]
  · rw [if_neg e] at hi
    obtain ⟨h1, h2⟩ := stage_row D Bd par _ i r hi hiD
    refine ⟨h1, fun j hj => ?_⟩
    rw [h2 j hj, fixed, fixed]
    by_cases hc : j < k * 64 ∧ stripeGo D Bd (j / 64) D.length = some (some i)
    · rw [if_pos hc, if_pos ⟨by omega, hc.2⟩]
    · rw [if_neg hc, if_neg]
      rintro ⟨h3, h4⟩
      by_cases hjk : j < k * 64
      · exact hc ⟨hjk, h4⟩
      · rw [show j / 64 = k by omega, ha] at h4
        injection h4 with h4; injection h4 with h4
        exact e h4
/-- The stripe of parity, the first m rows but a in it. -/
def againL (a fr cnt m : Nat) : List UInt8 := (List.range cnt).map fun t => xorNot D (fun i => i == a) (fr + t) m (par.getD (fr + t) 0)
theorem againL_length (a fr cnt m : Nat) : (againL D par a fr cnt m).length = cnt := by simp [againL]
theorem againL_get (a fr cnt m t : Nat) (h : t < cnt) : (againL D par a fr cnt m)[t]? = some (xorNot D (fun i => i == a) (fr + t) m (par.getD (fr + t) 0)) := by simp [againL, h]
theorem againL_zero (a fr en : Nat) (h1 : fr ≤ en) (h2 : en ≤ par.length) : againL D par a fr (en - fr) 0 = (par.take en).drop fr := by
  apply List.ext_getElem?
  intro t
  by_cases ht : t < en - fr
  · rw [againL_get _ _ _ _ _ _ _ ht, List.getElem?_drop, List.getElem?_take, if_pos (by omega), xorNot, List.getD_eq_getElem?_getD, List.getElem?_eq_getElem (by omega)]; rfl
  · rw [List.getElem?_eq_none (by rw [againL_length]; omega), List.getElem?_eq_none (by rw [List.length_drop, List.length_take]; omega)]
theorem againL_self (a fr cnt : Nat) : againL D par a fr cnt (a + 1) = againL D par a fr cnt a := by
  simp [againL, xorNot]
theorem againL_out (a fr cnt i : Nat) (hi : i < D.length) (h : D[i].length ≤ fr) : againL D par a fr cnt (i + 1) = againL D par a fr cnt i := by
  unfold againL
  refine List.map_congr_left fun t _ => ?_
  rw [xorNot, getD_row hi, List.getD_eq_getElem?_getD (l := D[i]), List.getElem?_eq_none (by omega)]
  split
  · rfl
  · exact UInt8.xor_zero
theorem againL_in (a fr en i : Nat) (hi : i < D.length) (hne : i ≠ a) (h1 : fr ≤ en) : xorInto (againL D par a fr (en - fr) i) ((D[i].take (min en D[i].length)).drop fr) = againL D par a fr (en - fr) (i + 1) := by
  apply List.ext_getElem?
  intro t
  rw [xorInto_get]
  by_cases ht : t < en - fr
  · have hb : (i == a) = false := by simpa using hne
    rw [againL_get _ _ _ _ _ _ _ ht, againL_get _ _ _ _ _ _ _ ht, Option.map_some, xorNot, hb, if_neg (by simp), getD_row hi, List.getElem?_drop, List.getElem?_take, List.getD_eq_getElem?_getD (l := D[i])]
    congr 2
    by_cases h : fr + t < min en D[i].length
    · rw [if_pos h]
    · rw [if_neg h, List.getElem?_eq_none (l := D[i]) (by omega)]
  · rw [List.getElem?_eq_none (l := againL D par a fr (en - fr) i) (by rw [againL_length]; omega), List.getElem?_eq_none (l := againL D par a fr (en - fr) (i + 1)) (by rw [againL_length]; omega)]; rfl
end

/-! ### Rows of the call's own -/
/-- The first values are rows of the call's own, apart from each other and from X. -/
structure OwnRows (base : Nat) (X : List Nat) (w : World) (vs : List Value) (R : List (List UInt8)) : Prop where
  len : R.length ≤ vs.length
  own : ∀ (i : Nat) (v : Value) (r : List UInt8), vs[i]? = some v → R[i]? = some r → Own w 5 1 v r.length (u8s r)
  fresh : ∀ (i : Nat) (v : Value) (g : Nat), i < R.length → vs[i]? = some v → v.ownBlock = some g → base ≤ g ∧ g ∉ X
  apart : ∀ (i j : Nat) (v u : Value) (g : Nat), i < R.length → j < R.length → i ≠ j → vs[i]? = some v → vs[j]? = some u → v.ownBlock = some g → u.ownBlock ≠ some g
section
variable {base : Nat} {X S : List Nat} {w w' : World} {vs : List Value} {R : List (List UInt8)}
theorem OwnRows.nil (base : Nat) (X : List Nat) (w : World) (vs : List Value) : OwnRows base X w vs [] := ⟨Nat.zero_le _, fun i v r _ h => by simp at h, fun i v g h => by simp at h, fun i j v u g h => by simp at h⟩
theorem OwnRows.lt (h : OwnRows base X w vs R) {i g : Nat} {v : Value} (hi : i < R.length) (hv : vs[i]? = some v) (hg : v.ownBlock = some g) : g < w.heap.size :=
  (h.own i v _ hv (List.getElem?_eq_getElem hi)).lt hg
theorem OwnRows.keep (h : OwnRows base X w vs R) (hc : Chg S w w') (hS : ∀ (i : Nat) (v : Value) (g : Nat), i < R.length → vs[i]? = some v → v.ownBlock = some g → g ∉ S) : OwnRows base X w' vs R :=
  ⟨h.len, fun i v r hv hr => (h.own i v r hv hr).keep hc (fun g hg => hS i v g (List.getElem?_eq_some_iff.1 hr).1 hv hg), h.fresh, h.apart⟩
theorem OwnRows.keep0 (h : OwnRows base X w vs R) (hc : Chg [] w w') : OwnRows base X w' vs R := h.keep hc (fun _ _ _ _ _ _ => by simp)
theorem OwnRows.keepX (h : OwnRows base X w vs R) (hc : Chg S w w') (hS : ∀ k ∈ S, k < w.heap.size → k ∈ X) : OwnRows base X w' vs R :=
  h.keep hc (fun i v g hi hv hg hm => (h.fresh i v g hi hv hg).2 (hS g hm (h.lt hi hv hg)))
theorem OwnRows.avoid (h : OwnRows base X w vs R) {X' : List Nat} (hX : ∀ k ∈ X', k < w.heap.size → k ∈ X) : OwnRows base X' w vs R :=
  ⟨h.len, h.own, fun i v g hi hv hg => ⟨(h.fresh i v g hi hv hg).1, fun hm => (h.fresh i v g hi hv hg).2 (hX g hm (h.lt hi hv hg))⟩, h.apart⟩
/-- One more row, made new in w. -/
theorem OwnRows.push (h : OwnRows base X w vs R) (hc : Chg X w w') {v : Value} {r : List UInt8} (hv : Own w' 5 1 v r.length (u8s r)) (hf : ∀ g, v.ownBlock = some g → w.heap.size ≤ g ∧ g ∉ X) (hb : base ≤ w.heap.size) (vs' : List Value) (hl : R.length < vs'.length)
    (hvs : ∀ i, i < R.length → vs'[i]? = vs[i]?) (hvn : vs'[R.length]? = some v) : OwnRows base X w' vs' (R ++ [r]) := by
  have hk := h.keepX hc (fun _ h _ => h)
  refine ⟨by rw [List.length_append]; exact hl, fun i u x hu hx => ?_, fun i u g hi hu hg => ?_, fun i j u u' g hi hj hne hu hu' hg => ?_⟩
  · by_cases hi : i < R.length
    · rw [List.getElem?_append_left hi] at hx
      rw [hvs i hi] at hu
      exact hk.own i u x hu hx
    · have : i = R.length := by have := (List.getElem?_eq_some_iff.1 hx).1; simp at this; omega
      subst this
      rw [hvn] at hu
      simp at hx
      injection hu with hu
      subst hu; subst hx
      exact hv
  · rw [List.length_append] at hi
    by_cases hi' : i < R.length
    · rw [hvs i hi'] at hu; exact h.fresh i u g hi' hu hg
    · have : i = R.length := by simp at hi; omega
      subst this
      rw [hvn] at hu; injection hu with hu; subst hu
      exact ⟨by have := (hf g hg).1; omega, (hf g hg).2⟩
  · rw [List.length_append] at hi hj
    simp only [List.length_cons, List.length_nil] at hi hj
    by_cases hi' : i < R.length
    · rw [hvs i hi'] at hu
      by_cases hj' : j < R.length
      · rw [hvs j hj'] at hu'; exact h.apart i j u u' g hi' hj' hne hu hu' hg
      · have : j = R.length := by omega
        subst this
        rw [hvn] at hu'; injection hu' with hu'; subst hu'
        intro he
        have h1 := (hf g he).1
        have h2 := h.lt hi' hu hg
        omega
    · have : i = R.length := by omega
      subst this
      rw [hvn] at hu; injection hu with hu; subst hu
      have hj' : j < R.length := by omega
      rw [hvs j hj'] at hu'
      intro he
      have h1 := (hf g hg).1
      have h2 := h.lt hj' hu' he
      omega
/-- A row is written in place. -/
theorem OwnRows.write (h : OwnRows base X w vs R) {a ga : Nat} {v : Value} {r : List UInt8} (ha : a < R.length) (hva : vs[a]? = some v) (hga : v.ownBlock = some ga) (hc : Chg [ga] w w') (hr : r.length = R[a].length) (hv : Own w' 5 1 v r.length (u8s r)) :
    OwnRows base X w' vs (R.set a r) := by
  refine ⟨by rw [List.length_set]; exact h.len, fun i u x hu hx => ?_, fun i u g hi hu hg => ?_, fun i j u u' g hi hj hne hu hu' hg => ?_⟩
  · rw [List.getElem?_set] at hx
    by_cases e : a = i
    · subst e
      rw [if_pos rfl, if_pos ha] at hx
      injection hx with hx; subst hx
      rw [hva] at hu; injection hu with hu; subst hu
      exact hv
    · rw [if_neg e] at hx
      have hi := (List.getElem?_eq_some_iff.1 hx).1
      refine (h.own i u x hu hx).keep hc (fun g hg hm => ?_)
      simp at hm
      subst hm
      exact h.apart i a u v g hi ha (fun h => e h.symm) hu hva hg hga
  · rw [List.length_set] at hi; exact h.fresh i u g hi hu hg
  · rw [List.length_set] at hi hj; exact h.apart i j u u' g hi hj hne hu hu' hg
theorem OwnRows.reads (h : OwnRows base X w vs R) {i : Nat} {v : Value} {r : List UInt8} (hv : vs[i]? = some v) (hr : R[i]? = some r) : SliceOf Ru8 w v r := u8s_reads (h.own i v r hv hr)
end
end Go.Proofs.Ytdmekobddchdlaa.Try
