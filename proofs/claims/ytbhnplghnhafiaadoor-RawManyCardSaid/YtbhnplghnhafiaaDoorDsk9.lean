import Derived.Test.YtbhnplghnhafiaaDoorDsk8
/-! Files: a crash. Plain laws. -/
set_option linter.unusedVariables false
set_option linter.unusedSimpArgs false
namespace Go.Vc
open Go
def crashTo (s : FsM) (n : Int) (k : Nat) : Dir := (s.waits.take (min k n.toNat)).foldl doM s.lasts
theorem crashTo_zero (s : FsM) (n : Int) : crashTo s n 0 = s.lasts := by unfold crashTo; simp
theorem crashTo_step {s : FsM} {n : Int} {k : Nat} {c : ChM} (hc : s.waits[k]? = some c) (hk : (k : Int) < n) : crashTo s n (k + 1) = doM (crashTo s n k) c := by
  unfold crashTo
  rw [show min (k + 1) n.toNat = k + 1 by omega, show min k n.toNat = k by omega, List.take_add_one, hc, List.foldl_append]
  rfl
theorem crashTo_stop {s : FsM} {n : Int} {k : Nat} (hk : ¬ (k : Int) < n) : crashTo s n (k + 1) = crashTo s n k := by
  unfold crashTo
  rw [show min (k + 1) n.toNat = min k n.toNat by omega]
theorem crashTo_end (s : FsM) (n : Int) : crashTo s n s.waits.length = crashDir s n := by
  unfold crashTo crashDir
  by_cases h : s.waits.length ≤ n.toNat
  · rw [show min s.waits.length n.toNat = s.waits.length by omega, List.take_of_length_le (Nat.le_refl _), List.take_of_length_le h]
  · rw [show min s.waits.length n.toNat = n.toNat by omega]
theorem crashTo_fit {s : FsM} (h : FsOk s) {n : Int} {k : Nat} {c : ChM} (hc : s.waits[k]? = some c) (hk : (k : Int) < n) : DirOk s.files.length (crashTo s n k) ∧ Fit1 (crashTo s n k) c := by
  have hl := (List.getElem?_eq_some_iff.1 hc).1
  have h1 := h.replay.at k (by omega)
  have hd : s.waits.drop k = c :: s.waits.drop (k + 1) := by rw [List.drop_eq_getElem_cons hl, (List.getElem?_eq_some_iff.1 hc).2]
  rw [hd] at h1
  have e : crashTo s n k = (s.waits.take k).foldl doM s.lasts := by unfold crashTo; rw [show min k n.toNat = k by omega]
  rw [e]
  exact ⟨h1.1, h1.2.1⟩
theorem chunk (fb : List (Nat × Value)) : ∀ (l : List ChM) (k : Nat) (c : ChM), l[k]? = some c → ((l.flatMap (chV fb)).drop (k * 4)).take 4 = chV fb c
  | [], k, c, h => by simp at h
  | a :: l, 0, c, h => by simp at h; subst h; rw [List.flatMap_cons]; simp [chV]
  | a :: l, k + 1, c, h => by
    rw [List.flatMap_cons, show (k + 1) * 4 = (chV fb a).length + k * 4 by simp [chV]; omega, List.drop_length_add_append]
    exact chunk fb l k c (by simpa using h)
def idxOf : Dir → Nm → Option Nat
  | [], _ => none
  | p :: d, k => if p.1 = k then some 0 else (idxOf d k).map (· + 1)
theorem idxOf_get {d : Dir} {k : Nm} {j : Nat} (h : idxOf d k = some j) : ∃ p, d[j]? = some p ∧ p.1 = k := by
  induction d generalizing j with
  | nil => cases h
  | cons p d ih =>
    unfold idxOf at h
    split at h
    · injection h with h; subst h; exact ⟨p, rfl, by assumption⟩
    · cases hi : idxOf d k with
      | none => rw [hi] at h; cases h
      | some i =>
        rw [hi] at h
        injection h with h
        subst h
        exact ih hi
theorem idxOf_of {d : Dir} (hr : (d.map (·.1)).Nodup) {j : Nat} {p : Nm × Nat} (h : d[j]? = some p) : idxOf d p.1 = some j := by
  induction d generalizing j with
  | nil => cases h
  | cons q d ih =>
    unfold idxOf
    rw [List.map_cons, List.nodup_cons] at hr
    cases j with
    | zero => simp at h; subst h; rw [if_pos rfl]
    | succ j =>
      have h' : d[j]? = some p := by simpa using h
      rw [if_neg (fun e => hr.1 (by rw [e]; exact List.mem_map.2 ⟨p, List.mem_of_getElem? h', rfl⟩)), ih hr.2 h']
      rfl
theorem looks_idx (d : Dir) (k : Nm) : looks d k = (idxOf d k).bind fun j => (d[j]?).map (·.2) := by
  induction d with
  | nil => rfl
  | cons p d ih =>
    obtain ⟨k', i⟩ := p
    unfold looks idxOf
    by_cases h : k' = k
    · rw [if_pos h, if_pos h]; rfl
    · rw [if_neg h, if_neg h, ih]
      cases idxOf d k <;> rfl
theorem idxOf_map (f : Nat → Nm × Nat → Nat) : ∀ (d : Dir) (k : Nm), idxOf (d.mapIdx fun j p => (p.1, f j p)) k = idxOf d k := by
  intro d
  induction d generalizing f with
  | nil => intro k; rfl
  | cons p d ih =>
    intro k
    rw [List.mapIdx_cons]
    unfold idxOf
    rw [ih (fun j p => f (j + 1) p)]
/-- Where the first files have been laid anew. -/
def hAt (fb nb : List (Nat × Value)) (d : Dir) (k : Nm) : Option Nat := (idxOf d k).bind fun j => if j < nb.length then (nb[j]?).map (·.1) else (d[j]?).bind fun p => (fb[p.2]?).map (·.1)
theorem hAt_start (fb : List (Nat × Value)) (d : Dir) (k : Nm) : hAt fb [] d k = at2 fb d k := by
  unfold hAt at2
  rw [looks_idx]
  cases idxOf d k with
  | none => rfl
  | some j =>
    simp only [Option.bind_some, List.length_nil, Nat.not_lt_zero, if_false]
    cases d[j]? <;> rfl
theorem hAt_step {fb nb : List (Nat × Value)} {d : Dir} (hr : (d.map (·.1)).Nodup) {p : Nm × Nat} (hp : d[nb.length]? = some p) (q : Nat × Value) (k : Nm) : hAt fb (nb ++ [q]) d k = upd (hAt fb nb d) p.1 q.1 k := by
  unfold upd
  by_cases h : k = p.1
  · subst h
    rw [if_pos rfl]
    unfold hAt
    rw [idxOf_of hr hp]
    simp
  · rw [if_neg h]
    unfold hAt
    cases hi : idxOf d k with
    | none => rfl
    | some j =>
      have hj : j ≠ nb.length := fun e => by
        subst e
        obtain ⟨p', h1, h2⟩ := idxOf_get hi
        rw [hp] at h1; injection h1 with h1; subst h1
        exact h h2.symm
      simp only [Option.bind_some, List.length_append, List.length_singleton]
      by_cases hlt : j < nb.length
      · rw [if_pos hlt, if_pos (by omega), List.getElem?_append_left hlt]
      · rw [if_neg hlt, if_neg (by omega)]
theorem hAt_end {fb nb : List (Nat × Value)} {d : Dir} (hl : nb.length = d.length) (k : Nm) : hAt fb nb d k = at2 nb (d.mapIdx fun j p => (p.1, j)) k := by
  unfold hAt at2
  rw [looks_idx, idxOf_map (fun j _ => j)]
  cases hi : idxOf d k with
  | none => rfl
  | some j =>
    obtain ⟨p, h1, _⟩ := idxOf_get hi
    have hj := (List.getElem?_eq_some_iff.1 h1).1
    simp only [Option.bind_some]
    rw [if_pos (by omega)]
    simp [h1]
theorem hAt_at {fb nb : List (Nat × Value)} {d : Dir} (hr : (d.map (·.1)).Nodup) {p : Nm × Nat} (hp : d[nb.length]? = some p) {q : Nat × Value} (hq : fb[p.2]? = some q) : hAt fb nb d p.1 = some q.1 := by
  unfold hAt
  rw [idxOf_of hr hp]
  simp [hp, hq]
end Go.Vc
