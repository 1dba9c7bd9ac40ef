/- Part 2 of the texts that the law of the last one leans on: steps of the walk and contracts of functions. Its conditions stand in each theorem. -/
import Derived.Test.YtjkbbkomajjegaaHistoryTrueK1
import Derived.Test.YtjkbbkomajjegaaProg
import Derived.Shelf.SortM.Plain
import Derived.Shelf.SortM.SortNone
import Derived.Shelf.SlSortCmp.WholeK
import Derived.Shelf.SlicesG.Cmp
import Derived.Ground.SlsfProg
import Derived.Ground.SlgmProg
import Derived.Ground.SlgcProg
import Derived.Sort.OwnSorted
import Derived.Shelf.SlicesG.CompactI
import Derived.Ground.SlgnProg
/-! Slices whose elements have several cells, as they come in. -/
set_option linter.unusedSimpArgs false
set_option linter.unusedVariables false
namespace Go.Vc
open Go
/-- v is a slice that reads as L, each element's k cells by R. -/
def SliceK {α : Type} (k : Nat) (R : World → List Value → α → Prop) (w : World) (v : Value) (L : List α) : Prop :=
  ∃ A c, v = .slice A L.length c ∧ L.length ≤ c ∧ c ≤ maxLen ∧ ∀ i x, L[i]? = some x → ∃ ad cs, A = some ad ∧ cs.length = k ∧ (∀ j u, cs[j]? = some u → w.cell? (ad.add (i * k + j)) = some u) ∧ R w cs x
def KeptK {α : Type} (R : World → List Value → α → Prop) : Prop := ∀ w w' cs x, Chg [] w w' → R w cs x → R w' cs x
section
variable {α : Type} {k : Nat} {R : World → List Value → α → Prop} {w w' : World} {v : Value} {L : List α}
theorem SliceK.keep (hR : KeptK R) (hc : Chg [] w w') (h : SliceK k R w v L) : SliceK k R w' v L := by
  obtain ⟨A, c, rfl, h1, h2, h⟩ := h
  refine ⟨A, c, rfl, h1, h2, fun i x hx => ?_⟩
  obtain ⟨ad, cs, rfl, hl, hu, hr⟩ := h i x hx
  exact ⟨ad, cs, rfl, hl, fun j u hj => hc.cell0 (hu j u hj), hR _ _ _ _ hc hr⟩
theorem SliceK.nil (k : Nat) (R : World → List Value → α → Prop) (w : World) : SliceK k R w (.slice none 0 0) [] := ⟨none, 0, rfl, Nat.le_refl _, Nat.zero_le _, fun i x h => by simp at h⟩
theorem SliceK.form (h : SliceK k R w v L) : ∃ A c, v = .slice A L.length c ∧ L.length ≤ c ∧ c ≤ maxLen := let ⟨A, c, h1, h2, h3, _⟩ := h; ⟨A, c, h1, h2, h3⟩
theorem SliceK.len {A : Option Addr} {n c : Nat} (h : SliceK k R w (.slice A n c) L) : n = L.length ∧ L.length ≤ c ∧ c ≤ maxLen := by
  obtain ⟨A', c', he, h1, h2, _⟩ := h
  injection he with e1 e2 e3
  subst e2; subst e3
  exact ⟨rfl, h1, h2⟩
theorem SliceK.get {A : Option Addr} {n c : Nat} (h : SliceK k R w (.slice A n c) L) {i : Nat} {x : α} (hx : L[i]? = some x) : ∃ ad cs, A = some ad ∧ cs.length = k ∧ (∀ j u, cs[j]? = some u → w.cell? (ad.add (i * k + j)) = some u) ∧ R w cs x := by
  obtain ⟨A', c', he, _, _, hh⟩ := h
  injection he with h1 h2 h3
  subst h1
  exact hh i x hx
theorem SliceK.take {A : Option Addr} {n c m j : Nat} (h : SliceK k R w (.slice A n c) L) (hm : m = min j L.length) : SliceK k R w (.slice A m c) (L.take j) := by
  obtain ⟨hn, h1, h2⟩ := h.len
  refine ⟨A, c, by rw [List.length_take, hm], by rw [List.length_take]; omega, h2, fun i x hx => ?_⟩
  rw [List.getElem?_take] at hx
  split at hx
  · exact h.get hx
  · cases hx
end
section
variable {P : Program} {N : Nat} {e : Env} {w : World} {o : Oper} {K : Value → World → Prop}
/-- A struct out of cells that are known. -/
theorem op_load_cells (T : Types P) {x : Operand} {t : TypeId} {d : TInfo} {ad : Addr} {cs : List Value}
    (hop : o.op = .load t x) (hx : ev e x = some (.pointer (some ad))) (ht : T.tbl t = some d) (hd : aggI d = true) (hs' : Nat.beq d.size cs.length = true) (hcs : ∀ j u, cs[j]? = some u → w.cell? (ad.add j) = some u) (h : K (.agg cs.toArray) w) : OpW P N o e w K := by
  obtain ⟨q, hq, _, hs, _⟩ := T.inf t d ht
  refine OpW_run (fun a ha => ?_) h
  have hl := run_loadCells_list (P := P) w ad cs hcs
  have hlen : d.size = cs.length := Nat.eq_of_beq_eq_true hs'
  rw [← hlen] at hl
  have hagg := run_isAgg T ht w
  rw [hd] at hagg
  simp [execOp, hop, ha.ev hx, Instr.loadAt, Instr.sureAddr, loadVar, hagg, sizeOf, typeInfo, hq, hs, hl]
end
attribute [irreducible] SliceK
end Go.Vc
/-! Regions that draw their order, one of whose operations (number q) may turn blocks of S while all others turn none: that one finds the world as it was but for new blocks. -/
set_option linter.unusedSimpArgs false
set_option linter.unusedVariables false
namespace Go.Vc.Q
open Go Go.RowKit Go.Vc

/-- What the others may have turned when operation i comes up; what it may turn itself. -/
def Oth (q : Nat) (S : List Nat) (i : Nat) : List Nat := if i = q then [] else S
def Sel (q : Nat) (S : List Nat) (i : Nat) : List Nat := if i = q then S else []
theorem sel_sub (q : Nat) (S : List Nat) (i : Nat) : ∀ k ∈ Sel q S i, k ∈ S := by unfold Sel; split <;> simp
theorem sel_oth {q : Nat} {S : List Nat} {i k : Nat} (h : i ≠ k) : ∀ j ∈ Sel q S i, j ∈ Oth q S k := by
  unfold Sel Oth
  by_cases hi : i = q
  · rw [if_pos hi, if_neg (fun e => h (hi.trans e.symm))]; exact fun _ h => h
  · rw [if_neg hi]; simp

/-- Operation i stands ahead of the one that turns: it finds nothing turned. -/
def qPre (q : Nat) (l : List Oper) (i : Nat) : Bool := match l[q]? with
  | some oq => (predsOf oq).contains i
  | none => false
def Pre (q : Nat) (S : List Nat) (l : List Oper) (i : Nat) : List Nat := if i = q then [] else if qPre q l i = true then [] else S
theorem pre_oth {q : Nat} {S : List Nat} {l : List Oper} {i : Nat} : ∀ k ∈ Pre q S l i, k ∈ Oth q S i := by
  unfold Pre Oth
  by_cases hi : i = q
  · rw [if_pos hi, if_pos hi]; exact fun _ h => h
  · rw [if_neg hi, if_neg hi]; split <;> simp

/-- What is asked of front operation i. -/
def FrontOp (P : Program) (N : Nat) (q : Nat) (S : List Nat) (l : List Oper) (Vs : List VS) (e : Env) (w : World) (i : Nat) (o : Oper) : Prop :=
  ∀ (val : Nat → Value) (w1 : World), Chg (Pre q S l i) w w1 → (∀ j, (predsOf o).contains j = true → ∀ oj d, l[j]? = some oj → oj.dst = some d → (vsAt Vs j).holds (valOf Vs val j) w1) →
    match o.guard with
    | none => OpW P N o (opEnv l Vs e i o val) w1 (fun v w' => Chg (Sel q S i) w1 w' ∧ (vsAt Vs i).holds v w')
    | some (j, want) => ∃ b, (predsOf o).contains j = true ∧ ((l[j]?).bind (·.dst)).isSome = true ∧ (valOf Vs val j = .bool b ∨ (b = (!want) ∧ valOf Vs val j = undef)) ∧
        (b = want → OpW P N o (opEnv l Vs e i o val) w1 (fun v w' => Chg (Sel q S i) w1 w' ∧ (vsAt Vs i).holds v w')) ∧ (b = !want → (vsAt Vs i).holds undef w1)
def Front (P : Program) (N : Nat) (q : Nat) (S : List Nat) (l : List Oper) (Vs : List VS) (e : Env) (w : World) : Nat → Nat → List Oper → Prop
  | _, 0, _ => True
  | _, _ + 1, [] => True
  | i, m + 1, o :: r => FrontOp P N q S l Vs e w i o ∧ Front P N q S l Vs e w (i + 1) m r

theorem Front.get {P : Program} {N : Nat} {q : Nat} {S : List Nat} {l : List Oper} {Vs : List VS} {e : Env} {w : World} :
    ∀ (r : List Oper) (i m : Nat), Front P N q S l Vs e w i m r → ∀ k o, k < m → r[k]? = some o → FrontOp P N q S l Vs e w (i + k) o
  | [], i, m, h, k, o, hk, ho => by simp at ho
  | p :: r, i, 0, h, k, o, hk, ho => by omega
  | p :: r, i, m + 1, h, 0, o, hk, ho => by simp at ho; subst ho; exact h.1
  | p :: r, i, m + 1, h, k + 1, o, hk, ho => by
    have := Front.get r (i + 1) m h.2 k o (by omega) (by simpa using ho)
    rw [show i + (k + 1) = i + 1 + k from by omega]; exact this

/-- The state in the middle of a region. -/
structure Mid (N : Nat) (q : Nat) (S : List Nat) (l : List Oper) (m : Nat) (Vs : List VS) (e : Env) (w0 : World) (listed : Array Bool) (a : Act) (w : World) : Prop where
  size : a.tmps.size = N
  defers : a.defers = []
  chg : Chg S w0 w
  chg0 : listed.getD q false = false → Chg [] w0 w
  lsize : listed.size = l.length
  front : ∀ i, i < l.length → m ≤ i → listed.getD i true = false
  down : ∀ i o, l[i]? = some o → listed.getD i true = true → ∀ j, (predsOf o).contains j = true → listed.getD j false = true
  old : ∀ t v, look e t = some v → (∀ i o, l[i]? = some o → o.dst = some t → listed.getD i true = false) → a.tmps[t]? = some v
  new : ∀ i o d, l[i]? = some o → o.dst = some d → listed.getD i true = true → ∃ v, a.tmps[d]? = some v ∧ (vsAt Vs i).holds v w
  noval : ∀ i o, l[i]? = some o → o.dst = none → listed.getD i true = true → ∃ v, (vsAt Vs i).holds v w

section
variable {P : Program} {N : Nat} {q : Nat} {S : List Nat} {l : List Oper} {m : Nat} {Vs : List VS} {e : Env} {w0 : World} {listed : Array Bool} {a : Act} {w : World}

/-- The values that the listed front operations have left, as a function of their numbers. -/
theorem Mid.vals (hM : Mid N q S l m Vs e w0 listed a w) : ∃ val : Nat → Value, ∀ i o d, l[i]? = some o → o.dst = some d → listed.getD i true = true → a.tmps[d]? = some (valOf Vs val i) ∧ (vsAt Vs i).holds (valOf Vs val i) w := by
  refine ⟨fun i => ((l[i]?).bind (·.dst)).elim undef fun d => a.tmps.getD d undef, fun i o d ho hd hl => ?_⟩
  obtain ⟨v, hv, hh⟩ := hM.new i o d ho hd hl
  unfold valOf
  cases hvs : Vs[i]? with
  | none => simp [ho, hd, Array.getD_eq_getD_getElem?, hv]; simpa [vsAt, hvs] using hh
  | some s =>
    cases s with
    | c u =>
      have : v = u := by simpa [vsAt, hvs, VS.holds] using hh
      subst this
      exact ⟨hv, hh⟩
    | r R => simp [ho, hd, Array.getD_eq_getD_getElem?, hv]; simpa [vsAt, hvs] using hh

/-- One front operation more. -/
theorem Mid.step (hdst : dstsOk N l = true) (hM : Mid N q S l m Vs e w0 listed a w) {i : Nat} {o : Oper} (ho : l[i]? = some o) (him : i < m) (hun : listed.getD i true = false)
    (hpre : ∀ j, (predsOf o).contains j = true → listed.getD j false = true) (hfirm : ∀ i, (vsAt Vs i).firm (Oth q S i)) {v : Value} {w' : World} (hc : Chg (Sel q S i) w w') (hv : (vsAt Vs i).holds v w') :
    Mid N q S l m Vs e w0 (listed.setIfInBounds i true) (a.put o.dst v) w' := by
  have hi : i < listed.size := by rw [hM.lsize]; exact (List.getElem?_eq_some_iff.1 ho).1
  refine ⟨by cases hd : o.dst <;> simp [Act.put, hM.size], by cases hd : o.dst <;> simp [Act.put, hM.defers], hM.chg.trans hc (fun k h _ => sel_sub q S i k h), fun hq => ?_, by simp [hM.lsize], fun k hk hmk => ?_, fun k ok hok hlk j hj => ?_, fun t u hu hall => ?_, fun k ok d hok hd hlk => ?_, fun k ok hok hd hlk => ?_⟩
  · rw [getD_set hi] at hq
    by_cases hiq : i = q
    · rw [if_pos hiq] at hq; cases hq
    · rw [if_neg hiq] at hq
      refine (hM.chg0 hq).trans hc (fun k h _ => ?_)
      unfold Sel at h
      rw [if_neg hiq] at h; exact h
  · rw [getD_set hi, if_neg (by omega)]; exact hM.front k hk hmk
  · rw [getD_set hi] at hlk ⊢
    by_cases hij : i = j
    · rw [if_pos hij]
    · rw [if_neg hij]
      by_cases hik : i = k
      · subst hik
        rw [ho] at hok; injection hok with hok; subst hok
        exact hpre j hj
      · rw [if_neg hik] at hlk
        exact hM.down k ok hok hlk j hj
  · have h1 := hM.old t u hu (fun k ok hok hd => by
      have := hall k ok hok hd
      rw [getD_set hi] at this
      split at this
      · cases this
      · exact this)
    cases hd : o.dst with
    | none => simpa [Act.put] using h1
    | some d =>
      have hne : d ≠ t := fun h => by
        subst h
        have := hall i o ho hd
        rw [getD_set hi, if_pos rfl] at this
        cases this
      simp only [Act.put, Array.getElem?_setIfInBounds_ne hne]
      exact h1
  · rw [getD_set hi] at hlk
    by_cases hik : i = k
    · subst hik
      rw [ho] at hok; injection hok with hok; subst hok
      have := (dsts_spec hdst ho hd).1
      exact ⟨v, by simp [Act.put, hd, hM.size, this], hv⟩
    · rw [if_neg hik] at hlk
      obtain ⟨u, hu, hh⟩ := hM.new k ok d hok hd hlk
      refine ⟨u, ?_, ?_⟩
      · cases hdo : o.dst with
        | none => simpa [Act.put] using hu
        | some d' =>
          have hne : d' ≠ d := fun h => by
            subst h
            exact hik ((dsts_spec hdst ho hdo).2 k ok hok hd).symm
          simp only [Act.put, Array.getElem?_setIfInBounds_ne hne]
          exact hu
      · have hf := hfirm k
        revert hh hf
        cases vsAt Vs k with
        | c u' => exact fun h _ => h
        | r R => exact fun h hf => hf _ _ _ h (hc.mono (fun j hj _ => sel_oth hik j hj))
  · rw [getD_set hi] at hlk
    by_cases hik : i = k
    · subst hik; exact ⟨v, hv⟩
    · rw [if_neg hik] at hlk
      obtain ⟨u, hh⟩ := hM.noval k ok hok hd hlk
      refine ⟨u, ?_⟩
      have hf := hfirm k
      revert hh hf
      cases vsAt Vs k with
      | c u' => exact fun h _ => h
      | r R => exact fun h hf => hf _ _ _ h (hc.mono (fun j hj _ => sel_oth hik j hj))

theorem Mid.fits (hdst : dstsOk N l = true) (hM : Mid N q S l m Vs e w0 listed a w) {i : Nat} {o : Oper} (ho : l[i]? = some o) (hun : listed.getD i true = false)
    (hpre : ∀ j, (predsOf o).contains j = true → listed.getD j false = true) {val : Nat → Value}
    (hval : ∀ i o d, l[i]? = some o → o.dst = some d → listed.getD i true = true → a.tmps[d]? = some (valOf Vs val i) ∧ (vsAt Vs i).holds (valOf Vs val i) w) :
    Fits N (opEnv l Vs e i o val) a := by
  refine ⟨hM.size, hM.defers, fun t v hv => ?_⟩
  unfold opEnv at hv
  rw [look_append] at hv
  cases hp : look (predEnv l Vs val (predsOf o)) t with
  | some u =>
    rw [hp] at hv
    simp at hv
    subst hv
    obtain ⟨j, oj, hj, hoj, hd, rfl⟩ := look_predEnv val _ _ _ hp
    have h1 := hpre j (by simpa using hj)
    have h2 : listed.getD j true = true := by
      have : j < listed.size := by rw [hM.lsize]; exact (List.getElem?_eq_some_iff.1 hoj).1
      simpa [Array.getD_eq_getD_getElem?, this] using h1
    exact (hval j oj t hoj hd h2).1
  | none =>
    rw [hp] at hv
    simp at hv
    obtain ⟨h1, h2⟩ := look_filter hv
    refine hM.old t v h1 (fun k ok hok hd => ?_)
    unfold freeAt at h2
    have h3 := List.all_eq_true.1 h2 (ok, k) (by rw [List.mem_zipIdx_iff_getElem?]; exact hok)
    simp only [hd, Bool.or_eq_true] at h3
    rcases h3 with (h3 | h3) | h3
    · simp at h3
    · cases hlk : listed.getD k true with
      | false => rfl
      | true =>
        have := hM.down k ok hok hlk i h3
        have hi : i < listed.size := by rw [hM.lsize]; exact (List.getElem?_eq_some_iff.1 ho).1
        simp [Array.getD_eq_getD_getElem?, hi] at this hun
        rw [this] at hun; cases hun
    · have : k = i := Nat.eq_of_beq_eq_true h3
      subst this
      exact hun

/-- Once operation m may come up, all front operations have. -/
theorem tail_all (h : tailOk m l = true) (hM : Mid N q S l m Vs e w0 listed a w) {o : Oper} (ho : l[m]? = some o) (hpre : ∀ j, (predsOf o).contains j = true → listed.getD j false = true) :
    ∀ k, k < m → listed.getD k false = true := by
  unfold tailOk at h
  rw [ho] at h
  simp only [Bool.and_eq_true] at h
  have hc := h.1.2
  have key : ∀ n k, m - k ≤ n → k < m → listed.getD k false = true := by
    intro n
    induction n with
    | zero => intro k h1 h2; omega
    | succ n ih =>
      intro k h1 h2
      have h3 := List.all_eq_true.1 hc k (by simpa using h2)
      obtain ⟨c, hcm, h4⟩ := List.any_eq_true.1 h3
      simp only [Bool.and_eq_true] at h4
      have hkc : k < c := by simpa [Nat.blt_eq] using h4.1
      have hcm' : c < m + 1 := by simpa using hcm
      cases hoc : l[c]? with
      | none => simp [hoc] at h4
      | some oc =>
        simp only [hoc] at h4
        by_cases hcc : c = m
        · subst hcc
          rw [ho] at hoc; injection hoc with hoc; subst hoc
          exact hpre k h4.2
        · have h5 := ih c (by omega) (by omega)
          have hlt : c < listed.size := by rw [hM.lsize]; exact (List.getElem?_eq_some_iff.1 hoc).1
          have h6 : listed.getD c true = true := by
            simp [Array.getD_eq_getD_getElem?, hlt] at h5 ⊢; exact h5
          exact hM.down c oc hoc h6 k h4.2
  exact fun k hk => key (m - k) k (Nat.le_refl _) hk

theorem Mid.full (hM : Mid N q S l m Vs e w0 listed a w) (hall : ∀ k, k < m → listed.getD k true = true) {val : Nat → Value}
    (hval : ∀ i o d, l[i]? = some o → o.dst = some d → listed.getD i true = true → a.tmps[d]? = some (valOf Vs val i) ∧ (vsAt Vs i).holds (valOf Vs val i) w) :
    Fits N (frontEnv Vs val 0 m l ++ e) a := by
  refine ⟨hM.size, hM.defers, fun t v hv => ?_⟩
  rw [look_append] at hv
  cases hp : look (frontEnv Vs val 0 m l) t with
  | some u =>
    rw [hp] at hv; simp at hv; subst hv
    obtain ⟨j, o, hj, ho, hd, rfl⟩ := look_frontEnv val _ _ _ _ _ hp
    rw [Nat.zero_add]
    exact (hval j o t ho hd (hall j hj)).1
  | none =>
    rw [hp] at hv; simp at hv
    refine hM.old t v hv (fun i o ho hd => ?_)
    by_cases hi : i < m
    · exact absurd hd (look_front_none l 0 m hp i o hi ho)
    · exact hM.front i (List.getElem?_eq_some_iff.1 ho).1 (by omega)

theorem mid_any {Q : Post} (hdst : dstsOk N l = true) (htl : tailOk m l = true) (hfirm : ∀ i, (vsAt Vs i).firm (Oth q S i))
    (hfront : ∀ i o, i < m → l[i]? = some o → FrontOp P N q S l Vs e w0 i o)
    (hend : ∀ (val : Nat → Value) (w1 : World), Chg S w0 w1 → (∀ i, i < m → ∀ o d, l[i]? = some o → o.dst = some d → (vsAt Vs i).holds (valOf Vs val i) w1) → (∀ i, i < m → ∀ o, l[i]? = some o → o.dst = none → ∃ v, (vsAt Vs i).holds v w1) → WL P N l.toArray (l.drop m) Q (frontEnv Vs val 0 m l ++ e) w1) :
    ∀ (fuel : Nat) (listed : Array Bool) (a : Act) (w : World), openCount listed l.length = fuel → Mid N q S l m Vs e w0 listed a w → wpAny P .any l.toArray (Lift N Q) fuel listed a w := by
  have hml : m ≤ l.length := by
    unfold tailOk at htl
    simp only [Bool.and_eq_true] at htl
    exact Nat.le_of_ble_eq_true htl.1.1
  -- all front operations have come up: the tail
  have hdone : ∀ (listed : Array Bool) (a : Act) (w : World), Mid N q S l m Vs e w0 listed a w → (∀ k, k < m → listed.getD k true = true) → wpAny P .any l.toArray (Lift N Q) (l.drop m).length listed a w := by
    intro listed a w hM hall
    obtain ⟨val, hval⟩ := hM.vals
    have hW := hend val w hM.chg (fun i hi o d ho hd => (hval i o d ho hd (hall i hi)).2) (fun i hi o ho hd => hM.noval i o ho hd (hall i hi))
    unfold WL at hW
    refine tail_any htl (l.drop m) m listed a w (Nat.le_refl _) rfl hM.lsize (fun k hk => ?_) (hW a (hM.full hall hval))
    by_cases hkm : k < m
    · rw [hall k hkm]; simp [hkm]
    · rw [hM.front k hk (by omega)]; simp [hkm]
  have hcount : ∀ (listed : Array Bool), (∀ k, k < m → listed.getD k true = true) → (∀ i, i < l.length → m ≤ i → listed.getD i true = false) → openCount listed l.length = (l.drop m).length := by
    intro listed h1 h2
    have : ∀ n, n ≤ l.length → openCount listed n = n - m := by
      intro n
      induction n with
      | zero => intro _; simp [openCount]
      | succ n ih =>
        intro hn
        simp only [openCount]
        rw [ih (by omega)]
        by_cases hnm : n < m
        · rw [h1 n hnm]; simp; omega
        · rw [h2 n (by omega) (by omega)]; simp; omega
    rw [this _ (Nat.le_refl _)]; simp
  intro fuel
  induction fuel with
  | zero =>
    intro listed a w hcnt hM
    have hall : ∀ k, k < l.length → listed.getD k true = true := by
      have : ∀ n, openCount listed n = 0 → ∀ k, k < n → listed.getD k true = true := by
        intro n
        induction n with
        | zero => intro _ k hk; omega
        | succ n ih =>
          intro h k hk
          simp only [openCount] at h
          by_cases hkn : k = n
          · subst hkn
            cases hx : listed.getD k true with
            | true => rfl
            | false => rw [hx] at h; simp at h
          · exact ih (by omega) k (by omega)
      exact this _ hcnt
    have hd := hdone listed a w hM (fun k hk => hall k (by omega))
    rw [← hcount listed (fun k hk => hall k (by omega)) hM.front, hcnt] at hd
    exact hd
  | succ fuel ih =>
    intro listed a w hcnt hM
    by_cases hall : ∀ k, k < m → listed.getD k true = true
    · have hd := hdone listed a w hM hall
      rw [← hcount listed hall hM.front, hcnt] at hd
      exact hd
    · -- some front operation is open: the least one may come up; and whatever may come up is a front operation
      have hready : ∀ i, i ∈ Region.ready .any l.toArray listed → i < m := by
        intro i hi
        obtain ⟨o, ho, hun, hpre⟩ := ready_spec hi
        rcases Nat.lt_or_ge i m with h | h
        · exact h
        · exfalso
          have hil := (List.getElem?_eq_some_iff.1 ho).1
          rcases Nat.lt_or_ge m i with h2 | h2
          · have h3 := hpre (i - 1) ((tail_preds htl ho).1 h2)
            have h4 := hM.front (i - 1) (by omega) (by omega)
            have hsz : i - 1 < listed.size := by rw [hM.lsize]; omega
            simp [Array.getD_eq_getD_getElem?, hsz] at h3 h4
            rw [h3] at h4; cases h4
          · have hmi : i = m := by omega
            subst hmi
            refine hall (fun k hk => ?_)
            have h3 := tail_all htl hM ho hpre k hk
            have hsz : k < listed.size := by rw [hM.lsize]; omega
            simp [Array.getD_eq_getD_getElem?, hsz] at h3 ⊢; exact h3
      refine ⟨fun hnil => ?_, fun i hi => ?_⟩
      · exfalso
        have hmin : ∃ k, k < m ∧ listed.getD k true = false ∧ ∀ j, j < k → listed.getD j true = true := by
          have : ∀ n, (∃ k, k < n ∧ ¬ listed.getD k true = true) → ∃ k, k < n ∧ listed.getD k true = false ∧ ∀ j, j < k → listed.getD j true = true := by
            intro n
            induction n with
            | zero => rintro ⟨k, hk, _⟩; omega
            | succ n ih =>
              rintro ⟨k, hk, hx⟩
              by_cases hex : ∃ k, k < n ∧ ¬ listed.getD k true = true
              · obtain ⟨k', h1, h2, h3⟩ := ih hex
                exact ⟨k', by omega, h2, h3⟩
              · have hkn : k = n := by
                  rcases Nat.lt_or_ge k n with h | h
                  · exact absurd ⟨k, h, hx⟩ hex
                  · omega
                subst hkn
                refine ⟨k, by omega, by simpa using hx, fun j hj => ?_⟩
                cases hxj : listed.getD j true with
                | true => rfl
                | false => exact absurd ⟨j, hj, by simp [hxj]⟩ hex
          have hex : ∃ k, k < m ∧ ¬ listed.getD k true = true := by
            refine Classical.byContradiction fun hno => hall fun k hk => ?_
            cases hx : listed.getD k true with
            | true => rfl
            | false => exact absurd ⟨k, hk, by simp [hx]⟩ hno
          exact this m hex
        obtain ⟨k, hkm, hku, hkl⟩ := hmin
        have hkl' : k < l.length := by omega
        have ho : l[k]? = some l[k] := List.getElem?_eq_getElem hkl'
        have : k ∈ Region.ready .any l.toArray listed := by
          unfold Region.ready
          simp only [List.mem_filter, List.mem_range, Bool.and_eq_true, Bool.not_eq_true']
          refine ⟨by simpa using hkl', hku, ?_⟩
          simp [hkl']
          intro q hq
          by_cases hb : Region.binds .any l[k].after[q] = true
          · refine .inr ?_
            have hlt := (tail_preds htl ho).2 (l[k].after[q]).on (by
              simp only [predsOf, List.contains_eq_mem, List.mem_map, List.mem_filter, decide_eq_true_eq]
              exact ⟨l[k].after[q], ⟨by simp, hb⟩, rfl⟩)
            have h2 := hkl (l[k].after[q]).on hlt
            have hsz : (l[k].after[q]).on < listed.size := by rw [hM.lsize]; omega
            simp [Array.getD_eq_getD_getElem?, hsz] at h2 ⊢
            exact h2
          · exact .inl (by simpa using hb)
        rw [hnil] at this; cases this
      · have him := hready i hi
        obtain ⟨o, ho, hun, hpre⟩ := ready_spec hi
        have hlit : l.toArray[i]? = some o := by simpa using ho
        obtain ⟨val, hval⟩ := hM.vals
        have hfit := hM.fits hdst ho hun hpre hval
        have hisz : i < listed.size := by rw [hM.lsize]; exact (List.getElem?_eq_some_iff.1 ho).1
        have hil := (List.getElem?_eq_some_iff.1 ho).1
        have hpv : ∀ j, (predsOf o).contains j = true → ∀ oj, l[j]? = some oj → ∀ d, oj.dst = some d → a.tmps[d]? = some (valOf Vs val j) ∧ (vsAt Vs j).holds (valOf Vs val j) w := fun j hj oj hoj d hd => by
          have h1 := hpre j hj
          have hsz : j < listed.size := by rw [hM.lsize]; exact (List.getElem?_eq_some_iff.1 hoj).1
          exact hval j oj d hoj hd (by simp [Array.getD_eq_getD_getElem?, hsz] at h1 ⊢; exact h1)
        have hoth : Chg (Pre q S l i) w0 w := by
          have hun' : listed.getD i false = false := by
            simp [Array.getD_eq_getD_getElem?, hisz] at hun ⊢; exact hun
          unfold Pre
          by_cases hiq : i = q
          · rw [if_pos hiq]
            refine hM.chg0 ?_
            rw [← hiq]
            exact hun'
          · rw [if_neg hiq]
            by_cases hq : qPre q l i = true
            · rw [if_pos hq]
              refine hM.chg0 ?_
              unfold qPre at hq
              cases hoq : l[q]? with
              | none => simp [hoq] at hq
              | some oq =>
                simp only [hoq] at hq
                cases hlq : listed.getD q false with
                | false => rfl
                | true =>
                  have hqs : q < listed.size := by rw [hM.lsize]; exact (List.getElem?_eq_some_iff.1 hoq).1
                  have := hM.down q oq hoq (by simp [Array.getD_eq_getD_getElem?, hqs] at hlq ⊢; exact hlq) i hq
                  rw [hun'] at this; cases this
            · rw [if_neg hq]; exact hM.chg
        have hF := hfront i o him ho val w hoth (fun j hj oj d hoj hd => (hpv j hj oj hoj d hd).2)
        have hgo : ∀ v w', Chg (Sel q S i) w w' ∧ (vsAt Vs i).holds v w' → wpAny P .any l.toArray (Lift N Q) fuel (listed.setIfInBounds i true) (a.put o.dst v) w' := fun v w' ⟨hc, hv⟩ =>
          ih _ _ _ (by have := openCount_set hisz hun l.length hil; omega) (hM.step hdst ho him hun hpre hfirm hc hv)
        unfold wpOp
        rw [hlit]
        simp only
        cases hg : o.guard with
        | none =>
          rw [hg] at hF
          have hwa : Region.wanted o (yielded l.toArray a.tmps) = true := by simp [Region.wanted, hg]
          rw [if_pos hwa]
          unfold OpW at hF
          exact .inl (hF a hfit _ _ hgo)
        | some g =>
          obtain ⟨j, want⟩ := g
          rw [hg] at hF
          obtain ⟨b, hj, hjd, hb, h1, h2⟩ := hF
          have hwa : Region.wanted o (yielded l.toArray a.tmps) = (b == want) := by
            cases hoj : l[j]? with
            | none => simp [hoj] at hjd
            | some oj =>
              cases hd : oj.dst with
              | none => simp [hoj, hd] at hjd
              | some d =>
                have := (hpv j hj oj hoj d hd).1
                unfold Region.wanted yielded
                rcases hb with hb | ⟨hbw, hb⟩
                · rw [hb] at this
                  simp only [hg, List.getElem?_toArray, hoj, Option.bind_some, hd, this]
                  cases b <;> cases want <;> rfl
                · rw [hb] at this
                  simp only [hg, List.getElem?_toArray, hoj, Option.bind_some, hd, this]
                  subst hbw
                  cases want <;> rfl
          rw [hwa]
          by_cases hbw : b = want
          · subst hbw
            rw [if_pos (by simp)]
            have h3 := h1 rfl
            unfold OpW at h3
            exact .inl (h3 a hfit _ _ hgo)
          · have hbn : b = !want := by cases b <;> cases want <;> first | rfl | exact absurd rfl hbw
            rw [if_neg (by simpa using hbw)]
            exact hgo undef w ⟨Chg.refl _ _, h2 hbn⟩

def Firms (q : Nat) (S : List Nat) : Nat → List VS → Prop
  | _, [] => True
  | i, s :: r => s.firm (Oth q S i) ∧ Firms q S (i + 1) r
theorem Firms.at : ∀ {Vs : List VS} {i0 : Nat}, Firms q S i0 Vs → ∀ i, (vsAt Vs i).firm (Oth q S (i0 + i))
  | [], _, _, i => by simp [vsAt, VS.firm]
  | s :: r, i0, h, 0 => h.1
  | s :: r, i0, h, i + 1 => by
    have := Firms.at h.2 i
    rw [show i0 + (i + 1) = i0 + 1 + i from by omega]; exact this
theorem Firms.snoc {s : VS} : ∀ {Vs : List VS} {i0 : Nat}, Firms q S i0 Vs → s.firm (Oth q S (i0 + Vs.length)) → Firms q S i0 (Vs ++ [s])
  | [], _, _, h => ⟨h, trivial⟩
  | a :: A, i0, hf, h => ⟨hf.1, Firms.snoc hf.2 (by rw [show i0 + 1 + A.length = i0 + (A.length + 1) from by omega]; exact h)⟩

/-- **A region that draws its order.** m: how many operations stand in front; Vs: what they leave; S: the blocks that they may turn. -/
theorem W_draw {id : Nat} {Q : Post} (m q : Nat) (S : List Nat) (Vs : List VS) (hfol : P.follows .mixedOrders = true) (hdst : dstsOk N l = true) (htl : tailOk m l = true) (hfirms : Firms q S 0 Vs)
    (hfront : Front P N q S l Vs e w 0 m l)
    (hend : ∀ (val : Nat → Value) (w1 : World), Chg S w w1 → (∀ i, i < m → ∀ o d, l[i]? = some o → o.dst = some d → (vsAt Vs i).holds (valOf Vs val i) w1) → (∀ i, i < m → ∀ o, l[i]? = some o → o.dst = none → ∃ v, (vsAt Vs i).holds v w1) → WL P N l.toArray (l.drop m) Q (frontEnv Vs val 0 m l ++ e) w1) :
    W P N (.region id l.toArray true) Q e w := by
  have hfirm : ∀ i, (vsAt Vs i).firm (Oth q S i) := fun i => by have := hfirms.at i; rwa [Nat.zero_add] at this
  unfold W
  intro a ha
  refine wp_region_any hfol ?_
  have hc0 : openCount (Array.replicate l.length false) l.length = l.length := by
    have : ∀ n, n ≤ l.length → openCount (Array.replicate l.length false) n = n := by
      intro n
      induction n with
      | zero => intro _; rfl
      | succ n ih =>
        intro hn
        have h1 : (Array.replicate l.length false).getD n true = false := by rw [Array.getD_eq_getD_getElem?, Array.getElem?_replicate, if_pos (by omega)]; rfl
        simp only [openCount]; rw [ih (by omega), h1]; rfl
    exact this _ (Nat.le_refl _)
  have hM : Mid N q S l m Vs e w (Array.replicate l.length false) a { w with drawn := w.drawn + 1 } := by
    refine ⟨ha.size, ha.defers, Chg.drawn S w _, fun _ => Chg.drawn [] w _, by simp, fun i hi _ => by simp [Array.getD_eq_getD_getElem?, hi], fun i o ho hl => ?_, fun t v hv _ => ha.look t v hv, fun i o d ho _ hl => ?_, fun i o ho _ hl => ?_⟩
    · have hi := (List.getElem?_eq_some_iff.1 ho).1
      simp [Array.getD_eq_getD_getElem?, hi] at hl
    · have hi := (List.getElem?_eq_some_iff.1 ho).1
      simp [Array.getD_eq_getD_getElem?, hi] at hl
    · have hi := (List.getElem?_eq_some_iff.1 ho).1
      simp [Array.getD_eq_getD_getElem?, hi] at hl
  have := mid_any (P := P) (Q := Q) hdst htl hfirm (fun i o him ho => by simpa using Front.get l 0 m hfront i o him ho) hend l.length _ _ _ hc0 hM
  simpa using this

/-! ### The same, walked in the text's order: what an operation leaves is found on the way -/
/-- Operation i, what the elder ones leave being Vs; it leaves s. -/
def StepP (P : Program) (N : Nat) (q : Nat) (S : List Nat) (l : List Oper) (Vs : List VS) (e : Env) (w : World) (i : Nat) (o : Oper) (s : VS) : Prop :=
  ∀ (val : Nat → Value) (w1 : World), Chg (Pre q S l i) w w1 → (∀ j, (predsOf o).contains j = true → ∀ oj d, l[j]? = some oj → oj.dst = some d → (vsAt Vs j).holds (valOf Vs val j) w1) →
    match o.guard with
    | none => OpW P N o (opEnv l Vs e i o val) w1 (fun v w' => Chg (Sel q S i) w1 w' ∧ s.holds v w')
    | some (j, want) => ∃ b, (predsOf o).contains j = true ∧ ((l[j]?).bind (·.dst)).isSome = true ∧ (valOf Vs val j = .bool b ∨ (b = (!want) ∧ valOf Vs val j = undef)) ∧
        (b = want → OpW P N o (opEnv l Vs e i o val) w1 (fun v w' => Chg (Sel q S i) w1 w' ∧ s.holds v w')) ∧ (b = !want → s.holds undef w1)
def Walk (P : Program) (N : Nat) (q : Nat) (S : List Nat) (l : List Oper) (e : Env) (w : World) (fin : List VS → Prop) : Nat → List Oper → List VS → Prop
  | _, [], Vs => fin Vs
  | i, o :: r, Vs => ∃ s : VS, s.firm (Oth q S i) ∧ StepP P N q S l Vs e w i o s ∧ Walk P N q S l e w fin (i + 1) r (Vs ++ [s])

theorem walk_front (htl : tailOk m l = true) (hml : m ≤ l.length) {fin : List VS → Prop} : ∀ (r : List Oper) (i : Nat) (Vs : List VS), Vs.length = i → (l.take m).drop i = r → Firms q S 0 Vs → Walk P N q S l e w fin i r Vs →
    ∃ rest : List VS, rest.length = r.length ∧ Firms q S 0 (Vs ++ rest) ∧ fin (Vs ++ rest) ∧ ∀ k o, r[k]? = some o → FrontOp P N q S l (Vs ++ rest) e w (i + k) o
  | [], i, Vs, hi, hr, hf, h => ⟨[], rfl, by simpa using hf, by simpa [Walk] using h, fun k o hk => by simp at hk⟩
  | o :: r, i, Vs, hi, hr, hf, h => by
    obtain ⟨s, hs, hst, hw⟩ := h
    have hr' : (l.take m).drop (i + 1) = r := by rw [← List.drop_drop, hr]; rfl
    have hf' : Firms q S 0 (Vs ++ [s]) := hf.snoc (by rw [Nat.zero_add, hi]; exact hs)
    obtain ⟨rest, hl, h1, h2, h3⟩ := walk_front htl hml r (i + 1) (Vs ++ [s]) (by simp [hi]) hr' hf' hw
    rw [List.append_assoc] at h1 h2 h3
    refine ⟨s :: rest, by simp [hl], h1, h2, fun k ok hk => ?_⟩
    cases k with
    | zero =>
      simp at hk
      subst hk
      rw [Nat.add_zero]
      have ho : l[i]? = some o := by
        have h4 : ((l.take m).drop i)[0]? = some o := by rw [hr]; rfl
        rw [List.getElem?_drop, Nat.add_zero, List.getElem?_take] at h4
        split at h4
        · exact h4
        · cases h4
      have hpl : ∀ j, (predsOf o).contains j = true → j < Vs.length := fun j hj => by rw [hi]; exact (tail_preds htl ho).2 j hj
      have hpe : ∀ val, opEnv l (Vs ++ s :: rest) e i o val = opEnv l Vs e i o val := fun val => by
        unfold opEnv; rw [predEnv_append _ (fun j hj => hpl j (by simpa using hj))]
      have hvs : vsAt (Vs ++ s :: rest) i = s := by rw [← hi]; exact vsAt_at
      intro val w1 hc hp
      have hq := hst val w1 hc (fun j hj oj d h5 h6 => by
        have := hp j hj oj d h5 h6
        rw [vsAt_append (hpl j hj), valOf_append (hpl j hj)] at this; exact this)
      rw [hpe val, hvs]
      cases hg : o.guard with
      | none => rw [hg] at hq; exact hq
      | some g =>
        obtain ⟨j, want⟩ := g
        rw [hg] at hq
        obtain ⟨b, h5, h6, h7, h8, h9⟩ := hq
        exact ⟨b, h5, h6, by rw [valOf_append (hpl j h5)]; exact h7, h8, h9⟩
    | succ k =>
      have := h3 k ok (by simpa using hk)
      rw [show i + (k + 1) = i + 1 + k from by omega]; exact this

theorem front_of {Vs : List VS} : ∀ (r : List Oper) (i k : Nat), (∀ j o, j < k → r[j]? = some o → FrontOp P N q S l Vs e w (i + j) o) → Front P N q S l Vs e w i k r
  | [], i, k, h => by cases k <;> exact trivial
  | o :: r, i, 0, h => trivial
  | o :: r, i, k + 1, h => ⟨h 0 o (by omega) rfl, front_of r (i + 1) k (fun j oj hj hoj => by
      have := h (j + 1) oj (by omega) (by simpa using hoj)
      rw [show i + 1 + j = i + (j + 1) from by omega]; exact this)⟩

/-- **A region that draws, walked in the text's order.** -/
theorem W_walkf {id : Nat} {Q : Post} (m q : Nat) (S : List Nat) (hfol : P.follows .mixedOrders = true) (hdst : dstsOk N l = true) (htl : tailOk m l = true)
    (h : Walk P N q S l e w (fun Vs => ∀ (val : Nat → Value) (w1 : World), Chg S w w1 → (∀ i, i < m → ∀ o d, l[i]? = some o → o.dst = some d → (vsAt Vs i).holds (valOf Vs val i) w1) → (∀ i, i < m → ∀ o, l[i]? = some o → o.dst = none → ∃ v, (vsAt Vs i).holds v w1) → WL P N l.toArray (l.drop m) Q (frontEnv Vs val 0 m l ++ e) w1) 0 (l.take m) []) :
    W P N (.region id l.toArray true) Q e w := by
  have hml : m ≤ l.length := by
    have h2 := htl
    unfold tailOk at h2
    simp only [Bool.and_eq_true] at h2
    exact Nat.le_of_ble_eq_true h2.1.1
  obtain ⟨rest, hl, h1, h2, h3⟩ := walk_front htl hml (l.take m) 0 [] rfl (by simp) trivial h
  rw [List.nil_append] at h1 h2 h3
  refine W_draw m q S rest hfol hdst htl h1 (front_of l 0 m fun j o hj ho => ?_) h2
  exact h3 j o (by rw [List.getElem?_take, if_pos hj]; exact ho)

theorem Walk.mono {fin fin' : List VS → Prop} (hf : ∀ Vs, fin Vs → fin' Vs) : ∀ (r : List Oper) (i : Nat) (Vs : List VS), Walk P N q S l e w fin i r Vs → Walk P N q S l e w fin' i r Vs
  | [], _, Vs, h => hf Vs h
  | _ :: r, i, Vs, ⟨s, h1, h2, h3⟩ => ⟨s, h1, h2, Walk.mono hf r (i + 1) (Vs ++ [s]) h3⟩
theorem W_walkq {id : Nat} {Q : Post} (m q : Nat) (S : List Nat) (hfol : P.follows .mixedOrders = true) (hdst : dstsOk N l = true) (htl : tailOk m l = true)
    (h : Walk P N q S l e w (fun Vs => ∀ (val : Nat → Value) (w1 : World), Chg S w w1 → (∀ i, i < m → ∀ o d, l[i]? = some o → o.dst = some d → (vsAt Vs i).holds (valOf Vs val i) w1) → WL P N l.toArray (l.drop m) Q (frontEnv Vs val 0 m l ++ e) w1) 0 (l.take m) []) :
    W P N (.region id l.toArray true) Q e w :=
  W_walkf m q S hfol hdst htl (Walk.mono (fun Vs h val w1 hc hp _ => h val w1 hc hp) _ _ _ h)

theorem Walk.plain {fin : List VS → Prop} {i : Nat} {r : List Oper} {Vs : List VS} {o : Oper} {v : Value} (hi : Nat.beq i q = false) (hg : o.guard = none)
    (h : ∀ (val : Nat → Value) (w1 : World), Chg S w w1 → (∀ j, (predsOf o).contains j = true → ∀ oj d, l[j]? = some oj → oj.dst = some d → (vsAt Vs j).holds (valOf Vs val j) w1) → OpW P N o (opEnv l Vs e i o val) w1 (fun u w' => Chg [] w1 w' ∧ u = v))
    (hr : Walk P N q S l e w fin (i + 1) r (Vs ++ [.c v])) : Walk P N q S l e w fin i (o :: r) Vs := by
  have hne : ¬ i = q := fun e => by subst e; simp at hi
  refine ⟨.c v, trivial, fun val w1 hc hp => ?_, hr⟩
  rw [hg]
  replace hc := hc.mono (fun k hk _ => pre_oth k hk)
  unfold Oth at hc
  rw [if_neg hne] at hc
  unfold Sel
  rw [if_neg hne]
  exact h val w1 hc hp
/-- An operation that stands ahead of the one that turns. -/
theorem Walk.plainP {fin : List VS → Prop} {i : Nat} {r : List Oper} {Vs : List VS} {o : Oper} {v : Value} (hi : Nat.beq i q = false) (hp : qPre q l i = true) (hg : o.guard = none)
    (h : ∀ (val : Nat → Value) (w1 : World), Chg [] w w1 → (∀ j, (predsOf o).contains j = true → ∀ oj d, l[j]? = some oj → oj.dst = some d → (vsAt Vs j).holds (valOf Vs val j) w1) → OpW P N o (opEnv l Vs e i o val) w1 (fun u w' => Chg [] w1 w' ∧ u = v))
    (hr : Walk P N q S l e w fin (i + 1) r (Vs ++ [.c v])) : Walk P N q S l e w fin i (o :: r) Vs := by
  have hne : ¬ i = q := fun e => by subst e; simp at hi
  refine ⟨.c v, trivial, fun val w1 hc hp' => ?_, hr⟩
  rw [hg]
  unfold Pre at hc
  rw [if_neg hne, if_pos hp] at hc
  unfold Sel
  rw [if_neg hne]
  exact h val w1 hc hp'
theorem Walk.rel {fin : List VS → Prop} {i : Nat} {r : List Oper} {Vs : List VS} {o : Oper} (hi : Nat.beq i q = false) (R : Value → World → Prop) (hg : o.guard = none) (hR : ∀ v w w', R v w → Chg S w w' → R v w')
    (h : ∀ (val : Nat → Value) (w1 : World), Chg S w w1 → (∀ j, (predsOf o).contains j = true → ∀ oj d, l[j]? = some oj → oj.dst = some d → (vsAt Vs j).holds (valOf Vs val j) w1) → OpW P N o (opEnv l Vs e i o val) w1 (fun u w' => Chg [] w1 w' ∧ R u w'))
    (hr : Walk P N q S l e w fin (i + 1) r (Vs ++ [.r R])) : Walk P N q S l e w fin i (o :: r) Vs := by
  have hne : ¬ i = q := fun e => by subst e; simp at hi
  refine ⟨.r R, ?_, fun val w1 hc hp => ?_, hr⟩
  · unfold Oth; rw [if_neg hne]; exact hR
  rw [hg]
  replace hc := hc.mono (fun k hk _ => pre_oth k hk)
  unfold Oth at hc
  rw [if_neg hne] at hc
  unfold Sel
  rw [if_neg hne]
  exact h val w1 hc hp
/-- The one that turns blocks of S. -/
theorem Walk.turn {fin : List VS → Prop} {i : Nat} {r : List Oper} {Vs : List VS} {o : Oper} (hi : Nat.beq i q = true) (R : Value → World → Prop) (hg : o.guard = none) (hR : ∀ v w w', R v w → Chg [] w w' → R v w')
    (h : ∀ (val : Nat → Value) (w1 : World), Chg [] w w1 → (∀ j, (predsOf o).contains j = true → ∀ oj d, l[j]? = some oj → oj.dst = some d → (vsAt Vs j).holds (valOf Vs val j) w1) → OpW P N o (opEnv l Vs e i o val) w1 (fun u w' => Chg S w1 w' ∧ R u w'))
    (hr : Walk P N q S l e w fin (i + 1) r (Vs ++ [.r R])) : Walk P N q S l e w fin i (o :: r) Vs := by
  have he : i = q := Nat.eq_of_beq_eq_true hi
  refine ⟨.r R, ?_, fun val w1 hc hp => ?_, hr⟩
  · unfold Oth; rw [if_pos he]; exact hR
  rw [hg]
  replace hc := hc.mono (fun k hk _ => pre_oth k hk)
  unfold Oth at hc
  rw [if_pos he] at hc
  unfold Sel
  rw [if_pos he]
  exact h val w1 hc hp
theorem Walk.guardT {fin : List VS → Prop} {i j : Nat} {want : Bool} {r : List Oper} {Vs : List VS} {o : Oper} {v : Value} (hi : Nat.beq i q = false) (hg : o.guard = some (j, want)) (hj : (predsOf o).contains j = true) (hjd : ((l[j]?).bind (·.dst)).isSome = true) (hb : ∀ val, valOf Vs val j = .bool want)
    (h : ∀ (val : Nat → Value) (w1 : World), Chg S w w1 → (∀ j, (predsOf o).contains j = true → ∀ oj d, l[j]? = some oj → oj.dst = some d → (vsAt Vs j).holds (valOf Vs val j) w1) → OpW P N o (opEnv l Vs e i o val) w1 (fun u w' => Chg [] w1 w' ∧ u = v))
    (hr : Walk P N q S l e w fin (i + 1) r (Vs ++ [.c v])) : Walk P N q S l e w fin i (o :: r) Vs := by
  have hne : ¬ i = q := fun e => by subst e; simp at hi
  refine ⟨.c v, trivial, fun val w1 hc hp => ?_, hr⟩
  rw [hg]
  replace hc := hc.mono (fun k hk _ => pre_oth k hk)
  unfold Oth at hc
  rw [if_neg hne] at hc
  unfold Sel
  rw [if_neg hne]
  exact ⟨want, hj, hjd, .inl (hb val), (fun _ => h val w1 hc hp), (fun hn => by cases want <;> cases hn)⟩
theorem Walk.guardR {fin : List VS → Prop} {i j : Nat} {want : Bool} {r : List Oper} {Vs : List VS} {o : Oper} (hi : Nat.beq i q = false) (R : Value → World → Prop) (hg : o.guard = some (j, want)) (hj : (predsOf o).contains j = true) (hjd : ((l[j]?).bind (·.dst)).isSome = true) (hb : ∀ val, valOf Vs val j = .bool want) (hR : ∀ v w w', R v w → Chg S w w' → R v w')
    (h : ∀ (val : Nat → Value) (w1 : World), Chg S w w1 → (∀ j, (predsOf o).contains j = true → ∀ oj d, l[j]? = some oj → oj.dst = some d → (vsAt Vs j).holds (valOf Vs val j) w1) → OpW P N o (opEnv l Vs e i o val) w1 (fun u w' => Chg [] w1 w' ∧ R u w'))
    (hr : Walk P N q S l e w fin (i + 1) r (Vs ++ [.r R])) : Walk P N q S l e w fin i (o :: r) Vs := by
  have hne : ¬ i = q := fun e => by subst e; simp at hi
  refine ⟨.r R, ?_, fun val w1 hc hp => ?_, hr⟩
  · unfold Oth; rw [if_neg hne]; exact hR
  rw [hg]
  replace hc := hc.mono (fun k hk _ => pre_oth k hk)
  unfold Oth at hc
  rw [if_neg hne] at hc
  unfold Sel
  rw [if_neg hne]
  exact ⟨want, hj, hjd, .inl (hb val), (fun _ => h val w1 hc hp), (fun hn => by cases want <;> cases hn)⟩
theorem Walk.guardF {fin : List VS → Prop} {i j : Nat} {want b : Bool} {r : List Oper} {Vs : List VS} {o : Oper} (hg : o.guard = some (j, want)) (hj : (predsOf o).contains j = true) (hjd : ((l[j]?).bind (·.dst)).isSome = true) (hb : ∀ val, valOf Vs val j = .bool b) (hbw : b = !want)
    (hr : Walk P N q S l e w fin (i + 1) r (Vs ++ [.c undef])) : Walk P N q S l e w fin i (o :: r) Vs :=
  ⟨.c undef, trivial, fun val w1 hc hp => by rw [hg]; exact ⟨b, hj, hjd, .inl (hb val), (fun hn => by subst hbw; cases want <;> cases hn), (fun _ => rfl)⟩, hr⟩
theorem Walk.guardU {fin : List VS → Prop} {i j : Nat} {want : Bool} {r : List Oper} {Vs : List VS} {o : Oper} (hg : o.guard = some (j, want)) (hj : (predsOf o).contains j = true) (hjd : ((l[j]?).bind (·.dst)).isSome = true) (hb : ∀ val, valOf Vs val j = undef)
    (hr : Walk P N q S l e w fin (i + 1) r (Vs ++ [.c undef])) : Walk P N q S l e w fin i (o :: r) Vs :=
  ⟨.c undef, trivial, fun val w1 hc hp => by rw [hg]; exact ⟨!want, hj, hjd, .inr ⟨rfl, hb val⟩, (fun hn => by cases want <;> cases hn), (fun _ => rfl)⟩, hr⟩
theorem Walk.fin {fin : List VS → Prop} {i : Nat} {Vs : List VS} (h : fin Vs) : Walk P N q S l e w fin i [] Vs := h
attribute [irreducible] Walk
end
end Go.Vc.Q
/-! Rows whose elements have several cells. -/
set_option linter.unusedVariables false
set_option linter.unusedSimpArgs false
namespace Go.Vc
open Go
/-- The cells cs lie behind ad, from the m-th on. -/
def Elem (w : World) (ad : Addr) (m : Nat) (cs : List Value) : Prop := ∀ j u, cs[j]? = some u → w.cell? (ad.add (m + j)) = some u
theorem Elem.keep0 {w w' : World} {ad : Addr} {m : Nat} {cs : List Value} (h : Elem w ad m cs) (hc : Chg [] w w') : Elem w' ad m cs := fun j u hj => hc.cell0 (h j u hj)
/-- Elements that read as their cells. -/
def RdL {α : Type} (f : α → List Value) (_ : World) (cs : List Value) (x : α) : Prop := cs = f x
theorem RdL.kept {α : Type} {f : α → List Value} : KeptK (RdL f) := fun _ _ _ _ _ h => h
section
variable {α : Type} {f : α → List Value} {k : Nat} {w w' : World} {v : Value} {L : List α}
theorem SliceK.keepR (h : SliceK k (RdL f) w v L) (hc : Chg [] w w') : SliceK k (RdL f) w' v L := h.keep RdL.kept hc
theorem SliceK.at {A : Option Addr} {n c : Nat} (h : SliceK k (RdL f) w (.slice A n c) L) {i : Nat} {x : α} (hx : L[i]? = some x) : ∃ ad, A = some ad ∧ Elem w ad (i * k) (f x) := by
  obtain ⟨ad, cs, h1, _, h2, h3⟩ := h.get hx
  unfold RdL at h3
  subst h3
  exact ⟨ad, h1, h2⟩
theorem rk_len (hf : ∀ x, (f x).length = k) : ∀ L : List α, (L.flatMap f).length = L.length * k
  | [] => by simp
  | x :: L => by rw [List.flatMap_cons, List.length_append, hf, rk_len hf L, List.length_cons, Nat.succ_mul]; omega
theorem rk_get (hf : ∀ x, (f x).length = k) : ∀ (L : List α) {i j : Nat} {x : α}, L[i]? = some x → j < k → (L.flatMap f)[i * k + j]? = (f x)[j]?
  | [], i, j, x, h, _ => by simp at h
  | a :: l, 0, j, x, h, hj => by
    simp at h
    subst h
    rw [List.flatMap_cons, Nat.zero_mul, Nat.zero_add, List.getElem?_append_left (by rw [hf]; exact hj)]
  | a :: l, i + 1, j, x, h, hj => by
    rw [List.flatMap_cons, List.getElem?_append_right (by rw [hf, Nat.succ_mul]; omega), hf, show (i + 1) * k + j - k = i * k + j from by rw [Nat.succ_mul]; omega]
    exact rk_get hf l (by simpa using h) hj
theorem rk_lt {i n k : Nat} (hi : i < n) : i * k + k ≤ n * k := by
  have : (i + 1) * k ≤ n * k := Nat.mul_le_mul_right k hi
  rw [Nat.succ_mul] at this
  exact this
/-- A row of the call's own, its cells. -/
def RowB (w : World) (g : Nat) (t : TypeId) (f : α → List Value) (L : List α) (rest : List Value) : Prop := Blk w g t (L.flatMap f ++ rest)
theorem RowB.keep0 {g : Nat} {t : TypeId} {rest : List Value} (h : RowB w g t f L rest) (hc : Chg [] w w') : RowB w' g t f L rest := Blk.keep0 h hc
theorem RowB.keep {S : List Nat} {g : Nat} {t : TypeId} {rest : List Value} (h : RowB w g t f L rest) (hc : Chg S w w') (hn : g ∉ S) : RowB w' g t f L rest := Blk.keep h hc hn
theorem RowB.lt {g : Nat} {t : TypeId} {rest : List Value} (h : RowB w g t f L rest) : g < w.heap.size := Blk.lt h
theorem RowB.elem (hf : ∀ x, (f x).length = k) {g : Nat} {t : TypeId} {rest : List Value} (h : RowB w g t f L rest) {i : Nat} {x : α} (hx : L[i]? = some x) : Elem w ⟨g, 0, none⟩ (i * k) (f x) := fun j u hj => by
  have hjk : j < k := by have := (List.getElem?_eq_some_iff.1 hj).1; rw [hf] at this; exact this
  have hi := (List.getElem?_eq_some_iff.1 hx).1
  rw [add_plain]
  unfold RowB at h
  refine h.cell ?_
  rw [List.getElem?_append_left (by rw [rk_len hf]; have := rk_lt (k := k) hi; omega), rk_get hf L hx hjk]
  exact hj
theorem Own.rowB {t : TypeId} {g n c : Nat} (h : Own w t k (.slice (some ⟨g, 0, none⟩) n c) n (L.flatMap f)) : ∃ rest, RowB w g t f L rest ∧ (L.flatMap f ++ rest).length = c * k := by
  rcases h.cases with ⟨h1, _⟩ | ⟨g', cap, cur, h1, _, _, h2, h3, h4⟩
  · cases h1
  · injection h1 with e1 _ e2
    injection e1 with e1
    injection e1 with e1 _ _
    subst e1; subst e2
    refine ⟨cur.drop (n * k), ?_, ?_⟩
    · unfold RowB
      rw [← h4, List.take_append_drop]
      exact h2
    · rw [← h4, List.take_append_drop]; exact h3
theorem RowB.own (hf : ∀ x, (f x).length = k) {g c : Nat} {t : TypeId} {rest : List Value} (h : RowB w g t f L rest) (hl : (L.flatMap f ++ rest).length = c * k) (hc : L.length ≤ c) (hm : c ≤ maxLen) : Own w t k (.slice (some ⟨g, 0, none⟩) L.length c) L.length (L.flatMap f) :=
  Own.mk h hc hm hl (by rw [← rk_len hf L]; exact List.take_left' rfl)
theorem Own.addr {t : TypeId} {A : Option Addr} {n c : Nat} {xs : List Value} (h : Own w t k (.slice A n c) n xs) (hn : 0 < n) : ∃ g, A = some ⟨g, 0, none⟩ := by
  obtain ⟨g, cap, cur, h1, _⟩ := h.blk hn
  injection h1 with h1
  exact ⟨g, h1⟩
theorem Own.readsK (hf : ∀ x, (f x).length = k) {t : TypeId} (h : Own w t k v L.length (L.flatMap f)) : SliceK k (RdL f) w v L := by
  obtain ⟨A, c, rfl, h1, h2⟩ := h.form
  unfold SliceK
  refine ⟨A, c, rfl, h1, h2, fun i x hx => ?_⟩
  obtain ⟨g, rfl⟩ := h.addr (by have := (List.getElem?_eq_some_iff.1 hx).1; omega)
  obtain ⟨rest, hr, _⟩ := h.rowB
  exact ⟨_, f x, rfl, hf x, hr.elem hf hx, rfl⟩
theorem rk_set (hf : ∀ x, (f x).length = k) (rest : List Value) : ∀ (L : List α) (i : Nat) (x : α), i < L.length → (L.flatMap f ++ rest).take (i * k) ++ f x ++ (L.flatMap f ++ rest).drop (i * k + (f x).length) = (L.set i x).flatMap f ++ rest
  | [], i, x, h => by simp at h
  | a :: L, 0, x, h => by
    rw [List.flatMap_cons, Nat.zero_mul, List.take_zero, List.nil_append, Nat.zero_add, hf, List.append_assoc, List.drop_left' (hf a), List.set_cons_zero, List.flatMap_cons, List.append_assoc]
  | a :: L, i + 1, x, h => by
    have ih := rk_set hf rest L i x (by simpa using h)
    have e1 : (i + 1) * k = (f a).length + i * k := by rw [hf, Nat.succ_mul]; omega
    have e0 : (a :: L).flatMap f ++ rest = f a ++ (L.flatMap f ++ rest) := by rw [List.flatMap_cons, List.append_assoc]
    rw [e0, e1, List.take_length_add_append, Nat.add_assoc, List.drop_length_add_append, List.set_cons_succ, List.flatMap_cons]
    have ih' := congrArg (fun l => f a ++ l) ih
    simpa only [List.append_assoc] using ih'
theorem rk_set1 (hf : ∀ x, (f x).length = k) (rest : List Value) : ∀ (L : List α) (i j : Nat) (x x' : α) (u : Value), L[i]? = some x → (f x).set j u = f x' → j < k → (L.flatMap f ++ rest).set (i * k + j) u = (L.set i x').flatMap f ++ rest
  | [], i, j, x, x', u, h, _, _ => by simp at h
  | a :: L, 0, j, x, x', u, h, h2, hj => by
    simp at h
    subst h
    rw [List.flatMap_cons, List.append_assoc, Nat.zero_mul, Nat.zero_add, List.set_append_left _ _ (by rw [hf]; exact hj), h2, List.set_cons_zero, List.flatMap_cons, List.append_assoc]
  | a :: L, i + 1, j, x, x', u, h, h2, hj => by
    rw [List.flatMap_cons, List.append_assoc, show (i + 1) * k + j = (f a).length + (i * k + j) from by rw [hf, Nat.succ_mul]; omega, List.set_append_right _ _ (by omega), Nat.add_sub_cancel_left, rk_set1 hf rest L i j x x' u (by simpa using h) h2 hj, List.set_cons_succ, List.flatMap_cons, List.append_assoc]
end
section
variable {P : Program} {N : Nat} {e : Env} {w : World} {o : Oper} {K : Value → World → Prop} {α : Type} {f : α → List Value} {k : Nat}
/-- An element, whole. -/
theorem op_loadE (T : Types P) {x : Operand} {t : TypeId} {d : TInfo} {ad : Addr} {m : Nat} {cs : List Value} (h0 : Elem w ad m cs)
    (hop : o.op = .load t x) (hx : ev e x = some (.pointer (some (ad.add m)))) (ht : T.tbl t = some d) (hd : aggI d = true) (hs' : Nat.beq d.size cs.length = true) (h : K (.agg cs.toArray) w) : OpW P N o e w K :=
  op_load_cells T hop hx ht hd hs' (fun j u hj => by rw [add_of_add]; exact h0 j u hj) h
/-- A cell of an element. -/
theorem op_loadF (T : Types P) {x : Operand} {t : TypeId} {d : TInfo} {ad : Addr} {m j : Nat} {cs : List Value} {v : Value} (h0 : Elem w ad m cs)
    (hop : o.op = .load t x) (hx : ev e x = some (.pointer (some ((ad.add m).add j)))) (ht : T.tbl t = some d) (hd : aggI d = false) (hv : nth cs j = some v) (h : K v w) : OpW P N o e w K :=
  op_load T hop hx ht hd (by rw [add_of_add]; exact h0 j v (by rw [← nth_eq]; exact hv)) h
theorem op_loadF2 (T : Types P) {x : Operand} {t : TypeId} {d : TInfo} {ad : Addr} {m j j2 : Nat} {cs : List Value} {v : Value} (h0 : Elem w ad m cs)
    (hop : o.op = .load t x) (hx : ev e x = some (.pointer (some (((ad.add m).add j).add j2)))) (ht : T.tbl t = some d) (hd : aggI d = false) (hv : nth cs (j + j2) = some v) (h : K v w) : OpW P N o e w K :=
  op_load T hop hx ht hd (by rw [add_of_add, add_of_add]; exact h0 (j + j2) v (by rw [← nth_eq]; exact hv)) h
theorem op_loadF3 (T : Types P) {x : Operand} {t : TypeId} {d : TInfo} {ad : Addr} {m j j2 j3 : Nat} {cs : List Value} {v : Value} (h0 : Elem w ad m cs)
    (hop : o.op = .load t x) (hx : ev e x = some (.pointer (some ((((ad.add m).add j).add j2).add j3)))) (ht : T.tbl t = some d) (hd : aggI d = false) (hv : nth cs (j + j2 + j3) = some v) (h : K v w) : OpW P N o e w K :=
  op_load T hop hx ht hd (by rw [add_of_add, add_of_add, add_of_add, show j + (j2 + j3) = j + j2 + j3 from by omega]; exact h0 (j + j2 + j3) v (by rw [← nth_eq]; exact hv)) h
/-- The address of an element. -/
theorem op_indexK (T : Types P) {x y : Operand} {t el : TypeId} {ad : Addr} {n c : Nat} {kk : IntKind} {i : Nat} {j : TInfo}
    (hop : o.op = .indexAddr t x y) (hx : ev e x = some (.slice (some ad) n c)) (hy : ev e y = some (.int kk (i : Int))) (ht : T.d t = some (.slice el)) (hel : T.tbl el = some j)
    (h1 : i < n) (h : K (.pointer (some (ad.add (i * j.size)))) w) : OpW P N o e w K :=
  op_index_slice T hop hx hy ht hel (by omega) (by omega) (by rw [Int.toNat_natCast]) h
/-- An element of a row of the call's own is written. -/
theorem op_storeR (T : Types P) (hf : ∀ x, (f x).length = k) {x y : Operand} {t el : TypeId} {d : TInfo} {g i : Nat} {a : α} {L : List α} {rest : List Value}
    (hb : RowB w g el f L rest) (hop : o.op = .store t x y) (hx : ev e x = some (.pointer (some ((⟨g, 0, none⟩ : Addr).add (i * k))))) (hy : ev e y = some (.agg (f a).toArray)) (ht : T.tbl t = some d) (hd : Nat.beq d.size (f a).length = true) (h1 : (f a).all (fun u => u.oneCell') = true)
    (hi : i < L.length) (h : ∀ w1, Chg [g] w w1 → RowB w1 g el f (L.set i a) rest → w1.heap.size = w.heap.size → K undef w1) : OpW P N o e w K := by
  unfold RowB at hb
  have hlen : i * k + (f a).length ≤ (L.flatMap f ++ rest).length := by
    rw [List.length_append, rk_len hf, hf]; have := rk_lt (k := k) hi; omega
  refine op_store_agg T (vs := (f a).toArray) hop (by rw [← add_plain]; exact hx) hy ht (by simpa using hd) (by simpa using h1) hb (by simpa using hlen) (fun w1 hc hb1 hz => h w1 hc ?_ hz)
  unfold RowB
  rw [← rk_set hf rest L i a hi]
  simpa using hb1
/-- append(v, x), v a row of the call's own, x in a block of its own. -/
theorem op_appendK (T : Types P) (hf : ∀ x, (f x).length = k) {x y : Operand} {t el : TypeId} {d : TInfo} {v : Value} {g5 c : Nat} {L : List α} {a : α} {ts : Array TypeId}
    (hop : o.op = .call { callee := .builtin .append, args := #[x, y], argTypes := ts }) (hts : ts = #[t, t]) (hx : ev e x = some v) (hy : ev e y = some (.slice (some ⟨g5, 0, none⟩) 1 c)) (ht : T.d t = some (.slice el)) (hel : T.tbl el = some d)
    (hz : Nat.beq d.zero.cells.size d.size = true) (hpos : Nat.blt 0 d.size = true) (hsz : Nat.beq d.size k = true) (hby : Nat.ble d.bytes 1000 = true)
    (hown : Own w el k v L.length (L.flatMap f)) (hg : Blk w g5 el (f a)) (h1 : ∀ u ∈ f a, u.oneCell' = true) (hlim : L.length < 1000000)
    (h : ∀ v' w1, Own w1 el k v' (L ++ [a]).length ((L ++ [a]).flatMap f) → Chg v.ownBlock.toList w w1 → (v'.ownBlock = v.ownBlock ∨ ∃ g, v'.ownBlock = some g ∧ w.heap.size ≤ g) → K v' w1) : OpW P N o e w K := by
  obtain rfl : d.size = k := Nat.eq_of_beq_eq_true hsz
  have hby' := Nat.le_of_ble_eq_true hby
  refine op_append T (n := L.length) (xs := L.flatMap f) (m := 1) (news := f a) hop hts hx hy ht hel hz hpos hown (by rw [hf, Nat.one_mul]) ?_ (by unfold maxLen; omega) ?_ (fun v' w1 ho hc hb _ => h v' w1 ?_ hc hb)
  · intro j u hj
    exact ⟨⟨_, rfl, by rw [add_plain]; exact hg.cell hj⟩, h1 u (List.mem_of_getElem? hj)⟩
  · have : (L.length + 1) * d.bytes ≤ (L.length + 1) * 1000 := Nat.mul_le_mul_left _ hby'
    omega
  · rw [List.length_append, List.flatMap_append]
    simpa using ho
end
end Go.Vc
/-! Histories, in plain words. -/
set_option linter.unusedVariables false
namespace Go.Vc
open Go
abbrev Bs := List UInt8
structure OpM where
  kind : Int
  key : Bs
  val : Bs
  asked : Int
  done : Int
  err : Int
  seq : Int
  aval : Bs
  num : Int
def opL (o : OpM) : List Value := [.int .i64 o.kind, .string (str o.key), .string (str o.val), .int .i64 o.asked, .int .i64 o.done, .int .i64 o.err, .int .i64 o.seq, .string (str o.aval), .int .i64 o.num]
theorem opL_len (o : OpM) : (opL o).length = 9 := rfl
structure ChgM where
  o : OpM
  seq : Int
  told : Bool
def chL (c : ChgM) : List Value := opL c.o ++ [.int .i64 c.seq, .bool c.told]
theorem chL_len (c : ChgM) : (chL c).length = 11 := rfl
def changingM (o : OpM) : Bool := decide (o.kind = 1 ∨ o.kind = 3)
def toldM (o : OpM) : Bool := decide ((o.kind = 1 ∨ o.kind = 3) ∧ o.done ≠ 0 ∧ o.err = 0)
def openM (o : OpM) : Bool := decide ((o.kind = 1 ∨ o.kind = 3) ∧ (o.done = 0 ∨ o.err = 5))
def sightM (o : OpM) : Bool := decide (o.done ≠ 0 ∧ ((o.kind = 2 ∧ (o.err = 0 ∨ o.err = 3)) ∨ (o.kind = 3 ∧ o.err = 3)))
def sawM (o : OpM) : Bool := sightM o && decide (o.err = 0)
def idxM {α : Type} (p : α → Bool) : List α → Int
  | [] => -1
  | x :: l => if p x = true then 0 else if idxM p l < 0 then -1 else idxM p l + 1
def findM (l : List ChgM) (s : Int) : Int := idxM (fun c => decide (c.seq = s)) l
def thereM (l : List ChgM) (key : Bs) (upto : Int) : Bool := l.foldl (fun is c => if c.seq ≤ upto ∧ c.o.key = key then decide (c.o.kind = 1) else is) false
def openedM (ops : List OpM) (kind : Int) (key : Bs) (ahead : Int) : Bool := ops.any fun o => openM o && decide (o.kind = kind ∧ o.key = key ∧ o.asked < ahead)
theorem idxM_lt {α : Type} (p : α → Bool) : ∀ l : List α, -1 ≤ idxM p l ∧ idxM p l < l.length
  | [] => by simp [idxM]
  | x :: l => by
    have := idxM_lt p l
    unfold idxM
    split
    · simp only [List.length_cons]; omega
    · split
      · simp only [List.length_cons]; omega
      · simp only [List.length_cons]; omega
theorem idxM_stop {α : Type} {p : α → Bool} : ∀ {l : List α} {i : Nat} {x : α}, l[i]? = some x → p x = true → (∀ j y, j < i → l[j]? = some y → p y = false) → idxM p l = i
  | [], i, x, h, _, _ => by simp at h
  | a :: l, 0, x, h, hp, _ => by simp at h; subst h; unfold idxM; rw [if_pos hp]; rfl
  | a :: l, i + 1, x, h, hp, hb => by
    have ih := idxM_stop (l := l) (i := i) (by simpa using h) hp (fun j y hj hy => hb (j + 1) y (by omega) (by simpa using hy))
    have h0 := hb 0 a (by omega) rfl
    unfold idxM
    rw [if_neg (by simp [h0]), if_neg (by omega), ih]; omega
theorem idxM_none {α : Type} {p : α → Bool} : ∀ {l : List α}, (∀ x ∈ l, p x = false) → idxM p l = -1
  | [], _ => rfl
  | a :: l, h => by
    have ih := idxM_none (l := l) (fun x hx => h x (by simp [hx]))
    unfold idxM
    rw [if_neg (by simp [h a (by simp)]), ih]; rfl
theorem idxM_neg {α : Type} {p : α → Bool} : ∀ {l : List α}, idxM p l < 0 → ∀ x ∈ l, p x = false
  | [], _, x, hx => by cases hx
  | a :: l, h, x, hx => by
    unfold idxM at h
    split at h
    · omega
    rename_i h1
    split at h
    · rename_i h2
      rcases List.mem_cons.1 hx with rfl | hx
      · simpa using h1
      · exact idxM_neg h2 x hx
    · rename_i h2; omega
theorem idxM_at {α : Type} {p : α → Bool} : ∀ {l : List α}, ¬ idxM p l < 0 → ∃ x, l[(idxM p l).toNat]? = some x ∧ p x = true
  | [], h => by simp [idxM] at h
  | a :: l, h => by
    unfold idxM at h ⊢
    split
    · rename_i h1; exact ⟨a, rfl, h1⟩
    · rename_i h1
      rw [if_neg h1] at h
      split
      · rename_i h2; rw [if_pos h2] at h; omega
      · rename_i h2
        obtain ⟨x, h3, h4⟩ := idxM_at h2
        refine ⟨x, ?_, h4⟩
        rw [show (idxM p l + 1).toNat = (idxM p l).toNat + 1 from by omega]
        simpa using h3
end Go.Vc
/-! History: what ops are; compare. -/
set_option linter.unusedVariables false
namespace Go.Proofs.Ytjkbbkomajjegaa.Try
open Go Go.Vc
section
variable (o : OpM) (w : World)
theorem changing_has : Has Go.Proofs.Try.prog 50 #[.agg (opL o).toArray] w (fun v w' => Chg [] w w' ∧ v = .bool (changingM o)) := by
  refine enter Go.Proofs.Try.func50 rfl rfl (by decide) rfl (e := [(0, .agg (opL o).toArray)]) ⟨rfl, trivial⟩ ?_
  refine run ?_
  refine go T 2 rfl ?_
  refine o1 rfl ?_
  refine op_box rfl rfl (fun g w1 hs hc1 hg => ?_)
  have hg : Blk w1 g 34 (opL o) := hg
  unfold opL at hg
  unfold changingM
  by_cases h1 : o.kind = 1
  · rw [decide_eq_true (.inl h1)]
    refine go T 7 rfl ?_
    refine ldB T hg rfl rfl rfl rfl rfl rfl ?_
    refine eqT rfl rfl rfl rfl (by omega) ?_
    refine go T 10 rfl ?_
    exact post1 (.inl rfl) rfl rfl ⟨hc1, rfl⟩
  by_cases h3 : o.kind = 3
  · rw [decide_eq_true (.inr h3)]
    refine go T 7 rfl ?_
    refine ldB T hg rfl rfl rfl rfl rfl rfl ?_
    refine eqF rfl rfl rfl rfl (by omega) ?_
    refine go T 3 rfl ?_
    refine ldB T hg rfl rfl rfl rfl rfl rfl ?_
    refine eqT rfl rfl rfl rfl (by omega) ?_
    refine go T 5 rfl ?_
    exact post1 (.inl rfl) rfl rfl ⟨hc1, rfl⟩
  rw [decide_eq_false (by omega)]
  refine go T 7 rfl ?_
  refine ldB T hg rfl rfl rfl rfl rfl rfl ?_
  refine eqF rfl rfl rfl rfl (by omega) ?_
  refine go T 3 rfl ?_
  refine ldB T hg rfl rfl rfl rfl rfl rfl ?_
  refine eqF rfl rfl rfl rfl (by omega) ?_
  refine go T 5 rfl ?_
  exact post1 (.inl rfl) rfl rfl ⟨hc1, rfl⟩
theorem told_has : Has Go.Proofs.Try.prog 31 #[.agg (opL o).toArray] w (fun v w' => Chg [] w w' ∧ v = .bool (toldM o)) := by
  refine enter Go.Proofs.Try.func31 rfl rfl (by decide) rfl (e := [(0, .agg (opL o).toArray)]) ⟨rfl, trivial⟩ ?_
  refine run ?_
  refine go T 2 rfl ?_
  refine o1 rfl ?_
  refine op_box rfl rfl (fun g w1 hs hc1 hg => ?_)
  have hg : Blk w1 g 34 (opL o) := hg
  unfold opL at hg
  refine go T 5 rfl ?_
  refine o1 rfl (op_load_agg T rfl rfl rfl rfl hg (by exact Nat.le_of_ble_eq_true rfl) (by exact rfl) ?_)
  refine o1 rfl ?_
  refine op_call rfl rfl rfl (changing_has o w1) ?_
  rintro _ w2 ⟨hc2, rfl⟩
  replace hc1 := hc1.trans' hc2
  replace hg := hg.keep0 hc2
  unfold changingM toldM
  by_cases h1 : o.kind = 1 ∨ o.kind = 3
  · rw [decide_eq_true h1]
    by_cases h2 : o.done = 0
    · rw [decide_eq_false (fun h => h.2.1 h2)]
      refine go T 2 rfl ?_
      refine ldB T hg rfl rfl rfl rfl rfl rfl ?_
      refine neF rfl rfl rfl rfl (by omega) ?_
      refine go T 11 rfl ?_
      exact post1 (.inl rfl) rfl rfl ⟨hc1, rfl⟩
    by_cases h3 : o.err = 0
    · rw [decide_eq_true ⟨h1, h2, h3⟩]
      refine go T 2 rfl ?_
      refine ldB T hg rfl rfl rfl rfl rfl rfl ?_
      refine neT rfl rfl rfl rfl (by omega) ?_
      refine go T 4 rfl ?_
      refine ldB T hg rfl rfl rfl rfl rfl rfl ?_
      refine eqT rfl rfl rfl rfl (by omega) ?_
      refine go T 5 rfl ?_
      exact post1 (.inl rfl) rfl rfl ⟨hc1, rfl⟩
    rw [decide_eq_false (fun h => h3 h.2.2)]
    refine go T 2 rfl ?_
    refine ldB T hg rfl rfl rfl rfl rfl rfl ?_
    refine neT rfl rfl rfl rfl (by omega) ?_
    refine go T 4 rfl ?_
    refine ldB T hg rfl rfl rfl rfl rfl rfl ?_
    refine eqF rfl rfl rfl rfl (by omega) ?_
    refine go T 5 rfl ?_
    exact post1 (.inl rfl) rfl rfl ⟨hc1, rfl⟩
  rw [decide_eq_false h1, decide_eq_false (fun h => h1 h.1)]
  refine go T 15 rfl ?_
  exact post1 (.inl rfl) rfl rfl ⟨hc1, rfl⟩
theorem open_has : Has Go.Proofs.Try.prog 56 #[.agg (opL o).toArray] w (fun v w' => Chg [] w w' ∧ v = .bool (openM o)) := by
  refine enter Go.Proofs.Try.func56 rfl rfl (by decide) rfl (e := [(0, .agg (opL o).toArray)]) ⟨rfl, trivial⟩ ?_
  refine run ?_
  refine go T 2 rfl ?_
  refine o1 rfl ?_
  refine op_box rfl rfl (fun g w1 hs hc1 hg => ?_)
  have hg : Blk w1 g 34 (opL o) := hg
  unfold opL at hg
  refine go T 5 rfl ?_
  refine o1 rfl (op_load_agg T rfl rfl rfl rfl hg (by exact Nat.le_of_ble_eq_true rfl) (by exact rfl) ?_)
  refine o1 rfl ?_
  refine op_call rfl rfl rfl (changing_has o w1) ?_
  rintro _ w2 ⟨hc2, rfl⟩
  replace hc1 := hc1.trans' hc2
  replace hg := hg.keep0 hc2
  unfold changingM openM
  by_cases h1 : o.kind = 1 ∨ o.kind = 3
  · rw [decide_eq_true h1]
    by_cases h2 : o.done = 0
    · rw [decide_eq_true ⟨h1, .inl h2⟩]
      refine go T 2 rfl ?_
      refine ldB T hg rfl rfl rfl rfl rfl rfl ?_
      refine eqT rfl rfl rfl rfl (by omega) ?_
      refine go T 11 rfl ?_
      exact post1 (.inl rfl) rfl rfl ⟨hc1, rfl⟩
    by_cases h3 : o.err = 5
    · rw [decide_eq_true ⟨h1, .inr h3⟩]
      refine go T 2 rfl ?_
      refine ldB T hg rfl rfl rfl rfl rfl rfl ?_
      refine eqF rfl rfl rfl rfl (by omega) ?_
      refine go T 3 rfl ?_
      refine ldB T hg rfl rfl rfl rfl rfl rfl ?_
      refine eqT rfl rfl rfl rfl (by omega) ?_
      refine go T 6 rfl ?_
      exact post1 (.inl rfl) rfl rfl ⟨hc1, rfl⟩
    rw [decide_eq_false (fun h => h.2.elim h2 h3)]
    refine go T 2 rfl ?_
    refine ldB T hg rfl rfl rfl rfl rfl rfl ?_
    refine eqF rfl rfl rfl rfl (by omega) ?_
    refine go T 3 rfl ?_
    refine ldB T hg rfl rfl rfl rfl rfl rfl ?_
    refine eqF rfl rfl rfl rfl (by omega) ?_
    refine go T 6 rfl ?_
    exact post1 (.inl rfl) rfl rfl ⟨hc1, rfl⟩
  rw [decide_eq_false h1, decide_eq_false (fun h => h1 h.1)]
  refine go T 15 rfl ?_
  exact post1 (.inl rfl) rfl rfl ⟨hc1, rfl⟩
theorem sight_has : Has Go.Proofs.Try.prog 36 #[.agg (opL o).toArray] w (fun v w' => Chg [] w w' ∧ v = .bool (sightM o)) := by
  refine enter Go.Proofs.Try.func36 rfl rfl (by decide) rfl (e := [(0, .agg (opL o).toArray)]) ⟨rfl, trivial⟩ ?_
  refine run ?_
  refine go T 2 rfl ?_
  refine o1 rfl ?_
  refine op_box rfl rfl (fun g w1 hs hc1 hg => ?_)
  have hg : Blk w1 g 34 (opL o) := hg
  unfold opL at hg
  unfold sightM
  by_cases h0 : o.done = 0
  · rw [decide_eq_false (fun h => h.1 h0)]
    refine go T 8 rfl ?_
    refine ldB T hg rfl rfl rfl rfl rfl rfl ?_
    refine eqT rfl rfl rfl rfl (by omega) ?_
    refine go T 12 rfl ?_
    exact post1 (.inl rfl) rfl rfl ⟨hc1, rfl⟩
  by_cases h1 : o.kind = 2
  · by_cases h2 : o.err = 0
    · rw [decide_eq_true ⟨h0, .inl ⟨h1, .inl h2⟩⟩]
      refine go T 8 rfl ?_
      refine ldB T hg rfl rfl rfl rfl rfl rfl ?_
      refine eqF rfl rfl rfl rfl (by omega) ?_
      refine go T 8 rfl ?_
      refine ldB T hg rfl rfl rfl rfl rfl rfl ?_
      refine eqT rfl rfl rfl rfl (by omega) ?_
      refine go T 8 rfl ?_
      refine ldB T hg rfl rfl rfl rfl rfl rfl ?_
      refine eqT rfl rfl rfl rfl (by omega) ?_
      refine go T 12 rfl ?_
      exact post1 (.inl rfl) rfl rfl ⟨hc1, rfl⟩
    by_cases h3 : o.err = 3
    · rw [decide_eq_true ⟨h0, .inl ⟨h1, .inr h3⟩⟩]
      refine go T 8 rfl ?_
      refine ldB T hg rfl rfl rfl rfl rfl rfl ?_
      refine eqF rfl rfl rfl rfl (by omega) ?_
      refine go T 8 rfl ?_
      refine ldB T hg rfl rfl rfl rfl rfl rfl ?_
      refine eqT rfl rfl rfl rfl (by omega) ?_
      refine go T 8 rfl ?_
      refine ldB T hg rfl rfl rfl rfl rfl rfl ?_
      refine eqF rfl rfl rfl rfl (by omega) ?_
      refine go T 3 rfl ?_
      refine ldB T hg rfl rfl rfl rfl rfl rfl ?_
      refine eqT rfl rfl rfl rfl (by omega) ?_
      refine go T 7 rfl ?_
      exact post1 (.inl rfl) rfl rfl ⟨hc1, rfl⟩
    rw [decide_eq_false (by omega)]
    refine go T 8 rfl ?_
    refine ldB T hg rfl rfl rfl rfl rfl rfl ?_
    refine eqF rfl rfl rfl rfl (by omega) ?_
    refine go T 8 rfl ?_
    refine ldB T hg rfl rfl rfl rfl rfl rfl ?_
    refine eqT rfl rfl rfl rfl (by omega) ?_
    refine go T 8 rfl ?_
    refine ldB T hg rfl rfl rfl rfl rfl rfl ?_
    refine eqF rfl rfl rfl rfl (by omega) ?_
    refine go T 3 rfl ?_
    refine ldB T hg rfl rfl rfl rfl rfl rfl ?_
    refine eqF rfl rfl rfl rfl (by omega) ?_
    refine go T 7 rfl ?_
    exact post1 (.inl rfl) rfl rfl ⟨hc1, rfl⟩
  by_cases h2 : o.kind = 3
  · by_cases h3 : o.err = 3
    · rw [decide_eq_true ⟨h0, .inr ⟨h2, h3⟩⟩]
      refine go T 8 rfl ?_
      refine ldB T hg rfl rfl rfl rfl rfl rfl ?_
      refine eqF rfl rfl rfl rfl (by omega) ?_
      refine go T 8 rfl ?_
      refine ldB T hg rfl rfl rfl rfl rfl rfl ?_
      refine eqF rfl rfl rfl rfl (by omega) ?_
      refine go T 11 rfl ?_
      refine ldB T hg rfl rfl rfl rfl rfl rfl ?_
      refine eqT rfl rfl rfl rfl (by omega) ?_
      refine go T 3 rfl ?_
      refine ldB T hg rfl rfl rfl rfl rfl rfl ?_
      refine eqT rfl rfl rfl rfl (by omega) ?_
      refine go T 5 rfl ?_
      exact post1 (.inl rfl) rfl rfl ⟨hc1, rfl⟩
    rw [decide_eq_false (by omega)]
    refine go T 8 rfl ?_
    refine ldB T hg rfl rfl rfl rfl rfl rfl ?_
    refine eqF rfl rfl rfl rfl (by omega) ?_
    refine go T 8 rfl ?_
    refine ldB T hg rfl rfl rfl rfl rfl rfl ?_
    refine eqF rfl rfl rfl rfl (by omega) ?_
    refine go T 11 rfl ?_
    refine ldB T hg rfl rfl rfl rfl rfl rfl ?_
    refine eqT rfl rfl rfl rfl (by omega) ?_
    refine go T 3 rfl ?_
    refine ldB T hg rfl rfl rfl rfl rfl rfl ?_
    refine eqF rfl rfl rfl rfl (by omega) ?_
    refine go T 5 rfl ?_
    exact post1 (.inl rfl) rfl rfl ⟨hc1, rfl⟩
  rw [decide_eq_false (by omega)]
  refine go T 8 rfl ?_
  refine ldB T hg rfl rfl rfl rfl rfl rfl ?_
  refine eqF rfl rfl rfl rfl (by omega) ?_
  refine go T 8 rfl ?_
  refine ldB T hg rfl rfl rfl rfl rfl rfl ?_
  refine eqF rfl rfl rfl rfl (by omega) ?_
  refine go T 11 rfl ?_
  refine ldB T hg rfl rfl rfl rfl rfl rfl ?_
  refine eqF rfl rfl rfl rfl (by omega) ?_
  refine go T 10 rfl ?_
  exact post1 (.inl rfl) rfl rfl ⟨hc1, rfl⟩
theorem saw_has : Has Go.Proofs.Try.prog 38 #[.agg (opL o).toArray] w (fun v w' => Chg [] w w' ∧ v = .bool (sawM o)) := by
  refine enter Go.Proofs.Try.func38 rfl rfl (by decide) rfl (e := [(0, .agg (opL o).toArray)]) ⟨rfl, trivial⟩ ?_
  refine run ?_
  refine go T 2 rfl ?_
  refine o1 rfl ?_
  refine op_box rfl rfl (fun g w1 hs hc1 hg => ?_)
  have hg : Blk w1 g 34 (opL o) := hg
  unfold opL at hg
  refine go T 5 rfl ?_
  refine o1 rfl (op_load_agg T rfl rfl rfl rfl hg (by exact Nat.le_of_ble_eq_true rfl) (by exact rfl) ?_)
  refine o1 rfl ?_
  refine op_call rfl rfl rfl (sight_has o w1) ?_
  rintro _ w2 ⟨hc2, rfl⟩
  replace hc1 := hc1.trans' hc2
  replace hg := hg.keep0 hc2
  unfold sawM
  cases hs : sightM o with
  | false =>
    refine go T 10 rfl ?_
    exact post1 (.inl rfl) rfl rfl ⟨hc1, rfl⟩
  | true =>
    by_cases h3 : o.err = 0
    · rw [decide_eq_true h3]
      refine go T 3 rfl ?_
      refine ldB T hg rfl rfl rfl rfl rfl rfl ?_
      refine eqT rfl rfl rfl rfl (by omega) ?_
      refine go T 5 rfl ?_
      exact post1 (.inl rfl) rfl rfl ⟨hc1, rfl⟩
    rw [decide_eq_false h3]
    refine go T 3 rfl ?_
    refine ldB T hg rfl rfl rfl rfl rfl rfl ?_
    refine eqF rfl rfl rfl rfl (by omega) ?_
    refine go T 5 rfl ?_
    exact post1 (.inl rfl) rfl rfl ⟨hc1, rfl⟩
end
theorem nan1_has (a : Int) (w : World) : Has Go.Proofs.Try.prog 47 #[.int .i64 a] w (fun v w' => w' = w ∧ v = .bool false) := by
  refine enter Go.Proofs.Try.func47 rfl rfl (by decide) rfl (e := [(0, .int .i64 a)]) ⟨rfl, trivial⟩ ?_
  refine run ?_
  refine go T 9 rfl ?_
  refine neF rfl rfl rfl rfl (by omega) ?_
  refine go T 4 rfl ?_
  exact post1 (.inl rfl) rfl rfl ⟨rfl, rfl⟩
theorem nan2_has (a : Int) (w : World) : Has Go.Proofs.Try.prog 51 #[.int .i64 a] w (fun v w' => w' = w ∧ v = .bool false) := by
  refine enter Go.Proofs.Try.func51 rfl rfl (by decide) rfl (e := [(0, .int .i64 a)]) ⟨rfl, trivial⟩ ?_
  refine run ?_
  refine go T 9 rfl ?_
  refine neF rfl rfl rfl rfl (by omega) ?_
  refine go T 4 rfl ?_
  exact post1 (.inl rfl) rfl rfl ⟨rfl, rfl⟩
end Go.Proofs.Ytjkbbkomajjegaa.Try
namespace Go.Vc
def cmpM (a b : Int) : Int := if a < b then -1 else if b < a then 1 else 0
end Go.Vc
namespace Go.Proofs.Ytjkbbkomajjegaa.Try
open Go Go.Vc
theorem cmp1_has (a b : Int) (w : World) : Has Go.Proofs.Try.prog 24 #[.int .i64 a, .int .i64 b] w (fun v w' => w' = w ∧ v = .int .i64 (cmpM a b)) := by
  refine enter Go.Proofs.Try.func24 rfl rfl (by decide) rfl (e := [(0, .int .i64 a), (1, .int .i64 b)]) ⟨rfl, rfl, trivial⟩ ?_
  refine run ?_
  refine go T 8 rfl ?_
  refine o1 rfl ?_
  refine op_call rfl rfl rfl (nan1_has a w) ?_
  rintro _ _ ⟨rfl, rfl⟩
  refine go T 6 rfl ?_
  refine o1 rfl ?_
  refine op_call rfl rfl rfl (nan1_has b _) ?_
  rintro _ _ ⟨rfl, rfl⟩
  unfold cmpM
  by_cases h1 : a < b
  · rw [if_pos h1]
    refine go T 26 rfl ?_
    refine ltT rfl rfl rfl rfl (by omega) ?_
    refine go T 10 rfl ?_
    exact post1 (.inl rfl) rfl rfl ⟨rfl, rfl⟩
  by_cases h2 : b < a
  · rw [if_neg h1, if_pos h2]
    refine go T 26 rfl ?_
    refine ltF rfl rfl rfl rfl (by omega) ?_
    refine go T 10 rfl ?_
    refine gtT rfl rfl rfl rfl (by omega) ?_
    refine go T 10 rfl ?_
    exact post1 (.inl rfl) rfl rfl ⟨rfl, rfl⟩
  rw [if_neg h1, if_neg h2]
  refine go T 26 rfl ?_
  refine ltF rfl rfl rfl rfl (by omega) ?_
  refine go T 10 rfl ?_
  refine gtF rfl rfl rfl rfl (by omega) ?_
  refine go T 11 rfl ?_
  exact post1 (.inl rfl) rfl rfl ⟨rfl, rfl⟩
theorem cmp2_has (a b : Int) (w : World) : Has Go.Proofs.Try.prog 33 #[.int .i64 a, .int .i64 b] w (fun v w' => w' = w ∧ v = .int .i64 (cmpM a b)) := by
  refine enter Go.Proofs.Try.func33 rfl rfl (by decide) rfl (e := [(0, .int .i64 a), (1, .int .i64 b)]) ⟨rfl, rfl, trivial⟩ ?_
  refine run ?_
  refine go T 8 rfl ?_
  refine o1 rfl ?_
  refine op_call rfl rfl rfl (nan2_has a w) ?_
  rintro _ _ ⟨rfl, rfl⟩
  refine go T 6 rfl ?_
  refine o1 rfl ?_
  refine op_call rfl rfl rfl (nan2_has b _) ?_
  rintro _ _ ⟨rfl, rfl⟩
  unfold cmpM
  by_cases h1 : a < b
  · rw [if_pos h1]
    refine go T 26 rfl ?_
    refine ltT rfl rfl rfl rfl (by omega) ?_
    refine go T 10 rfl ?_
    exact post1 (.inl rfl) rfl rfl ⟨rfl, rfl⟩
  by_cases h2 : b < a
  · rw [if_neg h1, if_pos h2]
    refine go T 26 rfl ?_
    refine ltF rfl rfl rfl rfl (by omega) ?_
    refine go T 10 rfl ?_
    refine gtT rfl rfl rfl rfl (by omega) ?_
    refine go T 10 rfl ?_
    exact post1 (.inl rfl) rfl rfl ⟨rfl, rfl⟩
  rw [if_neg h1, if_neg h2]
  refine go T 26 rfl ?_
  refine ltF rfl rfl rfl rfl (by omega) ?_
  refine go T 10 rfl ?_
  refine gtF rfl rfl rfl rfl (by omega) ?_
  refine go T 11 rfl ?_
  exact post1 (.inl rfl) rfl rfl ⟨rfl, rfl⟩
/-- How two ops are compared. -/
theorem cmpAsked_has (a b : OpM) (w : World) : Has Go.Proofs.Try.prog 23 #[.agg (opL a).toArray, .agg (opL b).toArray] w (fun v w' => Chg [] w w' ∧ v = .int .i64 (cmpM a.asked b.asked)) := by
  refine enter Go.Proofs.Try.func23 rfl rfl (by decide) rfl (e := [(0, .agg (opL a).toArray), (1, .agg (opL b).toArray)]) ⟨rfl, rfl, trivial⟩ ?_
  refine run ?_
  refine go T 2 rfl ?_
  refine o1 rfl ?_
  refine op_box rfl rfl (fun g w1 hs hc1 hg => ?_)
  have hg : Blk w1 g 34 (opL a) := hg
  unfold opL at hg
  refine o1 rfl ?_
  refine op_box rfl rfl (fun g2 w2 hs2 hc2 hg2 => ?_)
  have hg2 : Blk w2 g2 34 (opL b) := hg2
  unfold opL at hg2
  replace hc1 := hc1.trans' hc2
  replace hg := hg.keep0 hc2
  refine go T 6 rfl ?_
  refine ldB T hg rfl rfl rfl rfl rfl rfl ?_
  refine go T 1 rfl ?_
  refine ldB T hg2 rfl rfl rfl rfl rfl rfl ?_
  refine o1 rfl ?_
  refine op_call rfl rfl rfl (cmp1_has _ _ w2) ?_
  rintro _ _ ⟨rfl, rfl⟩
  refine go T 4 rfl ?_
  exact post1 (.inl rfl) rfl rfl ⟨hc1, rfl⟩
theorem cmpSeq_has (a b : OpM) (w : World) : Has Go.Proofs.Try.prog 32 #[.agg (opL a).toArray, .agg (opL b).toArray] w (fun v w' => Chg [] w w' ∧ v = .int .i64 (cmpM a.seq b.seq)) := by
  refine enter Go.Proofs.Try.func32 rfl rfl (by decide) rfl (e := [(0, .agg (opL a).toArray), (1, .agg (opL b).toArray)]) ⟨rfl, rfl, trivial⟩ ?_
  refine run ?_
  refine go T 2 rfl ?_
  refine o1 rfl ?_
  refine op_box rfl rfl (fun g w1 hs hc1 hg => ?_)
  have hg : Blk w1 g 34 (opL a) := hg
  unfold opL at hg
  refine o1 rfl ?_
  refine op_box rfl rfl (fun g2 w2 hs2 hc2 hg2 => ?_)
  have hg2 : Blk w2 g2 34 (opL b) := hg2
  unfold opL at hg2
  replace hc1 := hc1.trans' hc2
  replace hg := hg.keep0 hc2
  refine go T 7 rfl ?_
  refine ldB T hg rfl rfl rfl rfl rfl rfl ?_
  refine go T 2 rfl ?_
  refine ldB T hg2 rfl rfl rfl rfl rfl rfl ?_
  refine o1 rfl ?_
  refine op_call rfl rfl rfl (cmp2_has _ _ w2) ?_
  rintro _ _ ⟨rfl, rfl⟩
  refine go T 4 rfl ?_
  exact post1 (.inl rfl) rfl rfl ⟨hc1, rfl⟩
theorem sameSeq_has (a b : OpM) (w : World) : Has Go.Proofs.Try.prog 35 #[.agg (opL a).toArray, .agg (opL b).toArray] w (fun v w' => Chg [] w w' ∧ v = .bool (decide (a.seq = b.seq))) := by
  refine enter Go.Proofs.Try.func35 rfl rfl (by decide) rfl (e := [(0, .agg (opL a).toArray), (1, .agg (opL b).toArray)]) ⟨rfl, rfl, trivial⟩ ?_
  refine run ?_
  refine go T 2 rfl ?_
  refine o1 rfl ?_
  refine op_box rfl rfl (fun g w1 hs hc1 hg => ?_)
  have hg : Blk w1 g 34 (opL a) := hg
  unfold opL at hg
  refine o1 rfl ?_
  refine op_box rfl rfl (fun g2 w2 hs2 hc2 hg2 => ?_)
  have hg2 : Blk w2 g2 34 (opL b) := hg2
  unfold opL at hg2
  replace hc1 := hc1.trans' hc2
  replace hg := hg.keep0 hc2
  by_cases h : a.seq = b.seq
  · rw [decide_eq_true h]
    refine go T 7 rfl ?_
    refine ldB T hg rfl rfl rfl rfl rfl rfl ?_
    refine go T 2 rfl ?_
    refine ldB T hg2 rfl rfl rfl rfl rfl rfl ?_
    refine eqT rfl rfl rfl rfl (by omega) ?_
    refine go T 4 rfl ?_
    exact post1 (.inl rfl) rfl rfl ⟨hc1, rfl⟩
  · rw [decide_eq_false h]
    refine go T 7 rfl ?_
    refine ldB T hg rfl rfl rfl rfl rfl rfl ?_
    refine go T 2 rfl ?_
    refine ldB T hg2 rfl rfl rfl rfl rfl rfl ?_
    refine eqF rfl rfl rfl rfl (by omega) ?_
    refine go T 4 rfl ?_
    exact post1 (.inl rfl) rfl rfl ⟨hc1, rfl⟩
theorem cmpChg_has (a b : ChgM) (w : World) : Has Go.Proofs.Try.prog 43 #[.agg (chL a).toArray, .agg (chL b).toArray] w (fun v w' => Chg [] w w' ∧ v = .int .i64 (cmpM a.seq b.seq)) := by
  refine enter Go.Proofs.Try.func43 rfl rfl (by decide) rfl (e := [(0, .agg (chL a).toArray), (1, .agg (chL b).toArray)]) ⟨rfl, rfl, trivial⟩ ?_
  refine run ?_
  refine go T 2 rfl ?_
  refine o1 rfl ?_
  refine op_box rfl rfl (fun g w1 hs hc1 hg => ?_)
  have hg : Blk w1 g 71 (chL a) := hg
  unfold chL opL at hg
  refine o1 rfl ?_
  refine op_box rfl rfl (fun g2 w2 hs2 hc2 hg2 => ?_)
  have hg2 : Blk w2 g2 71 (chL b) := hg2
  unfold chL opL at hg2
  replace hc1 := hc1.trans' hc2
  replace hg := hg.keep0 hc2
  refine go T 6 rfl ?_
  refine ldB T hg rfl rfl rfl rfl rfl rfl ?_
  refine go T 1 rfl ?_
  refine ldB T hg2 rfl rfl rfl rfl rfl rfl ?_
  refine o1 rfl ?_
  refine op_call rfl rfl rfl (cmp2_has _ _ w2) ?_
  rintro _ _ ⟨rfl, rfl⟩
  refine go T 4 rfl ?_
  exact post1 (.inl rfl) rfl rfl ⟨hc1, rfl⟩
end Go.Proofs.Ytjkbbkomajjegaa.Try
/-! History: looking for things; a judge in memory. -/
set_option linter.unusedVariables false
namespace Go.Vc
open Go
def i64V (n : Int) : Value := .int .i64 n
def ptrB (g : Nat) : Value := .pointer (some ⟨g, 0, none⟩)
end Go.Vc
namespace Go.Proofs.Ytjkbbkomajjegaa.Try
open Go Go.Vc
section
variable {w : World}
theorem indexI_has (A : Option Addr) (n c : Nat) (L : List Int) (s : Int) (hs : SliceOf Ri64 w (.slice A n c) L) :
    Has Go.Proofs.Try.prog 27 #[.slice A n c, .int .i64 s] w (fun v w' => w' = w ∧ v = .int .i64 (idxM (fun x => decide (x = s)) L)) := by
  obtain ⟨rfl, hl1, hl2⟩ := hs.len
  unfold maxLen at hl2
  refine enter Go.Proofs.Try.func27 rfl rfl (by decide) rfl (e := [(0, .slice A L.length c), (1, .int .i64 s)]) ⟨rfl, rfl, trivial⟩ ?_
  refine run ?_
  refine go T 14 rfl ?_
  refine W_loop (σ := Nat) (fun i => [(0, .slice A L.length c), (1, .int .i64 s), (7, .int .i64 L.length), (8, .int .i64 i)])
    (fun (i : Nat) w' => i ≤ L.length ∧ (∀ (j : Nat) y, j < i → L[j]? = some y → y ≠ s) ∧ w' = w) (fun i => L.length - i) 0 ⟨rfl, rfl, rfl, rfl, trivial⟩ ⟨by omega, fun j y hj => by omega, rfl⟩ ?_
  rintro i w1 ⟨hi, hb, rfl⟩
  refine run ?_
  refine go T 2 rfl ?_
  refine ltS rfl rfl rfl rfl (fun hcmp => ?_) (fun hcmp => ?_)
  · have hlt : i < L.length := by omega
    have hx := List.getElem?_eq_getElem hlt
    obtain ⟨ad, u, rfl, hu, rfl, _⟩ := hs.get hx
    generalize L[i] = y at *
    by_cases h : s = y
    · have := idxM_stop (p := fun x => decide (x = s)) hx (by simp [h]) (fun j z hj hz => by simpa using hb j z hj hz)
      rw [this]
      refine go T 19 rfl ?_
      refine o1 rfl (op_index_nat T rfl rfl rfl rfl rfl rfl (by omega) ?_)
      refine o1 rfl (op_load T rfl rfl rfl rfl (by assumption) ?_)
      refine eqT rfl rfl rfl rfl (by omega) ?_
      refine go T 12 rfl ?_
      refine rndR ?_
      refine go T 2 rfl ?_
      exact post1 (.inl rfl) rfl rfl ⟨rfl, rfl⟩
    · refine go T 19 rfl ?_
      refine o1 rfl (op_index_nat T rfl rfl rfl rfl rfl rfl (by omega) ?_)
      refine o1 rfl (op_load T rfl rfl rfl rfl (by assumption) ?_)
      refine eqF rfl rfl rfl rfl (by omega) ?_
      refine go T 7 rfl ?_
      refine adI rfl rfl rfl rfl (by omega) (by omega) ?_
      refine go T 2 rfl ?_
      refine Round_n (i + 1) ⟨rfl, rfl, rfl, rfl, trivial⟩ ⟨by omega, fun j z hj hz => ?_, rfl⟩ (by omega)
      by_cases hji : j = i
      · subst hji; rw [hx] at hz; injection hz with hz; subst hz; exact fun e => h e.symm
      · exact hb j z (by omega) hz
  · have := idxM_none (p := fun x => decide (x = s)) (l := L) (fun x hx => by
      obtain ⟨j, hj⟩ := List.getElem?_of_mem hx
      have := (List.getElem?_eq_some_iff.1 hj).1
      simpa using hb j x (by omega) hj)
    rw [this]
    refine go T 6 rfl ?_
    refine rndX ?_
    refine go T 8 rfl ?_
    exact post1 (.inl rfl) rfl rfl ⟨rfl, rfl⟩
theorem containsI_has (A : Option Addr) (n c : Nat) (L : List Int) (s : Int) (hs : SliceOf Ri64 w (.slice A n c) L) :
    Has Go.Proofs.Try.prog 26 #[.slice A n c, .int .i64 s] w (fun v w' => w' = w ∧ v = .bool (decide (0 ≤ idxM (fun x => decide (x = s)) L))) := by
  refine enter Go.Proofs.Try.func26 rfl rfl (by decide) rfl (e := [(0, .slice A n c), (1, .int .i64 s)]) ⟨rfl, rfl, trivial⟩ ?_
  refine run ?_
  refine go T 9 rfl ?_
  refine o1 rfl ?_
  refine op_call rfl rfl rfl (indexI_has A n c L s hs) ?_
  rintro _ _ ⟨rfl, rfl⟩
  by_cases h : 0 ≤ idxM (fun x => decide (x = s)) L
  · rw [decide_eq_true h]
    refine geT rfl rfl rfl rfl (by omega) ?_
    refine go T 4 rfl ?_
    exact post1 (.inl rfl) rfl rfl ⟨rfl, rfl⟩
  · rw [decide_eq_false h]
    refine geF rfl rfl rfl rfl (by omega) ?_
    refine go T 4 rfl ?_
    exact post1 (.inl rfl) rfl rfl ⟨rfl, rfl⟩
set_option maxHeartbeats 1000000 in
theorem indexOp_has (A : Option Addr) (n c : Nat) (L : List OpM) (fn : Nat) (cv : Array Value) (p : OpM → Bool) (hs : SliceK 9 (RdL opL) w (.slice A n c) L)
    (hf : ∀ w1 x, Chg [] w w1 → x ∈ L → Has Go.Proofs.Try.prog fn (#[] ++ #[.agg (opL x).toArray] ++ cv) w1 (fun v w' => Chg [] w1 w' ∧ v = .bool (p x))) :
    Has Go.Proofs.Try.prog 49 #[.slice A n c, .func (.func fn) #[] cv] w (fun v w' => Chg [] w w' ∧ v = .int .i64 (idxM p L)) := by
  obtain ⟨rfl, hl1, hl2⟩ := hs.len
  unfold maxLen at hl2
  refine enter Go.Proofs.Try.func49 rfl rfl (by decide) rfl (e := [(0, .slice A L.length c), (1, .func (.func fn) #[] cv)]) ⟨rfl, rfl, trivial⟩ ?_
  refine run ?_
  refine go T 14 rfl ?_
  refine W_loop (σ := Nat) (fun i => [(0, .slice A L.length c), (1, .func (.func fn) #[] cv), (7, .int .i64 L.length), (8, .int .i64 i)])
    (fun (i : Nat) w' => i ≤ L.length ∧ (∀ (j : Nat) y, j < i → L[j]? = some y → p y = false) ∧ Chg [] w w') (fun i => L.length - i) 0 ⟨rfl, rfl, rfl, rfl, trivial⟩ ⟨by omega, fun j y hj => by omega, Chg.refl _ _⟩ ?_
  rintro i w1 ⟨hi, hb, hc⟩
  refine run ?_
  refine go T 2 rfl ?_
  refine ltS rfl rfl rfl rfl (fun hcmp => ?_) (fun hcmp => ?_)
  · have hlt : i < L.length := by omega
    have hx := List.getElem?_eq_getElem hlt
    have hm : L[i] ∈ L := List.getElem_mem hlt
    obtain ⟨ad, rfl, he⟩ := (hs.keepR hc).at hx
    generalize L[i] = y at *
    refine go T 19 rfl ?_
    refine o1 rfl (op_indexK T rfl rfl rfl rfl rfl (by omega) ?_)
    refine o1 rfl (op_loadE T he rfl rfl rfl rfl rfl ?_)
    refine o1 rfl ?_
    refine op_callf rfl rfl rfl (hf w1 y hc hm) ?_
    rintro _ w2 ⟨hc2, rfl⟩
    cases hp : p y with
    | true =>
      rw [idxM_stop hx hp hb]
      refine go T 12 rfl ?_
      refine rndR ?_
      refine go T 2 rfl ?_
      exact post1 (.inl rfl) rfl rfl ⟨hc.trans' hc2, rfl⟩
    | false =>
      refine go T 7 rfl ?_
      refine adI rfl rfl rfl rfl (by omega) (by omega) ?_
      refine go T 2 rfl ?_
      refine Round_n (i + 1) ⟨rfl, rfl, rfl, rfl, trivial⟩ ⟨by omega, fun j z hj hz => ?_, hc.trans' hc2⟩ (by omega)
      by_cases hji : j = i
      · subst hji; rw [hx] at hz; injection hz with hz; subst hz; exact hp
      · exact hb j z (by omega) hz
  · rw [idxM_none (p := p) (l := L) (fun x hx => by
      obtain ⟨j, hj⟩ := List.getElem?_of_mem hx
      have := (List.getElem?_eq_some_iff.1 hj).1
      exact hb j x (by omega) hj)]
    refine go T 6 rfl ?_
    refine rndX ?_
    refine go T 8 rfl ?_
    exact post1 (.inl rfl) rfl rfl ⟨hc, rfl⟩
set_option maxHeartbeats 1000000 in
theorem indexCh_has (A : Option Addr) (n c : Nat) (L : List ChgM) (fn : Nat) (cv : Array Value) (p : ChgM → Bool) (hs : SliceK 11 (RdL chL) w (.slice A n c) L)
    (hf : ∀ w1 x, Chg [] w w1 → x ∈ L → Has Go.Proofs.Try.prog fn (#[] ++ #[.agg (chL x).toArray] ++ cv) w1 (fun v w' => Chg [] w1 w' ∧ v = .bool (p x))) :
    Has Go.Proofs.Try.prog 52 #[.slice A n c, .func (.func fn) #[] cv] w (fun v w' => Chg [] w w' ∧ v = .int .i64 (idxM p L)) := by
  obtain ⟨rfl, hl1, hl2⟩ := hs.len
  unfold maxLen at hl2
  refine enter Go.Proofs.Try.func52 rfl rfl (by decide) rfl (e := [(0, .slice A L.length c), (1, .func (.func fn) #[] cv)]) ⟨rfl, rfl, trivial⟩ ?_
  refine run ?_
  refine go T 14 rfl ?_
  refine W_loop (σ := Nat) (fun i => [(0, .slice A L.length c), (1, .func (.func fn) #[] cv), (7, .int .i64 L.length), (8, .int .i64 i)])
    (fun (i : Nat) w' => i ≤ L.length ∧ (∀ (j : Nat) y, j < i → L[j]? = some y → p y = false) ∧ Chg [] w w') (fun i => L.length - i) 0 ⟨rfl, rfl, rfl, rfl, trivial⟩ ⟨by omega, fun j y hj => by omega, Chg.refl _ _⟩ ?_
  rintro i w1 ⟨hi, hb, hc⟩
  refine run ?_
  refine go T 2 rfl ?_
  refine ltS rfl rfl rfl rfl (fun hcmp => ?_) (fun hcmp => ?_)
  · have hlt : i < L.length := by omega
    have hx := List.getElem?_eq_getElem hlt
    have hm : L[i] ∈ L := List.getElem_mem hlt
    obtain ⟨ad, rfl, he⟩ := (hs.keepR hc).at hx
    generalize L[i] = y at *
    refine go T 19 rfl ?_
    refine o1 rfl (op_indexK T rfl rfl rfl rfl rfl (by omega) ?_)
    refine o1 rfl (op_loadE T he rfl rfl rfl rfl rfl ?_)
    refine o1 rfl ?_
    refine op_callf rfl rfl rfl (hf w1 y hc hm) ?_
    rintro _ w2 ⟨hc2, rfl⟩
    cases hp : p y with
    | true =>
      rw [idxM_stop hx hp hb]
      refine go T 12 rfl ?_
      refine rndR ?_
      refine go T 2 rfl ?_
      exact post1 (.inl rfl) rfl rfl ⟨hc.trans' hc2, rfl⟩
    | false =>
      refine go T 7 rfl ?_
      refine adI rfl rfl rfl rfl (by omega) (by omega) ?_
      refine go T 2 rfl ?_
      refine Round_n (i + 1) ⟨rfl, rfl, rfl, rfl, trivial⟩ ⟨by omega, fun j z hj hz => ?_, hc.trans' hc2⟩ (by omega)
      by_cases hji : j = i
      · subst hji; rw [hx] at hz; injection hz with hz; subst hz; exact hp
      · exact hb j z (by omega) hz
  · rw [idxM_none (p := p) (l := L) (fun x hx => by
      obtain ⟨j, hj⟩ := List.getElem?_of_mem hx
      have := (List.getElem?_eq_some_iff.1 hj).1
      exact hb j x (by omega) hj)]
    refine go T 6 rfl ?_
    refine rndX ?_
    refine go T 8 rfl ?_
    exact post1 (.inl rfl) rfl rfl ⟨hc, rfl⟩
theorem containsOp_has (A : Option Addr) (n c : Nat) (L : List OpM) (fn : Nat) (cv : Array Value) (p : OpM → Bool) (hs : SliceK 9 (RdL opL) w (.slice A n c) L)
    (hf : ∀ w1 x, Chg [] w w1 → x ∈ L → Has Go.Proofs.Try.prog fn (#[] ++ #[.agg (opL x).toArray] ++ cv) w1 (fun v w' => Chg [] w1 w' ∧ v = .bool (p x))) :
    Has Go.Proofs.Try.prog 58 #[.slice A n c, .func (.func fn) #[] cv] w (fun v w' => Chg [] w w' ∧ v = .bool (L.any p)) := by
  refine enter Go.Proofs.Try.func58 rfl rfl (by decide) rfl (e := [(0, .slice A n c), (1, .func (.func fn) #[] cv)]) ⟨rfl, rfl, trivial⟩ ?_
  refine run ?_
  refine go T 9 rfl ?_
  refine o1 rfl ?_
  refine op_call rfl rfl rfl (indexOp_has A n c L fn cv p hs hf) ?_
  rintro _ w1 ⟨hc, rfl⟩
  by_cases h : idxM p L < 0
  · have : L.any p = false := by rw [List.any_eq_false]; exact fun x hx => by simp [idxM_neg h x hx]
    rw [this]
    refine geF rfl rfl rfl rfl (by omega) ?_
    refine go T 4 rfl ?_
    exact post1 (.inl rfl) rfl rfl ⟨hc, rfl⟩
  · obtain ⟨x, hx, hp⟩ := idxM_at h
    have : L.any p = true := List.any_eq_true.2 ⟨x, List.mem_of_getElem? hx, hp⟩
    rw [this]
    refine geT rfl rfl rfl rfl (by omega) ?_
    refine go T 4 rfl ?_
    exact post1 (.inl rfl) rfl rfl ⟨hc, rfl⟩
end
/-- A judge in memory; all but the ops that came in was made since w0. -/
structure JAt (w0 w : World) (g : Nat) (ops : List OpM) (chs : List ChgM) (sts : List OpM) (pls : List Int) (vo vc vs vp : Value) : Prop where
  chg : Chg [] w0 w
  blk : Blk w g 54 [vo, vc, vs, vp]
  fr : w0.heap.size ≤ g
  ops : SliceK 9 (RdL opL) w0 vo ops
  chs : Own w 71 11 vc chs.length (chs.flatMap chL)
  frc : ∀ h, vc.ownBlock = some h → w0.heap.size ≤ h
  sts : Own w 34 9 vs sts.length (sts.flatMap opL)
  frs : ∀ h, vs.ownBlock = some h → w0.heap.size ≤ h
  pls : Own w 2 1 vp pls.length (pls.map i64V)
  frp : ∀ h, vp.ownBlock = some h → w0.heap.size ≤ h
section
variable {w0 w w' : World} {g : Nat} {ops : List OpM} {chs : List ChgM} {sts : List OpM} {pls : List Int} {vo vc vs vp : Value}
theorem JAt.keep0 (x : JAt w0 w g ops chs sts pls vo vc vs vp) (hc : Chg [] w w') : JAt w0 w' g ops chs sts pls vo vc vs vp :=
  ⟨x.chg.trans' hc, x.blk.keep0 hc, x.fr, x.ops, x.chs.keep0 hc, x.frc, x.sts.keep0 hc, x.frs, x.pls.keep0 hc, x.frp⟩
theorem JAt.chsR (x : JAt w0 w g ops chs sts pls vo vc vs vp) : SliceK 11 (RdL chL) w vc chs := x.chs.readsK chL_len
theorem JAt.stsR (x : JAt w0 w g ops chs sts pls vo vc vs vp) : SliceK 9 (RdL opL) w vs sts := x.sts.readsK opL_len
theorem JAt.opsR (x : JAt w0 w g ops chs sts pls vo vc vs vp) : SliceK 9 (RdL opL) w vo ops := x.ops.keepR x.chg
theorem find1_has (c : ChgM) (gs : Nat) (s : Int) (hg : Blk w gs 2 [.int .i64 s]) : Has Go.Proofs.Try.prog 53 #[.agg (chL c).toArray, ptrB gs] w (fun v w' => Chg [] w w' ∧ v = .bool (decide (c.seq = s))) := by
  refine enter Go.Proofs.Try.func53 rfl rfl (by decide) rfl (e := [(0, .agg (chL c).toArray), (1, ptrB gs)]) ⟨rfl, rfl, trivial⟩ ?_
  unfold ptrB
  refine run ?_
  refine go T 2 rfl ?_
  refine o1 rfl ?_
  refine op_box rfl rfl (fun g1 w1 hs hc1 hg1 => ?_)
  have hg1 : Blk w1 g1 71 (chL c) := hg1
  unfold chL opL at hg1
  replace hg := hg.keep0 hc1
  by_cases h : c.seq = s
  · rw [decide_eq_true h]
    refine go T 6 rfl ?_
    refine ldB T hg1 rfl rfl rfl rfl rfl rfl ?_
    refine ldB T hg rfl rfl rfl rfl rfl rfl ?_
    refine eqT rfl rfl rfl rfl (by omega) ?_
    refine go T 4 rfl ?_
    exact post1 (.inl rfl) rfl rfl ⟨hc1, rfl⟩
  · rw [decide_eq_false h]
    refine go T 6 rfl ?_
    refine ldB T hg1 rfl rfl rfl rfl rfl rfl ?_
    refine ldB T hg rfl rfl rfl rfl rfl rfl ?_
    refine eqF rfl rfl rfl rfl (by omega) ?_
    refine go T 4 rfl ?_
    exact post1 (.inl rfl) rfl rfl ⟨hc1, rfl⟩
theorem find_has (x : JAt w0 w g ops chs sts pls vo vc vs vp) (s : Int) : Has Go.Proofs.Try.prog 37 #[ptrB g, .int .i64 s] w (fun v w' => Chg [] w w' ∧ v = .int .i64 (findM chs s)) := by
  refine enter Go.Proofs.Try.func37 rfl rfl (by decide) rfl (e := [(0, ptrB g), (1, .int .i64 s)]) ⟨rfl, rfl, trivial⟩ ?_
  unfold ptrB
  refine run ?_
  refine go T 2 rfl ?_
  refine o1 rfl ?_
  refine op_box rfl rfl (fun g1 w1 hs hc1 hg1 => ?_)
  have hg1 : Blk w1 g1 2 [.int .i64 s] := hg1
  replace x := x.keep0 hc1
  have hb := x.blk
  have hcs := x.chsR
  obtain ⟨Ac, cc, rfl, _, _⟩ := hcs.form
  refine go T 8 rfl ?_
  refine ldB T hb rfl rfl rfl rfl rfl rfl ?_
  refine o1 rfl ?_
  refine op_makeFunc (fv := #[]) (cv := #[ptrB g1]) rfl rfl rfl ?_
  refine o1 rfl ?_
  refine op_call rfl rfl rfl (indexCh_has Ac _ cc chs _ #[ptrB g1] (fun c => decide (c.seq = s)) hcs (fun w2 c hc2 _ => find1_has c g1 s (hg1.keep0 hc2))) ?_
  rintro _ w3 ⟨hc3, rfl⟩
  replace hc1 := hc1.trans' hc3
  replace hg1 := hg1.keep0 hc3
  replace x := x.keep0 hc3
  replace hb := hb.keep0 hc3
  replace hcs := hcs.keepR hc3
  refine go T 4 rfl ?_
  exact post1 (.inl rfl) rfl rfl ⟨hc1, rfl⟩
theorem opened1_has (o : OpM) (ga gb gc : Nat) (kind : Int) (key : Bs) (ahead : Int) (ha : Blk w ga 3 [.int .i64 kind]) (hb : Blk w gb 9 [.string (str key)]) (hc : Blk w gc 3 [.int .i64 ahead]) :
    Has Go.Proofs.Try.prog 59 #[.agg (opL o).toArray, ptrB ga, ptrB gb, ptrB gc] w (fun v w' => Chg [] w w' ∧ v = .bool (openM o && decide (o.kind = kind ∧ o.key = key ∧ o.asked < ahead))) := by
  refine enter Go.Proofs.Try.func59 rfl rfl (by decide) rfl (e := [(0, .agg (opL o).toArray), (1, ptrB ga), (2, ptrB gb), (3, ptrB gc)]) ⟨rfl, rfl, rfl, rfl, trivial⟩ ?_
  unfold ptrB
  refine run ?_
  refine go T 2 rfl ?_
  refine o1 rfl ?_
  refine op_box rfl rfl (fun g1 w1 hs hc1 hg1 => ?_)
  have hg1 : Blk w1 g1 34 (opL o) := hg1
  unfold opL at hg1
  replace ha := ha.keep0 hc1
  replace hb := hb.keep0 hc1
  replace hc := hc.keep0 hc1
  refine go T 5 rfl ?_
  refine o1 rfl (op_load_agg T rfl rfl rfl rfl hg1 (by exact Nat.le_of_ble_eq_true rfl) (by exact rfl) ?_)
  refine o1 rfl ?_
  refine op_call rfl rfl rfl (open_has o w1) ?_
  rintro _ w2 ⟨hc2, rfl⟩
  replace hc1 := hc1.trans' hc2
  replace hg1 := hg1.keep0 hc2
  replace ha := ha.keep0 hc2
  replace hb := hb.keep0 hc2
  replace hc := hc.keep0 hc2
  cases hopen : openM o with
  | false =>
    refine go T 24 rfl ?_
    exact post1 (.inl rfl) rfl rfl ⟨hc1, rfl⟩
  | true =>
    by_cases h1 : o.kind = kind
    · by_cases h2 : o.key = key
      · by_cases h3 : o.asked < ahead
        · rw [decide_eq_true ⟨h1, h2, h3⟩]
          refine go T 3 rfl ?_
          refine ldB T hg1 rfl rfl rfl rfl rfl rfl ?_
          refine ldB T ha rfl rfl rfl rfl rfl rfl ?_
          refine eqT rfl rfl rfl rfl (by omega) ?_
          refine go T 4 rfl ?_
          refine ldB T hg1 rfl rfl rfl rfl rfl rfl ?_
          refine ldB T hb rfl rfl rfl rfl rfl rfl ?_
          refine o1 rfl ?_
          refine op_str_eql (a := o.key) (b := key) rfl rfl rfl (fun h => ?_) (fun h => absurd h2 h)
          refine go T 3 rfl ?_
          refine ldB T hg1 rfl rfl rfl rfl rfl rfl ?_
          refine ldB T hc rfl rfl rfl rfl rfl rfl ?_
          refine ltT rfl rfl rfl rfl (by omega) ?_
          refine go T 5 rfl ?_
          exact post1 (.inl rfl) rfl rfl ⟨hc1, rfl⟩
        · rw [decide_eq_false (fun h => h3 h.2.2)]
          refine go T 3 rfl ?_
          refine ldB T hg1 rfl rfl rfl rfl rfl rfl ?_
          refine ldB T ha rfl rfl rfl rfl rfl rfl ?_
          refine eqT rfl rfl rfl rfl (by omega) ?_
          refine go T 4 rfl ?_
          refine ldB T hg1 rfl rfl rfl rfl rfl rfl ?_
          refine ldB T hb rfl rfl rfl rfl rfl rfl ?_
          refine o1 rfl ?_
          refine op_str_eql (a := o.key) (b := key) rfl rfl rfl (fun h => ?_) (fun h => absurd h2 h)
          refine go T 3 rfl ?_
          refine ldB T hg1 rfl rfl rfl rfl rfl rfl ?_
          refine ldB T hc rfl rfl rfl rfl rfl rfl ?_
          refine ltF rfl rfl rfl rfl (by omega) ?_
          refine go T 5 rfl ?_
          exact post1 (.inl rfl) rfl rfl ⟨hc1, rfl⟩
      · rw [decide_eq_false (fun h => h2 h.2.1)]
        refine go T 3 rfl ?_
        refine ldB T hg1 rfl rfl rfl rfl rfl rfl ?_
        refine ldB T ha rfl rfl rfl rfl rfl rfl ?_
        refine eqT rfl rfl rfl rfl (by omega) ?_
        refine go T 4 rfl ?_
        refine ldB T hg1 rfl rfl rfl rfl rfl rfl ?_
        refine ldB T hb rfl rfl rfl rfl rfl rfl ?_
        refine o1 rfl ?_
        refine op_str_eql (a := o.key) (b := key) rfl rfl rfl (fun h => absurd h h2) (fun h => ?_)
        refine go T 11 rfl ?_
        exact post1 (.inl rfl) rfl rfl ⟨hc1, rfl⟩
    · rw [decide_eq_false (fun h => h1 h.1)]
      refine go T 3 rfl ?_
      refine ldB T hg1 rfl rfl rfl rfl rfl rfl ?_
      refine ldB T ha rfl rfl rfl rfl rfl rfl ?_
      refine eqF rfl rfl rfl rfl (by omega) ?_
      refine go T 18 rfl ?_
      exact post1 (.inl rfl) rfl rfl ⟨hc1, rfl⟩
theorem opened_has (x : JAt w0 w g ops chs sts pls vo vc vs vp) (kind : Int) (key : Bs) (ahead : Int) : Has Go.Proofs.Try.prog 45 #[ptrB g, .int .i64 kind, .string (str key), .int .i64 ahead] w (fun v w' => Chg [] w w' ∧ v = .bool (openedM ops kind key ahead)) := by
  refine enter Go.Proofs.Try.func45 rfl rfl (by decide) rfl (e := [(0, ptrB g), (1, .int .i64 kind), (2, .string (str key)), (3, .int .i64 ahead)]) ⟨rfl, rfl, rfl, rfl, trivial⟩ ?_
  unfold ptrB
  refine run ?_
  refine go T 2 rfl ?_
  refine o1 rfl ?_
  refine op_box rfl rfl (fun ga w1 hs hc1 hg1 => ?_)
  have hg1 : Blk w1 ga 3 [.int .i64 kind] := hg1
  replace x := x.keep0 hc1
  refine o1 rfl ?_
  refine op_box rfl rfl (fun gb w2 hs hc2 hg2 => ?_)
  have hg2 : Blk w2 gb 9 [.string (str key)] := hg2
  replace hc1 := hc1.trans' hc2
  replace hg1 := hg1.keep0 hc2
  replace x := x.keep0 hc2
  refine o1 rfl ?_
  refine op_box rfl rfl (fun gc w3 hs hc3 hg3 => ?_)
  have hg3 : Blk w3 gc 3 [.int .i64 ahead] := hg3
  replace hc2 := hc2.trans' hc3
  replace hg2 := hg2.keep0 hc3
  replace hc1 := hc1.trans' hc3
  replace hg1 := hg1.keep0 hc3
  replace x := x.keep0 hc3
  have hb := x.blk
  have hos := x.opsR
  obtain ⟨Ac, cc, rfl, _, _⟩ := hos.form
  refine go T 8 rfl ?_
  refine ldB T hb rfl rfl rfl rfl rfl rfl ?_
  refine o1 rfl ?_
  refine op_makeFunc (fv := #[]) (cv := #[ptrB ga, ptrB gb, ptrB gc]) rfl rfl rfl ?_
  refine o1 rfl ?_
  refine op_call rfl rfl rfl (containsOp_has Ac _ cc ops _ #[ptrB ga, ptrB gb, ptrB gc] (fun o => openM o && decide (o.kind = kind ∧ o.key = key ∧ o.asked < ahead)) hos (fun w2 o hc2 _ => opened1_has o ga gb gc kind key ahead (hg1.keep0 hc2) (hg2.keep0 hc2) (hg3.keep0 hc2))) ?_
  rintro _ w4 ⟨hc4, rfl⟩
  replace hc3 := hc3.trans' hc4
  replace hg3 := hg3.keep0 hc4
  replace hc2 := hc2.trans' hc4
  replace hg2 := hg2.keep0 hc4
  replace hc1 := hc1.trans' hc4
  replace hg1 := hg1.keep0 hc4
  replace x := x.keep0 hc4
  replace hb := hb.keep0 hc4
  replace hos := hos.keepR hc4
  refine go T 4 rfl ?_
  exact post1 (.inl rfl) rfl rfl ⟨hc1, rfl⟩
set_option maxHeartbeats 1000000 in
theorem there_has (x : JAt w0 w g ops chs sts pls vo vc vs vp) (key : Bs) (upto : Int) : Has Go.Proofs.Try.prog 44 #[ptrB g, .string (str key), .int .i64 upto] w (fun v w' => Chg [] w w' ∧ v = .bool (thereM chs key upto)) := by
  refine enter Go.Proofs.Try.func44 rfl rfl (by decide) rfl (e := [(0, ptrB g), (1, .string (str key)), (2, .int .i64 upto)]) ⟨rfl, rfl, rfl, trivial⟩ ?_
  unfold ptrB
  have hb := x.blk
  have hcs := x.chsR
  obtain ⟨Ac, cc, rfl, hl1, hl2⟩ := hcs.form
  unfold maxLen at hl2
  refine run ?_
  refine go T 16 rfl ?_
  refine ldB T hb rfl rfl rfl rfl rfl rfl ?_
  refine go T 5 rfl ?_
  refine W_loop (σ := Nat) (fun i => [(1, .string (str key)), (2, .int .i64 upto), (7, .bool (thereM (chs.take i) key upto)), (13, .slice Ac chs.length cc), (14, .int .i64 chs.length), (15, .int .i64 i)])
    (fun (i : Nat) w' => i ≤ chs.length ∧ Chg [] w w') (fun i => chs.length - i) 0 ⟨rfl, rfl, rfl, rfl, rfl, rfl, trivial⟩ ⟨by omega, Chg.refl _ _⟩ ?_
  rintro i w1 ⟨hi, hc⟩
  refine run ?_
  refine go T 2 rfl ?_
  refine ltS rfl rfl rfl rfl (fun hcmp => ?_) (fun hcmp => ?_)
  · have hlt : i < chs.length := by omega
    have hx := List.getElem?_eq_getElem hlt
    obtain ⟨ad, rfl, he⟩ := (hcs.keepR hc).at hx
    have hnext : thereM (chs.take (i + 1)) key upto = if chs[i].seq ≤ upto ∧ chs[i].o.key = key then decide (chs[i].o.kind = 1) else thereM (chs.take i) key upto := by
      unfold thereM
      rw [List.take_add_one, hx]
      exact List.foldl_append
    generalize chs[i] = y at *
    refine go T 10 rfl ?_
    refine o1 rfl (op_indexK T rfl rfl rfl rfl rfl (by omega) ?_)
    refine o1 rfl (op_loadE T he rfl rfl rfl rfl rfl ?_)
    refine o1 rfl ?_
    refine op_alloc T rfl rfl (fun g9 w2 hs2 hc2 hg9 => ?_)
    have hs2 : w1.heap.size ≤ g9 := hs2
    have hg9 : Blk w2 g9 71 [.int .i64 0, .string (str []), .string (str []), .int .i64 0, .int .i64 0, .int .i64 0, .int .i64 0, .string (str []), .int .i64 0, .int .i64 0, .bool false] := hg9
    refine op0 rfl rfl ?_
    refine op_store_agg T rfl rfl rfl rfl rfl rfl hg9 (by exact Nat.le_of_ble_eq_true rfl) (fun w3 hc3 hg93 _ => ?_)
    have hg93 : Blk w3 g9 71 (chL y) := hg93
    have hc13 : Chg [] w1 w3 := hc2.trans hc3 (fun k hk hlt => by simp at hk; omega)
    clear hg9
    unfold chL opL at hg93
    have hcw := hc.trans' hc13
    by_cases h1 : y.seq ≤ upto
    · by_cases h2 : y.o.key = key
      · rw [if_pos ⟨h1, h2⟩] at hnext
        refine go T 5 rfl ?_
        refine ldB T hg93 rfl rfl rfl rfl rfl rfl ?_
        refine go T 1 rfl ?_
        refine leT rfl rfl rfl rfl (by omega) ?_
        refine go T 4 rfl ?_
        refine ldB T hg93 rfl rfl rfl rfl rfl rfl ?_
        refine go T 1 rfl ?_
        refine o1 rfl ?_
        refine op_str_eql (a := y.o.key) (b := key) rfl rfl rfl (fun h => ?_) (fun h => absurd h2 h)
        by_cases h3 : y.o.kind = 1
        · rw [decide_eq_true h3] at hnext
          refine go T 8 rfl ?_
          refine ldB T hg93 rfl rfl rfl rfl rfl rfl ?_
          refine eqT rfl rfl rfl rfl (by omega) ?_
          refine go T 5 rfl ?_
          refine adI rfl rfl rfl rfl (by omega) (by omega) ?_
          refine go T 2 rfl ?_
          exact Round_n (i + 1) ⟨rfl, rfl, congrArg (fun b => some (Value.bool b)) hnext.symm, rfl, rfl, rfl, trivial⟩ ⟨by omega, hcw⟩ (by omega)
        · rw [decide_eq_false h3] at hnext
          refine go T 8 rfl ?_
          refine ldB T hg93 rfl rfl rfl rfl rfl rfl ?_
          refine eqF rfl rfl rfl rfl (by omega) ?_
          refine go T 5 rfl ?_
          refine adI rfl rfl rfl rfl (by omega) (by omega) ?_
          refine go T 2 rfl ?_
          exact Round_n (i + 1) ⟨rfl, rfl, congrArg (fun b => some (Value.bool b)) hnext.symm, rfl, rfl, rfl, trivial⟩ ⟨by omega, hcw⟩ (by omega)
      · rw [if_neg (fun h => h2 h.2)] at hnext
        refine go T 5 rfl ?_
        refine ldB T hg93 rfl rfl rfl rfl rfl rfl ?_
        refine go T 1 rfl ?_
        refine leT rfl rfl rfl rfl (by omega) ?_
        refine go T 4 rfl ?_
        refine ldB T hg93 rfl rfl rfl rfl rfl rfl ?_
        refine go T 1 rfl ?_
        refine o1 rfl ?_
        refine op_str_eql (a := y.o.key) (b := key) rfl rfl rfl (fun h => absurd h h2) (fun h => ?_)
        refine go T 8 rfl ?_
        refine adI rfl rfl rfl rfl (by omega) (by omega) ?_
        refine go T 2 rfl ?_
        exact Round_n (i + 1) ⟨rfl, rfl, congrArg (fun b => some (Value.bool b)) hnext.symm, rfl, rfl, rfl, trivial⟩ ⟨by omega, hcw⟩ (by omega)
    · rw [if_neg (fun h => h1 h.1)] at hnext
      refine go T 5 rfl ?_
      refine ldB T hg93 rfl rfl rfl rfl rfl rfl ?_
      refine go T 1 rfl ?_
      refine leF rfl rfl rfl rfl (by omega) ?_
      refine go T 15 rfl ?_
      refine adI rfl rfl rfl rfl (by omega) (by omega) ?_
      refine go T 2 rfl ?_
      exact Round_n (i + 1) ⟨rfl, rfl, congrArg (fun b => some (Value.bool b)) hnext.symm, rfl, rfl, rfl, trivial⟩ ⟨by omega, hcw⟩ (by omega)
  · obtain rfl : i = chs.length := by omega
    rw [List.take_length]
    refine go T 6 rfl ?_
    refine rndX ?_
    refine go T 9 rfl ?_
    exact post1 (.inl rfl) rfl rfl ⟨hc, rfl⟩
end
end Go.Proofs.Ytjkbbkomajjegaa.Try
/-! History: gather. -/
set_option linter.unusedVariables false
namespace Go.Vc
open Go
def gatherM : List OpM → List ChgM → List OpM → Bool × List ChgM × List OpM
  | [], chs, sts => (true, chs, sts)
  | o :: l, chs, sts =>
    if toldM o = false then gatherM l chs (if sightM o = true then sts ++ [o] else sts)
    else if o.seq < 1 ∨ 0 ≤ findM chs o.seq then (false, chs, if sightM o = true then sts ++ [o] else sts)
    else gatherM l (chs ++ [⟨o, o.seq, true⟩]) (if sightM o = true then sts ++ [o] else sts)
theorem opL_one (o : OpM) : ∀ u ∈ opL o, u.oneCell' = true := by
  intro u hu
  simp only [opL, List.mem_cons, List.not_mem_nil, or_false] at hu
  rcases hu with rfl | rfl | rfl | rfl | rfl | rfl | rfl | rfl | rfl <;> rfl
theorem chL_one (c : ChgM) : ∀ u ∈ chL c, u.oneCell' = true := by
  intro u hu
  rcases List.mem_append.1 hu with hu | hu
  · exact opL_one _ u hu
  · simp at hu; rcases hu with rfl | rfl <;> rfl
end Go.Vc
namespace Go.Proofs.Ytjkbbkomajjegaa.Try
open Go Go.Vc
section
variable {w0 w w1 w2 : World} {g : Nat} {ops : List OpM} {chs chs' : List ChgM} {sts sts' : List OpM} {pls pls' : List Int} {vo vc vs vp v' : Value}
theorem fresh_of {v v' : Value} (hf : ∀ h, v.ownBlock = some h → w0.heap.size ≤ h) (hw : w0.heap.size ≤ w.heap.size) (hb : v'.ownBlock = v.ownBlock ∨ ∃ h, v'.ownBlock = some h ∧ w.heap.size ≤ h) : ∀ h, v'.ownBlock = some h → w0.heap.size ≤ h := fun h hh => by
  rcases hb with hb | ⟨h', hb, hge⟩
  · exact hf h (by rw [← hb]; exact hh)
  · rw [hb] at hh; injection hh with hh; omega
theorem out_of {t t' : TypeId} {cs : List Value} {s n : Nat} {v : Value} {xs : List Value} (hb : Blk w g t cs) (ho : Own w t' s v n xs) (hne : t ≠ t') : g ∉ v.ownBlock.toList := fun hm => by
  obtain ⟨cur, hr⟩ := ho.row (show v.ownBlock = some g by simpa using hm)
  exact hb.ne_ hr hne rfl
theorem out_own {t t' : TypeId} {s s' n n' : Nat} {v u : Value} {xs ys : List Value} (h1 : Own w t s v n xs) (h2 : Own w t' s' u n' ys) (hne : t ≠ t') : ∀ k, v.ownBlock = some k → k ∉ u.ownBlock.toList := fun k hk hm => by
  obtain ⟨cur, hr⟩ := h1.row hk
  exact out_of hr h2 hne hm
theorem JAt.setSts (x : JAt w0 w g ops chs sts pls vo vc vs vp) (hc1 : Chg vs.ownBlock.toList w w1) (ho : Own w1 34 9 v' sts'.length (sts'.flatMap opL)) (hb : v'.ownBlock = vs.ownBlock ∨ ∃ h, v'.ownBlock = some h ∧ w.heap.size ≤ h) (hc2 : Chg [g] w1 w2) (hblk : Blk w2 g 54 [vo, vc, v', vp]) :
    JAt w0 w2 g ops chs sts' pls vo vc v' vp := by
  have hj1 := x.blk.keep hc1 (out_of x.blk x.sts (by decide))
  have hn : ∀ k, v'.ownBlock = some k → k ∉ [g] := fun k hk hm => by
    simp at hm; subst hm
    exact out_of hj1 ho (by decide) (by simpa using hk)
  have hch1 := x.chs.keep hc1 (out_own x.chs x.sts (by decide))
  have hpl1 := x.pls.keep hc1 (out_own x.pls x.sts (by decide))
  have hs := x.chg.size
  refine ⟨(x.chg.trans hc1 (fun k hk hlt => by have := x.frs k (by simpa using hk); omega)).trans hc2 (fun k hk hlt => by simp at hk; have := x.fr; omega), hblk, x.fr, x.ops, hch1.keep hc2 (fun k hk hm => ?_), x.frc, ho.keep hc2 hn, fresh_of x.frs hs hb, hpl1.keep hc2 (fun k hk hm => ?_), x.frp⟩
  · simp at hm; subst hm
    exact out_of hj1 hch1 (by decide) (by simpa using hk)
  · simp at hm; subst hm
    exact out_of hj1 hpl1 (by decide) (by simpa using hk)
theorem JAt.setChs (x : JAt w0 w g ops chs sts pls vo vc vs vp) (hc1 : Chg vc.ownBlock.toList w w1) (ho : Own w1 71 11 v' chs'.length (chs'.flatMap chL)) (hb : v'.ownBlock = vc.ownBlock ∨ ∃ h, v'.ownBlock = some h ∧ w.heap.size ≤ h) (hc2 : Chg [g] w1 w2) (hblk : Blk w2 g 54 [vo, v', vs, vp]) :
    JAt w0 w2 g ops chs' sts pls vo v' vs vp := by
  have hj1 := x.blk.keep hc1 (out_of x.blk x.chs (by decide))
  have hn : ∀ k, v'.ownBlock = some k → k ∉ [g] := fun k hk hm => by
    simp at hm; subst hm
    exact out_of hj1 ho (by decide) (by simpa using hk)
  have hch1 := x.sts.keep hc1 (out_own x.sts x.chs (by decide))
  have hpl1 := x.pls.keep hc1 (out_own x.pls x.chs (by decide))
  have hs := x.chg.size
  refine ⟨(x.chg.trans hc1 (fun k hk hlt => by have := x.frc k (by simpa using hk); omega)).trans hc2 (fun k hk hlt => by simp at hk; have := x.fr; omega), hblk, x.fr, x.ops, ho.keep hc2 hn, fresh_of x.frc hs hb, hch1.keep hc2 (fun k hk hm => ?_), x.frs, hpl1.keep hc2 (fun k hk hm => ?_), x.frp⟩
  · simp at hm; subst hm
    exact out_of hj1 hch1 (by decide) (by simpa using hk)
  · simp at hm; subst hm
    exact out_of hj1 hpl1 (by decide) (by simpa using hk)
theorem JAt.setPls (x : JAt w0 w g ops chs sts pls vo vc vs vp) (hc1 : Chg vp.ownBlock.toList w w1) (ho : Own w1 2 1 v' pls'.length (pls'.map i64V)) (hb : v'.ownBlock = vp.ownBlock ∨ ∃ h, v'.ownBlock = some h ∧ w.heap.size ≤ h) (hc2 : Chg [g] w1 w2) (hblk : Blk w2 g 54 [vo, vc, vs, v']) :
    JAt w0 w2 g ops chs sts pls' vo vc vs v' := by
  have hj1 := x.blk.keep hc1 (out_of x.blk x.pls (by decide))
  have hn : ∀ k, v'.ownBlock = some k → k ∉ [g] := fun k hk hm => by
    simp at hm; subst hm
    exact out_of hj1 ho (by decide) (by simpa using hk)
  have hch1 := x.chs.keep hc1 (out_own x.chs x.pls (by decide))
  have hpl1 := x.sts.keep hc1 (out_own x.sts x.pls (by decide))
  have hs := x.chg.size
  refine ⟨(x.chg.trans hc1 (fun k hk hlt => by have := x.frp k (by simpa using hk); omega)).trans hc2 (fun k hk hlt => by simp at hk; have := x.fr; omega), hblk, x.fr, x.ops, hch1.keep hc2 (fun k hk hm => ?_), x.frc, hpl1.keep hc2 (fun k hk hm => ?_), x.frs, ho.keep hc2 hn, fresh_of x.frp hs hb⟩
  · simp at hm; subst hm
    exact out_of hj1 hch1 (by decide) (by simpa using hk)
  · simp at hm; subst hm
    exact out_of hj1 hpl1 (by decide) (by simpa using hk)
end
section
variable {w0 w : World} {g : Nat} {ops : List OpM} {vo : Value}
set_option maxHeartbeats 4000000 in
theorem gather_has (x : JAt w0 w g ops [] [] [] vo (.slice none 0 0) (.slice none 0 0) (.slice none 0 0)) (hlim : ops.length ≤ 1000) :
    Has Go.Proofs.Try.prog 19 #[ptrB g] w (fun v w' => v = .bool (gatherM ops [] []).1 ∧ ∃ vc vs, JAt w0 w' g ops (gatherM ops [] []).2.1 (gatherM ops [] []).2.2 [] vo vc vs (.slice none 0 0)) := by
  refine enter Go.Proofs.Try.func19 rfl rfl (by decide) rfl (e := [(0, ptrB g)]) ⟨rfl, trivial⟩ ?_
  unfold ptrB
  have hb := x.blk
  have hos := x.ops
  obtain ⟨Ao, co, rfl, hl1, hl2⟩ := hos.form
  unfold maxLen at hl2
  refine run ?_
  refine go T 11 rfl ?_
  refine ldB T hb rfl rfl rfl rfl rfl rfl ?_
  refine go T 5 rfl ?_
  clear hb
  refine W_loop (σ := Nat × List ChgM × List OpM × Value × Value) (fun s => [(0, .pointer (some ⟨g, 0, none⟩)), (8, .slice Ao ops.length co), (9, .int .i64 ops.length), (10, .int .i64 s.1)])
    (fun s w' => s.1 ≤ ops.length ∧ s.2.1.length ≤ s.1 ∧ s.2.2.1.length ≤ s.1 ∧ gatherM ops [] [] = gatherM (ops.drop s.1) s.2.1 s.2.2.1 ∧ JAt w0 w' g ops s.2.1 s.2.2.1 [] (.slice Ao ops.length co) s.2.2.2.1 s.2.2.2.2 (.slice none 0 0))
    (fun s => ops.length - s.1) (0, [], [], .slice none 0 0, .slice none 0 0) ⟨rfl, rfl, rfl, rfl, trivial⟩ ⟨Nat.zero_le _, Nat.zero_le _, Nat.zero_le _, rfl, x⟩ ?_
  clear x
  rintro ⟨i, chs, sts, vc, vs⟩ w1 ⟨h1, h2, h3, h4, x⟩
  dsimp only at h1 h2 h3 h4 x ⊢
  refine run ?_
  refine go T 2 rfl ?_
  refine ltS rfl rfl rfl rfl (fun hcmp => ?_) (fun hcmp => ?_)
  · have hlt : i < ops.length := by omega
    have hx := List.getElem?_eq_getElem hlt
    obtain ⟨ad, rfl, he⟩ := x.opsR.at hx
    rw [List.drop_eq_getElem_cons hlt] at h4
    generalize ops[i] = y at *
    refine go T 10 rfl ?_
    refine o1 rfl (op_indexK T rfl rfl rfl rfl rfl (by omega) ?_)
    refine o1 rfl (op_loadE T he rfl rfl rfl rfl rfl ?_)
    refine o1 rfl ?_
    refine op_alloc T rfl rfl (fun g4 w2 hs2 hc2 hg4 => ?_)
    have hs2 : w1.heap.size ≤ g4 := hs2
    have hg4 : Blk w2 g4 34 [.int .i64 0, .string (str []), .string (str []), .int .i64 0, .int .i64 0, .int .i64 0, .int .i64 0, .string (str []), .int .i64 0] := hg4
    refine op0 rfl rfl ?_
    refine op_store_agg T rfl rfl rfl rfl rfl rfl hg4 (by exact Nat.le_of_ble_eq_true rfl) (fun w3 hc3 hg43 _ => ?_)
    have hg43 : Blk w3 g4 34 (opL y) := hg43
    have hc13 : Chg [] w1 w3 := hc2.trans hc3 (fun k hk hlt => by simp at hk; omega)
    clear hg4
    unfold opL at hg43
    have hgs : g4 ∉ vs.ownBlock.toList := fun hm => by have := x.sts.lt (show vs.ownBlock = some g4 by simpa using hm); omega
    have hgc : g4 ∉ vc.ownBlock.toList := fun hm => by have := x.chs.lt (show vc.ownBlock = some g4 by simpa using hm); omega
    have hgj : g4 ∉ [g] := by have := x.blk.lt; simp; omega
    replace x := x.keep0 hc13
    refine go T 5 rfl ?_
    refine o1 rfl (op_load_agg T rfl rfl rfl rfl hg43 (by exact Nat.le_of_ble_eq_true rfl) (by exact rfl) ?_)
    refine o1 rfl ?_
    refine op_call rfl rfl rfl (sight_has y w3) ?_
    rintro _ w4 ⟨hc4, rfl⟩
    replace hc3 := hc3.trans' hc4
    replace hg43 := hg43.keep0 hc4
    replace hc13 := hc13.trans' hc4
    replace x := x.keep0 hc4
    have hjb := x.blk
    have hjs : g ∉ vs.ownBlock.toList := out_of x.blk x.sts (by decide)
    refine go T 2 rfl ?_
    refine W_meet (σ := Value) (fun _ => [(0, .pointer (some ⟨g, 0, none⟩)), (4, .pointer (some ⟨g4, 0, none⟩)), (8, .slice (some ad) ops.length co), (9, .int .i64 ops.length), (10, .int .i64 i)])
      (fun u w' => JAt w0 w' g ops chs (if sightM y = true then sts ++ [y] else sts) [] (.slice (some ad) ops.length co) vc u (.slice none 0 0) ∧ Blk w' g4 34 [.int .i64 y.kind, .string (str y.key), .string (str y.val), .int .i64 y.asked, .int .i64 y.done, .int .i64 y.err, .int .i64 y.seq, .string (str y.aval), .int .i64 y.num]) ?_ ?_
    · cases hsi : sightM y with
      | false =>
        refine run ?_
        refine go T 2 rfl ?_
        exact Meet_n vs ⟨rfl, rfl, rfl, rfl, rfl, trivial⟩ ⟨x, hg43⟩
      | true =>
        refine run ?_
        refine go T 1 rfl ?_
        refine Q.W_walkq 8 7 vs.ownBlock.toList fol (by kernel_rfl) (by kernel_rfl) ?_
        refine Q.Walk.plain rfl rfl (by intro val w_ hR hp; exact op_move rfl rfl ⟨Chg.refl _ _, rfl⟩) ?_; dsimp only [List.nil_append, List.cons_append]
        refine Q.Walk.plain rfl rfl (by intro val w_ hR hp; exact op_move rfl rfl ⟨Chg.refl _ _, rfl⟩) ?_; dsimp only [List.nil_append, List.cons_append]
        refine Q.Walk.plain rfl rfl (by intro val w_ hR hp; exact op_nilCheck rfl rfl ⟨Chg.refl _ _, rfl⟩) ?_; dsimp only [List.nil_append, List.cons_append]
        refine Q.Walk.plain rfl rfl (by intro val w_ hR hp; exact op_fieldAddr T rfl rfl rfl rfl rfl rfl rfl rfl ⟨Chg.refl _ _, rfl⟩) ?_; dsimp only [List.nil_append, List.cons_append]
        refine Q.Walk.plain rfl rfl (by intro val w_ hR hp; exact op_loadB T rfl rfl rfl rfl (hjb.keep hR (by assumption)) (by exact rfl) ⟨Chg.refl _ _, rfl⟩) ?_; dsimp only [List.nil_append, List.cons_append]
        refine Q.Walk.plain rfl rfl (by intro val w_ hR hp; exact op_load_agg T rfl rfl rfl rfl (hg43.keep hR (by assumption)) (by exact Nat.le_of_ble_eq_true rfl) (by exact rfl) ⟨Chg.refl _ _, rfl⟩) ?_; dsimp only [List.nil_append, List.cons_append]
        refine Q.Walk.rel rfl (fun v w' => ∃ g5, v = .slice (some ⟨g5, 0, none⟩) 1 1 ∧ Blk w' g5 34 (opL y) ∧ w4.heap.size ≤ g5) rfl (fun v a b ⟨g5, h1, h2, h3⟩ hab => ⟨g5, h1, h2.keep hab (fun hm => by have := x.sts.lt (show vs.ownBlock = some g5 by simpa using hm); omega), h3⟩) ?_ ?_
        · intro val w_ hR hp
          exact op_buildSlice T rfl rfl rfl rfl rfl rfl rfl (fun g5 w5 hs5 hc5 hg5 => ⟨hc5, g5, rfl, hg5, by have := hR.size; omega⟩)
        dsimp only [List.nil_append, List.cons_append]
        refine Q.Walk.turn rfl (fun v w' => Own w' 34 9 v (sts ++ [y]).length ((sts ++ [y]).flatMap opL) ∧ (v.ownBlock = vs.ownBlock ∨ ∃ h, v.ownBlock = some h ∧ w4.heap.size ≤ h)) rfl (fun v a b h hab => ⟨h.1.keep0 hab, h.2⟩) ?_ ?_
        · intro val w_ hR hp
          obtain ⟨g5, he5, hg5, hs5⟩ : ∃ g5, val 6 = .slice (some ⟨g5, 0, none⟩) 1 1 ∧ Blk w_ g5 34 (opL y) ∧ w4.heap.size ≤ g5 := hp 6 rfl _ _ rfl rfl
          exact op_appendK T opL_len rfl rfl rfl (congrArg some he5) rfl rfl rfl rfl rfl rfl (x.sts.keep0 hR) hg5 (opL_one y) (by omega) (fun v w6 hu6 hc6 hb6 => ⟨hc6, hu6, hb6.imp id (fun ⟨h, h1, h2⟩ => ⟨h, h1, by have := hR.size; omega⟩)⟩)
        dsimp only [List.nil_append, List.cons_append]
        refine Q.Walk.fin ?_
        intro val w6 hc6 hp
        obtain ⟨ho6, hb6⟩ : Own w6 34 9 (val 7) (sts ++ [y]).length ((sts ++ [y]).flatMap opL) ∧ ((val 7).ownBlock = vs.ownBlock ∨ ∃ h, (val 7).ownBlock = some h ∧ w4.heap.size ≤ h) := hp 7 (by omega) _ _ rfl rfl
        clear hp
        refine WL_sub (e' := [(0, .pointer (some ⟨g, 0, none⟩)), (4, .pointer (some ⟨g4, 0, none⟩)), (8, .slice (some ad) ops.length co), (9, .int .i64 ops.length), (10, .int .i64 i), (16, .pointer (some ⟨g, 0, none⟩)), (23, val 7)]) ⟨rfl, rfl, rfl, rfl, rfl, rfl, rfl, trivial⟩ ?_
        generalize val 7 = u6 at ho6 hb6
        obtain ⟨A6, c6, rfl, _, _⟩ := ho6.form
        have hj6 := hjb.keep hc6 hjs
        have hg46 := hg43.keep hc6 hgs
        refine runL ?_
        refine go T 2 rfl ?_
        refine op0 rfl rfl ?_
        refine op_store T rfl rfl rfl rfl rfl rfl hj6 (by simp) (fun w7 hc7 hj7 _ => ?_)
        have hj7 : Blk w7 g 54 [.slice (some ad) ops.length co, vc, .slice A6 (sts ++ [y]).length c6, .slice none 0 0] := hj7
        refine go T 1 rfl ?_
        exact Meet_n _ ⟨rfl, rfl, rfl, rfl, rfl, trivial⟩ ⟨x.setSts hc6 ho6 hb6 hc7 hj7, hg46.keep hc7 hgj⟩
    clear x hjb hjs hgs hg43 hc4 hc3 hc13
    rintro u w5 ⟨x, hg45⟩
    rw [gatherM] at h4
    generalize hsts' : (if sightM y = true then sts ++ [y] else sts) = sts' at *
    have h3' : sts'.length ≤ i + 1 := by
      rw [← hsts']; split
      · rw [List.length_append, List.length_singleton]; omega
      · omega
    clear hsts' h3
    refine runX ?_
    refine go T 4 rfl ?_
    refine o1 rfl (op_load_agg T rfl rfl rfl rfl hg45 (by exact Nat.le_of_ble_eq_true rfl) (by exact rfl) ?_)
    refine o1 rfl ?_
    refine op_call rfl rfl rfl (told_has y w5) ?_
    rintro _ w6 ⟨hc6, rfl⟩
    replace hg45 := hg45.keep0 hc6
    replace x := x.keep0 hc6
    cases ht : toldM y with
    | false =>
      rw [if_pos ht] at h4
      refine go T 9 rfl ?_
      refine adI rfl rfl rfl rfl (by omega) (by omega) ?_
      refine go T 2 rfl ?_
      exact Round_n (i + 1, chs, sts', vc, u) ⟨rfl, rfl, rfl, rfl, trivial⟩ ⟨by dsimp only; omega, by dsimp only; omega, h3', h4, x⟩ (by dsimp only; omega)
    | true =>
    rw [if_neg (by simp [ht])] at h4
    have hout : y.seq < 1 ∨ 0 ≤ findM chs y.seq → gatherM ops [] [] = (false, chs, sts') := fun h => by rw [h4, if_pos h]
    by_cases hsq : y.seq < 1
    · rw [hout (.inl hsq)]
      refine go T 11 rfl ?_
      refine ldB T hg45 rfl rfl rfl rfl rfl rfl ?_
      refine ltT rfl rfl rfl rfl (by omega) ?_
      refine go T 20 rfl ?_
      refine rndR ?_
      refine go T 2 rfl ?_
      exact post1 (.inl rfl) rfl rfl ⟨rfl, vc, u, x⟩
    refine go T 11 rfl ?_
    refine ldB T hg45 rfl rfl rfl rfl rfl rfl ?_
    refine ltF rfl rfl rfl rfl (by omega) ?_
    refine go T 4 rfl ?_
    refine ldB T hg45 rfl rfl rfl rfl rfl rfl ?_
    refine o1 rfl ?_
    refine op_call rfl rfl rfl (find_has x y.seq) ?_
    rintro _ w7 ⟨hc7, rfl⟩
    replace hc6 := hc6.trans' hc7
    replace hg45 := hg45.keep0 hc7
    replace x := x.keep0 hc7
    by_cases hfd : 0 ≤ findM chs y.seq
    · rw [hout (.inr hfd)]
      refine geT rfl rfl rfl rfl (by omega) ?_
      refine go T 13 rfl ?_
      refine rndR ?_
      refine go T 2 rfl ?_
      exact post1 (.inl rfl) rfl rfl ⟨rfl, vc, u, x⟩
    rw [if_neg (by omega)] at h4
    clear hout
    have hjb := x.blk
    have hjs : g ∉ vc.ownBlock.toList := out_of x.blk x.chs (by decide)
    refine geF rfl rfl rfl rfl (by omega) ?_
    refine go T 6 rfl ?_
    refine Q.W_walkq 12 11 vc.ownBlock.toList fol (by kernel_rfl) (by kernel_rfl) ?_
    refine Q.Walk.plain rfl rfl (by intro val w_ hR hp; exact op_move rfl rfl ⟨Chg.refl _ _, rfl⟩) ?_; dsimp only [List.nil_append, List.cons_append]
    refine Q.Walk.plain rfl rfl (by intro val w_ hR hp; exact op_move rfl rfl ⟨Chg.refl _ _, rfl⟩) ?_; dsimp only [List.nil_append, List.cons_append]
    refine Q.Walk.plain rfl rfl (by intro val w_ hR hp; exact op_nilCheck rfl rfl ⟨Chg.refl _ _, rfl⟩) ?_; dsimp only [List.nil_append, List.cons_append]
    refine Q.Walk.plain rfl rfl (by intro val w_ hR hp; exact op_fieldAddr T rfl rfl rfl rfl rfl rfl rfl rfl ⟨Chg.refl _ _, rfl⟩) ?_; dsimp only [List.nil_append, List.cons_append]
    refine Q.Walk.plain rfl rfl (by intro val w_ hR hp; exact op_loadB T rfl rfl rfl rfl (hjb.keep hR (by assumption)) (by exact rfl) ⟨Chg.refl _ _, rfl⟩) ?_; dsimp only [List.nil_append, List.cons_append]
    refine Q.Walk.plain rfl rfl (by intro val w_ hR hp; exact op_load_agg T rfl rfl rfl rfl (hg45.keep hR (by assumption)) (by exact Nat.le_of_ble_eq_true rfl) (by exact rfl) ⟨Chg.refl _ _, rfl⟩) ?_; dsimp only [List.nil_append, List.cons_append]
    refine Q.Walk.plain rfl rfl (by intro val w_ hR hp; exact op_fieldAddr T rfl rfl rfl rfl rfl rfl rfl rfl ⟨Chg.refl _ _, rfl⟩) ?_; dsimp only [List.nil_append, List.cons_append]
    refine Q.Walk.plain rfl rfl (by intro val w_ hR hp; exact op_fieldAddr T rfl rfl rfl rfl rfl rfl rfl rfl ⟨Chg.refl _ _, rfl⟩) ?_; dsimp only [List.nil_append, List.cons_append]
    refine Q.Walk.plain rfl rfl (by intro val w_ hR hp; exact op_loadB T rfl rfl rfl rfl (hg45.keep hR (by assumption)) (by exact rfl) ⟨Chg.refl _ _, rfl⟩) ?_; dsimp only [List.nil_append, List.cons_append]
    refine Q.Walk.plain (v := .agg (chL (ChgM.mk y y.seq true)).toArray) rfl rfl (by intro val w_ hR hp; exact op_build T rfl rfl rfl rfl rfl rfl ⟨Chg.refl _ _, rfl⟩) ?_; dsimp only [List.nil_append, List.cons_append]
    refine Q.Walk.rel rfl (fun v w' => ∃ g5, v = .slice (some ⟨g5, 0, none⟩) 1 1 ∧ Blk w' g5 71 (chL (ChgM.mk y y.seq true)) ∧ w7.heap.size ≤ g5) rfl (fun v a b ⟨g5, h1, h2, h3⟩ hab => ⟨g5, h1, h2.keep hab (fun hm => by have := x.chs.lt (show vc.ownBlock = some g5 by simpa using hm); omega), h3⟩) ?_ ?_
    · intro val w_ hR hp
      exact op_buildSlice T rfl rfl rfl rfl rfl rfl rfl (fun g5 w5 hs5 hc5 hg5 => ⟨hc5, g5, rfl, hg5, by have := hR.size; omega⟩)
    dsimp only [List.nil_append, List.cons_append]
    refine Q.Walk.turn rfl (fun v w' => Own w' 71 11 v (chs ++ [(ChgM.mk y y.seq true)]).length ((chs ++ [(ChgM.mk y y.seq true)]).flatMap chL) ∧ (v.ownBlock = vc.ownBlock ∨ ∃ h, v.ownBlock = some h ∧ w7.heap.size ≤ h)) rfl (fun v a b h hab => ⟨h.1.keep0 hab, h.2⟩) ?_ ?_
    · intro val w_ hR hp
      obtain ⟨g5, he5, hg5, hs5⟩ : ∃ g5, val 10 = .slice (some ⟨g5, 0, none⟩) 1 1 ∧ Blk w_ g5 71 (chL (ChgM.mk y y.seq true)) ∧ w7.heap.size ≤ g5 := hp 10 rfl _ _ rfl rfl
      exact op_appendK T chL_len rfl rfl rfl (congrArg some he5) rfl rfl rfl rfl rfl rfl (x.chs.keep0 hR) hg5 (chL_one _) (by omega) (fun v w6 hu6 hc6 hb6 => ⟨hc6, hu6, hb6.imp id (fun ⟨h, h1, h2⟩ => ⟨h, h1, by have := hR.size; omega⟩)⟩)
    dsimp only [List.nil_append, List.cons_append]
    refine Q.Walk.fin ?_
    intro val w8 hc8 hp
    obtain ⟨ho8, hb8⟩ : Own w8 71 11 (val 11) (chs ++ [(ChgM.mk y y.seq true)]).length ((chs ++ [(ChgM.mk y y.seq true)]).flatMap chL) ∧ ((val 11).ownBlock = vc.ownBlock ∨ ∃ h, (val 11).ownBlock = some h ∧ w7.heap.size ≤ h) := hp 11 (by omega) _ _ rfl rfl
    clear hp
    refine WL_sub (e' := [(0, .pointer (some ⟨g, 0, none⟩)), (8, .slice (some ad) ops.length co), (9, .int .i64 ops.length), (10, .int .i64 i), (41, .pointer (some ⟨g, 0, none⟩)), (52, val 11)]) ⟨rfl, rfl, rfl, rfl, rfl, rfl, trivial⟩ ?_
    generalize val 11 = u8 at ho8 hb8
    obtain ⟨A8, c8, rfl, _, _⟩ := ho8.form
    have hj8 := hjb.keep hc8 hjs
    refine runL ?_
    refine go T 2 rfl ?_
    refine op0 rfl rfl ?_
    refine op_store T rfl rfl rfl rfl rfl rfl hj8 (by simp) (fun w9 hc9 hj9 _ => ?_)
    have hj9 : Blk w9 g 54 [.slice (some ad) ops.length co, .slice A8 (chs ++ [(ChgM.mk y y.seq true)]).length c8, u, .slice none 0 0] := hj9
    refine go T 4 rfl ?_
    refine adI rfl rfl rfl rfl (by omega) (by omega) ?_
    refine go T 2 rfl ?_
    exact Round_n (i + 1, chs ++ [(ChgM.mk y y.seq true)], sts', _, u) ⟨rfl, rfl, rfl, rfl, trivial⟩ ⟨by dsimp only; omega, by dsimp only; rw [List.length_append, List.length_singleton]; omega, h3', h4, x.setChs hc8 ho8 hb8 hc9 hj9⟩ (by dsimp only; omega)
  · obtain rfl : i = ops.length := by omega
    rw [List.drop_length, gatherM] at h4
    rw [h4]
    refine go T 6 rfl ?_
    refine rndX ?_
    refine go T 8 rfl ?_
    exact post1 (.inl rfl) rfl rfl ⟨rfl, vc, vs, x⟩
end
end Go.Proofs.Ytjkbbkomajjegaa.Try
/-
  DERIVED: THE SHELF's CONTRACTS AT THIS DUMP, IN PLAIN WORDS (tools/lay-plain.mjs out of 'TryShelf.lean', which tools/lay-shelf.mjs wrote): THE SAME DECLARATIONS UNDER THE SAME NAMES: 'import', 'namespace', 'open', 'def', 'theorem' AND NOTHING ELSE: no command of the shelf's: FOR A HAND-IN. Each laying: the table of numbers ('.._ren') and one theorem, a field a fact of the dump's own or the kernel's comparison; each contract: ONE APPLICATION.
-/
namespace Go.Proofs
open Go.Shelf
def Try.sortI_ren : Go.Shelf.Ren := ⟨fun | 5 => 39 | 8 => 55 | 7 => 54 | 19 => 71 | 20 => 72 | 10 => 62 | 11 => 63 | 12 => 64 | 13 => 65 | 14 => 66 | 15 => 67 | 16 => 68 | 17 => 69 | 18 => 70 | 30 => 82 | 31 => 83 | 32 => 84 | 33 => 85 | 34 => 86 | 35 => 51 | 40 => 91 | n => n, fun | 23 => 52 | 25 => 2 | 3 => 3 | 32 => 89 | 22 => 52 | 0 => 0 | 44 => 104 | 46 => 106 | 4 => 4 | 36 => 96 | 35 => 95 | 41 => 101 | 5 => 5 | 9 => 9 | 53 => 112 | 57 => 116 | 63 => 120 | 64 => 121 | n => n, fun | n => n⟩
theorem Try.sortI : Go.Proofs.SlLaysM.n5 Try.prog Try.sortI_ren := {
  mixed := by kernel_rfl
  f5 := ⟨Try.f39.name, by decide, Try.func39.trans (congrArg some (by kernel_rfl))⟩
  f7 := ⟨Try.f54.name, by decide, Try.func54.trans (congrArg some (by kernel_rfl))⟩
  f8 := Try.func55.trans (congrArg some (by kernel_rfl))
  f10 := ⟨Try.f62.name, by decide, Try.func62.trans (congrArg some (by kernel_rfl))⟩
  f11 := ⟨Try.f63.name, by decide, Try.func63.trans (congrArg some (by kernel_rfl))⟩
  f12 := ⟨Try.f64.name, by decide, Try.func64.trans (congrArg some (by kernel_rfl))⟩
  f13 := ⟨Try.f65.name, by decide, Try.func65.trans (congrArg some (by kernel_rfl))⟩
  f14 := ⟨Try.f66.name, by decide, Try.func66.trans (congrArg some (by kernel_rfl))⟩
  f15 := ⟨Try.f67.name, by decide, Try.func67.trans (congrArg some (by kernel_rfl))⟩
  f16 := ⟨Try.f68.name, by decide, Try.func68.trans (congrArg some (by kernel_rfl))⟩
  f17 := ⟨Try.f69.name, by decide, Try.func69.trans (congrArg some (by kernel_rfl))⟩
  f18 := ⟨Try.f70.name, by decide, Try.func70.trans (congrArg some (by kernel_rfl))⟩
  f19 := Try.func71.trans (congrArg some (by kernel_rfl))
  f20 := Try.func72.trans (congrArg some (by kernel_rfl))
  f30 := ⟨Try.f82.name, by decide, Try.func82.trans (congrArg some (by kernel_rfl))⟩
  f31 := Try.func83.trans (congrArg some (by kernel_rfl))
  f32 := Try.func84.trans (congrArg some (by kernel_rfl))
  f33 := ⟨Try.f85.name, by decide, Try.func85.trans (congrArg some (by kernel_rfl))⟩
  f34 := ⟨Try.f86.name, by decide, Try.func86.trans (congrArg some (by kernel_rfl))⟩
  f35 := ⟨Try.f51.name, by decide, Try.func51.trans (congrArg some (by kernel_rfl))⟩
  f40 := ⟨Try.f91.name, by decide, Try.func91.trans (congrArg some (by kernel_rfl))⟩
  t0 := Try.underlying0
  a0 := Try.isAgg0
  z0 := Try.sizeOf0
  v0 := Try.zeroValue0
  t3 := Try.underlying3
  a3 := Try.isAgg3
  z3 := Try.sizeOf3
  v3 := Try.zeroValue3
  t4 := Try.underlying4
  a4 := Try.isAgg4
  z4 := Try.sizeOf4
  v4 := Try.zeroValue4
  t5 := Try.underlying5
  a5 := Try.isAgg5
  z5 := Try.sizeOf5
  v5 := Try.zeroValue5
  t9 := Try.underlying9
  a9 := Try.isAgg9
  z9 := Try.sizeOf9
  v9 := Try.zeroValue9
  t22 := Try.underlying52
  a22 := Try.isAgg52
  z22 := Try.sizeOf52
  v22 := Try.zeroValue52
  t23 := Try.underlying52
  a23 := Try.isAgg52
  z23 := Try.sizeOf52
  v23 := Try.zeroValue52
  t25 := Try.underlying2
  a25 := Try.isAgg2
  z25 := Try.sizeOf2
  v25 := Try.zeroValue2
  t32 := Try.underlying89
  a32 := Try.isAgg89
  z32 := Try.sizeOf89
  v32 := Try.zeroValue89
  t35 := Try.underlying95
  a35 := Try.isAgg95
  z35 := Try.sizeOf95
  v35 := Try.zeroValue95
  t36 := Try.underlying96
  a36 := Try.isAgg96
  z36 := Try.sizeOf96
  v36 := Try.zeroValue96
  t41 := Try.underlying101
  a41 := Try.isAgg101
  z41 := Try.sizeOf101
  v41 := Try.zeroValue101
  t44 := Try.underlying104
  a44 := Try.isAgg104
  z44 := Try.sizeOf104
  v44 := Try.zeroValue104
  t46 := Try.underlying106
  a46 := Try.isAgg106
  z46 := Try.sizeOf106
  v46 := Try.zeroValue106
  t53 := Try.underlying112
  a53 := Try.isAgg112
  z53 := Try.sizeOf112
  v53 := Try.zeroValue112
  t57 := Try.underlying116
  a57 := Try.isAgg116
  z57 := Try.sizeOf116
  v57 := Try.zeroValue116
  t63 := Try.underlying120
  a63 := Try.isAgg120
  z63 := Try.sizeOf120
  v63 := Try.zeroValue120
  t64 := Try.underlying121
  a64 := Try.isAgg121
  z64 := Try.sizeOf121
  v64 := Try.zeroValue121 }
def Try.sortCh_ren : Go.Shelf.Ren := ⟨fun | 6 => 42 | 15 => 55 | 14 => 57 | 28 => 71 | 29 => 72 | 20 => 73 | 21 => 74 | 22 => 75 | 23 => 76 | 24 => 77 | 25 => 78 | 26 => 79 | 27 => 80 | 46 => 87 | 47 => 83 | 48 => 84 | 49 => 88 | 50 => 89 | 57 => 92 | n => n, fun | 22 => 51 | 24 => 71 | 25 => 77 | 3 => 3 | 39 => 89 | 0 => 0 | 53 => 104 | 55 => 106 | 4 => 4 | 46 => 96 | 45 => 95 | 50 => 101 | 5 => 5 | 9 => 9 | 66 => 112 | 70 => 116 | 76 => 120 | 77 => 121 | n => n, fun | n => n⟩
theorem Try.sortCh : Go.Proofs.SlLaysF0.n6 Try.prog Try.sortCh_ren := {
  mixed := by kernel_rfl
  f6 := ⟨Try.f42.name, by decide, Try.func42.trans (congrArg some (by kernel_rfl))⟩
  f14 := ⟨Try.f57.name, by decide, Try.func57.trans (congrArg some (by kernel_rfl))⟩
  f15 := Try.func55.trans (congrArg some (by kernel_rfl))
  f20 := ⟨Try.f73.name, by decide, Try.func73.trans (congrArg some (by kernel_rfl))⟩
  f21 := ⟨Try.f74.name, by decide, Try.func74.trans (congrArg some (by kernel_rfl))⟩
  f22 := ⟨Try.f75.name, by decide, Try.func75.trans (congrArg some (by kernel_rfl))⟩
  f23 := ⟨Try.f76.name, by decide, Try.func76.trans (congrArg some (by kernel_rfl))⟩
  f24 := ⟨Try.f77.name, by decide, Try.func77.trans (congrArg some (by kernel_rfl))⟩
  f25 := ⟨Try.f78.name, by decide, Try.func78.trans (congrArg some (by kernel_rfl))⟩
  f26 := ⟨Try.f79.name, by decide, Try.func79.trans (congrArg some (by kernel_rfl))⟩
  f27 := ⟨Try.f80.name, by decide, Try.func80.trans (congrArg some (by kernel_rfl))⟩
  f28 := Try.func71.trans (congrArg some (by kernel_rfl))
  f29 := Try.func72.trans (congrArg some (by kernel_rfl))
  f46 := ⟨Try.f87.name, by decide, Try.func87.trans (congrArg some (by kernel_rfl))⟩
  f47 := Try.func83.trans (congrArg some (by kernel_rfl))
  f48 := Try.func84.trans (congrArg some (by kernel_rfl))
  f49 := ⟨Try.f88.name, by decide, Try.func88.trans (congrArg some (by kernel_rfl))⟩
  f50 := ⟨Try.f89.name, by decide, Try.func89.trans (congrArg some (by kernel_rfl))⟩
  f57 := ⟨Try.f92.name, by decide, Try.func92.trans (congrArg some (by kernel_rfl))⟩
  t0 := Try.underlying0
  a0 := Try.isAgg0
  z0 := Try.sizeOf0
  v0 := Try.zeroValue0
  t3 := Try.underlying3
  a3 := Try.isAgg3
  z3 := Try.sizeOf3
  v3 := Try.zeroValue3
  t4 := Try.underlying4
  a4 := Try.isAgg4
  z4 := Try.sizeOf4
  v4 := Try.zeroValue4
  t5 := Try.underlying5
  a5 := Try.isAgg5
  z5 := Try.sizeOf5
  v5 := Try.zeroValue5
  t9 := Try.underlying9
  a9 := Try.isAgg9
  z9 := Try.sizeOf9
  v9 := Try.zeroValue9
  t22 := Try.underlying51
  a22 := Try.isAgg51
  z22 := Try.sizeOf51
  v22 := Try.zeroValue51
  t25 := Try.underlying77
  a25 := Try.isAgg77
  z25 := Try.sizeOf77
  v25 := Try.zeroValue77
  t39 := Try.underlying89
  a39 := Try.isAgg89
  z39 := Try.sizeOf89
  v39 := Try.zeroValue89
  t45 := Try.underlying95
  a45 := Try.isAgg95
  z45 := Try.sizeOf95
  v45 := Try.zeroValue95
  t46 := Try.underlying96
  a46 := Try.isAgg96
  z46 := Try.sizeOf96
  v46 := Try.zeroValue96
  t50 := Try.underlying101
  a50 := Try.isAgg101
  z50 := Try.sizeOf101
  v50 := Try.zeroValue101
  t53 := Try.underlying104
  a53 := Try.isAgg104
  z53 := Try.sizeOf104
  v53 := Try.zeroValue104
  t55 := Try.underlying106
  a55 := Try.isAgg106
  z55 := Try.sizeOf106
  v55 := Try.zeroValue106
  t66 := Try.underlying112
  a66 := Try.isAgg112
  z66 := Try.sizeOf112
  v66 := Try.zeroValue112
  t70 := Try.underlying116
  a70 := Try.isAgg116
  z70 := Try.sizeOf116
  v70 := Try.zeroValue116
  t76 := Try.underlying120
  a76 := Try.isAgg120
  z76 := Try.sizeOf120
  v76 := Try.zeroValue120
  t77 := Try.underlying121
  a77 := Try.isAgg121
  z77 := Try.sizeOf121
  v77 := Try.zeroValue121 }
def Try.cmpA_ren : Go.Shelf.Ren := ⟨fun | 5 => 33 | 7 => 51 | n => n, fun | 22 => 2 | 3 => 3 | 4 => 4 | n => n, fun | n => n⟩
theorem Try.cmpA : Go.Proofs.SlLaysC2.n5 Try.prog Try.cmpA_ren := {
  mixed := by kernel_rfl
  f5 := ⟨Try.f33.name, by decide, Try.func33.trans (congrArg some (by kernel_rfl))⟩
  f7 := ⟨Try.f51.name, by decide, Try.func51.trans (congrArg some (by kernel_rfl))⟩
  t3 := Try.underlying3
  a3 := Try.isAgg3
  z3 := Try.sizeOf3
  v3 := Try.zeroValue3
  t4 := Try.underlying4
  a4 := Try.isAgg4
  z4 := Try.sizeOf4
  v4 := Try.zeroValue4
  t22 := Try.underlying2
  a22 := Try.isAgg2
  z22 := Try.sizeOf2
  v22 := Try.zeroValue2 }
end Go.Proofs
/-! History: the library's sorts. -/
set_option linter.unusedVariables false
namespace Go.Vc
open Go Go.Sort Go.Proofs
section
variable {α : Type} [Inhabited α] {w : World} {g n : Nat} {os : Array Obj} {cur : Array Value} {e : TypeId}
theorem op_index_ba {P : Program} {N : Nat} {e : Env} {w : World} {o : Oper} {K : Value → World → Prop} (T : Types P) {x y : Operand} {t : TypeId} {k : IntKind} {i : Nat} {s : ByteArray} {b : UInt8} (hop : o.op = .index t x y) (hx : ev e x = some (.string s)) (hy : ev e y = some (.int k (i : Int))) (ht : T.d t = some .string) (hb : s[i]? = some b)
    (h : K (.int .u8 (b.toNat : Int)) w) : OpW P N o e w K :=
  OpW_run (fun a ha => by simp [execOp, hop, ha.ev hx, ha.ev hy, Instr.index, asIntOf, run_underlying (T.und' ht), hb, Result.andThen]) h
theorem heap_put (enc : α → Value) {fr : Nat × Nat} (d : Array α) (hb : w.heap[g]? = some (.cells cur e fr)) : (grow (putRow enc (Sort.ahead w n) g 0 d) os).heap[g]? = some (.cells (putCells enc 0 d cur) e fr) := by
  have hg : g < w.heap.size := (Array.getElem?_eq_some_iff.1 hb).1
  rw [heap_grow_old _ _ (by simpa using hg)]
  simp [putRow, mapBlock, Sort.ahead, Array.getElem?_modify, hb, onCells]
theorem chg_put (enc : α → Value) (d : Array α) : Chg [g] w (grow (putRow enc (Sort.ahead w n) g 0 d) os) := by
  have h : w.grownBy (grow (putRow enc (Sort.ahead w n) g 0 d) os) (some g) := by
    refine ⟨rfl, rfl, rfl, by simp, fun k hk hne => ?_⟩
    rw [heap_grow_old _ _ (by simpa using hk)]
    have : g ≠ k := fun e => hne (by rw [e])
    simp [putRow, mapBlock, Sort.ahead, Array.getElem?_modify, this]
  exact Chg.of_grown h
theorem take_put (enc : α → Value) (cur : Array Value) (ts : List α) (h : ts.length ≤ cur.size) : (putCells enc 0 ts.toArray cur).toList.take ts.length = ts.map enc := by
  apply List.ext_getElem?
  intro j
  by_cases hj : j < ts.length
  · rw [List.getElem?_take_of_lt hj, Array.getElem?_toList]
    simp [putCells, hj, show j < cur.size by omega]
  · rw [List.getElem?_take_eq_none (by omega), List.getElem?_eq_none (by simp; omega)]
theorem put_size (enc : α → Value) (cur : Array Value) (d : Array α) : (putCells enc 0 d cur).size = cur.size := by simp [putCells]
theorem holds_of (enc : α → Value) {ss : List α} (hb : w.heap[g]? = some (.cells cur e (0, 0))) (ht : cur.toList.take ss.length = ss.map enc) : Holds enc w g 0 ss.toArray := by
  intro j hj
  have hj' : j < ss.length := by simpa using hj
  refine ⟨?_, by simp [World.frozen?, hb]⟩
  have h1 : (cur.toList.take ss.length)[j]? = (ss.map enc)[j]? := by rw [ht]
  rw [List.getElem?_take_of_lt hj'] at h1
  simp only [World.cell?, hb, Nat.zero_add]
  simp only [Option.isSome_none, Bool.false_eq_true, if_false]
  rw [← Array.getElem?_toList, h1]
  simp [hj']
end
theorem flatK_eq {α : Type} [Inhabited α] {f : α → List Value} {k : Nat} (hf : ∀ x, (f x).length = k) (L : List α) : (flatK f k L.toArray).toList = L.flatMap f := by
  apply List.ext_getElem?
  intro t
  by_cases ht : t < L.length * k
  · have hk : 0 < k := by
      rcases Nat.eq_zero_or_pos k with h | h
      · subst h; simp at ht
      · exact h
    have hi : t / k < L.length := Nat.div_lt_of_lt_mul (by rw [Nat.mul_comm]; exact ht)
    have hx : L[t / k]? = some L[t / k] := List.getElem?_eq_getElem hi
    have hm : t % k < k := Nat.mod_lt _ hk
    have hdm : t / k * k + t % k = t := Nat.div_add_mod' t k
    have h1 := rk_get hf L hx hm
    rw [hdm] at h1
    rw [h1]
    have h2 : (f L[t / k])[t % k]? = some ((f L[t / k])[t % k]'(by rw [hf]; exact hm)) := List.getElem?_eq_getElem _
    rw [h2]
    have hsz : t < (flatK f k L.toArray).size := by simpa using ht
    have h3 := get_flatK f k L.toArray t (by simpa using ht)
    rw [getElem!_pos _ t hsz] at h3
    rw [Array.getElem?_toList, Array.getElem?_eq_getElem hsz, h3]
    simp [hi, hf, hm]
  · rw [List.getElem?_eq_none (by simp; omega), List.getElem?_eq_none (by rw [rk_len hf]; omega)]
instance : Inhabited ChgM := ⟨⟨⟨0, [], [], 0, 0, 0, 0, [], 0⟩, 0, false⟩⟩
def sortI (l : List Int) : List Int := l.mergeSort fun x y => decide (x ≤ y)
theorem ltSeq (x y : ChgM) : ltOf (fun x y : ChgM => Lib.compareInt x.seq y.seq) x y = decide (x.seq < y.seq) := by
  unfold ltOf Lib.compareInt
  by_cases h1 : x.seq < y.seq
  · simp [h1]
  · by_cases h2 : y.seq < x.seq <;> simp [h1, h2]
theorem swoSeq : SWO (ltOf fun x y : ChgM => Lib.compareInt x.seq y.seq) where
  irrefl x := by rw [ltSeq]; simp
  trans x y z h1 h2 := by rw [ltSeq] at *; simp at *; omega
  ntrans x y z h1 h2 := by rw [ltSeq] at *; simp at *; omega
end Go.Vc
namespace Go.Proofs.Ytjkbbkomajjegaa.Try
open Go Go.Vc
theorem sortI_has (v : Value) (L : List Int) (w : World) (hown : Own w 2 1 v L.length (L.map i64V)) (hlen : L.length ≤ 1000000) :
    Has Go.Proofs.Try.prog 39 #[v] w (fun u w' => u = .tuple #[] ∧ Chg v.ownBlock.toList w w' ∧ Own w' 2 1 v (sortI L).length ((sortI L).map i64V)) := by
  have hsl : (sortI L).length = L.length := List.length_mergeSort _
  by_cases hpos : 0 < L.length
  · obtain ⟨g, cap, cur, rfl, hn, hm, hb, hl, ht⟩ := hown.blk hpos
    have hb' := hb
    unfold Blk at hb'
    rw [Nat.mul_one] at ht
    have hc := Go.Proofs.AnyM.slices_Sort_int Go.Proofs.Try.sortI g 0 cap L w (holds_of (Value.int .i64) hb' (by rw [show cur.toArray.toList = cur from by simp]; exact ht)) hb.lt (by omega)
    refine ⟨⟨_, Go.Proofs.Try.func39, rfl, by decide⟩, Calls.mono hc ?_⟩
    rintro e w' ⟨rfl, n, os, rfl⟩
    have hcs : L.length ≤ cur.toArray.size := by simp at hl ⊢; omega
    refine ⟨_, rfl, rfl, chg_put _ _, ?_⟩
    have hblk : Blk (Sort.grow (Sort.putRow (Value.int .i64) (Sort.ahead w n) g 0 (sortI L).toArray) os) g 2 (Sort.putCells (Value.int .i64) 0 (sortI L).toArray cur.toArray).toList := by
      unfold Blk
      rw [heap_put _ _ hb']
    rw [show (Value.slice (some ⟨g, 0, none⟩) L.length cap) = .slice (some ⟨g, 0, none⟩) (sortI L).length cap from by rw [hsl]]
    refine Own.mk hblk (by omega) hm (by rw [Array.length_toList, put_size]; simpa using hl) ?_
    rw [Nat.mul_one]
    exact take_put _ _ _ (by omega)
  · obtain rfl : L = [] := List.eq_nil_of_length_eq_zero (by omega)
    obtain ⟨A, c, rfl, _, _⟩ := hown.form
    have hc := Go.Proofs.AnyM.slices_Sort_int_none Go.Proofs.Try.sortI A c w
    refine ⟨⟨_, Go.Proofs.Try.func39, rfl, by decide⟩, Calls.mono hc ?_⟩
    rintro e w' ⟨rfl, rfl⟩
    exact ⟨_, rfl, rfl, Chg.refl _ _, by rw [show sortI [] = [] from by simp [sortI]]; exact hown⟩
open Go.Sort in
set_option maxHeartbeats 1000000 in
theorem closureCh (x y : ChgM) (W : World) : Calls Go.Proofs.Try.prog 43 #[.agg (chL x).toArray, .agg (chL y).toArray] W fun e w' => e = .returned (.int .i64 (Lib.compareInt x.seq y.seq)) ∧ ∃ q os', w' = Sort.grow (W.drewN q) os' := by
  have hcon := fun W' => AnyG.cmp_Compare_int Go.Proofs.Try.cmpA x.seq y.seq W'
  change ∀ W', Calls Go.Proofs.Try.prog 33 _ _ _ at hcon
  generalize Lib.compareInt x.seq y.seq = r at hcon ⊢
  unfold chL opL
  go_enter Go.Proofs.Try.func43, Go.Proofs.Try.ntmps43
  go_wp2_with (go_at_call 33; refine (hcon _).mono ?_; rintro e w' ⟨rfl, rfl⟩)
  go_ret
  exact ⟨rfl, 0, _, by rw [alloc_eq_grow, alloc_eq_grow, grow_grow]; rfl⟩
set_option maxRecDepth 100000 in
/-- Bits of nought; the sort of nothing. -/
theorem len64_has (w : World) : Has Go.Proofs.Try.prog 72 #[.int .u64 0] w (fun v w' => w' = w ∧ v = .int .i64 0) := by
  refine enter Go.Proofs.Try.func72 rfl rfl (by decide) rfl (e := [(0, .int .u64 0)]) ⟨rfl, trivial⟩ ?_
  refine run ?_
  refine go T 9 rfl ?_
  refine geF rfl rfl rfl rfl (by omega) ?_
  refine go T 9 rfl ?_
  refine geF rfl rfl rfl rfl (by omega) ?_
  refine go T 9 rfl ?_
  refine geF rfl rfl rfl rfl (by omega) ?_
  refine go T 9 rfl ?_
  refine o1 rfl (op_convert_fit T rfl rfl rfl rfl (wrap_u8_in (by omega) (by omega)) ?_)
  refine o1 rfl ?_
  refine op_index_ba (i := 0) (b := 0) T rfl rfl rfl rfl rfl ?_
  refine o1 rfl ?_
  refine op_convert_int T (r := 0) rfl rfl rfl rfl (by decide) ?_
  refine adI rfl rfl rfl rfl (by omega) (by omega) ?_
  refine go T 4 rfl ?_
  exact post1 (.inl rfl) rfl rfl ⟨rfl, rfl⟩
theorem len_has (w : World) : Has Go.Proofs.Try.prog 55 #[.int .u64 0] w (fun v w' => w' = w ∧ v = .int .i64 0) := by
  refine enter Go.Proofs.Try.func55 rfl rfl (by decide) rfl (e := [(0, .int .u64 0)]) ⟨rfl, trivial⟩ ?_
  refine run ?_
  refine go T 12 rfl ?_
  refine o1 rfl ?_
  refine op_call rfl rfl rfl (len64_has w) ?_
  rintro _ w1 ⟨rfl, rfl⟩
  refine go T 4 rfl ?_
  exact post1 (.inl rfl) rfl rfl ⟨rfl, rfl⟩
theorem insertNil_has (A : Option Addr) (c : Nat) (f : Value) (w : World) : Has Go.Proofs.Try.prog 73 #[.slice A 0 c, .int .i64 0, .int .i64 0, f] w (fun v w' => w' = w ∧ v = .tuple #[]) := by
  refine enter Go.Proofs.Try.func73 rfl rfl (by decide) rfl (e := [(0, .slice A 0 c), (1, .int .i64 0), (2, .int .i64 0), (3, f)]) ⟨rfl, rfl, rfl, rfl, trivial⟩ ?_
  refine run ?_
  refine go T 3 rfl ?_
  refine adI rfl rfl rfl rfl (by omega) (by omega) ?_
  refine go T 4 rfl ?_
  refine W_loop (σ := Unit) (fun _ => [(2, .int .i64 0), (8, .int .i64 1)]) (fun _ w' => w' = w) (fun _ => 0) () ⟨rfl, rfl, trivial⟩ rfl ?_
  rintro _ w rfl
  refine run ?_
  refine go T 5 rfl ?_
  refine ltF rfl rfl rfl rfl (by omega) ?_
  refine go T 5 rfl ?_
  refine rndX ?_
  refine go T 1 rfl ?_
  exact post0 (.inr rfl) rfl ⟨rfl, rfl⟩
theorem pdqNil_has (A : Option Addr) (c : Nat) (f : Value) (w : World) : Has Go.Proofs.Try.prog 57 #[.slice A 0 c, .int .i64 0, .int .i64 0, .int .i64 0, f] w (fun v w' => w' = w ∧ v = .tuple #[]) := by
  refine enter Go.Proofs.Try.func57 rfl rfl (by decide) rfl (e := [(0, .slice A 0 c), (1, .int .i64 0), (2, .int .i64 0), (3, .int .i64 0), (4, f)]) ⟨rfl, rfl, rfl, rfl, rfl, trivial⟩ ?_
  refine run ?_
  refine go T 11 rfl ?_
  refine W_loop (σ := Unit) (fun _ => [(0, .slice A 0 c), (1, .int .i64 0), (2, .int .i64 0), (4, f)]) (fun _ w' => w' = w) (fun _ => 0) () ⟨rfl, rfl, rfl, rfl, trivial⟩ rfl ?_
  rintro _ w rfl
  refine run ?_
  refine go T 5 rfl ?_
  refine sbI rfl rfl rfl rfl (by omega) (by omega) ?_
  refine go T 7 rfl ?_
  refine leT rfl rfl rfl rfl (by omega) ?_
  refine go T 9 rfl ?_
  refine o1 rfl ?_
  refine op_call rfl rfl rfl (insertNil_has A c f w) ?_
  rintro _ w1 ⟨rfl, rfl⟩
  refine go T 5 rfl ?_
  refine rndR ?_
  refine go T 1 rfl ?_
  exact post0 (.inl rfl) rfl ⟨rfl, rfl⟩
theorem sortChNil_has (A : Option Addr) (c : Nat) (f : Value) (w : World) : Has Go.Proofs.Try.prog 42 #[.slice A 0 c, f] w (fun v w' => w' = w ∧ v = .tuple #[]) := by
  refine enter Go.Proofs.Try.func42 rfl rfl (by decide) rfl (e := [(0, .slice A 0 c), (1, f)]) ⟨rfl, rfl, trivial⟩ ?_
  refine run ?_
  refine go T 11 rfl ?_
  refine o1 rfl (op_convert_fit T rfl rfl rfl rfl (wrap_u64_in (by omega) (by omega)) ?_)
  refine o1 rfl ?_
  refine op_call rfl rfl rfl (len_has w) ?_
  rintro _ w1 ⟨rfl, rfl⟩
  refine go T 1 rfl ?_
  refine o1 rfl ?_
  refine op_call rfl rfl rfl (pdqNil_has A c f w1) ?_
  rintro _ w1 ⟨rfl, rfl⟩
  refine go T 1 rfl ?_
  exact post0 (.inr rfl) rfl ⟨rfl, rfl⟩
open Go.Sort in
set_option maxHeartbeats 1000000 in
theorem sortCh_has (v : Value) (L : List ChgM) (w : World) (hown : Own w 71 11 v L.length (L.flatMap chL)) (hlen : L.length ≤ 1000000) :
    Has Go.Proofs.Try.prog 42 #[v, .func (.func 43) #[] #[]] w (fun u w' => u = .tuple #[] ∧ Chg v.ownBlock.toList w w' ∧ ∃ L' : List ChgM, L'.Perm L ∧ L'.Pairwise (fun x y => x.seq ≤ y.seq) ∧ Own w' 71 11 v L'.length (L'.flatMap chL)) := by
  by_cases hpos : 0 < L.length
  · obtain ⟨g, cap, cur, rfl, hn, hm, hb, hl, ht⟩ := hown.blk hpos
    have hb' := hb
    unfold Blk at hb'
    have hfl := flatK_eq chL_len L
    have hfs : (flatK chL 11 L.toArray).toList.length = L.length * 11 := by rw [hfl, rk_len chL_len]
    have hH : HoldsK chL 11 w g 0 L.toArray := by
      have := holds_of (ss := (flatK chL 11 L.toArray).toList) id hb' (by rw [hfs, show cur.toArray.toList = cur from by simp, ht, hfl, List.map_id])
      unfold HoldsK
      simpa using this
    have eg : ∀ args w, (callFunc 43 args).run Go.Proofs.Try.prog w = .ok (.enter 43 args) w := enters_of Go.Proofs.Try.func43 (by kernel_rfl) rfl
    have hc := AnyQ.slices_SortFunc Go.Proofs.Try.sortCh 11 Go.Proofs.Try.isAgg71 Go.Proofs.Try.sizeOf71 chL chL_len chL_one (fun x y => Lib.compareInt x.seq y.seq) swoSeq 43 #[] g 0 cap L.toArray w eg (fun _ _ _ _ x y => closureCh x y _) hH hb.lt (by simp; omega)
    simp only [List.size_toArray] at hc
    change Calls Go.Proofs.Try.prog 42 _ _ _ at hc
    refine ⟨⟨_, Go.Proofs.Try.func42, rfl, by decide⟩, Calls.mono hc ?_⟩
    rintro e w' ⟨rfl, d', n, os, hp, hs, rfl⟩
    have hd : d' = d'.toList.toArray := by simp
    obtain ⟨hp1, _, hp3⟩ := hp
    have hsz : d'.toList.length = L.length := by simpa using hp1
    have hperm : d'.toList.Perm L := by
      have h1 : (d'.extract 0 L.length) = d' := Array.extract_eq_self_of_le (by simp at hp1; omega)
      have h2 : (L.toArray.extract 0 L.length) = L.toArray := Array.extract_eq_self_of_le (by simp)
      rw [h1, h2] at hp3
      simpa using hp3
    have hpw : d'.toList.Pairwise (fun x y => x.seq ≤ y.seq) := by
      rw [List.pairwise_iff_getElem]
      intro i j hi hj hij
      have := hs i j (Nat.zero_le _) hij (by simpa using (show j < L.length by omega))
      rw [ltSeq] at this
      have h3 : ¬ (d'[j]!).seq < (d'[i]!).seq := by simpa using this
      have hi' : i < d'.size := by simpa using hi
      have hj' : j < d'.size := by simpa using hj
      rw [getElem!_pos d' i hi', getElem!_pos d' j hj'] at h3
      simp only [Array.getElem_toList]
      omega
    refine ⟨_, rfl, rfl, chg_put _ _, d'.toList, hperm, hpw, ?_⟩
    have hfl' := flatK_eq chL_len d'.toList
    rw [← hd] at hfl'
    have hblk : Blk (sortWorldK chL 11 w g 0 n d' os) g 71 (putCells id 0 (flatK chL 11 d') cur.toArray).toList := by
      unfold Blk sortWorldK putRowK
      rw [heap_put _ _ hb']
    rw [show (Value.slice (some ⟨g, 0, none⟩) L.length cap) = .slice (some ⟨g, 0, none⟩) d'.toList.length cap from by rw [hsz]]
    refine Own.mk hblk (by omega) hm (by rw [Array.length_toList, put_size]; simpa using hl) ?_
    have hlen2 : (d'.toList.flatMap chL).length = d'.toList.length * 11 := rk_len chL_len _
    have := take_put id cur.toArray (d'.toList.flatMap chL) (by rw [hlen2, hsz, List.size_toArray, hl]; exact Nat.mul_le_mul_right 11 hn)
    rw [← hlen2, show flatK chL 11 d' = (d'.toList.flatMap chL).toArray from by rw [← hfl']]
    rw [this, List.map_id]
  · obtain rfl : L = [] := List.eq_nil_of_length_eq_zero (by omega)
    obtain ⟨A, c, rfl, _, _⟩ := hown.form
    refine (sortChNil_has A c _ w).mono ?_
    rintro _ _ ⟨rfl, rfl⟩
    exact ⟨rfl, Chg.refl _ _, [], List.Perm.refl _, List.Pairwise.nil, hown⟩
end Go.Proofs.Ytjkbbkomajjegaa.Try
/-
  DERIVED: THE SHELF's CONTRACTS AT THIS DUMP, IN PLAIN WORDS (tools/lay-plain.mjs out of 'TryShelf.lean', which tools/lay-shelf.mjs wrote): THE SAME DECLARATIONS UNDER THE SAME NAMES: 'import', 'namespace', 'open', 'def', 'theorem' AND NOTHING ELSE: no command of the shelf's: FOR A HAND-IN. Each laying: the table of numbers ('.._ren') and one theorem, a field a fact of the dump's own or the kernel's comparison; each contract: ONE APPLICATION.
-/
namespace Go.Proofs
open Go.Shelf
def Try.compactI_ren : Go.Shelf.Ren := ⟨fun | 43 => 40 | n => n, fun | 22 => 52 | 23 => 2 | 3 => 3 | 4 => 4 | 0 => 0 | n => n, fun | n => n⟩
theorem Try.compactI : Go.Proofs.SlLaysN.n43 Try.prog Try.compactI_ren := {
  mixed := by kernel_rfl
  f43 := ⟨Try.f40.name, by decide, Try.func40.trans (congrArg some (by kernel_rfl))⟩
  t0 := Try.underlying0
  a0 := Try.isAgg0
  z0 := Try.sizeOf0
  v0 := Try.zeroValue0
  t3 := Try.underlying3
  a3 := Try.isAgg3
  z3 := Try.sizeOf3
  v3 := Try.zeroValue3
  t4 := Try.underlying4
  a4 := Try.isAgg4
  z4 := Try.sizeOf4
  v4 := Try.zeroValue4
  t22 := Try.underlying52
  a22 := Try.isAgg52
  z22 := Try.sizeOf52
  v22 := Try.zeroValue52
  t23 := Try.underlying2
  a23 := Try.isAgg2
  z23 := Try.sizeOf2
  v23 := Try.zeroValue2
  i23 := by kernel_rfl }
end Go.Proofs
/-! History: a number without a change takes an open put. -/
set_option linter.unusedVariables false
namespace Go.Vc
open Go
def zeroOp : OpM := ⟨0, [], [], 0, 0, 0, 0, [], 0⟩
/-- The first sight of a number, if all sights of it agree. -/
def seenM (s : Int) : List OpM → OpM → Option OpM
  | [], f => some f
  | o :: l, f =>
    if sawM o = true ∧ o.seq = s then
      if o.key = (if f.done = 0 then o else f).key ∧ o.aval = (if f.done = 0 then o else f).aval then seenM s l (if f.done = 0 then o else f) else none
    else seenM s l f
abbrev TkM := Int → Option Bool
def tkB (tk : TkM) (i : Int) : Bool := (tk i).getD false
def fitsM (tk : TkM) (f o : OpM) (i : Nat) : Bool := decide (openM o = true ∧ o.kind = 1 ∧ tkB tk i = false ∧ o.key = f.key ∧ o.val = f.aval)
def pickM (tk : TkM) (f : OpM) : List OpM → Nat → Option (Nat × OpM)
  | [], _ => none
  | o :: l, i => if fitsM tk f o i = true then some (i, o) else pickM tk f l (i + 1)
def takeM (ops sts : List OpM) (s : Int) (p : List ChgM × TkM) : Option (List ChgM × TkM) :=
  match seenM s sts zeroOp with
  | none => none
  | some f => match pickM p.2 f ops 0 with
    | none => none
    | some q => some (p.1 ++ [⟨q.2, s, false⟩], upd p.2 q.1 true)
theorem op_eql_d {P : Program} {N : Nat} {e : Env} {w : World} {o : Oper} {K : Value → World → Prop} {t ty : TypeId} {x y : Operand} {k : IntKind} {m n : Int} (hop : o.op = .binOp .eql t x y ty) (hx : ev e x = some (.int k m)) (hy : ev e y = some (.int k n)) (h : K (.bool (decide (m = n))) w) : OpW P N o e w K :=
  op_eql hop hx hy (fun e => by rw [decide_eq_true e] at h; exact h) (fun e => by rw [decide_eq_false e] at h; exact h)
end Go.Vc
namespace Go.Proofs.Ytjkbbkomajjegaa.Try
open Go Go.Vc
theorem compactI_has (v : Value) (L : List Int) (w : World) (hown : Own w 2 1 v L.length (L.map i64V)) (hlen : L.length ≤ 1000000) :
    Has Go.Proofs.Try.prog 40 #[v] w (fun u w' => Chg v.ownBlock.toList w w' ∧ Own w' 2 1 u (Lib.compact L).length ((Lib.compact L).map i64V)) := by
  by_cases hpos : 0 < L.length
  · obtain ⟨g, cap, cur, rfl, hn, hm, hb, hl, ht⟩ := hown.blk hpos
    have hb' := hb
    unfold Blk at hb'
    rw [Nat.mul_one] at ht
    have hc := Go.Proofs.AnyG.slices_Compact_int Go.Proofs.Try.compactI g 0 cap L w (holds_of (Value.int .i64) hb' (by rw [show cur.toArray.toList = cur from by simp]; exact ht)) (by omega) (by omega)
    refine ⟨⟨_, Go.Proofs.Try.func40, rfl, by decide⟩, Calls.mono hc ?_⟩
    rintro e w' ⟨rfl, n, rfl⟩
    have hle : (Lib.compact L).length ≤ L.length := by
      unfold Lib.compact Lib.compactUpTo
      rw [List.length_map]
      exact Nat.le_trans (List.length_filter_le _ _) (by simp)
    have hz : (Lib.compact L ++ List.replicate (L.length - (Lib.compact L).length) (0 : Int)).length = L.length := by simp; omega
    have hcs : L.length ≤ cur.toArray.size := by simp at hl ⊢; omega
    have hgr : ∀ W : World, W = Sort.grow W #[] := fun W => (Sort.grow_empty W).symm
    rw [hgr (Sort.putRow _ _ _ _ _)]
    refine ⟨_, rfl, chg_put _ _, ?_⟩
    have hblk : Blk (Sort.grow (Sort.putRow (Value.int .i64) (Sort.ahead w n) g 0 (Lib.compact L ++ List.replicate (L.length - (Lib.compact L).length) (0 : Int)).toArray) #[]) g 2 (Sort.putCells (Value.int .i64) 0 (Lib.compact L ++ List.replicate (L.length - (Lib.compact L).length) (0 : Int)).toArray cur.toArray).toList := by
      unfold Blk
      rw [heap_put _ _ hb']
    refine Own.mk hblk (by omega) hm (by rw [Array.length_toList, put_size]; simpa using hl) ?_
    rw [Nat.mul_one]
    have h1 := take_put (Value.int .i64) cur.toArray (Lib.compact L ++ List.replicate (L.length - (Lib.compact L).length) (0 : Int)) (by omega)
    rw [hz] at h1
    have h2 := congrArg (List.take (Lib.compact L).length) h1
    rw [List.take_take, Nat.min_eq_left hle, List.map_append, List.take_left' (by simp)] at h2
    exact h2
  · obtain rfl : L = [] := List.eq_nil_of_length_eq_zero (by omega)
    obtain ⟨A, c, rfl, _, _⟩ := hown.form
    have hc := Go.Proofs.AnyG.slices_Compact_int_empty Go.Proofs.Try.compactI A c w
    refine ⟨⟨_, Go.Proofs.Try.func40, rfl, by decide⟩, Calls.mono hc ?_⟩
    rintro e w' ⟨rfl, rfl⟩
    exact ⟨_, rfl, Chg.refl _ _, hown⟩
section
variable {w0 w w1 : World} {g r : Nat} {ops : List OpM} {chs : List ChgM} {sts : List OpM} {pls : List Int} {vo vc vs vp : Value} {tk : TkM}
theorem JAt.keepM (x : JAt w0 w g ops chs sts pls vo vc vs vp) (hm : MapAt (Value.int .i64) Value.bool w r tk) (hr : w0.heap.size ≤ r) (hc : Chg [r] w w1) : JAt w0 w1 g ops chs sts pls vo vc vs vp := by
  have hn : ∀ {t : TypeId} {s n : Nat} {v : Value} {xs : List Value}, Own w t s v n xs → ∀ k, v.ownBlock = some k → k ∉ [r] := fun ho k hk hmem => by
    simp at hmem; subst hmem
    obtain ⟨cur, hb⟩ := ho.row hk
    exact hm.ne_blk hb rfl
  refine ⟨x.chg.trans hc (fun k hk hlt => by simp at hk; omega), x.blk.keep hc (fun h => by simp at h; exact hm.ne_blk x.blk h.symm), x.fr, x.ops, x.chs.keep hc (hn x.chs), x.frc, x.sts.keep hc (hn x.sts), x.frs, x.pls.keep hc (hn x.pls), x.frp⟩
theorem JAt.keepN {h : Nat} (x : JAt w0 w g ops chs sts pls vo vc vs vp) (h1 : h ≠ g) (h2 : h ∉ vc.ownBlock.toList) (h3 : h ∉ vs.ownBlock.toList) (h4 : h ∉ vp.ownBlock.toList) (hr : w0.heap.size ≤ h) (hc : Chg [h] w w1) : JAt w0 w1 g ops chs sts pls vo vc vs vp := by
  have hn : ∀ {v : Value}, h ∉ v.ownBlock.toList → ∀ k, v.ownBlock = some k → k ∉ [h] := fun ho k hk hmem => by
    simp at hmem; subst hmem
    exact ho (by simpa using hk)
  exact ⟨x.chg.trans hc (fun k hk hlt => by simp at hk; omega), x.blk.keep hc (fun h => by simp at h; exact h1 h.symm), x.fr, x.ops, x.chs.keep hc (hn h2), x.frc, x.sts.keep hc (hn h3), x.frs, x.pls.keep hc (hn h4), x.frp⟩
theorem out_lt {v : Value} {t : TypeId} {s n h : Nat} {xs : List Value} (ho : Own w t s v n xs) (hh : w.heap.size ≤ h) : h ∉ v.ownBlock.toList := fun hm => by
  have := ho.lt (show v.ownBlock = some h by simpa using hm)
  omega
set_option maxHeartbeats 4000000 in
theorem take_has (x : JAt w0 w g ops chs sts [] vo vc vs (.slice none 0 0)) (hm : MapAt (Value.int .i64) Value.bool w r tk) (hr : w0.heap.size ≤ r) (s : Int) (hlim : chs.length < 1000000) (hlo : ops.length ≤ 1000) :
    Has Go.Proofs.Try.prog 41 #[ptrB g, .int .i64 s, .map (some r)] w (fun v w' => match takeM ops sts s (chs, tk) with
      | none => v = .bool false ∧ JAt w0 w' g ops chs sts [] vo vc vs (.slice none 0 0)
      | some p => v = .bool true ∧ ∃ vc', JAt w0 w' g ops p.1 sts [] vo vc' vs (.slice none 0 0) ∧ MapAt (Value.int .i64) Value.bool w' r p.2 ∧ p.1.length = chs.length + 1 ∧ Chg (r :: g :: vc.ownBlock.toList) w w') := by
  refine enter Go.Proofs.Try.func41 rfl rfl (by decide) rfl (e := [(0, ptrB g), (1, .int .i64 s), (2, .map (some r))]) ⟨rfl, rfl, rfl, trivial⟩ ?_
  unfold ptrB
  refine run ?_
  refine go T 7 rfl ?_
  refine o1 rfl ?_
  refine op_alloc T rfl rfl (fun g7 w1 hs1 hc1 hg7 => ?_)
  have hs1 : w.heap.size ≤ g7 := hs1
  have hg7 : Blk w1 g7 34 (opL zeroOp) := hg7
  have h7a : g7 ≠ g := by have := x.blk.lt; omega
  have h7c : g7 ∉ vc.ownBlock.toList := out_lt x.chs hs1
  have h7s : g7 ∉ vs.ownBlock.toList := out_lt x.sts hs1
  have h7r : g7 ≠ r := by have := hm.lt; omega
  have h7w : w0.heap.size ≤ g7 := by have := x.chg.size; omega
  replace x := x.keep0 hc1
  replace hm := hm.keep0 hc1
  have hb := x.blk
  have hss := x.stsR
  obtain ⟨As, cs, rfl, hl1, hl2⟩ := hss.form
  unfold maxLen at hl2
  refine go T 8 rfl ?_
  refine ldB T hb rfl rfl rfl rfl rfl rfl ?_
  refine go T 5 rfl ?_
  clear hb
  refine W_loop (σ := Nat × OpM) (fun s' => [(0, .pointer (some ⟨g, 0, none⟩)), (1, .int .i64 s), (2, .map (some r)), (7, .pointer (some ⟨g7, 0, none⟩)), (15, .slice As sts.length cs), (16, .int .i64 sts.length), (17, .int .i64 s'.1)])
    (fun s' w' => s'.1 ≤ sts.length ∧ Chg [] w w' ∧ JAt w0 w' g ops chs sts [] vo vc (.slice As sts.length cs) (.slice none 0 0) ∧ MapAt (Value.int .i64) Value.bool w' r tk ∧ Blk w' g7 34 (opL s'.2) ∧ seenM s sts zeroOp = seenM s (sts.drop s'.1) s'.2)
    (fun s' => sts.length - s'.1) (0, zeroOp) ⟨rfl, rfl, rfl, rfl, rfl, rfl, rfl, trivial⟩ ⟨Nat.zero_le _, hc1, x, hm, hg7, rfl⟩ ?_
  clear x hm hg7 hss hc1
  rintro ⟨i, f⟩ w2 ⟨hi, hc2, x, hm, hg7, hse⟩
  dsimp only at hi x hm hg7 hse ⊢
  refine run ?_
  refine go T 2 rfl ?_
  refine ltS rfl rfl rfl rfl (fun hcmp => ?_) (fun hcmp => ?_)
  · have hlt : i < sts.length := by omega
    have hx := List.getElem?_eq_getElem hlt
    obtain ⟨ad, rfl, he⟩ := x.stsR.at hx
    rw [List.drop_eq_getElem_cons hlt] at hse
    generalize sts[i] = y at *
    refine go T 10 rfl ?_
    refine o1 rfl (op_indexK T rfl rfl rfl rfl rfl (by omega) ?_)
    refine o1 rfl (op_loadE T he rfl rfl rfl rfl rfl ?_)
    refine o1 rfl ?_
    refine op_alloc T rfl rfl (fun g9 w3 hs3 hc3 hg9 => ?_)
    have hs3 : w2.heap.size ≤ g9 := hs3
    have hg9 : Blk w3 g9 34 [.int .i64 0, .string (str []), .string (str []), .int .i64 0, .int .i64 0, .int .i64 0, .int .i64 0, .string (str []), .int .i64 0] := hg9
    refine op0 rfl rfl ?_
    refine op_store_agg T rfl rfl rfl rfl rfl rfl hg9 (by exact Nat.le_of_ble_eq_true rfl) (fun w4 hc4 hg94 _ => ?_)
    have hg94 : Blk w4 g9 34 (opL y) := hg94
    have hc24 : Chg [] w2 w4 := hc3.trans hc4 (fun k hk hlt => by simp at hk; omega)
    have hn97 : g9 ∉ [g7] := by have := hg7.lt; simp; omega
    clear hg9
    unfold opL at hg94
    replace hc2 := hc2.trans' hc24
    replace hm := hm.keep0 hc24
    replace hg7 := hg7.keep0 hc24
    replace x := x.keep0 hc24
    replace he := he.keep0 hc24
    refine go T 5 rfl ?_
    refine o1 rfl (op_load_agg T rfl rfl rfl rfl hg94 (by exact Nat.le_of_ble_eq_true rfl) (by exact rfl) ?_)
    refine o1 rfl ?_
    refine op_call rfl rfl rfl (saw_has y w4) ?_
    rintro _ w5 ⟨hc5, rfl⟩
    replace hc4 := hc4.trans' hc5
    replace hg94 := hg94.keep0 hc5
    replace hc24 := hc24.trans' hc5
    replace hc2 := hc2.trans' hc5
    replace hm := hm.keep0 hc5
    replace hg7 := hg7.keep0 hc5
    replace x := x.keep0 hc5
    replace he := he.keep0 hc5
    rw [seenM] at hse
    cases hsaw : sawM y with
    | false =>
      rw [if_neg (by simp [hsaw])] at hse
      refine go T 16 rfl ?_
      refine adI rfl rfl rfl rfl (by omega) (by omega) ?_
      refine go T 2 rfl ?_
      exact Round_n (i + 1, f) ⟨rfl, rfl, rfl, rfl, rfl, rfl, rfl, trivial⟩ ⟨by dsimp only; omega, hc2, x, hm, hg7, hse⟩ (by dsimp only; omega)
    | true =>
    by_cases hsq : y.seq = s
    · rw [if_pos ⟨hsaw, hsq⟩] at hse
      unfold opL at hg7
      refine go T 4 rfl ?_
      refine ldB T hg94 rfl rfl rfl rfl rfl rfl ?_
      refine go T 1 rfl ?_
      refine neF rfl rfl rfl rfl (by omega) ?_
      refine go T 10 rfl ?_
      refine ldB T hg7 rfl rfl rfl rfl rfl rfl ?_
      refine o1 rfl ?_
      refine op_eql_d rfl rfl rfl ?_
      refine go T 2 rfl ?_
      refine W_meet (σ := Unit) (fun _ => [(0, .pointer (some ⟨g, 0, none⟩)), (1, .int .i64 s), (2, .map (some r)), (7, .pointer (some ⟨g7, 0, none⟩)), (9, .pointer (some ⟨g9, 0, none⟩)), (15, .slice (some ad) sts.length cs), (16, .int .i64 sts.length), (17, .int .i64 i)])
        (fun _ w' => Chg [] w w' ∧ JAt w0 w' g ops chs sts [] vo vc (.slice (some ad) sts.length cs) (.slice none 0 0) ∧ MapAt (Value.int .i64) Value.bool w' r tk ∧ Blk w' g7 34 (opL (if f.done = 0 then y else f)) ∧ Blk w' g9 34 (opL y)) ?_ ?_
      · by_cases hd : f.done = 0
        · rw [if_pos hd, decide_eq_true hd]
          refine run ?_
          refine go T 2 rfl ?_
          refine o1 rfl (op_load_agg T rfl rfl rfl rfl hg94 (by exact Nat.le_of_ble_eq_true rfl) (by exact rfl) ?_)
          refine op0 rfl rfl ?_
          refine op_store_agg T rfl rfl rfl rfl rfl rfl hg7 (by exact Nat.le_of_ble_eq_true rfl) (fun w6 hc6 hg76 _ => ?_)
          have hg76 : Blk w6 g7 34 (opL y) := hg76
          have hg96 := hg94.keep hc6 hn97
          have hcw := hc2.trans hc6 (fun k hk hlt => by simp at hk; omega)
          refine go T 1 rfl ?_
          refine Meet_n () ⟨rfl, rfl, rfl, rfl, rfl, rfl, rfl, rfl, trivial⟩ ⟨hcw, x.keepN h7a h7c h7s (by simp [Value.ownBlock]) h7w hc6, hm.keep hc6 (by simp; exact fun h => h7r h.symm), hg76, hg96⟩
        · rw [if_neg hd, decide_eq_false hd]
          refine run ?_
          refine go T 2 rfl ?_
          exact Meet_n () ⟨rfl, rfl, rfl, rfl, rfl, rfl, rfl, rfl, trivial⟩ ⟨hc2, x, hm, hg7, hg94⟩
      · clear hg7 hg94 x hm hc2
        rintro _ w6 ⟨hc2, x, hm, hg7, hg94⟩
        generalize hf' : (if f.done = 0 then y else f) = f' at *
        clear hf'
        have hgo : takeM ops sts s (chs, tk) = none → ¬ (y.key = f'.key ∧ y.aval = f'.aval) → True := fun _ _ => trivial
        unfold opL at hg7 hg94
        by_cases hk1 : y.key = f'.key
        · by_cases hk2 : y.aval = f'.aval
          · rw [if_pos ⟨hk1, hk2⟩] at hse
            refine runX ?_
            refine go T 5 rfl ?_
            refine ldB T hg94 rfl rfl rfl rfl rfl rfl ?_
            refine go T 2 rfl ?_
            refine ldB T hg7 rfl rfl rfl rfl rfl rfl ?_
            refine o1 rfl ?_
            refine op_str_neq (a := y.key) (b := f'.key) rfl rfl rfl (fun h => absurd hk1 h) (fun h => ?_)
            refine go T 3 rfl ?_
            refine ldB T hg94 rfl rfl rfl rfl rfl rfl ?_
            refine go T 2 rfl ?_
            refine ldB T hg7 rfl rfl rfl rfl rfl rfl ?_
            refine o1 rfl ?_
            refine op_str_neq (a := y.aval) (b := f'.aval) rfl rfl rfl (fun h => absurd hk2 h) (fun h => ?_)
            refine go T 8 rfl ?_
            refine adI rfl rfl rfl rfl (by omega) (by omega) ?_
            refine go T 2 rfl ?_
            exact Round_n (i + 1, f') ⟨rfl, rfl, rfl, rfl, rfl, rfl, rfl, trivial⟩ ⟨by dsimp only; omega, hc2, x, hm, hg7, hse⟩ (by dsimp only; omega)
          · rw [if_neg (fun h => hk2 h.2)] at hse
            have htk : takeM ops sts s (chs, tk) = none := by unfold takeM; rw [hse]
            rw [htk]
            refine runX ?_
            refine go T 5 rfl ?_
            refine ldB T hg94 rfl rfl rfl rfl rfl rfl ?_
            refine go T 2 rfl ?_
            refine ldB T hg7 rfl rfl rfl rfl rfl rfl ?_
            refine o1 rfl ?_
            refine op_str_neq (a := y.key) (b := f'.key) rfl rfl rfl (fun h => absurd hk1 h) (fun h => ?_)
            refine go T 3 rfl ?_
            refine ldB T hg94 rfl rfl rfl rfl rfl rfl ?_
            refine go T 2 rfl ?_
            refine ldB T hg7 rfl rfl rfl rfl rfl rfl ?_
            refine o1 rfl ?_
            refine op_str_neq (a := y.aval) (b := f'.aval) rfl rfl rfl (fun h => ?_) (fun h => absurd h hk2)
            refine go T 12 rfl ?_
            refine rndR ?_
            refine go T 2 rfl ?_
            exact post1 (.inl rfl) rfl rfl ⟨rfl, x⟩
        · rw [if_neg (fun h => hk1 h.1)] at hse
          have htk : takeM ops sts s (chs, tk) = none := by unfold takeM; rw [hse]
          rw [htk]
          refine runX ?_
          refine go T 5 rfl ?_
          refine ldB T hg94 rfl rfl rfl rfl rfl rfl ?_
          refine go T 2 rfl ?_
          refine ldB T hg7 rfl rfl rfl rfl rfl rfl ?_
          refine o1 rfl ?_
          refine op_str_neq (a := y.key) (b := f'.key) rfl rfl rfl (fun h => ?_) (fun h => absurd h hk1)
          refine go T 20 rfl ?_
          refine rndR ?_
          refine go T 2 rfl ?_
          exact post1 (.inl rfl) rfl rfl ⟨rfl, x⟩
    · rw [if_neg (fun h => hsq h.2)] at hse
      refine go T 4 rfl ?_
      refine ldB T hg94 rfl rfl rfl rfl rfl rfl ?_
      refine go T 1 rfl ?_
      refine neT rfl rfl rfl rfl (by omega) ?_
      refine go T 9 rfl ?_
      refine adI rfl rfl rfl rfl (by omega) (by omega) ?_
      refine go T 2 rfl ?_
      exact Round_n (i + 1, f) ⟨rfl, rfl, rfl, rfl, rfl, rfl, rfl, trivial⟩ ⟨by dsimp only; omega, hc2, x, hm, hg7, hse⟩ (by dsimp only; omega)
  obtain rfl : i = sts.length := by omega
  rw [List.drop_length, seenM] at hse
  have hos := x.opsR
  have hb := x.blk
  obtain ⟨Ao, co, rfl, hl3, hl4⟩ := hos.form
  unfold maxLen at hl4
  refine go T 6 rfl ?_
  refine rndX ?_
  refine go T 8 rfl ?_
  refine ldB T hb rfl rfl rfl rfl rfl rfl ?_
  refine go T 5 rfl ?_
  clear hb
  refine W_loop (σ := Nat) (fun j => [(0, .pointer (some ⟨g, 0, none⟩)), (1, .int .i64 s), (2, .map (some r)), (7, .pointer (some ⟨g7, 0, none⟩)), (55, .slice Ao ops.length co), (56, .int .i64 ops.length), (57, .int .i64 j)])
    (fun j w' => j ≤ ops.length ∧ Chg [] w w' ∧ JAt w0 w' g ops chs sts [] (.slice Ao ops.length co) vc (.slice As sts.length cs) (.slice none 0 0) ∧ MapAt (Value.int .i64) Value.bool w' r tk ∧ Blk w' g7 34 (opL f) ∧ pickM tk f ops 0 = pickM tk f (ops.drop j) j)
    (fun j => ops.length - j) 0 ⟨rfl, rfl, rfl, rfl, rfl, rfl, rfl, trivial⟩ ⟨Nat.zero_le _, hc2, x, hm, hg7, rfl⟩ ?_
  clear x hm hg7 hos hc2 
  rintro j w3 ⟨hj, hc2, x, hm, hg7, hpk⟩
  refine run ?_
  refine go T 2 rfl ?_
  refine ltS rfl rfl rfl rfl (fun hcmp => ?_) (fun hcmp => ?_)
  · have hlt : j < ops.length := by omega
    have hx := List.getElem?_eq_getElem hlt
    obtain ⟨ad, rfl, he⟩ := x.opsR.at hx
    rw [List.drop_eq_getElem_cons hlt] at hpk
    generalize ops[j] = y at *
    refine go T 11 rfl ?_
    refine o1 rfl (op_indexK T rfl rfl rfl rfl rfl (by omega) ?_)
    refine o1 rfl (op_loadE T he rfl rfl rfl rfl rfl ?_)
    refine o1 rfl ?_
    refine op_alloc T rfl rfl (fun g9 w4 hs4 hc4 hg9 => ?_)
    have hs4 : w3.heap.size ≤ g9 := hs4
    have hg9 : Blk w4 g9 34 [.int .i64 0, .string (str []), .string (str []), .int .i64 0, .int .i64 0, .int .i64 0, .int .i64 0, .string (str []), .int .i64 0] := hg9
    refine go T 1 rfl ?_
    refine op0 rfl rfl ?_
    refine op_store_agg T rfl rfl rfl rfl rfl rfl hg9 (by exact Nat.le_of_ble_eq_true rfl) (fun w5 hc5 hg95 _ => ?_)
    have hg95 : Blk w5 g9 34 (opL y) := hg95
    have hc35 : Chg [] w3 w5 := hc4.trans hc5 (fun k hk hlt => by simp at hk; omega)
    have hgr : g9 ∉ [r] := by have := hm.lt; simp; omega
    have hgc : g9 ∉ vc.ownBlock.toList := fun hmem => by have := x.chs.lt (show vc.ownBlock = some g9 by simpa using hmem); omega
    clear hg9
    replace hc2 := hc2.trans' hc35
    replace hm := hm.keep0 hc35
    replace hg7 := hg7.keep0 hc35
    replace x := x.keep0 hc35
    replace he := he.keep0 hc35
    unfold opL at hg95 hg7
    refine go T 4 rfl ?_
    refine o1 rfl (op_load_agg T rfl rfl rfl rfl hg95 (by exact Nat.le_of_ble_eq_true rfl) (by exact rfl) ?_)
    refine o1 rfl ?_
    refine op_call rfl rfl rfl (open_has y w5) ?_
    rintro _ w6 ⟨hc6, rfl⟩
    replace hc5 := hc5.trans' hc6
    replace hg95 := hg95.keep0 hc6
    replace hc35 := hc35.trans' hc6
    replace hc2 := hc2.trans' hc6
    replace hm := hm.keep0 hc6
    replace hg7 := hg7.keep0 hc6
    replace x := x.keep0 hc6
    replace he := he.keep0 hc6
    rw [pickM] at hpk
    have hno : fitsM tk f y j = false → pickM tk f ops 0 = pickM tk f (ops.drop (j + 1)) (j + 1) := fun h => by rw [hpk, if_neg (by simp [h])]
    cases hopen : openM y with
    | false =>
      replace hno := hno (by unfold fitsM; simp [hopen])
      refine go T 37 rfl ?_
      refine adI rfl rfl rfl rfl (by omega) (by omega) ?_
      refine go T 2 rfl ?_
      exact Round_n (j + 1) ⟨rfl, rfl, rfl, rfl, rfl, rfl, rfl, trivial⟩ ⟨by omega, hc2, x, hm, hg7, hno⟩ (by omega)
    | true =>
    by_cases hk1 : y.kind = 1
    case neg =>
      replace hno := hno (by unfold fitsM; simp [hk1])
      refine go T 3 rfl ?_
      refine ldB T hg95 rfl rfl rfl rfl rfl rfl ?_
      refine eqF rfl rfl rfl rfl (by omega) ?_
      refine go T 32 rfl ?_
      refine adI rfl rfl rfl rfl (by omega) (by omega) ?_
      refine go T 2 rfl ?_
      exact Round_n (j + 1) ⟨rfl, rfl, rfl, rfl, rfl, rfl, rfl, trivial⟩ ⟨by omega, hc2, x, hm, hg7, hno⟩ (by omega)
    refine go T 3 rfl ?_
    refine ldB T hg95 rfl rfl rfl rfl rfl rfl ?_
    refine eqT rfl rfl rfl rfl (by omega) ?_
    refine go T 4 rfl ?_
    refine o1 rfl ?_
    refine op_lookup_v T (intKey .i64) (k := (j : Int)) (bv := Value.bool) rfl rfl rfl rfl rfl rfl hm (v := .bool (tkB tk j)) (fun b hb => by unfold tkB; rw [hb]; rfl) (fun hn => by unfold tkB; rw [hn]; rfl) ?_
    cases htb : tkB tk j with
    | true =>
      replace hno := hno (by unfold fitsM; simp [htb])
      refine go T 27 rfl ?_
      refine adI rfl rfl rfl rfl (by omega) (by omega) ?_
      refine go T 2 rfl ?_
      exact Round_n (j + 1) ⟨rfl, rfl, rfl, rfl, rfl, rfl, rfl, trivial⟩ ⟨by omega, hc2, x, hm, hg7, hno⟩ (by omega)
    | false =>
    by_cases hk2 : y.key = f.key
    case neg =>
      replace hno := hno (by unfold fitsM; simp [hk2])
      refine go T 5 rfl ?_
      refine ldB T hg95 rfl rfl rfl rfl rfl rfl ?_
      refine go T 2 rfl ?_
      refine ldB T hg7 rfl rfl rfl rfl rfl rfl ?_
      refine o1 rfl ?_
      refine op_str_eql (a := y.key) (b := f.key) rfl rfl rfl (fun h => absurd h hk2) (fun h => ?_)
      refine go T 17 rfl ?_
      refine adI rfl rfl rfl rfl (by omega) (by omega) ?_
      refine go T 2 rfl ?_
      exact Round_n (j + 1) ⟨rfl, rfl, rfl, rfl, rfl, rfl, rfl, trivial⟩ ⟨by omega, hc2, x, hm, hg7, hno⟩ (by omega)
    by_cases hk3 : y.val = f.aval
    case neg =>
      replace hno := hno (by unfold fitsM; simp [hk3])
      refine go T 5 rfl ?_
      refine ldB T hg95 rfl rfl rfl rfl rfl rfl ?_
      refine go T 2 rfl ?_
      refine ldB T hg7 rfl rfl rfl rfl rfl rfl ?_
      refine o1 rfl ?_
      refine op_str_eql (a := y.key) (b := f.key) rfl rfl rfl (fun h => ?_) (fun h => absurd hk2 h)
      refine go T 4 rfl ?_
      refine ldB T hg95 rfl rfl rfl rfl rfl rfl ?_
      refine go T 2 rfl ?_
      refine ldB T hg7 rfl rfl rfl rfl rfl rfl ?_
      refine o1 rfl ?_
      refine op_str_eql (a := y.val) (b := f.aval) rfl rfl rfl (fun h => absurd h hk3) (fun h => ?_)
      refine go T 8 rfl ?_
      refine adI rfl rfl rfl rfl (by omega) (by omega) ?_
      refine go T 2 rfl ?_
      exact Round_n (j + 1) ⟨rfl, rfl, rfl, rfl, rfl, rfl, rfl, trivial⟩ ⟨by omega, hc2, x, hm, hg7, hno⟩ (by omega)
    have htk : takeM ops sts s (chs, tk) = some (chs ++ [⟨y, s, false⟩], upd tk j true) := by
      unfold takeM
      rw [hse]
      dsimp only
      rw [hpk, if_pos (by unfold fitsM; simp [hopen, hk1, htb, hk2, hk3])]
    rw [htk]
    refine go T 5 rfl ?_
    refine ldB T hg95 rfl rfl rfl rfl rfl rfl ?_
    refine go T 2 rfl ?_
    refine ldB T hg7 rfl rfl rfl rfl rfl rfl ?_
    refine o1 rfl ?_
    refine op_str_eql (a := y.key) (b := f.key) rfl rfl rfl (fun h => ?_) (fun h => absurd hk2 h)
    refine go T 4 rfl ?_
    refine ldB T hg95 rfl rfl rfl rfl rfl rfl ?_
    refine go T 2 rfl ?_
    refine ldB T hg7 rfl rfl rfl rfl rfl rfl ?_
    refine o1 rfl ?_
    refine op_str_eql (a := y.val) (b := f.aval) rfl rfl rfl (fun h => ?_) (fun h => absurd hk3 h)
    refine go T 8 rfl ?_
    refine op0 rfl rfl ?_
    refine op_mapUpdate T (intKey .i64) (k := (j : Int)) (bv := Value.bool) (b := true) rfl rfl rfl rfl rfl rfl hm (fun w7 hc7 hm7 _ => ?_)
    replace x := x.keepM hm hr hc7
    replace hg95 := hg95.keep hc7 hgr
    replace hc2 : Chg [r] w w7 := (hc2.mono (by simp)).trans hc7 (fun k hk hlt => hk)
    have hjb := x.blk
    have hjs : g ∉ vc.ownBlock.toList := out_of x.blk x.chs (by decide)
    refine go T 3 rfl ?_
    refine Q.W_walkq 10 9 vc.ownBlock.toList fol (by kernel_rfl) (by kernel_rfl) ?_
    refine Q.Walk.plain rfl rfl (by intro val w_ hR hp; exact op_move rfl rfl ⟨Chg.refl _ _, rfl⟩) ?_; dsimp only [List.nil_append, List.cons_append]
    refine Q.Walk.plain rfl rfl (by intro val w_ hR hp; exact op_move rfl rfl ⟨Chg.refl _ _, rfl⟩) ?_; dsimp only [List.nil_append, List.cons_append]
    refine Q.Walk.plain rfl rfl (by intro val w_ hR hp; exact op_nilCheck rfl rfl ⟨Chg.refl _ _, rfl⟩) ?_; dsimp only [List.nil_append, List.cons_append]
    refine Q.Walk.plain rfl rfl (by intro val w_ hR hp; exact op_fieldAddr T rfl rfl rfl rfl rfl rfl rfl rfl ⟨Chg.refl _ _, rfl⟩) ?_; dsimp only [List.nil_append, List.cons_append]
    refine Q.Walk.plain rfl rfl (by intro val w_ hR hp; exact op_loadB T rfl rfl rfl rfl (hjb.keep hR (by assumption)) (by exact rfl) ⟨Chg.refl _ _, rfl⟩) ?_; dsimp only [List.nil_append, List.cons_append]
    refine Q.Walk.plain rfl rfl (by intro val w_ hR hp; exact op_load_agg T rfl rfl rfl rfl (hg95.keep hR (by assumption)) (by exact Nat.le_of_ble_eq_true rfl) (by exact rfl) ⟨Chg.refl _ _, rfl⟩) ?_; dsimp only [List.nil_append, List.cons_append]
    refine Q.Walk.plain rfl rfl (by intro val w_ hR hp; exact op_move rfl rfl ⟨Chg.refl _ _, rfl⟩) ?_; dsimp only [List.nil_append, List.cons_append]
    refine Q.Walk.plain (v := .agg (chL (ChgM.mk y s false)).toArray) rfl rfl (by intro val w_ hR hp; exact op_build T rfl rfl rfl rfl rfl rfl ⟨Chg.refl _ _, rfl⟩) ?_; dsimp only [List.nil_append, List.cons_append]
    refine Q.Walk.rel rfl (fun v w' => ∃ g5, v = .slice (some ⟨g5, 0, none⟩) 1 1 ∧ Blk w' g5 71 (chL (ChgM.mk y s false)) ∧ w7.heap.size ≤ g5) rfl (fun v a b ⟨g5, h1, h2, h3⟩ hab => ⟨g5, h1, h2.keep hab (fun hmem => by have := x.chs.lt (show vc.ownBlock = some g5 by simpa using hmem); omega), h3⟩) ?_ ?_
    · intro val w_ hR hp
      exact op_buildSlice T rfl rfl rfl rfl rfl rfl rfl (fun g5 w5 hs5 hc5 hg5 => ⟨hc5, g5, rfl, hg5, by have := hR.size; omega⟩)
    dsimp only [List.nil_append, List.cons_append]
    refine Q.Walk.turn rfl (fun v w' => Own w' 71 11 v (chs ++ [(ChgM.mk y s false)]).length ((chs ++ [(ChgM.mk y s false)]).flatMap chL) ∧ (v.ownBlock = vc.ownBlock ∨ ∃ h, v.ownBlock = some h ∧ w7.heap.size ≤ h)) rfl (fun v a b h hab => ⟨h.1.keep0 hab, h.2⟩) ?_ ?_
    · intro val w_ hR hp
      obtain ⟨g5, he5, hg5, hs5⟩ : ∃ g5, val 8 = .slice (some ⟨g5, 0, none⟩) 1 1 ∧ Blk w_ g5 71 (chL (ChgM.mk y s false)) ∧ w7.heap.size ≤ g5 := hp 8 rfl _ _ rfl rfl
      exact op_appendK T chL_len rfl rfl rfl (congrArg some he5) rfl rfl rfl rfl rfl rfl (x.chs.keep0 hR) hg5 (chL_one _) (by omega) (fun v w6 hu6 hc6 hb6 => ⟨hc6, hu6, hb6.imp id (fun ⟨h, h1, h2⟩ => ⟨h, h1, by have := hR.size; omega⟩)⟩)
    dsimp only [List.nil_append, List.cons_append]
    refine Q.Walk.fin ?_
    intro val w8 hc8 hp
    obtain ⟨ho8, hb8⟩ : Own w8 71 11 (val 9) (chs ++ [(ChgM.mk y s false)]).length ((chs ++ [(ChgM.mk y s false)]).flatMap chL) ∧ ((val 9).ownBlock = vc.ownBlock ∨ ∃ h, (val 9).ownBlock = some h ∧ w7.heap.size ≤ h) := hp 9 (by omega) _ _ rfl rfl
    clear hp
    refine WL_sub (e' := [(96, .pointer (some ⟨g, 0, none⟩)), (105, val 9)]) ⟨rfl, rfl, trivial⟩ ?_
    generalize val 9 = u8 at ho8 hb8
    obtain ⟨A8, c8, rfl, _, _⟩ := ho8.form
    have hj8 := hjb.keep hc8 hjs
    refine runL ?_
    refine go T 2 rfl ?_
    refine op0 rfl rfl ?_
    refine op_store T rfl rfl rfl rfl rfl rfl hj8 (by simp) (fun w9 hc9 hj9 _ => ?_)
    have hj9 : Blk w9 g 54 [.slice (some ad) ops.length co, .slice A8 (chs ++ [(ChgM.mk y s false)]).length c8, .slice As sts.length cs, .slice none 0 0] := hj9
    refine go T 10 rfl ?_
    refine rndR ?_
    refine go T 2 rfl ?_
    have hrc : r ∉ vc.ownBlock.toList := fun hmem => by
      obtain ⟨cur, hbb⟩ := x.chs.row (show vc.ownBlock = some r by simpa using hmem)
      exact hm7.ne_blk hbb rfl
    have hrg : r ∉ [g] := fun hmem => by simp at hmem; exact hm7.ne_blk x.blk hmem
    refine post1 (.inl rfl) rfl rfl ⟨rfl, _, x.setChs hc8 ho8 hb8 hc9 hj9, (hm7.keep hc8 hrc).keep hc9 hrg, by rw [List.length_append, List.length_singleton], ?_⟩
    refine ((hc2.mono (S' := r :: g :: vc.ownBlock.toList) (fun k hk _ => by simp at hk; simp [hk])).trans hc8 (fun k hk _ => by simp at hk; simp [hk])).trans hc9 (fun k hk _ => by simp at hk; simp [hk])
  · obtain rfl : j = ops.length := by omega
    rw [List.drop_length, pickM] at hpk
    have htk : takeM ops sts s (chs, tk) = none := by unfold takeM; rw [hse]; dsimp only; rw [hpk]
    rw [htk]
    refine go T 6 rfl ?_
    refine rndX ?_
    refine go T 8 rfl ?_
    exact post1 (.inl rfl) rfl rfl ⟨rfl, x⟩
end
end Go.Proofs.Ytjkbbkomajjegaa.Try
/-! History: found. -/
set_option linter.unusedVariables false
namespace Go.Vc
open Go
/-! ### Sorting in plain words -/
section
variable {α : Type} {le : α → α → Bool}
def insM (le : α → α → Bool) (x : α) : List α → List α
  | [] => [x]
  | y :: l => if le x y = true then x :: y :: l else y :: insM le x l
def isM (le : α → α → Bool) : List α → List α
  | [] => []
  | x :: l => insM le x (isM le l)
theorem insM_perm (x : α) : ∀ l : List α, (insM le x l).Perm (x :: l)
  | [] => List.Perm.refl _
  | y :: l => by
    unfold insM
    split
    · exact List.Perm.refl _
    · exact ((insM_perm x l).cons y).trans (List.Perm.swap x y l)
theorem isM_perm : ∀ l : List α, (isM le l).Perm l
  | [] => List.Perm.refl _
  | x :: l => (insM_perm x _).trans ((isM_perm l).cons x)
theorem insM_sorted (ht : ∀ x y, le x y = true ∨ le y x = true) (htr : ∀ x y z, le x y = true → le y z = true → le x z = true) (x : α) : ∀ {l : List α}, l.Pairwise (fun a b => le a b = true) → (insM le x l).Pairwise (fun a b => le a b = true)
  | [], _ => by simp [insM]
  | y :: l, h => by
    rw [List.pairwise_cons] at h
    unfold insM
    split
    · rename_i hxy
      rw [List.pairwise_cons]
      refine ⟨fun z hz => ?_, List.pairwise_cons.2 h⟩
      rcases List.mem_cons.1 hz with rfl | hz
      · exact hxy
      · exact htr _ _ _ hxy (h.1 z hz)
    · rename_i hxy
      rw [List.pairwise_cons]
      refine ⟨fun z hz => ?_, insM_sorted ht htr x h.2⟩
      have hz' := (insM_perm x l).mem_iff.1 hz
      rcases List.mem_cons.1 hz' with rfl | hz'
      · rcases ht z y with h1 | h1
        · exact absurd h1 hxy
        · exact h1
      · exact h.1 z hz'
theorem isM_sorted (ht : ∀ x y, le x y = true ∨ le y x = true) (htr : ∀ x y z, le x y = true → le y z = true → le x z = true) : ∀ l : List α, (isM le l).Pairwise (fun a b => le a b = true)
  | [] => List.Pairwise.nil
  | x :: l => insM_sorted ht htr x (isM_sorted ht htr l)
/-- Two sorted lists of the same elements, none of which ties with another, are one. -/
theorem perm_sorted_eq {R : α → α → Prop} (ha : ∀ x y, R x y → R y x → x = y) : ∀ {l l' : List α}, l.Perm l' → l.Pairwise R → l'.Pairwise R → l = l'
  | [], l', hp, _, _ => (List.Perm.nil_eq hp)
  | x :: l, [], hp, _, _ => by have := hp.length_eq; simp at this
  | x :: l, y :: l', hp, h, h' => by
    rw [List.pairwise_cons] at h h'
    have hxy : x = y := by
      rcases List.mem_cons.1 (hp.mem_iff.1 (List.mem_cons_self ..)) with e | hx
      · exact e
      rcases List.mem_cons.1 (hp.mem_iff.2 (List.mem_cons_self ..)) with e | hy
      · exact e.symm
      exact ha _ _ (h.1 y hy) (h'.1 x hx)
    subst hxy
    rw [perm_sorted_eq ha ((List.perm_cons x).1 hp) h.2 h'.2]
end
def leI (x y : Int) : Bool := decide (x ≤ y)
theorem sortI_eq (L : List Int) : sortI L = isM leI L := by
  refine perm_sorted_eq (R := fun x y : Int => x ≤ y) (fun x y h1 h2 => by omega) ((List.mergeSort_perm L _).trans (isM_perm L).symm) ?_ ?_
  · have := List.pairwise_mergeSort (le := fun x y : Int => decide (x ≤ y)) (fun a b c h1 h2 => by simp at *; omega) (fun a b => by simp; omega) L
    exact this.imp (fun h => by simpa using h)
  · have := isM_sorted (le := leI) (fun x y => by unfold leI; simp; omega) (fun x y z h1 h2 => by unfold leI at *; simp at *; omega) L
    exact this.imp (fun h => by unfold leI at h; simpa using h)
/-- What is left of a sorted list without its repetitions rises. -/
theorem compact_rises {L : List Int} (h : L.Pairwise (fun x y => x ≤ y)) : (Lib.compact L).Pairwise (fun x y => x < y) := by
  unfold Lib.compact Lib.compactUpTo
  rw [List.pairwise_map, List.pairwise_filter]
  refine List.pairwise_lt_range.imp_of_mem (fun {i j} hi hj hij _ hk => ?_)
  have hj' : j < L.length := List.mem_range.1 hj
  have hne : L.toArray[j]! ≠ L.toArray[j - 1]! := by
    unfold Lib.keeps at hk
    rcases of_decide_eq_true hk with e | e
    · omega
    · exact e
  have hg : ∀ k, k < L.length → L.toArray[k]! = L[k]! := fun k hk => by simp
  have hget : ∀ a b : Nat, a ≤ b → b < L.length → L.toArray[a]! ≤ L.toArray[b]! := fun a b hab hb => by
    rw [hg a (by omega), hg b hb]
    rcases Nat.lt_or_eq_of_le hab with hlt | rfl
    · have := List.pairwise_iff_getElem.1 h a b (by omega) hb hlt
      simpa [show a < L.length by omega, hb] using this
    · omega
  have h1 := hget i (j - 1) (by omega) (by omega)
  have h2 := hget (j - 1) j (by omega) hj'
  omega
theorem compact_mem {L : List Int} {x : Int} (h : x ∈ Lib.compact L) : x ∈ L := by
  unfold Lib.compact Lib.compactUpTo at h
  obtain ⟨j, hj, rfl⟩ := List.mem_map.1 h
  have := List.mem_range.1 (List.mem_filter.1 hj).1
  simp [this]
/-! ### found -/
def seqsM (chs : List ChgM) : List OpM → List Int → Option (List Int)
  | [], q => some q
  | o :: l, q =>
    if sawM o = true then
      if o.seq < 1 then none
      else if findM chs o.seq < 0 then seqsM chs l (q ++ [o.seq])
      else match chs[(findM chs o.seq).toNat]? with
        | some c => if c.o.kind = 1 ∧ c.o.key = o.key ∧ c.o.val = o.aval then seqsM chs l q else none
        | none => none
    else seqsM chs l q
def takesM (ops sts : List OpM) : List Int → List ChgM × TkM → Option (List ChgM × TkM)
  | [], p => some p
  | s :: l, p => match takeM ops sts s p with
    | none => none
    | some p' => takesM ops sts l p'
def leC (x y : ChgM) : Bool := decide (x.seq ≤ y.seq)
def foundM (ops sts : List OpM) (chs : List ChgM) : Option (List ChgM) :=
  match seqsM chs sts [] with
  | none => none
  | some q => match takesM ops sts (Lib.compact (isM leI q)) (chs, fun _ => none) with
    | none => none
    | some p => some (isM leC p.1)
theorem takeM_chs {ops sts : List OpM} {s : Int} {p p' : List ChgM × TkM} (h : takeM ops sts s p = some p') : ∃ o ∈ ops, openM o = true ∧ o.kind = 1 ∧ p'.1 = p.1 ++ [⟨o, s, false⟩] := by
  have hpk : ∀ (tk : TkM) (f : OpM) (l : List OpM) (i : Nat) (q : Nat × OpM), pickM tk f l i = some q → q.2 ∈ l ∧ openM q.2 = true ∧ q.2.kind = 1 := by
    intro tk f l
    induction l with
    | nil => intro i q h; simp [pickM] at h
    | cons o l ih =>
      intro i q h
      rw [pickM] at h
      split at h
      · rename_i hf
        injection h with h; subst h
        unfold fitsM at hf
        have := of_decide_eq_true hf
        exact ⟨by simp, this.1, this.2.1⟩
      · obtain ⟨h1, h2⟩ := ih _ _ h
        exact ⟨by simp [h1], h2⟩
  unfold takeM at h
  split at h
  · cases h
  · split at h
    · cases h
    · rename_i q hq
      injection h with h; subst h
      obtain ⟨h1, h2, h3⟩ := hpk _ _ _ _ _ hq
      exact ⟨q.2, h1, h2, h3, rfl⟩
theorem takesM_seqs {ops sts : List OpM} : ∀ {l : List Int} {p p' : List ChgM × TkM}, takesM ops sts l p = some p' → p'.1.map ChgM.seq = p.1.map ChgM.seq ++ l
  | [], p, p', h => by simp [takesM] at h; subst h; simp
  | s :: l, p, p', h => by
    rw [takesM] at h
    split at h
    · cases h
    · rename_i p1 h1
      obtain ⟨o, _, _, _, e⟩ := takeM_chs h1
      rw [takesM_seqs h, e]
      simp
theorem seqsM_out {chs : List ChgM} : ∀ {sts : List OpM} {q q' : List Int}, seqsM chs sts q = some q' → (∀ s ∈ q, s ∉ chs.map ChgM.seq ∧ 1 ≤ s) → ∀ s ∈ q', s ∉ chs.map ChgM.seq ∧ 1 ≤ s
  | [], q, q', h, hq => by simp [seqsM] at h; subst h; exact hq
  | o :: l, q, q', h, hq => by
    rw [seqsM] at h
    split at h
    · split at h
      · cases h
      split at h
      · rename_i h1 h2
        refine seqsM_out h (fun s hs => ?_)
        rcases List.mem_append.1 hs with hs | hs
        · exact hq s hs
        · simp at hs; subst hs
          refine ⟨fun hm => ?_, by omega⟩
          obtain ⟨c, hc, e⟩ := List.mem_map.1 hm
          have := idxM_neg h2 c hc
          simp [e] at this
      · split at h
        · split at h
          · exact seqsM_out h hq
          · cases h
        · cases h
    · exact seqsM_out h hq
theorem seqsM_len {chs : List ChgM} : ∀ {sts : List OpM} {q q' : List Int}, seqsM chs sts q = some q' → q'.length ≤ q.length + sts.length
  | [], q, q', h => by simp [seqsM] at h; subst h; simp
  | o :: l, q, q', h => by
    rw [seqsM] at h
    split at h
    · split at h
      · cases h
      split at h
      · have := seqsM_len h; simp at this ⊢; omega
      · split at h
        · split at h
          · have := seqsM_len h; simp at this ⊢; omega
          · cases h
        · cases h
    · have := seqsM_len h; simp at this ⊢; omega
/-- The numbers of what is found are all different. -/
theorem takes_nodup {ops sts : List OpM} {chs : List ChgM} {q : List Int} {p : List ChgM × TkM} (hn : (chs.map ChgM.seq).Nodup) (hq : seqsM chs sts [] = some q) (hp : takesM ops sts (Lib.compact (isM leI q)) (chs, fun _ => none) = some p) : (p.1.map ChgM.seq).Nodup := by
  rw [takesM_seqs hp]
  have hs : (isM leI q).Pairwise (fun x y => x ≤ y) := (isM_sorted (le := leI) (fun x y => by unfold leI; simp; omega) (fun x y z h1 h2 => by unfold leI at *; simp at *; omega) q).imp (fun h => by unfold leI at h; simpa using h)
  refine List.nodup_append.2 ⟨hn, (compact_rises hs).imp (fun h => by omega), fun a ha b hb e => ?_⟩
  subst e
  have hb' := (isM_perm q).mem_iff.1 (compact_mem hb)
  exact (seqsM_out hq (by simp) a hb').1 ha
theorem sortC_unique {L L' : List ChgM} (hn : (L.map ChgM.seq).Nodup) (hp : L'.Perm L) (hs : L'.Pairwise (fun x y => x.seq ≤ y.seq)) : L' = isM leC L := by
  have hs2 : (isM leC L).Pairwise (fun x y => x.seq ≤ y.seq) := (isM_sorted (le := leC) (fun x y => by unfold leC; simp; omega) (fun x y z h1 h2 => by unfold leC at *; simp at *; omega) L).imp (fun h => by unfold leC at h; simpa using h)
  have hn1 : (L'.map ChgM.seq).Nodup := (hp.map ChgM.seq).nodup_iff.2 hn
  have hn2 : ((isM leC L).map ChgM.seq).Nodup := ((isM_perm (le := leC) L).map ChgM.seq).nodup_iff.2 hn
  have strict : ∀ {M : List ChgM}, (M.map ChgM.seq).Nodup → M.Pairwise (fun x y => x.seq ≤ y.seq) → M.Pairwise (fun x y => x.seq < y.seq) := fun {M} h1 h2 => by
    unfold List.Nodup at h1
    rw [List.pairwise_map] at h1
    exact (h1.and h2).imp (fun h => by omega)
  exact perm_sorted_eq (R := fun x y : ChgM => x.seq < y.seq) (fun x y h1 h2 => by omega) (hp.trans (isM_perm L).symm) (strict hn1 hs) (strict hn2 hs2)
section
variable {P : Program} {N : Nat} {e : Env} {w : World} {o : Oper} {K : Value → World → Prop}
theorem op_append1 (T : Types P) {α : Type} {f : α → Value} {x y : Operand} {t el : TypeId} {d : TInfo} {v : Value} {g5 c : Nat} {L : List α} {a : α} {ts : Array TypeId}
    (hop : o.op = .call { callee := .builtin .append, args := #[x, y], argTypes := ts }) (hts : ts = #[t, t]) (hx : ev e x = some v) (hy : ev e y = some (.slice (some ⟨g5, 0, none⟩) 1 c)) (ht : T.d t = some (.slice el)) (hel : T.tbl el = some d)
    (hz : Nat.beq d.zero.cells.size d.size = true) (hsz : Nat.beq d.size 1 = true) (hby : Nat.ble d.bytes 1000 = true)
    (hown : Own w el 1 v L.length (L.map f)) (hg : Blk w g5 el [f a]) (h1 : (f a).oneCell' = true) (hlim : L.length < 1000000)
    (h : ∀ v' w1, Own w1 el 1 v' (L ++ [a]).length ((L ++ [a]).map f) → Chg v.ownBlock.toList w w1 → (v'.ownBlock = v.ownBlock ∨ ∃ g, v'.ownBlock = some g ∧ w.heap.size ≤ g) → K v' w1) : OpW P N o e w K := by
  have hm : ∀ l : List α, l.map f = l.flatMap (fun x => [f x]) := fun l => by induction l with
    | nil => rfl
    | cons a l ih => simp [ih]
  refine op_appendK T (f := fun x => [f x]) (k := 1) (a := a) (fun _ => rfl) hop hts hx hy ht hel hz (by rw [Nat.eq_of_beq_eq_true hsz]; rfl) hsz hby (by rw [← hm]; exact hown) hg (by simpa using h1) hlim (fun v' w1 ho hc hb => h v' w1 (by rw [hm]; exact ho) hc hb)
end
end Go.Vc
/-! History: found, walked. -/
set_option linter.unusedVariables false
namespace Go.Proofs.Ytjkbbkomajjegaa.Try
open Go Go.Vc
section
variable {w0 w w1 : World} {g r : Nat} {ops : List OpM} {chs : List ChgM} {sts : List OpM} {pls : List Int} {vo vc vs vp : Value} {tk : TkM}
theorem JAt.keepS {S : List Nat} (x : JAt w0 w g ops chs sts pls vo vc vs vp) (h1 : g ∉ S) (h2 : ∀ k, vc.ownBlock = some k → k ∉ S) (h3 : ∀ k, vs.ownBlock = some k → k ∉ S) (h4 : ∀ k, vp.ownBlock = some k → k ∉ S) (hr : ∀ k ∈ S, w0.heap.size ≤ k) (hc : Chg S w w1) : JAt w0 w1 g ops chs sts pls vo vc vs vp :=
  ⟨x.chg.trans hc (fun k hk hlt => by have := hr k hk; omega), x.blk.keep hc h1, x.fr, x.ops, x.chs.keep hc h2, x.frc, x.sts.keep hc h3, x.frs, x.pls.keep hc h4, x.frp⟩
/-- A row of numbers of the call's own beside a judge without places. -/
theorem JAt.keepI {u : Value} {n : Nat} {xs : List Value} (x : JAt w0 w g ops chs sts [] vo vc vs (.slice none 0 0)) (hu : Own w 2 1 u n xs) (hf : ∀ h, u.ownBlock = some h → w0.heap.size ≤ h) (hc : Chg u.ownBlock.toList w w1) : JAt w0 w1 g ops chs sts [] vo vc vs (.slice none 0 0) :=
  x.keepS (out_of x.blk hu (by decide)) (out_own x.chs hu (by decide)) (out_own x.sts hu (by decide)) (fun k hk => by simp [Value.ownBlock] at hk) (fun k hk => hf k (by simpa using hk)) hc
theorem map_flat {α : Type} (f : α → Value) (L : List α) : L.map f = L.flatMap (fun x => [f x]) := by
  induction L with
  | nil => rfl
  | cons a l ih => simp [ih]
set_option maxHeartbeats 4000000 in
theorem found_has (x : JAt w0 w g ops chs sts [] vo vc vs (.slice none 0 0)) (hn : (chs.map ChgM.seq).Nodup) (hlc : chs.length ≤ 1000) (hls : sts.length ≤ 1000) (hlo : ops.length ≤ 1000) :
    Has Go.Proofs.Try.prog 20 #[ptrB g] w (fun v w' => match foundM ops sts chs with
      | none => v = .bool false ∧ Chg [] w0 w'
      | some L => v = .bool true ∧ ∃ vc', JAt w0 w' g ops L sts [] vo vc' vs (.slice none 0 0)) := by
  refine enter Go.Proofs.Try.func20 rfl rfl (by decide) rfl (e := [(0, ptrB g)]) ⟨rfl, trivial⟩ ?_
  unfold ptrB
  have hb := x.blk
  have hss := x.stsR
  obtain ⟨As, cs, rfl, hl1, hl2⟩ := hss.form
  unfold maxLen at hl2
  refine run ?_
  refine go T 16 rfl ?_
  refine ldB T hb rfl rfl rfl rfl rfl rfl ?_
  refine go T 5 rfl ?_
  clear hb
  refine W_loop (σ := Nat × List Int × Value) (fun s => [(0, .pointer (some ⟨g, 0, none⟩)), (3, s.2.2), (13, .slice As sts.length cs), (14, .int .i64 sts.length), (15, .int .i64 s.1)])
    (fun s w' => s.1 ≤ sts.length ∧ s.2.1.length ≤ s.1 ∧ JAt w0 w' g ops chs sts [] vo vc (.slice As sts.length cs) (.slice none 0 0) ∧ Own w' 2 1 s.2.2 s.2.1.length (s.2.1.map i64V) ∧ (∀ h, s.2.2.ownBlock = some h → w0.heap.size ≤ h) ∧ seqsM chs sts [] = seqsM chs (sts.drop s.1) s.2.1)
    (fun s => sts.length - s.1) (0, [], .slice none 0 0) ⟨rfl, rfl, rfl, rfl, rfl, trivial⟩ ⟨Nat.zero_le _, Nat.zero_le _, x, Own.nil _ _ _, fun h hh => by simp [Value.ownBlock] at hh, rfl⟩ ?_
  clear x hss
  rintro ⟨i, q, u⟩ w1 ⟨hi, hql, x, hu, huf, hsq⟩
  dsimp only at hi hql x hu huf hsq ⊢
  refine run ?_
  refine go T 2 rfl ?_
  refine ltS rfl rfl rfl rfl (fun hcmp => ?_) (fun hcmp => ?_)
  · have hlt : i < sts.length := by omega
    have hx := List.getElem?_eq_getElem hlt
    obtain ⟨ad, rfl, he⟩ := x.stsR.at hx
    rw [List.drop_eq_getElem_cons hlt, seqsM] at hsq
    generalize sts[i] = y at *
    refine go T 10 rfl ?_
    refine o1 rfl (op_indexK T rfl rfl rfl rfl rfl (by omega) ?_)
    refine o1 rfl (op_loadE T he rfl rfl rfl rfl rfl ?_)
    refine o1 rfl ?_
    refine op_alloc T rfl rfl (fun g5 w3 hs3 hc3 hg5 => ?_)
    have hs3 : w1.heap.size ≤ g5 := hs3
    have hg5 : Blk w3 g5 34 [.int .i64 0, .string (str []), .string (str []), .int .i64 0, .int .i64 0, .int .i64 0, .int .i64 0, .string (str []), .int .i64 0] := hg5
    refine op0 rfl rfl ?_
    refine op_store_agg T rfl rfl rfl rfl rfl rfl hg5 (by exact Nat.le_of_ble_eq_true rfl) (fun w4 hc4 hg54 _ => ?_)
    have hg54 : Blk w4 g5 34 (opL y) := hg54
    have hc14 : Chg [] w1 w4 := hc3.trans hc4 (fun k hk hlt => by simp at hk; omega)
    clear hg5
    replace hu := hu.keep0 hc14
    replace x := x.keep0 hc14
    replace he := he.keep0 hc14
    unfold opL at hg54
    refine go T 5 rfl ?_
    refine o1 rfl (op_load_agg T rfl rfl rfl rfl hg54 (by exact Nat.le_of_ble_eq_true rfl) (by exact rfl) ?_)
    refine o1 rfl ?_
    refine op_call rfl rfl rfl (saw_has y w4) ?_
    rintro _ w5 ⟨hc5, rfl⟩
    replace hc4 := hc4.trans' hc5
    replace hg54 := hg54.keep0 hc5
    replace hc14 := hc14.trans' hc5
    replace hu := hu.keep0 hc5
    replace x := x.keep0 hc5
    replace he := he.keep0 hc5
    cases hsaw : sawM y with
    | false =>
      rw [if_neg (by simp [hsaw])] at hsq
      refine go T 9 rfl ?_
      refine adI rfl rfl rfl rfl (by omega) (by omega) ?_
      refine go T 2 rfl ?_
      exact Round_n (i + 1, q, u) ⟨rfl, rfl, rfl, rfl, rfl, trivial⟩ ⟨by dsimp only; omega, by dsimp only; omega, x, hu, huf, hsq⟩ (by dsimp only; omega)
    | true =>
    rw [if_pos hsaw] at hsq
    refine go T 11 rfl ?_
    refine ldB T hg54 rfl rfl rfl rfl rfl rfl ?_
    refine o1 rfl ?_
    refine op_call rfl rfl rfl (find_has x y.seq) ?_
    rintro _ w6 ⟨hc6, rfl⟩
    replace hc5 := hc5.trans' hc6
    replace hc4 := hc4.trans' hc6
    replace hg54 := hg54.keep0 hc6
    replace hc14 := hc14.trans' hc6
    replace hu := hu.keep0 hc6
    replace x := x.keep0 hc6
    replace he := he.keep0 hc6
    have hnone : seqsM chs sts [] = none → foundM ops sts chs = none := fun h => by unfold foundM; rw [h]
    by_cases hsq1 : y.seq < 1
    · rw [if_pos hsq1] at hsq
      rw [hnone hsq]
      refine go T 8 rfl ?_
      refine ldB T hg54 rfl rfl rfl rfl rfl rfl ?_
      refine ltT rfl rfl rfl rfl (by omega) ?_
      refine go T 13 rfl ?_
      refine rndR ?_
      refine go T 2 rfl ?_
      exact post1 (.inl rfl) rfl rfl ⟨rfl, x.chg⟩
    rw [if_neg hsq1] at hsq
    by_cases hfd : findM chs y.seq < 0
    · rw [if_pos hfd] at hsq
      refine go T 8 rfl ?_
      refine ldB T hg54 rfl rfl rfl rfl rfl rfl ?_
      refine ltF rfl rfl rfl rfl (by omega) ?_
      refine go T 7 rfl ?_
      refine ltT rfl rfl rfl rfl (by omega) ?_
      refine go T 8 rfl ?_
      refine ldB T hg54 rfl rfl rfl rfl rfl rfl ?_
      refine o1 rfl ?_
      refine op_buildSlice T rfl rfl rfl rfl rfl rfl rfl (fun g6 w7 hs7 hc7 hg6 => ?_)
      have hs7 : w6.heap.size ≤ g6 := hs7
      have hg6 : Blk w7 g6 2 [i64V y.seq] := hg6
      replace hc6 := hc6.trans' hc7
      replace hc5 := hc5.trans' hc7
      replace hc4 := hc4.trans' hc7
      replace hg54 := hg54.keep0 hc7
      replace hc14 := hc14.trans' hc7
      replace hu := hu.keep0 hc7
      replace x := x.keep0 hc7
      replace he := he.keep0 hc7
      refine o1 rfl ?_
      refine op_append1 T rfl rfl rfl rfl rfl rfl rfl rfl rfl hu hg6 rfl (by omega) (fun u' w8 hu8 hc8 hb8 => ?_)
      have hsz := x.chg.size
      replace x := x.keepI hu huf hc8
      have huf' : ∀ h, u'.ownBlock = some h → w0.heap.size ≤ h := fun h hh => by
        rcases hb8 with hb8 | ⟨h', hb8, hge⟩
        · exact huf h (by rw [← hb8]; exact hh)
        · rw [hb8] at hh; injection hh with hh
          omega
      refine go T 6 rfl ?_
      refine adI rfl rfl rfl rfl (by omega) (by omega) ?_
      refine go T 2 rfl ?_
      exact Round_n (i + 1, q ++ [y.seq], u') ⟨rfl, rfl, rfl, rfl, rfl, trivial⟩ ⟨by dsimp only; omega, by dsimp only; rw [List.length_append, List.length_singleton]; omega, x, hu8, huf', hsq⟩ (by dsimp only; omega)
    rw [if_neg hfd] at hsq
    obtain ⟨c, hc, hcs⟩ := idxM_at hfd
    change chs[(findM chs y.seq).toNat]? = some c at hc
    rw [hc] at hsq
    dsimp only at hsq
    obtain ⟨k, hk⟩ := Int.eq_ofNat_of_zero_le (show 0 ≤ findM chs y.seq by omega)
    rw [hk] at hc ⊢
    rw [Int.toNat_natCast] at hc
    have hkl : k < chs.length := (List.getElem?_eq_some_iff.1 hc).1
    have hb := x.blk
    have hcr := x.chsR
    obtain ⟨Ac, cc, rfl, hl3, hl4⟩ := hcr.form
    obtain ⟨ac, rfl, hce⟩ := hcr.at hc
    unfold chL opL at hce
    by_cases hk1 : c.o.kind = 1
    case neg =>
      rw [if_neg (fun h => hk1 h.1)] at hsq
      rw [hnone hsq]
      refine go T 8 rfl ?_
      refine ldB T hg54 rfl rfl rfl rfl rfl rfl ?_
      refine ltF rfl rfl rfl rfl (by omega) ?_
      refine go T 7 rfl ?_
      refine ltF rfl rfl rfl rfl (by omega) ?_
      refine go T 5 rfl ?_
      refine W_walk 41 [] fol (by kernel_rfl) (by kernel_rfl) ?_
      refine Walk.plain rfl (by intro val w_ hR hp; exact op_move rfl rfl ⟨Chg.refl _ _, rfl⟩) ?_; dsimp only [List.nil_append, List.cons_append]
      refine Walk.plain rfl (by intro val w_ hR hp; exact op_nilCheck rfl rfl ⟨Chg.refl _ _, rfl⟩) ?_; dsimp only [List.nil_append, List.cons_append]
      refine Walk.plain rfl (by intro val w_ hR hp; exact op_fieldAddr T rfl rfl rfl rfl rfl rfl rfl rfl ⟨Chg.refl _ _, rfl⟩) ?_; dsimp only [List.nil_append, List.cons_append]
      refine Walk.plain rfl (by intro val w_ hR hp; exact op_loadB T rfl rfl rfl rfl (hb.keep0 hR) (by exact rfl) ⟨Chg.refl _ _, rfl⟩) ?_; dsimp only [List.nil_append, List.cons_append]
      refine Walk.plain rfl (by intro val w_ hR hp; exact op_move rfl rfl ⟨Chg.refl _ _, rfl⟩) ?_; dsimp only [List.nil_append, List.cons_append]
      refine Walk.plain rfl (by intro val w_ hR hp; exact op_indexK T rfl rfl rfl rfl rfl (by omega) ⟨Chg.refl _ _, rfl⟩) ?_; dsimp only [List.nil_append, List.cons_append]
      refine Walk.plain rfl (by intro val w_ hR hp; exact op_fieldAddr T rfl rfl rfl rfl rfl rfl rfl rfl ⟨Chg.refl _ _, rfl⟩) ?_; dsimp only [List.nil_append, List.cons_append]
      refine Walk.plain rfl (by intro val w_ hR hp; exact op_fieldAddr T rfl rfl rfl rfl rfl rfl rfl rfl ⟨Chg.refl _ _, rfl⟩) ?_; dsimp only [List.nil_append, List.cons_append]
      refine Walk.plain rfl (by intro val w_ hR hp; exact op_fieldAddr T rfl rfl rfl rfl rfl rfl rfl rfl ⟨Chg.refl _ _, rfl⟩) ?_; dsimp only [List.nil_append, List.cons_append]
      refine Walk.plain rfl (by intro val w_ hR hp; exact op_loadF T (hce.keep0 hR) rfl rfl rfl rfl rfl ⟨Chg.refl _ _, rfl⟩) ?_; dsimp only [List.nil_append, List.cons_append]
      refine Walk.plain rfl (by intro val w_ hR hp; exact op_neq rfl rfl rfl (fun hcmp => ⟨Chg.refl _ _, rfl⟩) (fun hcmp => False.elim (by omega))) ?_; dsimp only [List.nil_append, List.cons_append]
      refine Walk.plain rfl (by intro val w_ hR hp; exact op_move rfl rfl ⟨Chg.refl _ _, rfl⟩) ?_; dsimp only [List.nil_append, List.cons_append]
      refine Walk.guardF rfl rfl rfl (fun _ => rfl) rfl ?_; dsimp only [List.nil_append, List.cons_append]
      refine Walk.guardF rfl rfl rfl (fun _ => rfl) rfl ?_; dsimp only [List.nil_append, List.cons_append]
      refine Walk.guardF rfl rfl rfl (fun _ => rfl) rfl ?_; dsimp only [List.nil_append, List.cons_append]
      refine Walk.guardF rfl rfl rfl (fun _ => rfl) rfl ?_; dsimp only [List.nil_append, List.cons_append]
      refine Walk.guardF rfl rfl rfl (fun _ => rfl) rfl ?_; dsimp only [List.nil_append, List.cons_append]
      refine Walk.guardF rfl rfl rfl (fun _ => rfl) rfl ?_; dsimp only [List.nil_append, List.cons_append]
      refine Walk.guardF rfl rfl rfl (fun _ => rfl) rfl ?_; dsimp only [List.nil_append, List.cons_append]
      refine Walk.guardF rfl rfl rfl (fun _ => rfl) rfl ?_; dsimp only [List.nil_append, List.cons_append]
      refine Walk.guardF rfl rfl rfl (fun _ => rfl) rfl ?_; dsimp only [List.nil_append, List.cons_append]
      refine Walk.guardF rfl rfl rfl (fun _ => rfl) rfl ?_; dsimp only [List.nil_append, List.cons_append]
      refine Walk.guardF rfl rfl rfl (fun _ => rfl) rfl ?_; dsimp only [List.nil_append, List.cons_append]
      refine Walk.guardF rfl rfl rfl (fun _ => rfl) rfl ?_; dsimp only [List.nil_append, List.cons_append]
      refine Walk.guardF rfl rfl rfl (fun _ => rfl) rfl ?_; dsimp only [List.nil_append, List.cons_append]
      refine Walk.guardF rfl rfl rfl (fun _ => rfl) rfl ?_; dsimp only [List.nil_append, List.cons_append]
      refine Walk.plain rfl (by intro val w_ hR hp; exact op_pick rfl rfl rfl rfl ⟨Chg.refl _ _, rfl⟩) ?_; dsimp only [List.nil_append, List.cons_append]
      refine Walk.plain rfl (by intro val w_ hR hp; exact op_move rfl rfl ⟨Chg.refl _ _, rfl⟩) ?_; dsimp only [List.nil_append, List.cons_append]
      refine Walk.guardF rfl rfl rfl (fun _ => rfl) rfl ?_; dsimp only [List.nil_append, List.cons_append]
      refine Walk.guardF rfl rfl rfl (fun _ => rfl) rfl ?_; dsimp only [List.nil_append, List.cons_append]
      refine Walk.guardF rfl rfl rfl (fun _ => rfl) rfl ?_; dsimp only [List.nil_append, List.cons_append]
      refine Walk.guardF rfl rfl rfl (fun _ => rfl) rfl ?_; dsimp only [List.nil_append, List.cons_append]
      refine Walk.guardF rfl rfl rfl (fun _ => rfl) rfl ?_; dsimp only [List.nil_append, List.cons_append]
      refine Walk.guardF rfl rfl rfl (fun _ => rfl) rfl ?_; dsimp only [List.nil_append, List.cons_append]
      refine Walk.guardF rfl rfl rfl (fun _ => rfl) rfl ?_; dsimp only [List.nil_append, List.cons_append]
      refine Walk.guardF rfl rfl rfl (fun _ => rfl) rfl ?_; dsimp only [List.nil_append, List.cons_append]
      refine Walk.guardF rfl rfl rfl (fun _ => rfl) rfl ?_; dsimp only [List.nil_append, List.cons_append]
      refine Walk.guardF rfl rfl rfl (fun _ => rfl) rfl ?_; dsimp only [List.nil_append, List.cons_append]
      refine Walk.guardF rfl rfl rfl (fun _ => rfl) rfl ?_; dsimp only [List.nil_append, List.cons_append]
      refine Walk.guardF rfl rfl rfl (fun _ => rfl) rfl ?_; dsimp only [List.nil_append, List.cons_append]
      refine Walk.guardF rfl rfl rfl (fun _ => rfl) rfl ?_; dsimp only [List.nil_append, List.cons_append]
      skip
      refine Walk.fin ?_
      intro val w7 hc7 hp
      clear hp
      replace hc6 := hc6.trans' hc7
      replace hc5 := hc5.trans' hc7
      replace hc4 := hc4.trans' hc7
      replace hg54 := hg54.keep0 hc7
      replace hc14 := hc14.trans' hc7
      replace hu := hu.keep0 hc7
      replace he := he.keep0 hc7
      replace hce := hce.keep0 hc7
      replace x := x.keep0 hc7
      replace hb := hb.keep0 hc7
      replace hcr := hcr.keepR hc7
      refine runL ?_
      refine go T 15 rfl ?_
      refine rndR ?_
      refine go T 2 rfl ?_
      exact post1 (.inl rfl) rfl rfl ⟨rfl, x.chg⟩
    by_cases hk2 : c.o.key = y.key
    case neg =>
      rw [if_neg (fun h => hk2 h.2.1)] at hsq
      rw [hnone hsq]
      refine go T 8 rfl ?_
      refine ldB T hg54 rfl rfl rfl rfl rfl rfl ?_
      refine ltF rfl rfl rfl rfl (by omega) ?_
      refine go T 7 rfl ?_
      refine ltF rfl rfl rfl rfl (by omega) ?_
      refine go T 5 rfl ?_
      refine W_walk 41 [] fol (by kernel_rfl) (by kernel_rfl) ?_
      refine Walk.plain rfl (by intro val w_ hR hp; exact op_move rfl rfl ⟨Chg.refl _ _, rfl⟩) ?_; dsimp only [List.nil_append, List.cons_append]
      refine Walk.plain rfl (by intro val w_ hR hp; exact op_nilCheck rfl rfl ⟨Chg.refl _ _, rfl⟩) ?_; dsimp only [List.nil_append, List.cons_append]
      refine Walk.plain rfl (by intro val w_ hR hp; exact op_fieldAddr T rfl rfl rfl rfl rfl rfl rfl rfl ⟨Chg.refl _ _, rfl⟩) ?_; dsimp only [List.nil_append, List.cons_append]
      refine Walk.plain rfl (by intro val w_ hR hp; exact op_loadB T rfl rfl rfl rfl (hb.keep0 hR) (by exact rfl) ⟨Chg.refl _ _, rfl⟩) ?_; dsimp only [List.nil_append, List.cons_append]
      refine Walk.plain rfl (by intro val w_ hR hp; exact op_move rfl rfl ⟨Chg.refl _ _, rfl⟩) ?_; dsimp only [List.nil_append, List.cons_append]
      refine Walk.plain rfl (by intro val w_ hR hp; exact op_indexK T rfl rfl rfl rfl rfl (by omega) ⟨Chg.refl _ _, rfl⟩) ?_; dsimp only [List.nil_append, List.cons_append]
      refine Walk.plain rfl (by intro val w_ hR hp; exact op_fieldAddr T rfl rfl rfl rfl rfl rfl rfl rfl ⟨Chg.refl _ _, rfl⟩) ?_; dsimp only [List.nil_append, List.cons_append]
      refine Walk.plain rfl (by intro val w_ hR hp; exact op_fieldAddr T rfl rfl rfl rfl rfl rfl rfl rfl ⟨Chg.refl _ _, rfl⟩) ?_; dsimp only [List.nil_append, List.cons_append]
      refine Walk.plain rfl (by intro val w_ hR hp; exact op_fieldAddr T rfl rfl rfl rfl rfl rfl rfl rfl ⟨Chg.refl _ _, rfl⟩) ?_; dsimp only [List.nil_append, List.cons_append]
      refine Walk.plain rfl (by intro val w_ hR hp; exact op_loadF T (hce.keep0 hR) rfl rfl rfl rfl rfl ⟨Chg.refl _ _, rfl⟩) ?_; dsimp only [List.nil_append, List.cons_append]
      refine Walk.plain rfl (by intro val w_ hR hp; exact op_neq rfl rfl rfl (fun hcmp => False.elim (by omega)) (fun hcmp => ⟨Chg.refl _ _, rfl⟩)) ?_; dsimp only [List.nil_append, List.cons_append]
      refine Walk.plain rfl (by intro val w_ hR hp; exact op_move rfl rfl ⟨Chg.refl _ _, rfl⟩) ?_; dsimp only [List.nil_append, List.cons_append]
      refine Walk.guardT rfl rfl rfl (fun _ => rfl) (by intro val w_ hR hp; exact op_move rfl rfl ⟨Chg.refl _ _, rfl⟩) ?_; dsimp only [List.nil_append, List.cons_append]
      refine Walk.guardT rfl rfl rfl (fun _ => rfl) (by intro val w_ hR hp; exact op_nilCheck rfl rfl ⟨Chg.refl _ _, rfl⟩) ?_; dsimp only [List.nil_append, List.cons_append]
      refine Walk.guardT rfl rfl rfl (fun _ => rfl) (by intro val w_ hR hp; exact op_fieldAddr T rfl rfl rfl rfl rfl rfl rfl rfl ⟨Chg.refl _ _, rfl⟩) ?_; dsimp only [List.nil_append, List.cons_append]
      refine Walk.guardT rfl rfl rfl (fun _ => rfl) (by intro val w_ hR hp; exact op_loadB T rfl rfl rfl rfl (hb.keep0 hR) (by exact rfl) ⟨Chg.refl _ _, rfl⟩) ?_; dsimp only [List.nil_append, List.cons_append]
      refine Walk.guardT rfl rfl rfl (fun _ => rfl) (by intro val w_ hR hp; exact op_move rfl rfl ⟨Chg.refl _ _, rfl⟩) ?_; dsimp only [List.nil_append, List.cons_append]
      refine Walk.guardT rfl rfl rfl (fun _ => rfl) (by intro val w_ hR hp; exact op_indexK T rfl rfl rfl rfl rfl (by omega) ⟨Chg.refl _ _, rfl⟩) ?_; dsimp only [List.nil_append, List.cons_append]
      refine Walk.guardT rfl rfl rfl (fun _ => rfl) (by intro val w_ hR hp; exact op_fieldAddr T rfl rfl rfl rfl rfl rfl rfl rfl ⟨Chg.refl _ _, rfl⟩) ?_; dsimp only [List.nil_append, List.cons_append]
      refine Walk.guardT rfl rfl rfl (fun _ => rfl) (by intro val w_ hR hp; exact op_fieldAddr T rfl rfl rfl rfl rfl rfl rfl rfl ⟨Chg.refl _ _, rfl⟩) ?_; dsimp only [List.nil_append, List.cons_append]
      refine Walk.guardT rfl rfl rfl (fun _ => rfl) (by intro val w_ hR hp; exact op_fieldAddr T rfl rfl rfl rfl rfl rfl rfl rfl ⟨Chg.refl _ _, rfl⟩) ?_; dsimp only [List.nil_append, List.cons_append]
      refine Walk.guardT rfl rfl rfl (fun _ => rfl) (by intro val w_ hR hp; exact op_loadF T (hce.keep0 hR) rfl rfl rfl rfl rfl ⟨Chg.refl _ _, rfl⟩) ?_; dsimp only [List.nil_append, List.cons_append]
      refine Walk.guardT rfl rfl rfl (fun _ => rfl) (by intro val w_ hR hp; exact op_fieldAddr T rfl rfl rfl rfl rfl rfl rfl rfl ⟨Chg.refl _ _, rfl⟩) ?_; dsimp only [List.nil_append, List.cons_append]
      refine Walk.guardT rfl rfl rfl (fun _ => rfl) (by intro val w_ hR hp; exact op_fieldAddr T rfl rfl rfl rfl rfl rfl rfl rfl ⟨Chg.refl _ _, rfl⟩) ?_; dsimp only [List.nil_append, List.cons_append]
      refine Walk.guardT rfl rfl rfl (fun _ => rfl) (by intro val w_ hR hp; exact op_loadB T rfl rfl rfl rfl (hg54.keep0 hR) (by exact rfl) ⟨Chg.refl _ _, rfl⟩) ?_; dsimp only [List.nil_append, List.cons_append]
      refine Walk.guardT (v := .bool true) rfl rfl rfl (fun _ => rfl) (by intro val w_ hR hp; exact op_str_neq (a := c.o.key) (b := y.key) rfl rfl rfl (fun h => ⟨Chg.refl _ _, rfl⟩) (fun h => absurd h hk2)) ?_; dsimp only [List.nil_append, List.cons_append]
      refine Walk.plain rfl (by intro val w_ hR hp; exact op_pick rfl rfl rfl rfl ⟨Chg.refl _ _, rfl⟩) ?_; dsimp only [List.nil_append, List.cons_append]
      refine Walk.plain rfl (by intro val w_ hR hp; exact op_move rfl rfl ⟨Chg.refl _ _, rfl⟩) ?_; dsimp only [List.nil_append, List.cons_append]
      refine Walk.guardF rfl rfl rfl (fun _ => rfl) rfl ?_; dsimp only [List.nil_append, List.cons_append]
      refine Walk.guardF rfl rfl rfl (fun _ => rfl) rfl ?_; dsimp only [List.nil_append, List.cons_append]
      refine Walk.guardF rfl rfl rfl (fun _ => rfl) rfl ?_; dsimp only [List.nil_append, List.cons_append]
      refine Walk.guardF rfl rfl rfl (fun _ => rfl) rfl ?_; dsimp only [List.nil_append, List.cons_append]
      refine Walk.guardF rfl rfl rfl (fun _ => rfl) rfl ?_; dsimp only [List.nil_append, List.cons_append]
      refine Walk.guardF rfl rfl rfl (fun _ => rfl) rfl ?_; dsimp only [List.nil_append, List.cons_append]
      refine Walk.guardF rfl rfl rfl (fun _ => rfl) rfl ?_; dsimp only [List.nil_append, List.cons_append]
      refine Walk.guardF rfl rfl rfl (fun _ => rfl) rfl ?_; dsimp only [List.nil_append, List.cons_append]
      refine Walk.guardF rfl rfl rfl (fun _ => rfl) rfl ?_; dsimp only [List.nil_append, List.cons_append]
      refine Walk.guardF rfl rfl rfl (fun _ => rfl) rfl ?_; dsimp only [List.nil_append, List.cons_append]
      refine Walk.guardF rfl rfl rfl (fun _ => rfl) rfl ?_; dsimp only [List.nil_append, List.cons_append]
      refine Walk.guardF rfl rfl rfl (fun _ => rfl) rfl ?_; dsimp only [List.nil_append, List.cons_append]
      refine Walk.guardF rfl rfl rfl (fun _ => rfl) rfl ?_; dsimp only [List.nil_append, List.cons_append]
      refine Walk.fin ?_
      intro val w7 hc7 hp
      clear hp
      replace hc6 := hc6.trans' hc7
      replace hc5 := hc5.trans' hc7
      replace hc4 := hc4.trans' hc7
      replace hg54 := hg54.keep0 hc7
      replace hc14 := hc14.trans' hc7
      replace hu := hu.keep0 hc7
      replace he := he.keep0 hc7
      replace hce := hce.keep0 hc7
      replace x := x.keep0 hc7
      replace hb := hb.keep0 hc7
      replace hcr := hcr.keepR hc7
      refine runL ?_
      refine go T 15 rfl ?_
      refine rndR ?_
      refine go T 2 rfl ?_
      exact post1 (.inl rfl) rfl rfl ⟨rfl, x.chg⟩
    by_cases hk3 : c.o.val = y.aval
    case neg =>
      rw [if_neg (fun h => hk3 h.2.2)] at hsq
      rw [hnone hsq]
      refine go T 8 rfl ?_
      refine ldB T hg54 rfl rfl rfl rfl rfl rfl ?_
      refine ltF rfl rfl rfl rfl (by omega) ?_
      refine go T 7 rfl ?_
      refine ltF rfl rfl rfl rfl (by omega) ?_
      refine go T 5 rfl ?_
      refine W_walk 41 [] fol (by kernel_rfl) (by kernel_rfl) ?_
      refine Walk.plain rfl (by intro val w_ hR hp; exact op_move rfl rfl ⟨Chg.refl _ _, rfl⟩) ?_; dsimp only [List.nil_append, List.cons_append]
      refine Walk.plain rfl (by intro val w_ hR hp; exact op_nilCheck rfl rfl ⟨Chg.refl _ _, rfl⟩) ?_; dsimp only [List.nil_append, List.cons_append]
      refine Walk.plain rfl (by intro val w_ hR hp; exact op_fieldAddr T rfl rfl rfl rfl rfl rfl rfl rfl ⟨Chg.refl _ _, rfl⟩) ?_; dsimp only [List.nil_append, List.cons_append]
      refine Walk.plain rfl (by intro val w_ hR hp; exact op_loadB T rfl rfl rfl rfl (hb.keep0 hR) (by exact rfl) ⟨Chg.refl _ _, rfl⟩) ?_; dsimp only [List.nil_append, List.cons_append]
      refine Walk.plain rfl (by intro val w_ hR hp; exact op_move rfl rfl ⟨Chg.refl _ _, rfl⟩) ?_; dsimp only [List.nil_append, List.cons_append]
      refine Walk.plain rfl (by intro val w_ hR hp; exact op_indexK T rfl rfl rfl rfl rfl (by omega) ⟨Chg.refl _ _, rfl⟩) ?_; dsimp only [List.nil_append, List.cons_append]
      refine Walk.plain rfl (by intro val w_ hR hp; exact op_fieldAddr T rfl rfl rfl rfl rfl rfl rfl rfl ⟨Chg.refl _ _, rfl⟩) ?_; dsimp only [List.nil_append, List.cons_append]
      refine Walk.plain rfl (by intro val w_ hR hp; exact op_fieldAddr T rfl rfl rfl rfl rfl rfl rfl rfl ⟨Chg.refl _ _, rfl⟩) ?_; dsimp only [List.nil_append, List.cons_append]
      refine Walk.plain rfl (by intro val w_ hR hp; exact op_fieldAddr T rfl rfl rfl rfl rfl rfl rfl rfl ⟨Chg.refl _ _, rfl⟩) ?_; dsimp only [List.nil_append, List.cons_append]
      refine Walk.plain rfl (by intro val w_ hR hp; exact op_loadF T (hce.keep0 hR) rfl rfl rfl rfl rfl ⟨Chg.refl _ _, rfl⟩) ?_; dsimp only [List.nil_append, List.cons_append]
      refine Walk.plain rfl (by intro val w_ hR hp; exact op_neq rfl rfl rfl (fun hcmp => False.elim (by omega)) (fun hcmp => ⟨Chg.refl _ _, rfl⟩)) ?_; dsimp only [List.nil_append, List.cons_append]
      refine Walk.plain rfl (by intro val w_ hR hp; exact op_move rfl rfl ⟨Chg.refl _ _, rfl⟩) ?_; dsimp only [List.nil_append, List.cons_append]
      refine Walk.guardT rfl rfl rfl (fun _ => rfl) (by intro val w_ hR hp; exact op_move rfl rfl ⟨Chg.refl _ _, rfl⟩) ?_; dsimp only [List.nil_append, List.cons_append]
      refine Walk.guardT rfl rfl rfl (fun _ => rfl) (by intro val w_ hR hp; exact op_nilCheck rfl rfl ⟨Chg.refl _ _, rfl⟩) ?_; dsimp only [List.nil_append, List.cons_append]
      refine Walk.guardT rfl rfl rfl (fun _ => rfl) (by intro val w_ hR hp; exact op_fieldAddr T rfl rfl rfl rfl rfl rfl rfl rfl ⟨Chg.refl _ _, rfl⟩) ?_; dsimp only [List.nil_append, List.cons_append]
      refine Walk.guardT rfl rfl rfl (fun _ => rfl) (by intro val w_ hR hp; exact op_loadB T rfl rfl rfl rfl (hb.keep0 hR) (by exact rfl) ⟨Chg.refl _ _, rfl⟩) ?_; dsimp only [List.nil_append, List.cons_append]
      refine Walk.guardT rfl rfl rfl (fun _ => rfl) (by intro val w_ hR hp; exact op_move rfl rfl ⟨Chg.refl _ _, rfl⟩) ?_; dsimp only [List.nil_append, List.cons_append]
      refine Walk.guardT rfl rfl rfl (fun _ => rfl) (by intro val w_ hR hp; exact op_indexK T rfl rfl rfl rfl rfl (by omega) ⟨Chg.refl _ _, rfl⟩) ?_; dsimp only [List.nil_append, List.cons_append]
      refine Walk.guardT rfl rfl rfl (fun _ => rfl) (by intro val w_ hR hp; exact op_fieldAddr T rfl rfl rfl rfl rfl rfl rfl rfl ⟨Chg.refl _ _, rfl⟩) ?_; dsimp only [List.nil_append, List.cons_append]
      refine Walk.guardT rfl rfl rfl (fun _ => rfl) (by intro val w_ hR hp; exact op_fieldAddr T rfl rfl rfl rfl rfl rfl rfl rfl ⟨Chg.refl _ _, rfl⟩) ?_; dsimp only [List.nil_append, List.cons_append]
      refine Walk.guardT rfl rfl rfl (fun _ => rfl) (by intro val w_ hR hp; exact op_fieldAddr T rfl rfl rfl rfl rfl rfl rfl rfl ⟨Chg.refl _ _, rfl⟩) ?_; dsimp only [List.nil_append, List.cons_append]
      refine Walk.guardT rfl rfl rfl (fun _ => rfl) (by intro val w_ hR hp; exact op_loadF T (hce.keep0 hR) rfl rfl rfl rfl rfl ⟨Chg.refl _ _, rfl⟩) ?_; dsimp only [List.nil_append, List.cons_append]
      refine Walk.guardT rfl rfl rfl (fun _ => rfl) (by intro val w_ hR hp; exact op_fieldAddr T rfl rfl rfl rfl rfl rfl rfl rfl ⟨Chg.refl _ _, rfl⟩) ?_; dsimp only [List.nil_append, List.cons_append]
      refine Walk.guardT rfl rfl rfl (fun _ => rfl) (by intro val w_ hR hp; exact op_fieldAddr T rfl rfl rfl rfl rfl rfl rfl rfl ⟨Chg.refl _ _, rfl⟩) ?_; dsimp only [List.nil_append, List.cons_append]
      refine Walk.guardT rfl rfl rfl (fun _ => rfl) (by intro val w_ hR hp; exact op_loadB T rfl rfl rfl rfl (hg54.keep0 hR) (by exact rfl) ⟨Chg.refl _ _, rfl⟩) ?_; dsimp only [List.nil_append, List.cons_append]
      refine Walk.guardT (v := .bool false) rfl rfl rfl (fun _ => rfl) (by intro val w_ hR hp; exact op_str_neq (a := c.o.key) (b := y.key) rfl rfl rfl (fun h => absurd hk2 h) (fun h => ⟨Chg.refl _ _, rfl⟩)) ?_; dsimp only [List.nil_append, List.cons_append]
      refine Walk.plain rfl (by intro val w_ hR hp; exact op_pick rfl rfl rfl rfl ⟨Chg.refl _ _, rfl⟩) ?_; dsimp only [List.nil_append, List.cons_append]
      refine Walk.plain rfl (by intro val w_ hR hp; exact op_move rfl rfl ⟨Chg.refl _ _, rfl⟩) ?_; dsimp only [List.nil_append, List.cons_append]
      refine Walk.guardT rfl rfl rfl (fun _ => rfl) (by intro val w_ hR hp; exact op_move rfl rfl ⟨Chg.refl _ _, rfl⟩) ?_; dsimp only [List.nil_append, List.cons_append]
      refine Walk.guardT rfl rfl rfl (fun _ => rfl) (by intro val w_ hR hp; exact op_nilCheck rfl rfl ⟨Chg.refl _ _, rfl⟩) ?_; dsimp only [List.nil_append, List.cons_append]
      refine Walk.guardT rfl rfl rfl (fun _ => rfl) (by intro val w_ hR hp; exact op_fieldAddr T rfl rfl rfl rfl rfl rfl rfl rfl ⟨Chg.refl _ _, rfl⟩) ?_; dsimp only [List.nil_append, List.cons_append]
      refine Walk.guardT rfl rfl rfl (fun _ => rfl) (by intro val w_ hR hp; exact op_loadB T rfl rfl rfl rfl (hb.keep0 hR) (by exact rfl) ⟨Chg.refl _ _, rfl⟩) ?_; dsimp only [List.nil_append, List.cons_append]
      refine Walk.guardT rfl rfl rfl (fun _ => rfl) (by intro val w_ hR hp; exact op_move rfl rfl ⟨Chg.refl _ _, rfl⟩) ?_; dsimp only [List.nil_append, List.cons_append]
      refine Walk.guardT rfl rfl rfl (fun _ => rfl) (by intro val w_ hR hp; exact op_indexK T rfl rfl rfl rfl rfl (by omega) ⟨Chg.refl _ _, rfl⟩) ?_; dsimp only [List.nil_append, List.cons_append]
      refine Walk.guardT rfl rfl rfl (fun _ => rfl) (by intro val w_ hR hp; exact op_fieldAddr T rfl rfl rfl rfl rfl rfl rfl rfl ⟨Chg.refl _ _, rfl⟩) ?_; dsimp only [List.nil_append, List.cons_append]
      refine Walk.guardT rfl rfl rfl (fun _ => rfl) (by intro val w_ hR hp; exact op_fieldAddr T rfl rfl rfl rfl rfl rfl rfl rfl ⟨Chg.refl _ _, rfl⟩) ?_; dsimp only [List.nil_append, List.cons_append]
      refine Walk.guardT rfl rfl rfl (fun _ => rfl) (by intro val w_ hR hp; exact op_fieldAddr T rfl rfl rfl rfl rfl rfl rfl rfl ⟨Chg.refl _ _, rfl⟩) ?_; dsimp only [List.nil_append, List.cons_append]
      refine Walk.guardT rfl rfl rfl (fun _ => rfl) (by intro val w_ hR hp; exact op_loadF T (hce.keep0 hR) rfl rfl rfl rfl rfl ⟨Chg.refl _ _, rfl⟩) ?_; dsimp only [List.nil_append, List.cons_append]
      refine Walk.guardT rfl rfl rfl (fun _ => rfl) (by intro val w_ hR hp; exact op_fieldAddr T rfl rfl rfl rfl rfl rfl rfl rfl ⟨Chg.refl _ _, rfl⟩) ?_; dsimp only [List.nil_append, List.cons_append]
      refine Walk.guardT rfl rfl rfl (fun _ => rfl) (by intro val w_ hR hp; exact op_fieldAddr T rfl rfl rfl rfl rfl rfl rfl rfl ⟨Chg.refl _ _, rfl⟩) ?_; dsimp only [List.nil_append, List.cons_append]
      refine Walk.guardT rfl rfl rfl (fun _ => rfl) (by intro val w_ hR hp; exact op_loadB T rfl rfl rfl rfl (hg54.keep0 hR) (by exact rfl) ⟨Chg.refl _ _, rfl⟩) ?_; dsimp only [List.nil_append, List.cons_append]
      skip
      refine Walk.fin ?_
      intro val w7 hc7 hp
      clear hp
      replace hc6 := hc6.trans' hc7
      replace hc5 := hc5.trans' hc7
      replace hc4 := hc4.trans' hc7
      replace hg54 := hg54.keep0 hc7
      replace hc14 := hc14.trans' hc7
      replace hu := hu.keep0 hc7
      replace he := he.keep0 hc7
      replace hce := hce.keep0 hc7
      replace x := x.keep0 hc7
      replace hb := hb.keep0 hc7
      replace hcr := hcr.keepR hc7
      refine runL ?_
      refine o1 rfl ?_
      refine op_str_neq (a := c.o.val) (b := y.aval) rfl rfl rfl (fun h => ?_) (fun h => absurd h hk3)
      refine go T 14 rfl ?_
      refine rndR ?_
      refine go T 2 rfl ?_
      exact post1 (.inl rfl) rfl rfl ⟨rfl, x.chg⟩
    rw [if_pos ⟨hk1, hk2, hk3⟩] at hsq
    refine go T 8 rfl ?_
    refine ldB T hg54 rfl rfl rfl rfl rfl rfl ?_
    refine ltF rfl rfl rfl rfl (by omega) ?_
    refine go T 7 rfl ?_
    refine ltF rfl rfl rfl rfl (by omega) ?_
    refine go T 5 rfl ?_
    refine W_walk 41 [] fol (by kernel_rfl) (by kernel_rfl) ?_
    refine Walk.plain rfl (by intro val w_ hR hp; exact op_move rfl rfl ⟨Chg.refl _ _, rfl⟩) ?_; dsimp only [List.nil_append, List.cons_append]
    refine Walk.plain rfl (by intro val w_ hR hp; exact op_nilCheck rfl rfl ⟨Chg.refl _ _, rfl⟩) ?_; dsimp only [List.nil_append, List.cons_append]
    refine Walk.plain rfl (by intro val w_ hR hp; exact op_fieldAddr T rfl rfl rfl rfl rfl rfl rfl rfl ⟨Chg.refl _ _, rfl⟩) ?_; dsimp only [List.nil_append, List.cons_append]
    refine Walk.plain rfl (by intro val w_ hR hp; exact op_loadB T rfl rfl rfl rfl (hb.keep0 hR) (by exact rfl) ⟨Chg.refl _ _, rfl⟩) ?_; dsimp only [List.nil_append, List.cons_append]
    refine Walk.plain rfl (by intro val w_ hR hp; exact op_move rfl rfl ⟨Chg.refl _ _, rfl⟩) ?_; dsimp only [List.nil_append, List.cons_append]
    refine Walk.plain rfl (by intro val w_ hR hp; exact op_indexK T rfl rfl rfl rfl rfl (by omega) ⟨Chg.refl _ _, rfl⟩) ?_; dsimp only [List.nil_append, List.cons_append]
    refine Walk.plain rfl (by intro val w_ hR hp; exact op_fieldAddr T rfl rfl rfl rfl rfl rfl rfl rfl ⟨Chg.refl _ _, rfl⟩) ?_; dsimp only [List.nil_append, List.cons_append]
    refine Walk.plain rfl (by intro val w_ hR hp; exact op_fieldAddr T rfl rfl rfl rfl rfl rfl rfl rfl ⟨Chg.refl _ _, rfl⟩) ?_; dsimp only [List.nil_append, List.cons_append]
    refine Walk.plain rfl (by intro val w_ hR hp; exact op_fieldAddr T rfl rfl rfl rfl rfl rfl rfl rfl ⟨Chg.refl _ _, rfl⟩) ?_; dsimp only [List.nil_append, List.cons_append]
    refine Walk.plain rfl (by intro val w_ hR hp; exact op_loadF T (hce.keep0 hR) rfl rfl rfl rfl rfl ⟨Chg.refl _ _, rfl⟩) ?_; dsimp only [List.nil_append, List.cons_append]
    refine Walk.plain rfl (by intro val w_ hR hp; exact op_neq rfl rfl rfl (fun hcmp => False.elim (by omega)) (fun hcmp => ⟨Chg.refl _ _, rfl⟩)) ?_; dsimp only [List.nil_append, List.cons_append]
    refine Walk.plain rfl (by intro val w_ hR hp; exact op_move rfl rfl ⟨Chg.refl _ _, rfl⟩) ?_; dsimp only [List.nil_append, List.cons_append]
    refine Walk.guardT rfl rfl rfl (fun _ => rfl) (by intro val w_ hR hp; exact op_move rfl rfl ⟨Chg.refl _ _, rfl⟩) ?_; dsimp only [List.nil_append, List.cons_append]
    refine Walk.guardT rfl rfl rfl (fun _ => rfl) (by intro val w_ hR hp; exact op_nilCheck rfl rfl ⟨Chg.refl _ _, rfl⟩) ?_; dsimp only [List.nil_append, List.cons_append]
    refine Walk.guardT rfl rfl rfl (fun _ => rfl) (by intro val w_ hR hp; exact op_fieldAddr T rfl rfl rfl rfl rfl rfl rfl rfl ⟨Chg.refl _ _, rfl⟩) ?_; dsimp only [List.nil_append, List.cons_append]
    refine Walk.guardT rfl rfl rfl (fun _ => rfl) (by intro val w_ hR hp; exact op_loadB T rfl rfl rfl rfl (hb.keep0 hR) (by exact rfl) ⟨Chg.refl _ _, rfl⟩) ?_; dsimp only [List.nil_append, List.cons_append]
    refine Walk.guardT rfl rfl rfl (fun _ => rfl) (by intro val w_ hR hp; exact op_move rfl rfl ⟨Chg.refl _ _, rfl⟩) ?_; dsimp only [List.nil_append, List.cons_append]
    refine Walk.guardT rfl rfl rfl (fun _ => rfl) (by intro val w_ hR hp; exact op_indexK T rfl rfl rfl rfl rfl (by omega) ⟨Chg.refl _ _, rfl⟩) ?_; dsimp only [List.nil_append, List.cons_append]
    refine Walk.guardT rfl rfl rfl (fun _ => rfl) (by intro val w_ hR hp; exact op_fieldAddr T rfl rfl rfl rfl rfl rfl rfl rfl ⟨Chg.refl _ _, rfl⟩) ?_; dsimp only [List.nil_append, List.cons_append]
    refine Walk.guardT rfl rfl rfl (fun _ => rfl) (by intro val w_ hR hp; exact op_fieldAddr T rfl rfl rfl rfl rfl rfl rfl rfl ⟨Chg.refl _ _, rfl⟩) ?_; dsimp only [List.nil_append, List.cons_append]
    refine Walk.guardT rfl rfl rfl (fun _ => rfl) (by intro val w_ hR hp; exact op_fieldAddr T rfl rfl rfl rfl rfl rfl rfl rfl ⟨Chg.refl _ _, rfl⟩) ?_; dsimp only [List.nil_append, List.cons_append]
    refine Walk.guardT rfl rfl rfl (fun _ => rfl) (by intro val w_ hR hp; exact op_loadF T (hce.keep0 hR) rfl rfl rfl rfl rfl ⟨Chg.refl _ _, rfl⟩) ?_; dsimp only [List.nil_append, List.cons_append]
    refine Walk.guardT rfl rfl rfl (fun _ => rfl) (by intro val w_ hR hp; exact op_fieldAddr T rfl rfl rfl rfl rfl rfl rfl rfl ⟨Chg.refl _ _, rfl⟩) ?_; dsimp only [List.nil_append, List.cons_append]
    refine Walk.guardT rfl rfl rfl (fun _ => rfl) (by intro val w_ hR hp; exact op_fieldAddr T rfl rfl rfl rfl rfl rfl rfl rfl ⟨Chg.refl _ _, rfl⟩) ?_; dsimp only [List.nil_append, List.cons_append]
    refine Walk.guardT rfl rfl rfl (fun _ => rfl) (by intro val w_ hR hp; exact op_loadB T rfl rfl rfl rfl (hg54.keep0 hR) (by exact rfl) ⟨Chg.refl _ _, rfl⟩) ?_; dsimp only [List.nil_append, List.cons_append]
    refine Walk.guardT (v := .bool false) rfl rfl rfl (fun _ => rfl) (by intro val w_ hR hp; exact op_str_neq (a := c.o.key) (b := y.key) rfl rfl rfl (fun h => absurd hk2 h) (fun h => ⟨Chg.refl _ _, rfl⟩)) ?_; dsimp only [List.nil_append, List.cons_append]
    refine Walk.plain rfl (by intro val w_ hR hp; exact op_pick rfl rfl rfl rfl ⟨Chg.refl _ _, rfl⟩) ?_; dsimp only [List.nil_append, List.cons_append]
    refine Walk.plain rfl (by intro val w_ hR hp; exact op_move rfl rfl ⟨Chg.refl _ _, rfl⟩) ?_; dsimp only [List.nil_append, List.cons_append]
    refine Walk.guardT rfl rfl rfl (fun _ => rfl) (by intro val w_ hR hp; exact op_move rfl rfl ⟨Chg.refl _ _, rfl⟩) ?_; dsimp only [List.nil_append, List.cons_append]
    refine Walk.guardT rfl rfl rfl (fun _ => rfl) (by intro val w_ hR hp; exact op_nilCheck rfl rfl ⟨Chg.refl _ _, rfl⟩) ?_; dsimp only [List.nil_append, List.cons_append]
    refine Walk.guardT rfl rfl rfl (fun _ => rfl) (by intro val w_ hR hp; exact op_fieldAddr T rfl rfl rfl rfl rfl rfl rfl rfl ⟨Chg.refl _ _, rfl⟩) ?_; dsimp only [List.nil_append, List.cons_append]
    refine Walk.guardT rfl rfl rfl (fun _ => rfl) (by intro val w_ hR hp; exact op_loadB T rfl rfl rfl rfl (hb.keep0 hR) (by exact rfl) ⟨Chg.refl _ _, rfl⟩) ?_; dsimp only [List.nil_append, List.cons_append]
    refine Walk.guardT rfl rfl rfl (fun _ => rfl) (by intro val w_ hR hp; exact op_move rfl rfl ⟨Chg.refl _ _, rfl⟩) ?_; dsimp only [List.nil_append, List.cons_append]
    refine Walk.guardT rfl rfl rfl (fun _ => rfl) (by intro val w_ hR hp; exact op_indexK T rfl rfl rfl rfl rfl (by omega) ⟨Chg.refl _ _, rfl⟩) ?_; dsimp only [List.nil_append, List.cons_append]
    refine Walk.guardT rfl rfl rfl (fun _ => rfl) (by intro val w_ hR hp; exact op_fieldAddr T rfl rfl rfl rfl rfl rfl rfl rfl ⟨Chg.refl _ _, rfl⟩) ?_; dsimp only [List.nil_append, List.cons_append]
    refine Walk.guardT rfl rfl rfl (fun _ => rfl) (by intro val w_ hR hp; exact op_fieldAddr T rfl rfl rfl rfl rfl rfl rfl rfl ⟨Chg.refl _ _, rfl⟩) ?_; dsimp only [List.nil_append, List.cons_append]
    refine Walk.guardT rfl rfl rfl (fun _ => rfl) (by intro val w_ hR hp; exact op_fieldAddr T rfl rfl rfl rfl rfl rfl rfl rfl ⟨Chg.refl _ _, rfl⟩) ?_; dsimp only [List.nil_append, List.cons_append]
    refine Walk.guardT rfl rfl rfl (fun _ => rfl) (by intro val w_ hR hp; exact op_loadF T (hce.keep0 hR) rfl rfl rfl rfl rfl ⟨Chg.refl _ _, rfl⟩) ?_; dsimp only [List.nil_append, List.cons_append]
    refine Walk.guardT rfl rfl rfl (fun _ => rfl) (by intro val w_ hR hp; exact op_fieldAddr T rfl rfl rfl rfl rfl rfl rfl rfl ⟨Chg.refl _ _, rfl⟩) ?_; dsimp only [List.nil_append, List.cons_append]
    refine Walk.guardT rfl rfl rfl (fun _ => rfl) (by intro val w_ hR hp; exact op_fieldAddr T rfl rfl rfl rfl rfl rfl rfl rfl ⟨Chg.refl _ _, rfl⟩) ?_; dsimp only [List.nil_append, List.cons_append]
    refine Walk.guardT rfl rfl rfl (fun _ => rfl) (by intro val w_ hR hp; exact op_loadB T rfl rfl rfl rfl (hg54.keep0 hR) (by exact rfl) ⟨Chg.refl _ _, rfl⟩) ?_; dsimp only [List.nil_append, List.cons_append]
    skip
    refine Walk.fin ?_
    intro val w7 hc7 hp
    clear hp
    replace hc6 := hc6.trans' hc7
    replace hc5 := hc5.trans' hc7
    replace hc4 := hc4.trans' hc7
    replace hg54 := hg54.keep0 hc7
    replace hc14 := hc14.trans' hc7
    replace hu := hu.keep0 hc7
    replace he := he.keep0 hc7
    replace hce := hce.keep0 hc7
    replace x := x.keep0 hc7
    replace hb := hb.keep0 hc7
    replace hcr := hcr.keepR hc7
    refine runL ?_
    refine o1 rfl ?_
    refine op_str_neq (a := c.o.val) (b := y.aval) rfl rfl rfl (fun h => absurd hk3 h) (fun h => ?_)
    refine go T 10 rfl ?_
    refine adI rfl rfl rfl rfl (by omega) (by omega) ?_
    refine go T 2 rfl ?_
    exact Round_n (i + 1, q, u) ⟨rfl, rfl, rfl, rfl, rfl, trivial⟩ ⟨by dsimp only; omega, by dsimp only; omega, x, hu, huf, hsq⟩ (by dsimp only; omega)
  obtain rfl : i = sts.length := by omega
  rw [List.drop_length, seqsM] at hsq
  obtain ⟨Au, cu, rfl, _, _⟩ := hu.form
  refine go T 6 rfl ?_
  refine rndX ?_
  refine go T 5 rfl ?_
  refine o1 rfl ?_
  refine op_call rfl rfl rfl (sortI_has _ q w1 hu (by omega)) ?_
  rintro _ w2 ⟨rfl, hc2, hu2⟩
  replace x := x.keepI hu huf hc2
  clear hu hc2
  rw [sortI_eq] at hu2
  refine go T 4 rfl ?_
  refine o1 rfl ?_
  refine op_makeMap (Value.int .i64) Value.bool rfl (fun r w3 hr3 hc3 hm3 => ?_)
  have hr : w0.heap.size ≤ r := Nat.le_trans x.chg.size hr3
  have hru : ∀ k, (Value.slice Au q.length cu).ownBlock = some k → k < r := fun k hk => by have := hu2.lt hk; omega
  have hl2q : (isM leI q).length = q.length := (isM_perm q).length_eq
  replace hu2 := hu2.keep0 hc3
  replace x := x.keep0 hc3
  refine go T 7 rfl ?_
  refine o1 rfl ?_
  have huf3 : ∀ h, (Value.slice Au q.length cu).ownBlock = some h → w0.heap.size ≤ h := huf
  refine op_call rfl rfl rfl (compactI_has _ (isM leI q) w3 hu2 (by omega)) ?_
  rintro uc w4 ⟨hc4, huc⟩
  replace x := x.keepI hu2 huf3 hc4
  replace hm3 := hm3.keep hc4 (fun hm => by have := hru r (by simpa using hm); omega)
  have hfound : foundM ops sts chs = match takesM ops sts (Lib.compact (isM leI q)) (chs, fun _ => none) with
      | none => none
      | some p => some (isM leC p.1) := by unfold foundM; rw [hsq] <;> rfl
  have hnd : ∀ p, takesM ops sts (Lib.compact (isM leI q)) (chs, fun _ => none) = some p → (p.1.map ChgM.seq).Nodup := fun p hp => takes_nodup hn hsq hp
  have hcl : (Lib.compact (isM leI q)).length ≤ q.length := by
    rw [← hl2q]
    unfold Lib.compact Lib.compactUpTo
    rw [List.length_map]
    exact Nat.le_trans (List.length_filter_le _ _) (by simp)
  generalize Lib.compact (isM leI q) = C at *
  clear hu2 hc4 hl2q hsq huf huf3
  obtain ⟨Ac, cc, rfl, _, _⟩ := huc.form
  refine go T 5 rfl ?_
  refine W_loop (σ := Nat × List ChgM × TkM × Value) (fun s => [(0, .pointer (some ⟨g, 0, none⟩)), (7, .map (some r)), (90, .slice Ac C.length cc), (91, .int .i64 C.length), (92, .int .i64 s.1)])
    (fun s w' => s.1 ≤ C.length ∧ s.2.1.length ≤ 1000 + s.1 ∧ JAt w0 w' g ops s.2.1 sts [] vo s.2.2.2 (.slice As sts.length cs) (.slice none 0 0) ∧ Own w' 2 1 (.slice Ac C.length cc) C.length (C.map i64V) ∧ MapAt (Value.int .i64) Value.bool w' r s.2.2.1 ∧ takesM ops sts C (chs, fun _ => none) = takesM ops sts (C.drop s.1) (s.2.1, s.2.2.1))
    (fun s => C.length - s.1) (0, chs, (fun _ => none), vc) ⟨rfl, rfl, rfl, rfl, rfl, trivial⟩ ⟨Nat.zero_le _, by dsimp only; omega, x, huc, hm3, rfl⟩ ?_
  clear x huc hm3
  rintro ⟨i, ch, tk, vc⟩ w5 ⟨hi, hch, x, huc, hm, htk⟩
  dsimp only at hi hch x huc hm htk ⊢
  refine run ?_
  refine go T 2 rfl ?_
  refine ltS rfl rfl rfl rfl (fun hcmp => ?_) (fun hcmp => ?_)
  · have hlt : i < C.length := by omega
    have hx := List.getElem?_eq_getElem hlt
    obtain ⟨ad, rfl, he⟩ := (Own.readsK (f := fun x => [i64V x]) (fun _ => rfl) (by rw [← map_flat]; exact huc)).at hx
    rw [List.drop_eq_getElem_cons hlt, takesM] at htk
    generalize C[i] = s at *
    have hcell1 : w5.cell? (ad.add (i * 1)) = some (.int .i64 s) := he 0 _ rfl
    have hcell2 : w5.cell? (ad.add i) = some (.int .i64 s) := by rw [Nat.mul_one] at hcell1; exact hcell1
    clear he hcell1
    refine go T 10 rfl ?_
    refine o1 rfl (op_index_nat T rfl rfl rfl rfl rfl rfl (by omega) ?_)
    refine o1 rfl (op_load T rfl rfl rfl rfl (by assumption) ?_)
    refine go T 8 rfl ?_
    refine o1 rfl ?_
    refine op_call rfl rfl rfl (take_has x hm hr s (by omega) hlo) ?_
    intro v w6 hpost
    have hnone : takeM ops sts s (ch, tk) = none → foundM ops sts chs = none := fun h => by
      rw [h] at htk; dsimp only at htk; rw [hfound, htk]
    cases htm : takeM ops sts s (ch, tk) with
    | none =>
      rw [htm] at hpost
      obtain ⟨rfl, x⟩ := hpost
      rw [hnone htm]
      refine go T 12 rfl ?_
      refine rndR ?_
      refine go T 2 rfl ?_
      exact post1 (.inl rfl) rfl rfl ⟨rfl, x.chg⟩
    | some p =>
    rw [htm] at hpost htk
    dsimp only at hpost htk
    obtain ⟨rfl, vc', x', hm', hpl, hc6⟩ := hpost
    have huc6 := huc.keep hc6 (fun k hk hmem => by
      rcases List.mem_cons.1 hmem with rfl | hmem
      · obtain ⟨cur, hb⟩ := huc.row hk
        exact hm.ne_blk hb rfl
      rcases List.mem_cons.1 hmem with rfl | hmem
      · exact out_of x.blk huc (by decide) (by simpa using hk)
      · exact out_own huc x.chs (by decide) k hk hmem)
    clear hm huc x hc6
    refine go T 8 rfl ?_
    refine adI rfl rfl rfl rfl (by omega) (by omega) ?_
    refine go T 2 rfl ?_
    exact Round_n (i + 1, p.1, p.2, vc') ⟨rfl, rfl, rfl, rfl, rfl, trivial⟩ ⟨by dsimp only; omega, by dsimp only; omega, x', huc6, hm', htk⟩ (by dsimp only; omega)
  obtain rfl : i = C.length := by omega
  rw [List.drop_length, takesM] at htk
  have hb := x.blk
  obtain ⟨Av, cv, rfl, _, _⟩ := x.chs.form
  refine go T 6 rfl ?_
  refine rndX ?_
  refine go T 7 rfl ?_
  refine ldB T hb rfl rfl rfl rfl rfl rfl ?_
  refine o1 rfl ?_
  refine op_call rfl rfl rfl (sortCh_has _ ch w5 x.chs (by omega)) ?_
  rintro _ w6 ⟨rfl, hc6, L', hperm, hpw, hoc⟩
  have hL := sortC_unique (hnd _ htk) hperm hpw
  subst hL
  rw [hfound, htk]
  dsimp only
  have hjb := x.blk.keep hc6 (out_of x.blk x.chs (by decide))
  have hlen : (isM leC ch).length = ch.length := (isM_perm ch).length_eq
  have x' := x.setChs (chs' := isM leC ch) hc6 hoc (.inl rfl) (Chg.refl _ _) hjb
  refine go T 8 rfl ?_
  exact post1 (.inl rfl) rfl rfl ⟨rfl, _, x'⟩
end
end Go.Proofs.Ytjkbbkomajjegaa.Try
/-! History: ordered. -/
set_option linter.unusedVariables false
namespace Go.Vc
open Go
def clashM (i k : Nat) (a b : ChgM) : Bool := decide (i ≠ k ∧ a.told = true ∧ a.o.done < b.o.asked ∧ b.seq ≤ a.seq)
def rowM (i : Nat) (a : ChgM) : List ChgM → Nat → Bool
  | [], _ => true
  | b :: l, k => if clashM i k a b = true then false else rowM i a l (k + 1)
def delM (ops : List OpM) (chs : List ChgM) (a : ChgM) : Bool := decide (a.told = true ∧ a.o.kind = 3 ∧ thereM chs a.o.key (a.seq - 1) = false ∧ openedM ops 1 a.o.key a.o.done = false)
def ordM (ops : List OpM) (chs : List ChgM) : List ChgM → Nat → Bool
  | [], _ => true
  | a :: l, i => if rowM i a chs 0 = true ∧ delM ops chs a = false then ordM ops chs l (i + 1) else false
end Go.Vc
namespace Go.Proofs.Ytjkbbkomajjegaa.Try
open Go Go.Vc
section
variable {w0 w w1 : World} {g r : Nat} {ops : List OpM} {chs : List ChgM} {sts : List OpM} {pls : List Int} {vo vc vs vp : Value}
set_option maxHeartbeats 4000000 in
theorem ordered_has (x : JAt w0 w g ops chs sts pls vo vc vs vp) (hsq : ∀ c ∈ chs, c.told = true → 1 ≤ c.seq ∧ c.seq ≤ 9223372036854775807) :
    Has Go.Proofs.Try.prog 21 #[ptrB g] w (fun v w' => v = .bool (ordM ops chs chs 0) ∧ Chg [] w w') := by
  refine enter Go.Proofs.Try.func21 rfl rfl (by decide) rfl (e := [(0, ptrB g)]) ⟨rfl, trivial⟩ ?_
  unfold ptrB
  have hb := x.blk
  obtain ⟨Ac, cc, rfl, hl1, hl2⟩ := x.chsR.form
  unfold maxLen at hl2
  refine run ?_
  refine go T 11 rfl ?_
  refine ldB T hb rfl rfl rfl rfl rfl rfl ?_
  refine go T 5 rfl ?_
  clear hb
  refine W_loop (σ := Nat) (fun i => [(0, .pointer (some ⟨g, 0, none⟩)), (11, .slice Ac chs.length cc), (12, .int .i64 chs.length), (13, .int .i64 i)])
    (fun i w' => i ≤ chs.length ∧ Chg [] w w' ∧ JAt w0 w' g ops chs sts pls vo (.slice Ac chs.length cc) vs vp ∧ ordM ops chs chs 0 = ordM ops chs (chs.drop i) i)
    (fun i => chs.length - i) 0 ⟨rfl, rfl, rfl, rfl, trivial⟩ ⟨Nat.zero_le _, Chg.refl _ _, x, rfl⟩ ?_
  clear x
  rintro i w1 ⟨hi, hc, x, hord⟩
  refine run ?_
  refine go T 2 rfl ?_
  refine ltS rfl rfl rfl rfl (fun hcmp => ?_) (fun hcmp => ?_)
  · have hlt : i < chs.length := by omega
    have hx := List.getElem?_eq_getElem hlt
    have hmem : chs[i] ∈ chs := List.getElem_mem hlt
    obtain ⟨ad, rfl, he⟩ := x.chsR.at hx
    rw [List.drop_eq_getElem_cons hlt, ordM] at hord
    generalize chs[i] = a at *
    have hsqa := hsq a hmem
    refine go T 11 rfl ?_
    refine o1 rfl (op_indexK T rfl rfl rfl rfl rfl (by omega) ?_)
    refine o1 rfl (op_loadE T he rfl rfl rfl rfl rfl ?_)
    refine o1 rfl ?_
    refine op_alloc T rfl rfl (fun g4 w3 hs3 hc3 hg4 => ?_)
    have hs3 : w1.heap.size ≤ g4 := hs3
    have hg4 : Blk w3 g4 71 [.int .i64 0, .string (str []), .string (str []), .int .i64 0, .int .i64 0, .int .i64 0, .int .i64 0, .string (str []), .int .i64 0, .int .i64 0, .bool false] := hg4
    refine go T 1 rfl ?_
    refine op0 rfl rfl ?_
    refine op_store_agg T rfl rfl rfl rfl rfl rfl hg4 (by exact Nat.le_of_ble_eq_true rfl) (fun w4 hc4 hg44 _ => ?_)
    have hg44 : Blk w4 g4 71 (chL a) := hg44
    have hc14 : Chg [] w1 w4 := hc3.trans hc4 (fun k hk hlt => by simp at hk; omega)
    clear hg4 he hc3 hc4
    replace hc := hc.trans' hc14
    replace x := x.keep0 hc14
    unfold chL opL at hg44
    have hb := x.blk
    have hout : rowM i a chs 0 = false → ordM ops chs chs 0 = false := fun h => by rw [hord, if_neg (by simp [h])]
    refine go T 8 rfl ?_
    refine ldB T hb rfl rfl rfl rfl rfl rfl ?_
    refine go T 5 rfl ?_
    clear hb
    refine W_loop (σ := Nat) (fun k => [(0, .pointer (some ⟨g, 0, none⟩)), (3, .int .i64 i), (4, .pointer (some ⟨g4, 0, none⟩)), (11, .slice (some ad) chs.length cc), (12, .int .i64 chs.length), (13, .int .i64 i), (21, .slice (some ad) chs.length cc), (22, .int .i64 chs.length), (23, .int .i64 k)])
      (fun k w' => k ≤ chs.length ∧ Chg [] w w' ∧ JAt w0 w' g ops chs sts pls vo (.slice (some ad) chs.length cc) vs vp ∧ Blk w' g4 71 (chL a) ∧ rowM i a chs 0 = rowM i a (chs.drop k) k)
      (fun k => chs.length - k) 0 ⟨rfl, rfl, rfl, rfl, rfl, rfl, rfl, rfl, rfl, trivial⟩ ⟨Nat.zero_le _, hc, x, hg44, rfl⟩ ?_
    clear x hg44 hc hc14
    rintro k w5 ⟨hk, hc, x, hg44, hrow⟩
    refine run ?_
    refine go T 2 rfl ?_
    refine ltS rfl rfl rfl rfl (fun hcmp => ?_) (fun hcmp => ?_)
    · have hlt : k < chs.length := by omega
      have hx := List.getElem?_eq_getElem hlt
      obtain ⟨ad', had, he⟩ := x.chsR.at hx
      injection had with had; subst had
      rw [List.drop_eq_getElem_cons hlt, rowM] at hrow
      generalize chs[k] = b at *
      refine go T 11 rfl ?_
      refine o1 rfl (op_indexK T rfl rfl rfl rfl rfl (by omega) ?_)
      refine o1 rfl (op_loadE T he rfl rfl rfl rfl rfl ?_)
      refine o1 rfl ?_
      refine op_alloc T rfl rfl (fun g6 w6 hs6 hc6 hg6 => ?_)
      have hs6 : w5.heap.size ≤ g6 := hs6
      have hg6 : Blk w6 g6 71 [.int .i64 0, .string (str []), .string (str []), .int .i64 0, .int .i64 0, .int .i64 0, .int .i64 0, .string (str []), .int .i64 0, .int .i64 0, .bool false] := hg6
      refine go T 1 rfl ?_
      refine op0 rfl rfl ?_
      refine op_store_agg T rfl rfl rfl rfl rfl rfl hg6 (by exact Nat.le_of_ble_eq_true rfl) (fun w7 hc7 hg67 _ => ?_)
      have hg67 : Blk w7 g6 71 (chL b) := hg67
      have hc57 : Chg [] w5 w7 := hc6.trans hc7 (fun k hk hlt => by simp at hk; omega)
      clear hg6 he hc6 hc7
      replace hc := hc.trans' hc57
      replace x := x.keep0 hc57
      replace hg44 := hg44.keep0 hc57
      unfold chL opL at hg67 hg44
      have hno : clashM i k a b = false → rowM i a chs 0 = rowM i a (chs.drop (k + 1)) (k + 1) := fun h => by rw [hrow, if_neg (by simp [h])]
      by_cases h1 : i = k
      · replace hno := hno (by unfold clashM; simp [h1])
        subst h1
        refine go T 6 rfl ?_
        refine neF rfl rfl rfl rfl (by omega) ?_
        refine go T 27 rfl ?_
        refine adI rfl rfl rfl rfl (by omega) (by omega) ?_
        refine go T 2 rfl ?_
        exact Round_n (i + 1) ⟨rfl, rfl, rfl, rfl, rfl, rfl, rfl, rfl, rfl, trivial⟩ ⟨by omega, hc, x, hg44, hno⟩ (by omega)
      cases htold : a.told with
      | false =>
        replace hno := hno (by unfold clashM; simp [htold])
        rw [htold] at hg44
        refine go T 6 rfl ?_
        refine neT rfl rfl rfl rfl (by omega) ?_
        refine go T 2 rfl ?_
        refine ldB T hg44 rfl rfl rfl rfl rfl rfl ?_
        refine go T 24 rfl ?_
        refine adI rfl rfl rfl rfl (by omega) (by omega) ?_
        refine go T 2 rfl ?_
        exact Round_n (k + 1) ⟨rfl, rfl, rfl, rfl, rfl, rfl, rfl, rfl, rfl, trivial⟩ ⟨by omega, hc, x, by unfold chL opL; rw [htold]; exact hg44, hno⟩ (by omega)
      | true =>
      rw [htold] at hg44
      by_cases h2 : a.o.done < b.o.asked
      case neg =>
        replace hno := hno (by unfold clashM; simp [h2])
        refine go T 6 rfl ?_
        refine neT rfl rfl rfl rfl (by omega) ?_
        refine go T 2 rfl ?_
        refine ldB T hg44 rfl rfl rfl rfl rfl rfl ?_
        refine go T 4 rfl ?_
        refine ldB T hg44 rfl rfl rfl rfl rfl rfl ?_
        refine go T 2 rfl ?_
        refine ldB T hg67 rfl rfl rfl rfl rfl rfl ?_
        refine ltF rfl rfl rfl rfl (by omega) ?_
        refine go T 15 rfl ?_
        refine adI rfl rfl rfl rfl (by omega) (by omega) ?_
        refine go T 2 rfl ?_
        exact Round_n (k + 1) ⟨rfl, rfl, rfl, rfl, rfl, rfl, rfl, rfl, rfl, trivial⟩ ⟨by omega, hc, x, by unfold chL opL; rw [htold]; exact hg44, hno⟩ (by omega)
      by_cases h3 : b.seq ≤ a.seq
      case neg =>
        replace hno := hno (by unfold clashM; simp [h3])
        refine go T 6 rfl ?_
        refine neT rfl rfl rfl rfl (by omega) ?_
        refine go T 2 rfl ?_
        refine ldB T hg44 rfl rfl rfl rfl rfl rfl ?_
        refine go T 4 rfl ?_
        refine ldB T hg44 rfl rfl rfl rfl rfl rfl ?_
        refine go T 2 rfl ?_
        refine ldB T hg67 rfl rfl rfl rfl rfl rfl ?_
        refine ltT rfl rfl rfl rfl (by omega) ?_
        refine go T 3 rfl ?_
        refine ldB T hg44 rfl rfl rfl rfl rfl rfl ?_
        refine go T 1 rfl ?_
        refine ldB T hg67 rfl rfl rfl rfl rfl rfl ?_
        refine geF rfl rfl rfl rfl (by omega) ?_
        refine go T 8 rfl ?_
        refine adI rfl rfl rfl rfl (by omega) (by omega) ?_
        refine go T 2 rfl ?_
        exact Round_n (k + 1) ⟨rfl, rfl, rfl, rfl, rfl, rfl, rfl, rfl, rfl, trivial⟩ ⟨by omega, hc, x, by unfold chL opL; rw [htold]; exact hg44, hno⟩ (by omega)
      rw [hout (by rw [hrow, if_pos (by unfold clashM; simp [h1, htold, h2, h3])])]
      refine go T 6 rfl ?_
      refine neT rfl rfl rfl rfl (by omega) ?_
      refine go T 2 rfl ?_
      refine ldB T hg44 rfl rfl rfl rfl rfl rfl ?_
      refine go T 4 rfl ?_
      refine ldB T hg44 rfl rfl rfl rfl rfl rfl ?_
      refine go T 2 rfl ?_
      refine ldB T hg67 rfl rfl rfl rfl rfl rfl ?_
      refine ltT rfl rfl rfl rfl (by omega) ?_
      refine go T 3 rfl ?_
      refine ldB T hg44 rfl rfl rfl rfl rfl rfl ?_
      refine go T 1 rfl ?_
      refine ldB T hg67 rfl rfl rfl rfl rfl rfl ?_
      refine geT rfl rfl rfl rfl (by omega) ?_
      refine go T 12 rfl ?_
      refine rndR ?_
      refine go T 4 rfl ?_
      refine rndR ?_
      refine go T 2 rfl ?_
      exact post1 (.inl rfl) rfl rfl ⟨rfl, hc⟩
    obtain rfl : k = chs.length := by omega
    rw [List.drop_length, rowM] at hrow
    clear hout
    have hno : delM ops chs a = false → ordM ops chs chs 0 = ordM ops chs (chs.drop (i + 1)) (i + 1) := fun h => by rw [hord, if_pos ⟨hrow, h⟩]
    unfold chL opL at hg44
    cases htold : a.told with
    | false =>
      replace hno := hno (by unfold delM; simp [htold])
      rw [htold] at hg44
      refine go T 6 rfl ?_
      refine rndX ?_
      refine go T 7 rfl ?_
      refine ldB T hg44 rfl rfl rfl rfl rfl rfl ?_
      refine go T 6 rfl ?_
      refine ldB T hg44 rfl rfl rfl rfl rfl rfl ?_
      refine go T 32 rfl ?_
      refine adI rfl rfl rfl rfl (by omega) (by omega) ?_
      refine go T 2 rfl ?_
      exact Round_n (i + 1) ⟨rfl, rfl, rfl, rfl, trivial⟩ ⟨by omega, hc, x, hno⟩ (by omega)
    | true =>
    rw [htold] at hg44
    replace hsqa := hsqa htold
    by_cases h1 : a.o.kind = 3
    case neg =>
      replace hno := hno (by unfold delM; simp [h1])
      refine go T 6 rfl ?_
      refine rndX ?_
      refine go T 7 rfl ?_
      refine ldB T hg44 rfl rfl rfl rfl rfl rfl ?_
      refine go T 6 rfl ?_
      refine ldB T hg44 rfl rfl rfl rfl rfl rfl ?_
      refine go T 4 rfl ?_
      refine ldB T hg44 rfl rfl rfl rfl rfl rfl ?_
      refine eqF rfl rfl rfl rfl (by omega) ?_
      refine go T 26 rfl ?_
      refine adI rfl rfl rfl rfl (by omega) (by omega) ?_
      refine go T 2 rfl ?_
      exact Round_n (i + 1) ⟨rfl, rfl, rfl, rfl, trivial⟩ ⟨by omega, hc, x, hno⟩ (by omega)
    refine go T 6 rfl ?_
    refine rndX ?_
    refine go T 7 rfl ?_
    refine ldB T hg44 rfl rfl rfl rfl rfl rfl ?_
    refine go T 6 rfl ?_
    refine ldB T hg44 rfl rfl rfl rfl rfl rfl ?_
    refine go T 4 rfl ?_
    refine ldB T hg44 rfl rfl rfl rfl rfl rfl ?_
    refine eqT rfl rfl rfl rfl (by omega) ?_
    refine go T 5 rfl ?_
    refine ldB T hg44 rfl rfl rfl rfl rfl rfl ?_
    refine sbI rfl rfl rfl rfl (by omega) (by omega) ?_
    refine o1 rfl ?_
    refine op_call rfl rfl rfl (there_has x a.o.key (a.seq - 1)) ?_
    rintro _ w6 ⟨hc6, rfl⟩
    replace hc := hc.trans' hc6
    replace x := x.keep0 hc6
    replace hg44 := hg44.keep0 hc6
    cases hth : thereM chs a.o.key (a.seq - 1) with
    | true =>
      replace hno := hno (by unfold delM; simp [hth])
      refine go T 18 rfl ?_
      refine adI rfl rfl rfl rfl (by omega) (by omega) ?_
      refine go T 2 rfl ?_
      exact Round_n (i + 1) ⟨rfl, rfl, rfl, rfl, trivial⟩ ⟨by omega, hc, x, hno⟩ (by omega)
    | false =>
    refine go T 7 rfl ?_
    refine ldB T hg44 rfl rfl rfl rfl rfl rfl ?_
    refine o1 rfl ?_
    refine op_call rfl rfl rfl (opened_has x 1 a.o.key a.o.done) ?_
    rintro _ w7 ⟨hc7, rfl⟩
    replace hc6 := hc6.trans' hc7
    replace hc := hc.trans' hc7
    replace x := x.keep0 hc7
    replace hg44 := hg44.keep0 hc7
    cases hop : openedM ops 1 a.o.key a.o.done with
    | true =>
      replace hno := hno (by unfold delM; simp [hop])
      refine go T 9 rfl ?_
      refine adI rfl rfl rfl rfl (by omega) (by omega) ?_
      refine go T 2 rfl ?_
      exact Round_n (i + 1) ⟨rfl, rfl, rfl, rfl, trivial⟩ ⟨by omega, hc, x, hno⟩ (by omega)
    | false =>
    rw [show ordM ops chs chs 0 = false from by rw [hord, if_neg (fun h => by have h2 := h.2; unfold delM at h2; simp [htold, h1, hth, hop] at h2)]]
    refine go T 13 rfl ?_
    refine rndR ?_
    refine go T 2 rfl ?_
    exact post1 (.inl rfl) rfl rfl ⟨rfl, hc⟩
  obtain rfl : i = chs.length := by omega
  rw [List.drop_length, ordM] at hord
  rw [hord]
  refine go T 6 rfl ?_
  refine rndX ?_
  refine go T 8 rfl ?_
  exact post1 (.inl rfl) rfl rfl ⟨rfl, hc⟩
end
end Go.Proofs.Ytjkbbkomajjegaa.Try
/-! History: the least place of a sight, and its place. -/
set_option linter.unusedVariables false
namespace Go.Vc
open Go
def lowM (o : OpM) (n : Int) (c : ChgM) : Int := if c.told = true ∧ c.o.done < o.asked then max n c.seq else n
def low2M (o : OpM) (n : Int) (q : Int × OpM) : Int := if q.2.done < o.asked then max n q.1 else n
def leastM (chs : List ChgM) (sts : List OpM) (pls : List Int) (o : OpM) : Int := (pls.zip sts).foldl (low2M o) (chs.foldl (lowM o) (if sawM o = true then o.seq else 0))
def climbM (chs : List ChgM) (key : Bs) : List ChgM → Int → Option Int
  | [], n => if thereM chs key n = true then none else some n
  | c :: l, n => if thereM chs key n = true then climbM chs key l (max n c.seq) else some n
def badM (o : OpM) (n : Int) (c : ChgM) : Bool := decide (c.seq ≤ n ∧ (o.done < c.o.asked ∨ (sawM o = true ∧ c.o.key = o.key ∧ o.seq < c.seq)))
def lastM (chs : List ChgM) (o : OpM) (n : Int) : Int × Bool := if chs.any (badM o n) = true then (0, false) else (n, true)
def placeM (ops : List OpM) (chs : List ChgM) (sts : List OpM) (pls : List Int) (o : OpM) : Int × Bool :=
  if sawM o = true then lastM chs o (leastM chs sts pls o)
  else if openedM ops 3 o.key o.done = true then (-1, true)
  else match climbM chs o.key chs (leastM chs sts pls o) with
    | none => (0, false)
    | some n => lastM chs o n
end Go.Vc
namespace Go.Proofs.Ytjkbbkomajjegaa.Try
open Go Go.Vc
section
variable {w0 w w1 : World} {g r : Nat} {ops : List OpM} {chs : List ChgM} {sts : List OpM} {pls : List Int} {vo vc vs vp : Value}
theorem Own.cellI {A : Option Addr} {n c : Nat} (h : Own w 2 1 (.slice A n c) pls.length (pls.map i64V)) {i : Nat} {s : Int} (hx : pls[i]? = some s) : ∃ ad, A = some ad ∧ w.cell? (ad.add (i * 1)) = some (.int .i64 s) ∧ w.cell? (ad.add i) = some (.int .i64 s) := by
  obtain ⟨A', c', e, _, _⟩ := h.form
  injection e with e1 e2 e3
  subst e2
  obtain ⟨ad, rfl, he⟩ := (Own.readsK (f := fun x => [i64V x]) (fun _ => rfl) (by rw [← map_flat]; exact h)).at hx
  have h1 : w.cell? (ad.add (i * 1)) = some (.int .i64 s) := he 0 _ rfl
  exact ⟨ad, rfl, h1, by rw [Nat.mul_one] at h1; exact h1⟩
set_option maxHeartbeats 4000000 in
theorem least_has (x : JAt w0 w g ops chs sts pls vo vc vs vp) {k : Nat} {o : OpM} (hk : sts[k]? = some o) (hpl : pls.length ≤ sts.length) :
    Has Go.Proofs.Try.prog 48 #[ptrB g, .int .i64 k] w (fun v w' => v = .int .i64 (leastM chs sts pls o) ∧ Chg [] w w') := by
  refine enter Go.Proofs.Try.func48 rfl rfl (by decide) rfl (e := [(0, ptrB g), (1, .int .i64 k)]) ⟨rfl, rfl, trivial⟩ ?_
  unfold ptrB
  have hb := x.blk
  obtain ⟨Ac, cc, rfl, hl1, hl2⟩ := x.chsR.form
  obtain ⟨As, cs, rfl, hl3, hl4⟩ := x.stsR.form
  obtain ⟨Ap, cp, rfl, hl5, hl6⟩ := x.pls.form
  unfold maxLen at hl2 hl4 hl6
  have hks : k < sts.length := (List.getElem?_eq_some_iff.1 hk).1
  obtain ⟨ads, rfl, he⟩ := x.stsR.at hk
  refine run ?_
  refine go T 10 rfl ?_
  refine ldB T hb rfl rfl rfl rfl rfl rfl ?_
  refine go T 1 rfl ?_
  refine o1 rfl (op_indexK T rfl rfl rfl rfl rfl (by omega) ?_)
  refine o1 rfl (op_loadE T he rfl rfl rfl rfl rfl ?_)
  refine o1 rfl ?_
  refine op_alloc T rfl rfl (fun g5 w3 hs3 hc3 hg5 => ?_)
  have hs3 : w.heap.size ≤ g5 := hs3
  have hg5 : Blk w3 g5 34 [.int .i64 0, .string (str []), .string (str []), .int .i64 0, .int .i64 0, .int .i64 0, .int .i64 0, .string (str []), .int .i64 0] := hg5
  refine op0 rfl rfl ?_
  refine op_store_agg T rfl rfl rfl rfl rfl rfl hg5 (by exact Nat.le_of_ble_eq_true rfl) (fun w4 hc4 hg54 _ => ?_)
  have hg54 : Blk w4 g5 34 (opL o) := hg54
  have hc04 : Chg [] w w4 := hc3.trans hc4 (fun k hk hlt => by simp at hk; omega)
  clear hg5 he hc3 hc4
  replace x := x.keep0 hc04
  clear hb
  unfold opL at hg54
  refine go T 10 rfl ?_
  refine o1 rfl (op_load_agg T rfl rfl rfl rfl hg54 (by exact Nat.le_of_ble_eq_true rfl) (by exact rfl) ?_)
  refine o1 rfl ?_
  refine op_call rfl rfl rfl (saw_has o w4) ?_
  rintro _ w5 ⟨hc5, rfl⟩
  replace hg54 := hg54.keep0 hc5
  replace hc04 := hc04.trans' hc5
  replace x := x.keep0 hc5
  refine go T 2 rfl ?_
  refine W_meet (σ := Unit) (fun _ => [(0, .pointer (some ⟨g, 0, none⟩)), (5, .pointer (some ⟨g5, 0, none⟩)), (6, .int .i64 (if sawM o = true then o.seq else 0))]) (fun _ w' => w' = w5) ?_ ?_
  · cases hsaw : sawM o with
    | true =>
      refine run ?_
      refine go T 4 rfl ?_
      refine ldB T hg54 rfl rfl rfl rfl rfl rfl ?_
      refine go T 2 rfl ?_
      exact Meet_n () ⟨rfl, rfl, rfl, trivial⟩ rfl
    | false =>
      refine run ?_
      refine go T 2 rfl ?_
      exact Meet_n () ⟨rfl, rfl, rfl, trivial⟩ rfl
  rintro _ w6 rfl
  unfold leastM
  generalize (if sawM o = true then o.seq else 0) = n0
  have hb := x.blk
  refine runX ?_
  refine go T 7 rfl ?_
  refine ldB T hb rfl rfl rfl rfl rfl rfl ?_
  refine go T 5 rfl ?_
  clear hb
  refine W_loop (σ := Nat × Int) (fun s => [(0, .pointer (some ⟨g, 0, none⟩)), (5, .pointer (some ⟨g5, 0, none⟩)), (6, .int .i64 s.2), (26, .slice Ac chs.length cc), (27, .int .i64 chs.length), (28, .int .i64 s.1)])
    (fun s w' => s.1 ≤ chs.length ∧ Chg [] w w' ∧ JAt w0 w' g ops chs sts pls vo (.slice Ac chs.length cc) (.slice (some ads) sts.length cs) (.slice Ap pls.length cp) ∧ Blk w' g5 34 (opL o) ∧ chs.foldl (lowM o) n0 = (chs.drop s.1).foldl (lowM o) s.2)
    (fun s => chs.length - s.1) (0, n0) ⟨rfl, rfl, rfl, rfl, rfl, rfl, trivial⟩ ⟨Nat.zero_le _, hc04, x, hg54, rfl⟩ ?_
  clear x hg54 hc04
  rintro ⟨i, n⟩ w7 ⟨hi, hc, x, hg5, hfo⟩
  dsimp only at hi hfo ⊢
  refine run ?_
  refine go T 2 rfl ?_
  refine ltS rfl rfl rfl rfl (fun hcmp => ?_) (fun hcmp => ?_)
  · have hlt : i < chs.length := by omega
    have hx := List.getElem?_eq_getElem hlt
    obtain ⟨ad, rfl, he⟩ := x.chsR.at hx
    rw [List.drop_eq_getElem_cons hlt, List.foldl_cons] at hfo
    generalize chs[i] = a at *
    refine go T 10 rfl ?_
    refine o1 rfl (op_indexK T rfl rfl rfl rfl rfl (by omega) ?_)
    refine o1 rfl (op_loadE T he rfl rfl rfl rfl rfl ?_)
    refine o1 rfl ?_
    refine op_alloc T rfl rfl (fun g8 w8 hs8 hc8 hg8 => ?_)
    have hs8 : w7.heap.size ≤ g8 := hs8
    have hg8 : Blk w8 g8 71 [.int .i64 0, .string (str []), .string (str []), .int .i64 0, .int .i64 0, .int .i64 0, .int .i64 0, .string (str []), .int .i64 0, .int .i64 0, .bool false] := hg8
    refine op0 rfl rfl ?_
    refine op_store_agg T rfl rfl rfl rfl rfl rfl hg8 (by exact Nat.le_of_ble_eq_true rfl) (fun w9 hc9 hg89 _ => ?_)
    have hg89 : Blk w9 g8 71 (chL a) := hg89
    have hc79 : Chg [] w7 w9 := hc8.trans hc9 (fun k hk hlt => by simp at hk; omega)
    clear hg8 he hc8 hc9
    replace hc := hc.trans' hc79
    replace hg5 := hg5.keep0 hc79
    replace x := x.keep0 hc79
    unfold chL opL at hg89
    unfold opL at hg5
    cases htold : a.told with
    | false =>
      rw [htold] at hg89
      rw [show lowM o n a = n from by unfold lowM; rw [if_neg (by simp [htold])]] at hfo
      refine go T 5 rfl ?_
      refine ldB T hg89 rfl rfl rfl rfl rfl rfl ?_
      refine go T 15 rfl ?_
      refine adI rfl rfl rfl rfl (by omega) (by omega) ?_
      refine go T 2 rfl ?_
      exact Round_n (i + 1, n) ⟨rfl, rfl, rfl, rfl, rfl, rfl, trivial⟩ ⟨by dsimp only; omega, hc, x, hg5, hfo⟩ (by dsimp only; omega)
    | true =>
    rw [htold] at hg89
    by_cases h1 : a.o.done < o.asked
    · rw [show lowM o n a = max n a.seq from by unfold lowM; rw [if_pos ⟨htold, h1⟩]] at hfo
      refine go T 5 rfl ?_
      refine ldB T hg89 rfl rfl rfl rfl rfl rfl ?_
      refine go T 3 rfl ?_
      refine ldB T hg89 rfl rfl rfl rfl rfl rfl ?_
      refine go T 1 rfl ?_
      refine ldB T hg5 rfl rfl rfl rfl rfl rfl ?_
      refine ltT rfl rfl rfl rfl (by omega) ?_
      refine go T 7 rfl ?_
      refine ldB T hg89 rfl rfl rfl rfl rfl rfl ?_
      refine o1 rfl (op_max rfl rfl rfl ?_)
      refine go T 5 rfl ?_
      refine adI rfl rfl rfl rfl (by omega) (by omega) ?_
      refine go T 2 rfl ?_
      exact Round_n (i + 1, max n a.seq) ⟨rfl, rfl, rfl, rfl, rfl, rfl, trivial⟩ ⟨by dsimp only; omega, hc, x, hg5, hfo⟩ (by dsimp only; omega)
    · rw [show lowM o n a = n from by unfold lowM; rw [if_neg (fun h => h1 h.2)]] at hfo
      refine go T 5 rfl ?_
      refine ldB T hg89 rfl rfl rfl rfl rfl rfl ?_
      refine go T 3 rfl ?_
      refine ldB T hg89 rfl rfl rfl rfl rfl rfl ?_
      refine go T 1 rfl ?_
      refine ldB T hg5 rfl rfl rfl rfl rfl rfl ?_
      refine ltF rfl rfl rfl rfl (by omega) ?_
      refine go T 8 rfl ?_
      refine adI rfl rfl rfl rfl (by omega) (by omega) ?_
      refine go T 2 rfl ?_
      exact Round_n (i + 1, n) ⟨rfl, rfl, rfl, rfl, rfl, rfl, trivial⟩ ⟨by dsimp only; omega, hc, x, hg5, hfo⟩ (by dsimp only; omega)
  obtain rfl : i = chs.length := by omega
  rw [List.drop_length, List.foldl_nil] at hfo
  rw [hfo]
  clear hfo
  have hb := x.blk
  refine go T 6 rfl ?_
  refine rndX ?_
  refine go T 8 rfl ?_
  refine ldB T hb rfl rfl rfl rfl rfl rfl ?_
  refine go T 5 rfl ?_
  clear hb
  refine W_loop (σ := Nat × Int) (fun s => [(0, .pointer (some ⟨g, 0, none⟩)), (5, .pointer (some ⟨g5, 0, none⟩)), (6, .int .i64 s.2), (50, .slice Ap pls.length cp), (51, .int .i64 pls.length), (52, .int .i64 s.1)])
    (fun s w' => s.1 ≤ pls.length ∧ Chg [] w w' ∧ JAt w0 w' g ops chs sts pls vo (.slice Ac chs.length cc) (.slice (some ads) sts.length cs) (.slice Ap pls.length cp) ∧ Blk w' g5 34 (opL o) ∧ (pls.zip sts).foldl (low2M o) n = ((pls.zip sts).drop s.1).foldl (low2M o) s.2)
    (fun s => pls.length - s.1) (0, n) ⟨rfl, rfl, rfl, rfl, rfl, rfl, trivial⟩ ⟨Nat.zero_le _, hc, x, hg5, rfl⟩ ?_
  clear x hg5 hc
  rintro ⟨j, m⟩ w8 ⟨hj, hc, x, hg5, hfo⟩
  dsimp only at hj hfo ⊢
  have hzl : (pls.zip sts).length = pls.length := by rw [List.length_zip]; omega
  refine run ?_
  refine go T 2 rfl ?_
  refine ltS rfl rfl rfl rfl (fun hcmp => ?_) (fun hcmp => ?_)
  · have hlt : j < pls.length := by omega
    have hx := List.getElem?_eq_getElem hlt
    have hlts : j < sts.length := by omega
    have hxs := List.getElem?_eq_getElem hlts
    have hb := x.blk
    obtain ⟨adp, rfl, hcell1, hcell2⟩ := Own.cellI x.pls hx
    obtain ⟨ads', had, he⟩ := x.stsR.at hxs
    injection had with had; subst had
    rw [List.drop_eq_getElem_cons (by omega), List.foldl_cons, List.getElem_zip] at hfo
    generalize pls[j] = p at *
    generalize sts[j] = y at *
    unfold opL at hg5 he
    by_cases h1 : y.done < o.asked
    · rw [show low2M o m (p, y) = max m p from by unfold low2M; rw [if_pos h1]] at hfo
      refine go T 11 rfl ?_
      refine o1 rfl (op_index_nat T rfl rfl rfl rfl rfl rfl (by omega) ?_)
      refine o1 rfl (op_load T rfl rfl rfl rfl (by assumption) ?_)
      refine go T 5 rfl ?_
      refine W_walk 10 [] fol (by kernel_rfl) (by kernel_rfl) ?_
      refine Walk.plain rfl (by intro val w_ hR hp; exact op_move rfl rfl ⟨Chg.refl _ _, rfl⟩) ?_; dsimp only [List.nil_append, List.cons_append]
      refine Walk.plain rfl (by intro val w_ hR hp; exact op_nilCheck rfl rfl ⟨Chg.refl _ _, rfl⟩) ?_; dsimp only [List.nil_append, List.cons_append]
      refine Walk.plain rfl (by intro val w_ hR hp; exact op_fieldAddr T rfl rfl rfl rfl rfl rfl rfl rfl ⟨Chg.refl _ _, rfl⟩) ?_; dsimp only [List.nil_append, List.cons_append]
      refine Walk.plain rfl (by intro val w_ hR hp; exact op_loadB T rfl rfl rfl rfl (hb.keep0 hR) (by exact rfl) ⟨Chg.refl _ _, rfl⟩) ?_; dsimp only [List.nil_append, List.cons_append]
      refine Walk.plain rfl (by intro val w_ hR hp; exact op_move rfl rfl ⟨Chg.refl _ _, rfl⟩) ?_; dsimp only [List.nil_append, List.cons_append]
      refine Walk.plain rfl (by intro val w_ hR hp; exact op_indexK T rfl rfl rfl rfl rfl (by omega) ⟨Chg.refl _ _, rfl⟩) ?_; dsimp only [List.nil_append, List.cons_append]
      refine Walk.plain rfl (by intro val w_ hR hp; exact op_fieldAddr T rfl rfl rfl rfl rfl rfl rfl rfl ⟨Chg.refl _ _, rfl⟩) ?_; dsimp only [List.nil_append, List.cons_append]
      refine Walk.plain rfl (by intro val w_ hR hp; exact op_loadF T (he.keep0 hR) rfl rfl rfl rfl rfl ⟨Chg.refl _ _, rfl⟩) ?_; dsimp only [List.nil_append, List.cons_append]
      refine Walk.plain rfl (by intro val w_ hR hp; exact op_fieldAddr T rfl rfl rfl rfl rfl rfl rfl rfl ⟨Chg.refl _ _, rfl⟩) ?_; dsimp only [List.nil_append, List.cons_append]
      refine Walk.plain rfl (by intro val w_ hR hp; exact op_loadB T rfl rfl rfl rfl (hg5.keep0 hR) (by exact rfl) ⟨Chg.refl _ _, rfl⟩) ?_; dsimp only [List.nil_append, List.cons_append]
      skip
      refine Walk.fin ?_
      intro val w9 hc9 hp
      clear hp
      replace hc := hc.trans' hc9
      replace hg5 := hg5.keep0 hc9
      replace x := x.keep0 hc9
      replace hb := hb.keep0 hc9
      replace hcell1 := hc9.cell0 hcell1
      replace hcell2 := hc9.cell0 hcell2
      replace he := he.keep0 hc9
      refine runL ?_
      refine ltT rfl rfl rfl rfl (by omega) ?_
      refine go T 6 rfl ?_
      refine o1 rfl (op_max rfl rfl rfl ?_)
      refine go T 5 rfl ?_
      refine adI rfl rfl rfl rfl (by omega) (by omega) ?_
      refine go T 2 rfl ?_
      exact Round_n (j + 1, max m p) ⟨rfl, rfl, rfl, rfl, rfl, rfl, trivial⟩ ⟨by dsimp only; omega, hc, x, hg5, hfo⟩ (by dsimp only; omega)
    · rw [show low2M o m (p, y) = m from by unfold low2M; rw [if_neg h1]] at hfo
      refine go T 11 rfl ?_
      refine o1 rfl (op_index_nat T rfl rfl rfl rfl rfl rfl (by omega) ?_)
      refine o1 rfl (op_load T rfl rfl rfl rfl (by assumption) ?_)
      refine go T 5 rfl ?_
      refine W_walk 10 [] fol (by kernel_rfl) (by kernel_rfl) ?_
      refine Walk.plain rfl (by intro val w_ hR hp; exact op_move rfl rfl ⟨Chg.refl _ _, rfl⟩) ?_; dsimp only [List.nil_append, List.cons_append]
      refine Walk.plain rfl (by intro val w_ hR hp; exact op_nilCheck rfl rfl ⟨Chg.refl _ _, rfl⟩) ?_; dsimp only [List.nil_append, List.cons_append]
      refine Walk.plain rfl (by intro val w_ hR hp; exact op_fieldAddr T rfl rfl rfl rfl rfl rfl rfl rfl ⟨Chg.refl _ _, rfl⟩) ?_; dsimp only [List.nil_append, List.cons_append]
      refine Walk.plain rfl (by intro val w_ hR hp; exact op_loadB T rfl rfl rfl rfl (hb.keep0 hR) (by exact rfl) ⟨Chg.refl _ _, rfl⟩) ?_; dsimp only [List.nil_append, List.cons_append]
      refine Walk.plain rfl (by intro val w_ hR hp; exact op_move rfl rfl ⟨Chg.refl _ _, rfl⟩) ?_; dsimp only [List.nil_append, List.cons_append]
      refine Walk.plain rfl (by intro val w_ hR hp; exact op_indexK T rfl rfl rfl rfl rfl (by omega) ⟨Chg.refl _ _, rfl⟩) ?_; dsimp only [List.nil_append, List.cons_append]
      refine Walk.plain rfl (by intro val w_ hR hp; exact op_fieldAddr T rfl rfl rfl rfl rfl rfl rfl rfl ⟨Chg.refl _ _, rfl⟩) ?_; dsimp only [List.nil_append, List.cons_append]
      refine Walk.plain rfl (by intro val w_ hR hp; exact op_loadF T (he.keep0 hR) rfl rfl rfl rfl rfl ⟨Chg.refl _ _, rfl⟩) ?_; dsimp only [List.nil_append, List.cons_append]
      refine Walk.plain rfl (by intro val w_ hR hp; exact op_fieldAddr T rfl rfl rfl rfl rfl rfl rfl rfl ⟨Chg.refl _ _, rfl⟩) ?_; dsimp only [List.nil_append, List.cons_append]
      refine Walk.plain rfl (by intro val w_ hR hp; exact op_loadB T rfl rfl rfl rfl (hg5.keep0 hR) (by exact rfl) ⟨Chg.refl _ _, rfl⟩) ?_; dsimp only [List.nil_append, List.cons_append]
      skip
      refine Walk.fin ?_
      intro val w9 hc9 hp
      clear hp
      replace hc := hc.trans' hc9
      replace hg5 := hg5.keep0 hc9
      replace x := x.keep0 hc9
      replace hb := hb.keep0 hc9
      replace hcell1 := hc9.cell0 hcell1
      replace hcell2 := hc9.cell0 hcell2
      replace he := he.keep0 hc9
      refine runL ?_
      refine ltF rfl rfl rfl rfl (by omega) ?_
      refine go T 7 rfl ?_
      refine adI rfl rfl rfl rfl (by omega) (by omega) ?_
      refine go T 2 rfl ?_
      exact Round_n (j + 1, m) ⟨rfl, rfl, rfl, rfl, rfl, rfl, trivial⟩ ⟨by dsimp only; omega, hc, x, hg5, hfo⟩ (by dsimp only; omega)
  obtain rfl : j = pls.length := by omega
  rw [← hzl, List.drop_length, List.foldl_nil] at hfo
  rw [hfo]
  refine go T 6 rfl ?_
  refine rndX ?_
  refine go T 9 rfl ?_
  exact post1 (.inl rfl) rfl rfl ⟨rfl, hc⟩
end
end Go.Proofs.Ytjkbbkomajjegaa.Try
