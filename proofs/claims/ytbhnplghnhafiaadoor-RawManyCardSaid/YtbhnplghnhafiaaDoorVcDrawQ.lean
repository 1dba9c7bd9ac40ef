import Derived.Test.YtbhnplghnhafiaaDoorVcDraw
/-! Regions that draw their order, one of whose operations (number q) may turn blocks of S while all others turn none: that one finds the world as it was but for new blocks. -/
set_option linter.unusedSimpArgs false
set_option linter.unusedVariables false
namespace Go.Vc.Q
open Go Go.RowKit Go.Vc

/-- What the others may have turned when operation i comes up; what it may turn itself. -/
def Oth (q : Nat) (S : List Nat) (i : Nat) : List Nat := if i = q then [] else S
def Sel (q : Nat) (S : List Nat) (i : Nat) : List Nat := if i = q then S else []
theorem sel_sub (q : Nat) (S : List Nat) (i : Nat) : ∀ k ∈ Sel q S i, k ∈ S := by unfold Sel; split <;> simp
theorem sel_oth {q : Nat} {S : List Nat} {i k : Nat} (h : i ≠ k) : ∀ j ∈ Sel q S i, j ∈ Oth q S k := by
  unfold Sel Oth
  by_cases hi : i = q
  · rw [if_pos hi, if_neg (fun e => h (hi.trans e.symm))]; exact fun _ h => h
  · rw [if_neg hi]; simp

/-- What is asked of front operation i. -/
def FrontOp (P : Program) (N : Nat) (q : Nat) (S : List Nat) (l : List Oper) (Vs : List VS) (e : Env) (w : World) (i : Nat) (o : Oper) : Prop :=
  ∀ (val : Nat → Value) (w1 : World), Chg (Oth q S i) w w1 → (∀ j, (predsOf o).contains j = true → ∀ oj d, l[j]? = some oj → oj.dst = some d → (vsAt Vs j).holds (valOf Vs val j) w1) →
    match o.guard with
    | none => OpW P N o (opEnv l Vs e i o val) w1 (fun v w' => Chg (Sel q S i) w1 w' ∧ (vsAt Vs i).holds v w')
    | some (j, want) => ∃ b, (predsOf o).contains j = true ∧ ((l[j]?).bind (·.dst)).isSome = true ∧ valOf Vs val j = .bool b ∧
        (b = want → OpW P N o (opEnv l Vs e i o val) w1 (fun v w' => Chg (Sel q S i) w1 w' ∧ (vsAt Vs i).holds v w')) ∧ (b = !want → (vsAt Vs i).holds undef w1)
def Front (P : Program) (N : Nat) (q : Nat) (S : List Nat) (l : List Oper) (Vs : List VS) (e : Env) (w : World) : Nat → Nat → List Oper → Prop
  | _, 0, _ => True
  | _, _ + 1, [] => True
  | i, m + 1, o :: r => FrontOp P N q S l Vs e w i o ∧ Front P N q S l Vs e w (i + 1) m r

theorem Front.get {P : Program} {N : Nat} {q : Nat} {S : List Nat} {l : List Oper} {Vs : List VS} {e : Env} {w : World} :
    ∀ (r : List Oper) (i m : Nat), Front P N q S l Vs e w i m r → ∀ k o, k < m → r[k]? = some o → FrontOp P N q S l Vs e w (i + k) o
  | [], i, m, h, k, o, hk, ho => by simp at ho
  | p :: r, i, 0, h, k, o, hk, ho => by omega
  | p :: r, i, m + 1, h, 0, o, hk, ho => by simp at ho; subst ho; exact h.1
  | p :: r, i, m + 1, h, k + 1, o, hk, ho => by
    have := Front.get r (i + 1) m h.2 k o (by omega) (by simpa using ho)
    rw [show i + (k + 1) = i + 1 + k from by omega]; exact this

/-- The state in the middle of a region. -/
structure Mid (N : Nat) (q : Nat) (S : List Nat) (l : List Oper) (m : Nat) (Vs : List VS) (e : Env) (w0 : World) (listed : Array Bool) (a : Act) (w : World) : Prop where
  size : a.tmps.size = N
  defers : a.defers = []
  chg : Chg S w0 w
  chg0 : listed.getD q false = false → Chg [] w0 w
  lsize : listed.size = l.length
  front : ∀ i, i < l.length → m ≤ i → listed.getD i true = false
  down : ∀ i o, l[i]? = some o → listed.getD i true = true → ∀ j, (predsOf o).contains j = true → listed.getD j false = true
  old : ∀ t v, look e t = some v → (∀ i o, l[i]? = some o → o.dst = some t → listed.getD i true = false) → a.tmps[t]? = some v
  new : ∀ i o d, l[i]? = some o → o.dst = some d → listed.getD i true = true → ∃ v, a.tmps[d]? = some v ∧ (vsAt Vs i).holds v w
  noval : ∀ i o, l[i]? = some o → o.dst = none → listed.getD i true = true → ∃ v, (vsAt Vs i).holds v w

section
variable {P : Program} {N : Nat} {q : Nat} {S : List Nat} {l : List Oper} {m : Nat} {Vs : List VS} {e : Env} {w0 : World} {listed : Array Bool} {a : Act} {w : World}

/-- The values that the listed front operations have left, as a function of their numbers. -/
theorem Mid.vals (hM : Mid N q S l m Vs e w0 listed a w) : ∃ val : Nat → Value, ∀ i o d, l[i]? = some o → o.dst = some d → listed.getD i true = true → a.tmps[d]? = some (valOf Vs val i) ∧ (vsAt Vs i).holds (valOf Vs val i) w := by
  refine ⟨fun i => ((l[i]?).bind (·.dst)).elim undef fun d => a.tmps.getD d undef, fun i o d ho hd hl => ?_⟩
  obtain ⟨v, hv, hh⟩ := hM.new i o d ho hd hl
  unfold valOf
  cases hvs : Vs[i]? with
  | none => simp [ho, hd, Array.getD_eq_getD_getElem?, hv]; simpa [vsAt, hvs] using hh
  | some s =>
    cases s with
    | c u =>
      have : v = u := by simpa [vsAt, hvs, VS.holds] using hh
      subst this
      exact ⟨hv, hh⟩
    | r R => simp [ho, hd, Array.getD_eq_getD_getElem?, hv]; simpa [vsAt, hvs] using hh

/-- One front operation more. -/
theorem Mid.step (hdst : dstsOk N l = true) (hM : Mid N q S l m Vs e w0 listed a w) {i : Nat} {o : Oper} (ho : l[i]? = some o) (him : i < m) (hun : listed.getD i true = false)
    (hpre : ∀ j, (predsOf o).contains j = true → listed.getD j false = true) (hfirm : ∀ i, (vsAt Vs i).firm (Oth q S i)) {v : Value} {w' : World} (hc : Chg (Sel q S i) w w') (hv : (vsAt Vs i).holds v w') :
    Mid N q S l m Vs e w0 (listed.setIfInBounds i true) (a.put o.dst v) w' := by
  have hi : i < listed.size := by rw [hM.lsize]; exact (List.getElem?_eq_some_iff.1 ho).1
  refine ⟨by cases hd : o.dst <;> simp [Act.put, hM.size], by cases hd : o.dst <;> simp [Act.put, hM.defers], hM.chg.trans hc (fun k h _ => sel_sub q S i k h), fun hq => ?_, by simp [hM.lsize], fun k hk hmk => ?_, fun k ok hok hlk j hj => ?_, fun t u hu hall => ?_, fun k ok d hok hd hlk => ?_, fun k ok hok hd hlk => ?_⟩
  · rw [getD_set hi] at hq
    by_cases hiq : i = q
    · rw [if_pos hiq] at hq; cases hq
    · rw [if_neg hiq] at hq
      refine (hM.chg0 hq).trans hc (fun k h _ => ?_)
      unfold Sel at h
      rw [if_neg hiq] at h; exact h
  · rw [getD_set hi, if_neg (by omega)]; exact hM.front k hk hmk
  · rw [getD_set hi] at hlk ⊢
    by_cases hij : i = j
    · rw [if_pos hij]
    · rw [if_neg hij]
      by_cases hik : i = k
      · subst hik
        rw [ho] at hok; injection hok with hok; subst hok
        exact hpre j hj
      · rw [if_neg hik] at hlk
        exact hM.down k ok hok hlk j hj
  · have h1 := hM.old t u hu (fun k ok hok hd => by
      have := hall k ok hok hd
      rw [getD_set hi] at this
      split at this
      · cases this
      · exact this)
    cases hd : o.dst with
    | none => simpa [Act.put] using h1
    | some d =>
      have hne : d ≠ t := fun h => by
        subst h
        have := hall i o ho hd
        rw [getD_set hi, if_pos rfl] at this
        cases this
      simp only [Act.put, Array.getElem?_setIfInBounds_ne hne]
      exact h1
  · rw [getD_set hi] at hlk
    by_cases hik : i = k
    · subst hik
      rw [ho] at hok; injection hok with hok; subst hok
      have := (dsts_spec hdst ho hd).1
      exact ⟨v, by simp [Act.put, hd, hM.size, this], hv⟩
    · rw [if_neg hik] at hlk
      obtain ⟨u, hu, hh⟩ := hM.new k ok d hok hd hlk
      refine ⟨u, ?_, ?_⟩
      · cases hdo : o.dst with
        | none => simpa [Act.put] using hu
        | some d' =>
          have hne : d' ≠ d := fun h => by
            subst h
            exact hik ((dsts_spec hdst ho hdo).2 k ok hok hd).symm
          simp only [Act.put, Array.getElem?_setIfInBounds_ne hne]
          exact hu
      · have hf := hfirm k
        revert hh hf
        cases vsAt Vs k with
        | c u' => exact fun h _ => h
        | r R => exact fun h hf => hf _ _ _ h (hc.mono (fun j hj _ => sel_oth hik j hj))
  · rw [getD_set hi] at hlk
    by_cases hik : i = k
    · subst hik; exact ⟨v, hv⟩
    · rw [if_neg hik] at hlk
      obtain ⟨u, hh⟩ := hM.noval k ok hok hd hlk
      refine ⟨u, ?_⟩
      have hf := hfirm k
      revert hh hf
      cases vsAt Vs k with
      | c u' => exact fun h _ => h
      | r R => exact fun h hf => hf _ _ _ h (hc.mono (fun j hj _ => sel_oth hik j hj))

theorem Mid.fits (hdst : dstsOk N l = true) (hM : Mid N q S l m Vs e w0 listed a w) {i : Nat} {o : Oper} (ho : l[i]? = some o) (hun : listed.getD i true = false)
    (hpre : ∀ j, (predsOf o).contains j = true → listed.getD j false = true) {val : Nat → Value}
    (hval : ∀ i o d, l[i]? = some o → o.dst = some d → listed.getD i true = true → a.tmps[d]? = some (valOf Vs val i) ∧ (vsAt Vs i).holds (valOf Vs val i) w) :
    Fits N (opEnv l Vs e i o val) a := by
  refine ⟨hM.size, hM.defers, fun t v hv => ?_⟩
  unfold opEnv at hv
  rw [look_append] at hv
  cases hp : look (predEnv l Vs val (predsOf o)) t with
  | some u =>
    rw [hp] at hv
    simp at hv
    subst hv
    obtain ⟨j, oj, hj, hoj, hd, rfl⟩ := look_predEnv val _ _ _ hp
    have h1 := hpre j (by simpa using hj)
    have h2 : listed.getD j true = true := by
      have : j < listed.size := by rw [hM.lsize]; exact (List.getElem?_eq_some_iff.1 hoj).1
      simpa [Array.getD_eq_getD_getElem?, this] using h1
    exact (hval j oj t hoj hd h2).1
  | none =>
    rw [hp] at hv
    simp at hv
    obtain ⟨h1, h2⟩ := look_filter hv
    refine hM.old t v h1 (fun k ok hok hd => ?_)
    unfold freeAt at h2
    have h3 := List.all_eq_true.1 h2 (ok, k) (by rw [List.mem_zipIdx_iff_getElem?]; exact hok)
    simp only [hd, Bool.or_eq_true] at h3
    rcases h3 with (h3 | h3) | h3
    · simp at h3
    · cases hlk : listed.getD k true with
      | false => rfl
      | true =>
        have := hM.down k ok hok hlk i h3
        have hi : i < listed.size := by rw [hM.lsize]; exact (List.getElem?_eq_some_iff.1 ho).1
        simp [Array.getD_eq_getD_getElem?, hi] at this hun
        rw [this] at hun; cases hun
    · have : k = i := Nat.eq_of_beq_eq_true h3
      subst this
      exact hun

/-- Once operation m may come up, all front operations have. -/
theorem tail_all (h : tailOk m l = true) (hM : Mid N q S l m Vs e w0 listed a w) {o : Oper} (ho : l[m]? = some o) (hpre : ∀ j, (predsOf o).contains j = true → listed.getD j false = true) :
    ∀ k, k < m → listed.getD k false = true := by
  unfold tailOk at h
  rw [ho] at h
  simp only [Bool.and_eq_true] at h
  have hc := h.1.2
  have key : ∀ n k, m - k ≤ n → k < m → listed.getD k false = true := by
    intro n
    induction n with
    | zero => intro k h1 h2; omega
    | succ n ih =>
      intro k h1 h2
      have h3 := List.all_eq_true.1 hc k (by simpa using h2)
      obtain ⟨c, hcm, h4⟩ := List.any_eq_true.1 h3
      simp only [Bool.and_eq_true] at h4
      have hkc : k < c := by simpa [Nat.blt_eq] using h4.1
      have hcm' : c < m + 1 := by simpa using hcm
      cases hoc : l[c]? with
      | none => simp [hoc] at h4
      | some oc =>
        simp only [hoc] at h4
        by_cases hcc : c = m
        · subst hcc
          rw [ho] at hoc; injection hoc with hoc; subst hoc
          exact hpre k h4.2
        · have h5 := ih c (by omega) (by omega)
          have hlt : c < listed.size := by rw [hM.lsize]; exact (List.getElem?_eq_some_iff.1 hoc).1
          have h6 : listed.getD c true = true := by
            simp [Array.getD_eq_getD_getElem?, hlt] at h5 ⊢; exact h5
          exact hM.down c oc hoc h6 k h4.2
  exact fun k hk => key (m - k) k (Nat.le_refl _) hk

theorem Mid.full (hM : Mid N q S l m Vs e w0 listed a w) (hall : ∀ k, k < m → listed.getD k true = true) {val : Nat → Value}
    (hval : ∀ i o d, l[i]? = some o → o.dst = some d → listed.getD i true = true → a.tmps[d]? = some (valOf Vs val i) ∧ (vsAt Vs i).holds (valOf Vs val i) w) :
    Fits N (frontEnv Vs val 0 m l ++ e) a := by
  refine ⟨hM.size, hM.defers, fun t v hv => ?_⟩
  rw [look_append] at hv
  cases hp : look (frontEnv Vs val 0 m l) t with
  | some u =>
    rw [hp] at hv; simp at hv; subst hv
    obtain ⟨j, o, hj, ho, hd, rfl⟩ := look_frontEnv val _ _ _ _ _ hp
    rw [Nat.zero_add]
    exact (hval j o t ho hd (hall j hj)).1
  | none =>
    rw [hp] at hv; simp at hv
    refine hM.old t v hv (fun i o ho hd => ?_)
    by_cases hi : i < m
    · exact absurd hd (look_front_none l 0 m hp i o hi ho)
    · exact hM.front i (List.getElem?_eq_some_iff.1 ho).1 (by omega)

theorem mid_any {Q : Post} (hdst : dstsOk N l = true) (htl : tailOk m l = true) (hfirm : ∀ i, (vsAt Vs i).firm (Oth q S i))
    (hfront : ∀ i o, i < m → l[i]? = some o → FrontOp P N q S l Vs e w0 i o)
    (hend : ∀ (val : Nat → Value) (w1 : World), Chg S w0 w1 → (∀ i, i < m → ∀ o d, l[i]? = some o → o.dst = some d → (vsAt Vs i).holds (valOf Vs val i) w1) → (∀ i, i < m → ∀ o, l[i]? = some o → o.dst = none → ∃ v, (vsAt Vs i).holds v w1) → WL P N l.toArray (l.drop m) Q (frontEnv Vs val 0 m l ++ e) w1) :
    ∀ (fuel : Nat) (listed : Array Bool) (a : Act) (w : World), openCount listed l.length = fuel → Mid N q S l m Vs e w0 listed a w → wpAny P .any l.toArray (Lift N Q) fuel listed a w := by
  have hml : m ≤ l.length := by
    unfold tailOk at htl
    simp only [Bool.and_eq_true] at htl
    exact Nat.le_of_ble_eq_true htl.1.1
  -- all front operations have come up: the tail
  have hdone : ∀ (listed : Array Bool) (a : Act) (w : World), Mid N q S l m Vs e w0 listed a w → (∀ k, k < m → listed.getD k true = true) → wpAny P .any l.toArray (Lift N Q) (l.drop m).length listed a w := by
    intro listed a w hM hall
    obtain ⟨val, hval⟩ := hM.vals
    have hW := hend val w hM.chg (fun i hi o d ho hd => (hval i o d ho hd (hall i hi)).2) (fun i hi o ho hd => hM.noval i o ho hd (hall i hi))
    unfold WL at hW
    refine tail_any htl (l.drop m) m listed a w (Nat.le_refl _) rfl hM.lsize (fun k hk => ?_) (hW a (hM.full hall hval))
    by_cases hkm : k < m
    · rw [hall k hkm]; simp [hkm]
    · rw [hM.front k hk (by omega)]; simp [hkm]
  have hcount : ∀ (listed : Array Bool), (∀ k, k < m → listed.getD k true = true) → (∀ i, i < l.length → m ≤ i → listed.getD i true = false) → openCount listed l.length = (l.drop m).length := by
    intro listed h1 h2
    have : ∀ n, n ≤ l.length → openCount listed n = n - m := by
      intro n
      induction n with
      | zero => intro _; simp [openCount]
      | succ n ih =>
        intro hn
        simp only [openCount]
        rw [ih (by omega)]
        by_cases hnm : n < m
        · rw [h1 n hnm]; simp; omega
        · rw [h2 n (by omega) (by omega)]; simp; omega
    rw [this _ (Nat.le_refl _)]; simp
  intro fuel
  induction fuel with
  | zero =>
    intro listed a w hcnt hM
    have hall : ∀ k, k < l.length → listed.getD k true = true := by
      have : ∀ n, openCount listed n = 0 → ∀ k, k < n → listed.getD k true = true := by
        intro n
        induction n with
        | zero => intro _ k hk; omega
        | succ n ih =>
          intro h k hk
          simp only [openCount] at h
          by_cases hkn : k = n
          · subst hkn
            cases hx : listed.getD k true with
            | true => rfl
            | false => rw [hx] at h; simp at h
          · exact ih (by omega) k (by omega)
      exact this _ hcnt
    have hd := hdone listed a w hM (fun k hk => hall k (by omega))
    rw [← hcount listed (fun k hk => hall k (by omega)) hM.front, hcnt] at hd
    exact hd
  | succ fuel ih =>
    intro listed a w hcnt hM
    by_cases hall : ∀ k, k < m → listed.getD k true = true
    · have hd := hdone listed a w hM hall
      rw [← hcount listed hall hM.front, hcnt] at hd
      exact hd
    · -- some front operation is open: the least one may come up; and whatever may come up is a front operation
      have hready : ∀ i, i ∈ Region.ready .any l.toArray listed → i < m := by
        intro i hi
        obtain ⟨o, ho, hun, hpre⟩ := ready_spec hi
        rcases Nat.lt_or_ge i m with h | h
        · exact h
        · exfalso
          have hil := (List.getElem?_eq_some_iff.1 ho).1
          rcases Nat.lt_or_ge m i with h2 | h2
          · have h3 := hpre (i - 1) ((tail_preds htl ho).1 h2)
            have h4 := hM.front (i - 1) (by omega) (by omega)
            have hsz : i - 1 < listed.size := by rw [hM.lsize]; omega
            simp [Array.getD_eq_getD_getElem?, hsz] at h3 h4
            rw [h3] at h4; cases h4
          · have hmi : i = m := by omega
            subst hmi
            refine hall (fun k hk => ?_)
            have h3 := tail_all htl hM ho hpre k hk
            have hsz : k < listed.size := by rw [hM.lsize]; omega
            simp [Array.getD_eq_getD_getElem?, hsz] at h3 ⊢; exact h3
      refine ⟨fun hnil => ?_, fun i hi => ?_⟩
      · exfalso
        have hmin : ∃ k, k < m ∧ listed.getD k true = false ∧ ∀ j, j < k → listed.getD j true = true := by
          have : ∀ n, (∃ k, k < n ∧ ¬ listed.getD k true = true) → ∃ k, k < n ∧ listed.getD k true = false ∧ ∀ j, j < k → listed.getD j true = true := by
            intro n
            induction n with
            | zero => rintro ⟨k, hk, _⟩; omega
            | succ n ih =>
              rintro ⟨k, hk, hx⟩
              by_cases hex : ∃ k, k < n ∧ ¬ listed.getD k true = true
              · obtain ⟨k', h1, h2, h3⟩ := ih hex
                exact ⟨k', by omega, h2, h3⟩
              · have hkn : k = n := by
                  rcases Nat.lt_or_ge k n with h | h
                  · exact absurd ⟨k, h, hx⟩ hex
                  · omega
                subst hkn
                refine ⟨k, by omega, by simpa using hx, fun j hj => ?_⟩
                cases hxj : listed.getD j true with
                | true => rfl
                | false => exact absurd ⟨j, hj, by simp [hxj]⟩ hex
          have hex : ∃ k, k < m ∧ ¬ listed.getD k true = true := by
            refine Classical.byContradiction fun hno => hall fun k hk => ?_
            cases hx : listed.getD k true with
            | true => rfl
            | false => exact absurd ⟨k, hk, by simp [hx]⟩ hno
          exact this m hex
        obtain ⟨k, hkm, hku, hkl⟩ := hmin
        have hkl' : k < l.length := by omega
        have ho : l[k]? = some l[k] := List.getElem?_eq_getElem hkl'
        have : k ∈ Region.ready .any l.toArray listed := by
          unfold Region.ready
          simp only [List.mem_filter, List.mem_range, Bool.and_eq_true, Bool.not_eq_true']
          refine ⟨by simpa using hkl', hku, ?_⟩
          simp [hkl']
          intro q hq
          by_cases hb : Region.binds .any l[k].after[q] = true
          · refine .inr ?_
            have hlt := (tail_preds htl ho).2 (l[k].after[q]).on (by
              simp only [predsOf, List.contains_eq_mem, List.mem_map, List.mem_filter, decide_eq_true_eq]
              exact ⟨l[k].after[q], ⟨by simp, hb⟩, rfl⟩)
            have h2 := hkl (l[k].after[q]).on hlt
            have hsz : (l[k].after[q]).on < listed.size := by rw [hM.lsize]; omega
            simp [Array.getD_eq_getD_getElem?, hsz] at h2 ⊢
            exact h2
          · exact .inl (by simpa using hb)
        rw [hnil] at this; cases this
      · have him := hready i hi
        obtain ⟨o, ho, hun, hpre⟩ := ready_spec hi
        have hlit : l.toArray[i]? = some o := by simpa using ho
        obtain ⟨val, hval⟩ := hM.vals
        have hfit := hM.fits hdst ho hun hpre hval
        have hisz : i < listed.size := by rw [hM.lsize]; exact (List.getElem?_eq_some_iff.1 ho).1
        have hil := (List.getElem?_eq_some_iff.1 ho).1
        have hpv : ∀ j, (predsOf o).contains j = true → ∀ oj, l[j]? = some oj → ∀ d, oj.dst = some d → a.tmps[d]? = some (valOf Vs val j) ∧ (vsAt Vs j).holds (valOf Vs val j) w := fun j hj oj hoj d hd => by
          have h1 := hpre j hj
          have hsz : j < listed.size := by rw [hM.lsize]; exact (List.getElem?_eq_some_iff.1 hoj).1
          exact hval j oj d hoj hd (by simp [Array.getD_eq_getD_getElem?, hsz] at h1 ⊢; exact h1)
        have hoth : Chg (Oth q S i) w0 w := by
          unfold Oth
          by_cases hiq : i = q
          · rw [if_pos hiq]
            refine hM.chg0 ?_
            rw [← hiq]
            simp [Array.getD_eq_getD_getElem?, hisz] at hun ⊢; exact hun
          · rw [if_neg hiq]; exact hM.chg
        have hF := hfront i o him ho val w hoth (fun j hj oj d hoj hd => (hpv j hj oj hoj d hd).2)
        have hgo : ∀ v w', Chg (Sel q S i) w w' ∧ (vsAt Vs i).holds v w' → wpAny P .any l.toArray (Lift N Q) fuel (listed.setIfInBounds i true) (a.put o.dst v) w' := fun v w' ⟨hc, hv⟩ =>
          ih _ _ _ (by have := openCount_set hisz hun l.length hil; omega) (hM.step hdst ho him hun hpre hfirm hc hv)
        unfold wpOp
        rw [hlit]
        simp only
        cases hg : o.guard with
        | none =>
          rw [hg] at hF
          have hwa : Region.wanted o (yielded l.toArray a.tmps) = true := by simp [Region.wanted, hg]
          rw [if_pos hwa]
          unfold OpW at hF
          exact .inl (hF a hfit _ _ hgo)
        | some g =>
          obtain ⟨j, want⟩ := g
          rw [hg] at hF
          obtain ⟨b, hj, hjd, hb, h1, h2⟩ := hF
          have hwa : Region.wanted o (yielded l.toArray a.tmps) = (b == want) := by
            cases hoj : l[j]? with
            | none => simp [hoj] at hjd
            | some oj =>
              cases hd : oj.dst with
              | none => simp [hoj, hd] at hjd
              | some d =>
                have := (hpv j hj oj hoj d hd).1
                rw [hb] at this
                unfold Region.wanted yielded
                simp only [hg, List.getElem?_toArray, hoj, Option.bind_some, hd, this]
                cases b <;> cases want <;> rfl
          rw [hwa]
          by_cases hbw : b = want
          · subst hbw
            rw [if_pos (by simp)]
            have h3 := h1 rfl
            unfold OpW at h3
            exact .inl (h3 a hfit _ _ hgo)
          · have hbn : b = !want := by cases b <;> cases want <;> first | rfl | exact absurd rfl hbw
            rw [if_neg (by simpa using hbw)]
            exact hgo undef w ⟨Chg.refl _ _, h2 hbn⟩

def Firms (q : Nat) (S : List Nat) : Nat → List VS → Prop
  | _, [] => True
  | i, s :: r => s.firm (Oth q S i) ∧ Firms q S (i + 1) r
theorem Firms.at : ∀ {Vs : List VS} {i0 : Nat}, Firms q S i0 Vs → ∀ i, (vsAt Vs i).firm (Oth q S (i0 + i))
  | [], _, _, i => by simp [vsAt, VS.firm]
  | s :: r, i0, h, 0 => h.1
  | s :: r, i0, h, i + 1 => by
    have := Firms.at h.2 i
    rw [show i0 + (i + 1) = i0 + 1 + i from by omega]; exact this
theorem Firms.snoc {s : VS} : ∀ {Vs : List VS} {i0 : Nat}, Firms q S i0 Vs → s.firm (Oth q S (i0 + Vs.length)) → Firms q S i0 (Vs ++ [s])
  | [], _, _, h => ⟨h, trivial⟩
  | a :: A, i0, hf, h => ⟨hf.1, Firms.snoc hf.2 (by rw [show i0 + 1 + A.length = i0 + (A.length + 1) from by omega]; exact h)⟩

/-- **A region that draws its order.** m: how many operations stand in front; Vs: what they leave; S: the blocks that they may turn. -/
theorem W_draw {id : Nat} {Q : Post} (m q : Nat) (S : List Nat) (Vs : List VS) (hfol : P.follows .mixedOrders = true) (hdst : dstsOk N l = true) (htl : tailOk m l = true) (hfirms : Firms q S 0 Vs)
    (hfront : Front P N q S l Vs e w 0 m l)
    (hend : ∀ (val : Nat → Value) (w1 : World), Chg S w w1 → (∀ i, i < m → ∀ o d, l[i]? = some o → o.dst = some d → (vsAt Vs i).holds (valOf Vs val i) w1) → (∀ i, i < m → ∀ o, l[i]? = some o → o.dst = none → ∃ v, (vsAt Vs i).holds v w1) → WL P N l.toArray (l.drop m) Q (frontEnv Vs val 0 m l ++ e) w1) :
    W P N (.region id l.toArray true) Q e w := by
  have hfirm : ∀ i, (vsAt Vs i).firm (Oth q S i) := fun i => by have := hfirms.at i; rwa [Nat.zero_add] at this
  unfold W
  intro a ha
  refine wp_region_any hfol ?_
  have hc0 : openCount (Array.replicate l.length false) l.length = l.length := by
    have : ∀ n, n ≤ l.length → openCount (Array.replicate l.length false) n = n := by
      intro n
      induction n with
      | zero => intro _; rfl
      | succ n ih =>
        intro hn
        have h1 : (Array.replicate l.length false).getD n true = false := by rw [Array.getD_eq_getD_getElem?, Array.getElem?_replicate, if_pos (by omega)]; rfl
        simp only [openCount]; rw [ih (by omega), h1]; rfl
    exact this _ (Nat.le_refl _)
  have hM : Mid N q S l m Vs e w (Array.replicate l.length false) a { w with drawn := w.drawn + 1 } := by
    refine ⟨ha.size, ha.defers, Chg.drawn S w _, fun _ => Chg.drawn [] w _, by simp, fun i hi _ => by simp [Array.getD_eq_getD_getElem?, hi], fun i o ho hl => ?_, fun t v hv _ => ha.look t v hv, fun i o d ho _ hl => ?_, fun i o ho _ hl => ?_⟩
    · have hi := (List.getElem?_eq_some_iff.1 ho).1
      simp [Array.getD_eq_getD_getElem?, hi] at hl
    · have hi := (List.getElem?_eq_some_iff.1 ho).1
      simp [Array.getD_eq_getD_getElem?, hi] at hl
    · have hi := (List.getElem?_eq_some_iff.1 ho).1
      simp [Array.getD_eq_getD_getElem?, hi] at hl
  have := mid_any (P := P) (Q := Q) hdst htl hfirm (fun i o him ho => by simpa using Front.get l 0 m hfront i o him ho) hend l.length _ _ _ hc0 hM
  simpa using this

/-! ### The same, walked in the text's order: what an operation leaves is found on the way -/
/-- Operation i, what the elder ones leave being Vs; it leaves s. -/
def StepP (P : Program) (N : Nat) (q : Nat) (S : List Nat) (l : List Oper) (Vs : List VS) (e : Env) (w : World) (i : Nat) (o : Oper) (s : VS) : Prop :=
  ∀ (val : Nat → Value) (w1 : World), Chg (Oth q S i) w w1 → (∀ j, (predsOf o).contains j = true → ∀ oj d, l[j]? = some oj → oj.dst = some d → (vsAt Vs j).holds (valOf Vs val j) w1) →
    match o.guard with
    | none => OpW P N o (opEnv l Vs e i o val) w1 (fun v w' => Chg (Sel q S i) w1 w' ∧ s.holds v w')
    | some (j, want) => ∃ b, (predsOf o).contains j = true ∧ ((l[j]?).bind (·.dst)).isSome = true ∧ valOf Vs val j = .bool b ∧
        (b = want → OpW P N o (opEnv l Vs e i o val) w1 (fun v w' => Chg (Sel q S i) w1 w' ∧ s.holds v w')) ∧ (b = !want → s.holds undef w1)
def Walk (P : Program) (N : Nat) (q : Nat) (S : List Nat) (l : List Oper) (e : Env) (w : World) (fin : List VS → Prop) : Nat → List Oper → List VS → Prop
  | _, [], Vs => fin Vs
  | i, o :: r, Vs => ∃ s : VS, s.firm (Oth q S i) ∧ StepP P N q S l Vs e w i o s ∧ Walk P N q S l e w fin (i + 1) r (Vs ++ [s])

theorem walk_front (htl : tailOk m l = true) (hml : m ≤ l.length) {fin : List VS → Prop} : ∀ (r : List Oper) (i : Nat) (Vs : List VS), Vs.length = i → (l.take m).drop i = r → Firms q S 0 Vs → Walk P N q S l e w fin i r Vs →
    ∃ rest : List VS, rest.length = r.length ∧ Firms q S 0 (Vs ++ rest) ∧ fin (Vs ++ rest) ∧ ∀ k o, r[k]? = some o → FrontOp P N q S l (Vs ++ rest) e w (i + k) o
  | [], i, Vs, hi, hr, hf, h => ⟨[], rfl, by simpa using hf, by simpa [Walk] using h, fun k o hk => by simp at hk⟩
  | o :: r, i, Vs, hi, hr, hf, h => by
    obtain ⟨s, hs, hst, hw⟩ := h
    have hr' : (l.take m).drop (i + 1) = r := by rw [← List.drop_drop, hr]; rfl
    have hf' : Firms q S 0 (Vs ++ [s]) := hf.snoc (by rw [Nat.zero_add, hi]; exact hs)
    obtain ⟨rest, hl, h1, h2, h3⟩ := walk_front htl hml r (i + 1) (Vs ++ [s]) (by simp [hi]) hr' hf' hw
    rw [List.append_assoc] at h1 h2 h3
    refine ⟨s :: rest, by simp [hl], h1, h2, fun k ok hk => ?_⟩
    cases k with
    | zero =>
      simp at hk
      subst hk
      rw [Nat.add_zero]
      have ho : l[i]? = some o := by
        have h4 : ((l.take m).drop i)[0]? = some o := by rw [hr]; rfl
        rw [List.getElem?_drop, Nat.add_zero, List.getElem?_take] at h4
        split at h4
        · exact h4
        · cases h4
      have hpl : ∀ j, (predsOf o).contains j = true → j < Vs.length := fun j hj => by rw [hi]; exact (tail_preds htl ho).2 j hj
      have hpe : ∀ val, opEnv l (Vs ++ s :: rest) e i o val = opEnv l Vs e i o val := fun val => by
        unfold opEnv; rw [predEnv_append _ (fun j hj => hpl j (by simpa using hj))]
      have hvs : vsAt (Vs ++ s :: rest) i = s := by rw [← hi]; exact vsAt_at
      intro val w1 hc hp
      have hq := hst val w1 hc (fun j hj oj d h5 h6 => by
        have := hp j hj oj d h5 h6
        rw [vsAt_append (hpl j hj), valOf_append (hpl j hj)] at this; exact this)
      rw [hpe val, hvs]
      cases hg : o.guard with
      | none => rw [hg] at hq; exact hq
      | some g =>
        obtain ⟨j, want⟩ := g
        rw [hg] at hq
        obtain ⟨b, h5, h6, h7, h8, h9⟩ := hq
        exact ⟨b, h5, h6, by rw [valOf_append (hpl j h5)]; exact h7, h8, h9⟩
    | succ k =>
      have := h3 k ok (by simpa using hk)
      rw [show i + (k + 1) = i + 1 + k from by omega]; exact this

theorem front_of {Vs : List VS} : ∀ (r : List Oper) (i k : Nat), (∀ j o, j < k → r[j]? = some o → FrontOp P N q S l Vs e w (i + j) o) → Front P N q S l Vs e w i k r
  | [], i, k, h => by cases k <;> exact trivial
  | o :: r, i, 0, h => trivial
  | o :: r, i, k + 1, h => ⟨h 0 o (by omega) rfl, front_of r (i + 1) k (fun j oj hj hoj => by
      have := h (j + 1) oj (by omega) (by simpa using hoj)
      rw [show i + 1 + j = i + (j + 1) from by omega]; exact this)⟩

/-- **A region that draws, walked in the text's order.** -/
theorem W_walkf {id : Nat} {Q : Post} (m q : Nat) (S : List Nat) (hfol : P.follows .mixedOrders = true) (hdst : dstsOk N l = true) (htl : tailOk m l = true)
    (h : Walk P N q S l e w (fun Vs => ∀ (val : Nat → Value) (w1 : World), Chg S w w1 → (∀ i, i < m → ∀ o d, l[i]? = some o → o.dst = some d → (vsAt Vs i).holds (valOf Vs val i) w1) → (∀ i, i < m → ∀ o, l[i]? = some o → o.dst = none → ∃ v, (vsAt Vs i).holds v w1) → WL P N l.toArray (l.drop m) Q (frontEnv Vs val 0 m l ++ e) w1) 0 (l.take m) []) :
    W P N (.region id l.toArray true) Q e w := by
  have hml : m ≤ l.length := by
    have h2 := htl
    unfold tailOk at h2
    simp only [Bool.and_eq_true] at h2
    exact Nat.le_of_ble_eq_true h2.1.1
  obtain ⟨rest, hl, h1, h2, h3⟩ := walk_front htl hml (l.take m) 0 [] rfl (by simp) trivial h
  rw [List.nil_append] at h1 h2 h3
  refine W_draw m q S rest hfol hdst htl h1 (front_of l 0 m fun j o hj ho => ?_) h2
  exact h3 j o (by rw [List.getElem?_take, if_pos hj]; exact ho)

theorem Walk.mono {fin fin' : List VS → Prop} (hf : ∀ Vs, fin Vs → fin' Vs) : ∀ (r : List Oper) (i : Nat) (Vs : List VS), Walk P N q S l e w fin i r Vs → Walk P N q S l e w fin' i r Vs
  | [], _, Vs, h => hf Vs h
  | _ :: r, i, Vs, ⟨s, h1, h2, h3⟩ => ⟨s, h1, h2, Walk.mono hf r (i + 1) (Vs ++ [s]) h3⟩
theorem W_walkq {id : Nat} {Q : Post} (m q : Nat) (S : List Nat) (hfol : P.follows .mixedOrders = true) (hdst : dstsOk N l = true) (htl : tailOk m l = true)
    (h : Walk P N q S l e w (fun Vs => ∀ (val : Nat → Value) (w1 : World), Chg S w w1 → (∀ i, i < m → ∀ o d, l[i]? = some o → o.dst = some d → (vsAt Vs i).holds (valOf Vs val i) w1) → WL P N l.toArray (l.drop m) Q (frontEnv Vs val 0 m l ++ e) w1) 0 (l.take m) []) :
    W P N (.region id l.toArray true) Q e w :=
  W_walkf m q S hfol hdst htl (Walk.mono (fun Vs h val w1 hc hp _ => h val w1 hc hp) _ _ _ h)

theorem Walk.plain {fin : List VS → Prop} {i : Nat} {r : List Oper} {Vs : List VS} {o : Oper} {v : Value} (hi : Nat.beq i q = false) (hg : o.guard = none)
    (h : ∀ (val : Nat → Value) (w1 : World), Chg S w w1 → (∀ j, (predsOf o).contains j = true → ∀ oj d, l[j]? = some oj → oj.dst = some d → (vsAt Vs j).holds (valOf Vs val j) w1) → OpW P N o (opEnv l Vs e i o val) w1 (fun u w' => Chg [] w1 w' ∧ u = v))
    (hr : Walk P N q S l e w fin (i + 1) r (Vs ++ [.c v])) : Walk P N q S l e w fin i (o :: r) Vs := by
  have hne : ¬ i = q := fun e => by subst e; simp at hi
  refine ⟨.c v, trivial, fun val w1 hc hp => ?_, hr⟩
  rw [hg]
  unfold Oth at hc
  rw [if_neg hne] at hc
  unfold Sel
  rw [if_neg hne]
  exact h val w1 hc hp
theorem Walk.rel {fin : List VS → Prop} {i : Nat} {r : List Oper} {Vs : List VS} {o : Oper} (hi : Nat.beq i q = false) (R : Value → World → Prop) (hg : o.guard = none) (hR : ∀ v w w', R v w → Chg S w w' → R v w')
    (h : ∀ (val : Nat → Value) (w1 : World), Chg S w w1 → (∀ j, (predsOf o).contains j = true → ∀ oj d, l[j]? = some oj → oj.dst = some d → (vsAt Vs j).holds (valOf Vs val j) w1) → OpW P N o (opEnv l Vs e i o val) w1 (fun u w' => Chg [] w1 w' ∧ R u w'))
    (hr : Walk P N q S l e w fin (i + 1) r (Vs ++ [.r R])) : Walk P N q S l e w fin i (o :: r) Vs := by
  have hne : ¬ i = q := fun e => by subst e; simp at hi
  refine ⟨.r R, ?_, fun val w1 hc hp => ?_, hr⟩
  · unfold Oth; rw [if_neg hne]; exact hR
  rw [hg]
  unfold Oth at hc
  rw [if_neg hne] at hc
  unfold Sel
  rw [if_neg hne]
  exact h val w1 hc hp
/-- The one that turns blocks of S. -/
theorem Walk.turn {fin : List VS → Prop} {i : Nat} {r : List Oper} {Vs : List VS} {o : Oper} (hi : Nat.beq i q = true) (R : Value → World → Prop) (hg : o.guard = none) (hR : ∀ v w w', R v w → Chg [] w w' → R v w')
    (h : ∀ (val : Nat → Value) (w1 : World), Chg [] w w1 → (∀ j, (predsOf o).contains j = true → ∀ oj d, l[j]? = some oj → oj.dst = some d → (vsAt Vs j).holds (valOf Vs val j) w1) → OpW P N o (opEnv l Vs e i o val) w1 (fun u w' => Chg S w1 w' ∧ R u w'))
    (hr : Walk P N q S l e w fin (i + 1) r (Vs ++ [.r R])) : Walk P N q S l e w fin i (o :: r) Vs := by
  have he : i = q := Nat.eq_of_beq_eq_true hi
  refine ⟨.r R, ?_, fun val w1 hc hp => ?_, hr⟩
  · unfold Oth; rw [if_pos he]; exact hR
  rw [hg]
  unfold Oth at hc
  rw [if_pos he] at hc
  unfold Sel
  rw [if_pos he]
  exact h val w1 hc hp
theorem Walk.guardT {fin : List VS → Prop} {i j : Nat} {want : Bool} {r : List Oper} {Vs : List VS} {o : Oper} {v : Value} (hi : Nat.beq i q = false) (hg : o.guard = some (j, want)) (hj : (predsOf o).contains j = true) (hjd : ((l[j]?).bind (·.dst)).isSome = true) (hb : ∀ val, valOf Vs val j = .bool want)
    (h : ∀ (val : Nat → Value) (w1 : World), Chg S w w1 → (∀ j, (predsOf o).contains j = true → ∀ oj d, l[j]? = some oj → oj.dst = some d → (vsAt Vs j).holds (valOf Vs val j) w1) → OpW P N o (opEnv l Vs e i o val) w1 (fun u w' => Chg [] w1 w' ∧ u = v))
    (hr : Walk P N q S l e w fin (i + 1) r (Vs ++ [.c v])) : Walk P N q S l e w fin i (o :: r) Vs := by
  have hne : ¬ i = q := fun e => by subst e; simp at hi
  refine ⟨.c v, trivial, fun val w1 hc hp => ?_, hr⟩
  rw [hg]
  unfold Oth at hc
  rw [if_neg hne] at hc
  unfold Sel
  rw [if_neg hne]
  exact ⟨want, hj, hjd, hb val, (fun _ => h val w1 hc hp), (fun hn => by cases want <;> cases hn)⟩
theorem Walk.guardR {fin : List VS → Prop} {i j : Nat} {want : Bool} {r : List Oper} {Vs : List VS} {o : Oper} (hi : Nat.beq i q = false) (R : Value → World → Prop) (hg : o.guard = some (j, want)) (hj : (predsOf o).contains j = true) (hjd : ((l[j]?).bind (·.dst)).isSome = true) (hb : ∀ val, valOf Vs val j = .bool want) (hR : ∀ v w w', R v w → Chg S w w' → R v w')
    (h : ∀ (val : Nat → Value) (w1 : World), Chg S w w1 → (∀ j, (predsOf o).contains j = true → ∀ oj d, l[j]? = some oj → oj.dst = some d → (vsAt Vs j).holds (valOf Vs val j) w1) → OpW P N o (opEnv l Vs e i o val) w1 (fun u w' => Chg [] w1 w' ∧ R u w'))
    (hr : Walk P N q S l e w fin (i + 1) r (Vs ++ [.r R])) : Walk P N q S l e w fin i (o :: r) Vs := by
  have hne : ¬ i = q := fun e => by subst e; simp at hi
  refine ⟨.r R, ?_, fun val w1 hc hp => ?_, hr⟩
  · unfold Oth; rw [if_neg hne]; exact hR
  rw [hg]
  unfold Oth at hc
  rw [if_neg hne] at hc
  unfold Sel
  rw [if_neg hne]
  exact ⟨want, hj, hjd, hb val, (fun _ => h val w1 hc hp), (fun hn => by cases want <;> cases hn)⟩
theorem Walk.guardF {fin : List VS → Prop} {i j : Nat} {want b : Bool} {r : List Oper} {Vs : List VS} {o : Oper} (hg : o.guard = some (j, want)) (hj : (predsOf o).contains j = true) (hjd : ((l[j]?).bind (·.dst)).isSome = true) (hb : ∀ val, valOf Vs val j = .bool b) (hbw : b = !want)
    (hr : Walk P N q S l e w fin (i + 1) r (Vs ++ [.c undef])) : Walk P N q S l e w fin i (o :: r) Vs :=
  ⟨.c undef, trivial, fun val w1 hc hp => by rw [hg]; exact ⟨b, hj, hjd, hb val, (fun hn => by subst hbw; cases want <;> cases hn), (fun _ => rfl)⟩, hr⟩
theorem Walk.fin {fin : List VS → Prop} {i : Nat} {Vs : List VS} (h : fin Vs) : Walk P N q S l e w fin i [] Vs := h
attribute [irreducible] Walk
end
end Go.Vc.Q
