/- Part 2 of the texts that the law of the last one leans on: steps of the walk and contracts of functions. Its conditions stand in each theorem. -/
import Derived.Test.YtiadjkjlifnopaaGreatDoorScrubFailsK1
import Derived.Sort.OwnSorted
import Derived.Shelf.SlSortCmp.WholeK
import Derived.Test.YtiadjkjlifnopaaGreatDoorProg
import Derived.Shelf.SlIter.Nil
import Derived.Shelf.SortM.Plain
import Derived.Shelf.SortM.SortNone
import Derived.Shelf.SlMaps.Clone
import Derived.Shelf.SlSortCmp.NoneTotal
import Derived.Ground.GgzProg
import Derived.Ground.SlmcProg
import Derived.Ground.SlgmProg
import Derived.Ground.SlsfProg
import Derived.Shelf.SlicesG.Cmp
import Derived.Ground.SlgcProg
set_option linter.unusedVariables false
set_option linter.unusedSimpArgs false
/-! Regions that draw their order, one of whose operations (number q) may turn blocks of S while all others turn none: that one finds the world as it was but for new blocks. -/
namespace Go.Vc.Q
open Go Go.RowKit Go.Vc
def Oth (q : Nat) (S : List Nat) (i : Nat) : List Nat := if i = q then [] else S
def Sel (q : Nat) (S : List Nat) (i : Nat) : List Nat := if i = q then S else []
theorem sel_sub (q : Nat) (S : List Nat) (i : Nat) : ∀ k ∈ Sel q S i, k ∈ S := by unfold Sel; split <;> simp
theorem sel_oth {q : Nat} {S : List Nat} {i k : Nat} (h : i ≠ k) : ∀ j ∈ Sel q S i, j ∈ Oth q S k := by
 unfold Sel Oth
 by_cases hi : i = q
 ·rw [if_pos hi, if_neg (fun e => h (hi.trans e.symm))]; exact fun _ h => h
 ·rw [if_neg hi]; simp
def qPre (q : Nat) (l : List Oper) (i : Nat) : Bool := match l[q]? with
 | some oq => (predsOf oq).contains i
 | none => false
def Pre (q : Nat) (S : List Nat) (l : List Oper) (i : Nat) : List Nat := if i = q then [] else if qPre q l i = true then [] else S
theorem pre_oth {q : Nat} {S : List Nat} {l : List Oper} {i : Nat} : ∀ k ∈ Pre q S l i, k ∈ Oth q S i := by
 unfold Pre Oth
 by_cases hi : i = q
 ·rw [if_pos hi, if_pos hi]; exact fun _ h => h
 ·rw [if_neg hi, if_neg hi]; split <;> simp
def FrontOp (P : Program) (N : Nat) (q : Nat) (S : List Nat) (l : List Oper) (Vs : List VS) (e : Env) (w : World) (i : Nat) (o : Oper) : Prop :=
 ∀ (val : Nat → Value) (w1 : World), Chg (Pre q S l i) w w1 → (∀ j, (predsOf o).contains j = true → ∀ oj d, l[j]? = some oj → oj.dst = some d → (vsAt Vs j).holds (valOf Vs val j) w1) →
  match o.guard with
  | none => OpW P N o (opEnv l Vs e i o val) w1 (fun v w' => Chg (Sel q S i) w1 w' ∧ (vsAt Vs i).holds v w')
  | some (j, want) => ∃ b, (predsOf o).contains j = true ∧ ((l[j]?).bind (·.dst)).isSome = true ∧ (valOf Vs val j = .bool b ∨ (b = (!want) ∧ valOf Vs val j = undef)) ∧
    (b = want → OpW P N o (opEnv l Vs e i o val) w1 (fun v w' => Chg (Sel q S i) w1 w' ∧ (vsAt Vs i).holds v w')) ∧ (b = !want → (vsAt Vs i).holds undef w1)
def Front (P : Program) (N : Nat) (q : Nat) (S : List Nat) (l : List Oper) (Vs : List VS) (e : Env) (w : World) : Nat → Nat → List Oper → Prop
 | _, 0, _ => True
 | _, _ + 1, [] => True
 | i, m + 1, o :: r => FrontOp P N q S l Vs e w i o ∧ Front P N q S l Vs e w (i + 1) m r
theorem Front.get {P : Program} {N : Nat} {q : Nat} {S : List Nat} {l : List Oper} {Vs : List VS} {e : Env} {w : World} :
  ∀ (r : List Oper) (i m : Nat), Front P N q S l Vs e w i m r → ∀ k o, k < m → r[k]? = some o → FrontOp P N q S l Vs e w (i + k) o
 | [], i, m, h, k, o, hk, ho => by simp at ho
 | p :: r, i, 0, h, k, o, hk, ho => by omega
 | p :: r, i, m + 1, h, 0, o, hk, ho => by simp at ho; subst ho; exact h.1
 | p :: r, i, m + 1, h, k + 1, o, hk, ho => by
  have := Front.get r (i + 1) m h.2 k o (by omega) (by simpa using ho)
  rw [show i + (k + 1) = i + 1 + k from by omega]; exact this
structure Mid (N : Nat) (q : Nat) (S : List Nat) (l : List Oper) (m : Nat) (Vs : List VS) (e : Env) (w0 : World) (listed : Array Bool) (a : Act) (w : World) : Prop where
 size : a.tmps.size = N
 defers : a.defers = []
 chg : Chg S w0 w
 chg0 : listed.getD q false = false → Chg [] w0 w
 lsize : listed.size = l.length
 front : ∀ i, i < l.length → m ≤ i → listed.getD i true = false
 down : ∀ i o, l[i]? = some o → listed.getD i true = true → ∀ j, (predsOf o).contains j = true → listed.getD j false = true
 old : ∀ t v, look e t = some v → (∀ i o, l[i]? = some o → o.dst = some t → listed.getD i true = false) → a.tmps[t]? = some v
 new : ∀ i o d, l[i]? = some o → o.dst = some d → listed.getD i true = true → ∃ v, a.tmps[d]? = some v ∧ (vsAt Vs i).holds v w
 noval : ∀ i o, l[i]? = some o → o.dst = none → listed.getD i true = true → ∃ v, (vsAt Vs i).holds v w
section
variable {P : Program} {N : Nat} {q : Nat} {S : List Nat} {l : List Oper} {m : Nat} {Vs : List VS} {e : Env} {w0 : World} {listed : Array Bool} {a : Act} {w : World}
theorem Mid.vals (hM : Mid N q S l m Vs e w0 listed a w) : ∃ val : Nat → Value, ∀ i o d, l[i]? = some o → o.dst = some d → listed.getD i true = true → a.tmps[d]? = some (valOf Vs val i) ∧ (vsAt Vs i).holds (valOf Vs val i) w := by
 refine ⟨fun i => ((l[i]?).bind (·.dst)).elim undef fun d => a.tmps.getD d undef, fun i o d ho hd hl => ?_⟩
 obtain ⟨v, hv, hh⟩ := hM.new i o d ho hd hl
 unfold valOf
 cases hvs : Vs[i]? with
 | none => simp [ho, hd, Array.getD_eq_getD_getElem?, hv]; simpa [vsAt, hvs] using hh
 | some s =>
  cases s with
  | c u =>
   have : v = u := by simpa [vsAt, hvs, VS.holds] using hh
   subst this
   exact ⟨hv, hh⟩
  | r R => simp [ho, hd, Array.getD_eq_getD_getElem?, hv]; simpa [vsAt, hvs] using hh
theorem Mid.step (hdst : dstsOk N l = true) (hM : Mid N q S l m Vs e w0 listed a w) {i : Nat} {o : Oper} (ho : l[i]? = some o) (him : i < m) (hun : listed.getD i true = false)
  (hpre : ∀ j, (predsOf o).contains j = true → listed.getD j false = true) (hfirm : ∀ i, (vsAt Vs i).firm (Oth q S i)) {v : Value} {w' : World} (hc : Chg (Sel q S i) w w') (hv : (vsAt Vs i).holds v w') :
  Mid N q S l m Vs e w0 (listed.setIfInBounds i true) (a.put o.dst v) w' := by
 have hi : i < listed.size := by rw [hM.lsize]; exact (List.getElem?_eq_some_iff.1 ho).1
 refine ⟨by cases hd : o.dst <;> simp [Act.put, hM.size], by cases hd : o.dst <;> simp [Act.put, hM.defers], hM.chg.trans hc (fun k h _ => sel_sub q S i k h), fun hq => ?_, by simp [hM.lsize], fun k hk hmk => ?_, fun k ok hok hlk j hj => ?_, fun t u hu hall => ?_, fun k ok d hok hd hlk => ?_, fun k ok hok hd hlk => ?_⟩
 ·rw [getD_set hi] at hq
  by_cases hiq : i = q
  ·rw [if_pos hiq] at hq; cases hq
  ·rw [if_neg hiq] at hq
   refine (hM.chg0 hq).trans hc (fun k h _ => ?_)
   unfold Sel at h
   rw [if_neg hiq] at h; exact h
 ·rw [getD_set hi, if_neg (by omega)]; exact hM.front k hk hmk
 ·rw [getD_set hi] at hlk ⊢
  by_cases hij : i = j
  ·rw [if_pos hij]
  ·rw [if_neg hij]
   by_cases hik : i = k
   ·subst hik
    rw [ho] at hok; injection hok with hok; subst hok
    exact hpre j hj
   ·rw [if_neg hik] at hlk
    exact hM.down k ok hok hlk j hj
 ·have h1 := hM.old t u hu (fun k ok hok hd => by
   have := hall k ok hok hd
   rw [getD_set hi] at this
   split at this
   ·cases this
   ·exact this)
  cases hd : o.dst with
  | none => simpa [Act.put] using h1
  | some d =>
   have hne : d ≠ t := fun h => by
    subst h
    have := hall i o ho hd
    rw [getD_set hi, if_pos rfl] at this
    cases this
   simp only [Act.put, Array.getElem?_setIfInBounds_ne hne]
   exact h1
 ·rw [getD_set hi] at hlk
  by_cases hik : i = k
  ·subst hik
   rw [ho] at hok; injection hok with hok; subst hok
   have := (dsts_spec hdst ho hd).1
   exact ⟨v, by simp [Act.put, hd, hM.size, this], hv⟩
  ·rw [if_neg hik] at hlk
   obtain ⟨u, hu, hh⟩ := hM.new k ok d hok hd hlk
   refine ⟨u, ?_, ?_⟩
   ·cases hdo : o.dst with
    | none => simpa [Act.put] using hu
    | some d' =>
     have hne : d' ≠ d := fun h => by
      subst h
      exact hik ((dsts_spec hdst ho hdo).2 k ok hok hd).symm
     simp only [Act.put, Array.getElem?_setIfInBounds_ne hne]
     exact hu
   ·have hf := hfirm k
    revert hh hf
    cases vsAt Vs k with
    | c u' => exact fun h _ => h
    | r R => exact fun h hf => hf _ _ _ h (hc.mono (fun j hj _ => sel_oth hik j hj))
 ·rw [getD_set hi] at hlk
  by_cases hik : i = k
  ·subst hik; exact ⟨v, hv⟩
  ·rw [if_neg hik] at hlk
   obtain ⟨u, hh⟩ := hM.noval k ok hok hd hlk
   refine ⟨u, ?_⟩
   have hf := hfirm k
   revert hh hf
   cases vsAt Vs k with
   | c u' => exact fun h _ => h
   | r R => exact fun h hf => hf _ _ _ h (hc.mono (fun j hj _ => sel_oth hik j hj))
theorem Mid.fits (hdst : dstsOk N l = true) (hM : Mid N q S l m Vs e w0 listed a w) {i : Nat} {o : Oper} (ho : l[i]? = some o) (hun : listed.getD i true = false)
  (hpre : ∀ j, (predsOf o).contains j = true → listed.getD j false = true) {val : Nat → Value}
  (hval : ∀ i o d, l[i]? = some o → o.dst = some d → listed.getD i true = true → a.tmps[d]? = some (valOf Vs val i) ∧ (vsAt Vs i).holds (valOf Vs val i) w) :
  Fits N (opEnv l Vs e i o val) a := by
 refine ⟨hM.size, hM.defers, fun t v hv => ?_⟩
 unfold opEnv at hv
 rw [look_append] at hv
 cases hp : look (predEnv l Vs val (predsOf o)) t with
 | some u =>
  rw [hp] at hv
  simp at hv
  subst hv
  obtain ⟨j, oj, hj, hoj, hd, rfl⟩ := look_predEnv val _ _ _ hp
  have h1 := hpre j (by simpa using hj)
  have h2 : listed.getD j true = true := by
   have : j < listed.size := by rw [hM.lsize]; exact (List.getElem?_eq_some_iff.1 hoj).1
   simpa [Array.getD_eq_getD_getElem?, this] using h1
  exact (hval j oj t hoj hd h2).1
 | none =>
  rw [hp] at hv
  simp at hv
  obtain ⟨h1, h2⟩ := look_filter hv
  refine hM.old t v h1 (fun k ok hok hd => ?_)
  unfold freeAt at h2
  have h3 := List.all_eq_true.1 h2 (ok, k) (by rw [List.mem_zipIdx_iff_getElem?]; exact hok)
  simp only [hd, Bool.or_eq_true] at h3
  rcases h3 with (h3 | h3) | h3
  ·simp at h3
  ·cases hlk : listed.getD k true with
   | false => rfl
   | true =>
    have := hM.down k ok hok hlk i h3
    have hi : i < listed.size := by rw [hM.lsize]; exact (List.getElem?_eq_some_iff.1 ho).1
    simp [Array.getD_eq_getD_getElem?, hi] at this hun
    rw [this] at hun; cases hun
  ·have : k = i := Nat.eq_of_beq_eq_true h3
   subst this
   exact hun
theorem tail_all (h : tailOk m l = true) (hM : Mid N q S l m Vs e w0 listed a w) {o : Oper} (ho : l[m]? = some o) (hpre : ∀ j, (predsOf o).contains j = true → listed.getD j false = true) :
  ∀ k, k < m → listed.getD k false = true := by
 unfold tailOk at h
 rw [ho] at h
 simp only [Bool.and_eq_true] at h
 have hc := h.1.2
 have key : ∀ n k, m - k ≤ n → k < m → listed.getD k false = true := by
  intro n
  induction n with
  | zero => intro k h1 h2; omega
  | succ n ih =>
   intro k h1 h2
   have h3 := List.all_eq_true.1 hc k (by simpa using h2)
   obtain ⟨c, hcm, h4⟩ := List.any_eq_true.1 h3
   simp only [Bool.and_eq_true] at h4
   have hkc : k < c := by simpa [Nat.blt_eq] using h4.1
   have hcm' : c < m + 1 := by simpa using hcm
   cases hoc : l[c]? with
   | none => simp [hoc] at h4
   | some oc =>
    simp only [hoc] at h4
    by_cases hcc : c = m
    ·subst hcc
     rw [ho] at hoc; injection hoc with hoc; subst hoc
     exact hpre k h4.2
    ·have h5 := ih c (by omega) (by omega)
     have hlt : c < listed.size := by rw [hM.lsize]; exact (List.getElem?_eq_some_iff.1 hoc).1
     have h6 : listed.getD c true = true := by
      simp [Array.getD_eq_getD_getElem?, hlt] at h5 ⊢; exact h5
     exact hM.down c oc hoc h6 k h4.2
 exact fun k hk => key (m - k) k (Nat.le_refl _) hk
theorem Mid.full (hM : Mid N q S l m Vs e w0 listed a w) (hall : ∀ k, k < m → listed.getD k true = true) {val : Nat → Value}
  (hval : ∀ i o d, l[i]? = some o → o.dst = some d → listed.getD i true = true → a.tmps[d]? = some (valOf Vs val i) ∧ (vsAt Vs i).holds (valOf Vs val i) w) :
  Fits N (frontEnv Vs val 0 m l ++ e) a := by
 refine ⟨hM.size, hM.defers, fun t v hv => ?_⟩
 rw [look_append] at hv
 cases hp : look (frontEnv Vs val 0 m l) t with
 | some u =>
  rw [hp] at hv; simp at hv; subst hv
  obtain ⟨j, o, hj, ho, hd, rfl⟩ := look_frontEnv val _ _ _ _ _ hp
  rw [Nat.zero_add]
  exact (hval j o t ho hd (hall j hj)).1
 | none =>
  rw [hp] at hv; simp at hv
  refine hM.old t v hv (fun i o ho hd => ?_)
  by_cases hi : i < m
  ·exact absurd hd (look_front_none l 0 m hp i o hi ho)
  ·exact hM.front i (List.getElem?_eq_some_iff.1 ho).1 (by omega)
theorem mid_any {Q : Post} (hdst : dstsOk N l = true) (htl : tailOk m l = true) (hfirm : ∀ i, (vsAt Vs i).firm (Oth q S i))
  (hfront : ∀ i o, i < m → l[i]? = some o → FrontOp P N q S l Vs e w0 i o)
  (hend : ∀ (val : Nat → Value) (w1 : World), Chg S w0 w1 → (∀ i, i < m → ∀ o d, l[i]? = some o → o.dst = some d → (vsAt Vs i).holds (valOf Vs val i) w1) → (∀ i, i < m → ∀ o, l[i]? = some o → o.dst = none → ∃ v, (vsAt Vs i).holds v w1) → WL P N l.toArray (l.drop m) Q (frontEnv Vs val 0 m l ++ e) w1) :
  ∀ (fuel : Nat) (listed : Array Bool) (a : Act) (w : World), openCount listed l.length = fuel → Mid N q S l m Vs e w0 listed a w → wpAny P .any l.toArray (Lift N Q) fuel listed a w := by
 have hml : m ≤ l.length := by
  unfold tailOk at htl
  simp only [Bool.and_eq_true] at htl
  exact Nat.le_of_ble_eq_true htl.1.1
 -- all front operations have come up: the tail
 have hdone : ∀ (listed : Array Bool) (a : Act) (w : World), Mid N q S l m Vs e w0 listed a w → (∀ k, k < m → listed.getD k true = true) → wpAny P .any l.toArray (Lift N Q) (l.drop m).length listed a w := by
  intro listed a w hM hall
  obtain ⟨val, hval⟩ := hM.vals
  have hW := hend val w hM.chg (fun i hi o d ho hd => (hval i o d ho hd (hall i hi)).2) (fun i hi o ho hd => hM.noval i o ho hd (hall i hi))
  unfold WL at hW
  refine tail_any htl (l.drop m) m listed a w (Nat.le_refl _) rfl hM.lsize (fun k hk => ?_) (hW a (hM.full hall hval))
  by_cases hkm : k < m
  ·rw [hall k hkm]; simp [hkm]
  ·rw [hM.front k hk (by omega)]; simp [hkm]
 have hcount : ∀ (listed : Array Bool), (∀ k, k < m → listed.getD k true = true) → (∀ i, i < l.length → m ≤ i → listed.getD i true = false) → openCount listed l.length = (l.drop m).length := by
  intro listed h1 h2
  have : ∀ n, n ≤ l.length → openCount listed n = n - m := by
   intro n
   induction n with
   | zero => intro _; simp [openCount]
   | succ n ih =>
    intro hn
    simp only [openCount]
    rw [ih (by omega)]
    by_cases hnm : n < m
    ·rw [h1 n hnm]; simp; omega
    ·rw [h2 n (by omega) (by omega)]; simp; omega
  rw [this _ (Nat.le_refl _)]; simp
 intro fuel
 induction fuel with
 | zero =>
  intro listed a w hcnt hM
  have hall : ∀ k, k < l.length → listed.getD k true = true := by
   have : ∀ n, openCount listed n = 0 → ∀ k, k < n → listed.getD k true = true := by
    intro n
    induction n with
    | zero => intro _ k hk; omega
    | succ n ih =>
     intro h k hk
     simp only [openCount] at h
     by_cases hkn : k = n
     ·subst hkn
      cases hx : listed.getD k true with
      | true => rfl
      | false => rw [hx] at h; simp at h
     ·exact ih (by omega) k (by omega)
   exact this _ hcnt
  have hd := hdone listed a w hM (fun k hk => hall k (by omega))
  rw [← hcount listed (fun k hk => hall k (by omega)) hM.front, hcnt] at hd
  exact hd
 | succ fuel ih =>
  intro listed a w hcnt hM
  by_cases hall : ∀ k, k < m → listed.getD k true = true
  ·have hd := hdone listed a w hM hall
   rw [← hcount listed hall hM.front, hcnt] at hd
   exact hd
  ·-- some front operation is open: the least one may come up; and whatever may come up is a front operation
   have hready : ∀ i, i ∈ Region.ready .any l.toArray listed → i < m := by
    intro i hi
    obtain ⟨o, ho, hun, hpre⟩ := ready_spec hi
    rcases Nat.lt_or_ge i m with h | h
    ·exact h
    ·exfalso
     have hil := (List.getElem?_eq_some_iff.1 ho).1
     rcases Nat.lt_or_ge m i with h2 | h2
     ·have h3 := hpre (i - 1) ((tail_preds htl ho).1 h2)
      have h4 := hM.front (i - 1) (by omega) (by omega)
      have hsz : i - 1 < listed.size := by rw [hM.lsize]; omega
      simp [Array.getD_eq_getD_getElem?, hsz] at h3 h4
      rw [h3] at h4; cases h4
     ·have hmi : i = m := by omega
      subst hmi
      refine hall (fun k hk => ?_)
      have h3 := tail_all htl hM ho hpre k hk
      have hsz : k < listed.size := by rw [hM.lsize]; omega
      simp [Array.getD_eq_getD_getElem?, hsz] at h3 ⊢; exact h3
   refine ⟨fun hnil => ?_, fun i hi => ?_⟩
   ·exfalso
    have hmin : ∃ k, k < m ∧ listed.getD k true = false ∧ ∀ j, j < k → listed.getD j true = true := by
     have : ∀ n, (∃ k, k < n ∧ ¬ listed.getD k true = true) → ∃ k, k < n ∧ listed.getD k true = false ∧ ∀ j, j < k → listed.getD j true = true := by
      intro n
      induction n with
      | zero => rintro ⟨k, hk, _⟩; omega
      | succ n ih =>
       rintro ⟨k, hk, hx⟩
       by_cases hex : ∃ k, k < n ∧ ¬ listed.getD k true = true
       ·obtain ⟨k', h1, h2, h3⟩ := ih hex
        exact ⟨k', by omega, h2, h3⟩
       ·have hkn : k = n := by
         rcases Nat.lt_or_ge k n with h | h
         ·exact absurd ⟨k, h, hx⟩ hex
         ·omega
        subst hkn
        refine ⟨k, by omega, by simpa using hx, fun j hj => ?_⟩
        cases hxj : listed.getD j true with
        | true => rfl
        | false => exact absurd ⟨j, hj, by simp [hxj]⟩ hex
     have hex : ∃ k, k < m ∧ ¬ listed.getD k true = true := by
      refine Classical.byContradiction fun hno => hall fun k hk => ?_
      cases hx : listed.getD k true with
      | true => rfl
      | false => exact absurd ⟨k, hk, by simp [hx]⟩ hno
     exact this m hex
    obtain ⟨k, hkm, hku, hkl⟩ := hmin
    have hkl' : k < l.length := by omega
    have ho : l[k]? = some l[k] := List.getElem?_eq_getElem hkl'
    have : k ∈ Region.ready .any l.toArray listed := by
     unfold Region.ready
     simp only [List.mem_filter, List.mem_range, Bool.and_eq_true, Bool.not_eq_true']
     refine ⟨by simpa using hkl', hku, ?_⟩
     simp [hkl']
     intro q hq
     by_cases hb : Region.binds .any l[k].after[q] = true
     ·refine .inr ?_
      have hlt := (tail_preds htl ho).2 (l[k].after[q]).on (by
       simp only [predsOf, List.contains_eq_mem, List.mem_map, List.mem_filter, decide_eq_true_eq]
       exact ⟨l[k].after[q], ⟨by simp, hb⟩, rfl⟩)
      have h2 := hkl (l[k].after[q]).on hlt
      have hsz : (l[k].after[q]).on < listed.size := by rw [hM.lsize]; omega
      simp [Array.getD_eq_getD_getElem?, hsz] at h2 ⊢
      exact h2
     ·exact .inl (by simpa using hb)
    rw [hnil] at this; cases this
   ·have him := hready i hi
    obtain ⟨o, ho, hun, hpre⟩ := ready_spec hi
    have hlit : l.toArray[i]? = some o := by simpa using ho
    obtain ⟨val, hval⟩ := hM.vals
    have hfit := hM.fits hdst ho hun hpre hval
    have hisz : i < listed.size := by rw [hM.lsize]; exact (List.getElem?_eq_some_iff.1 ho).1
    have hil := (List.getElem?_eq_some_iff.1 ho).1
    have hpv : ∀ j, (predsOf o).contains j = true → ∀ oj, l[j]? = some oj → ∀ d, oj.dst = some d → a.tmps[d]? = some (valOf Vs val j) ∧ (vsAt Vs j).holds (valOf Vs val j) w := fun j hj oj hoj d hd => by
     have h1 := hpre j hj
     have hsz : j < listed.size := by rw [hM.lsize]; exact (List.getElem?_eq_some_iff.1 hoj).1
     exact hval j oj d hoj hd (by simp [Array.getD_eq_getD_getElem?, hsz] at h1 ⊢; exact h1)
    have hoth : Chg (Pre q S l i) w0 w := by
     have hun' : listed.getD i false = false := by
      simp [Array.getD_eq_getD_getElem?, hisz] at hun ⊢; exact hun
     unfold Pre
     by_cases hiq : i = q
     ·rw [if_pos hiq]
      refine hM.chg0 ?_
      rw [← hiq]
      exact hun'
     ·rw [if_neg hiq]
      by_cases hq : qPre q l i = true
      ·rw [if_pos hq]
       refine hM.chg0 ?_
       unfold qPre at hq
       cases hoq : l[q]? with
       | none => simp [hoq] at hq
       | some oq =>
        simp only [hoq] at hq
        cases hlq : listed.getD q false with
        | false => rfl
        | true =>
         have hqs : q < listed.size := by rw [hM.lsize]; exact (List.getElem?_eq_some_iff.1 hoq).1
         have := hM.down q oq hoq (by simp [Array.getD_eq_getD_getElem?, hqs] at hlq ⊢; exact hlq) i hq
         rw [hun'] at this; cases this
      ·rw [if_neg hq]; exact hM.chg
    have hF := hfront i o him ho val w hoth (fun j hj oj d hoj hd => (hpv j hj oj hoj d hd).2)
    have hgo : ∀ v w', Chg (Sel q S i) w w' ∧ (vsAt Vs i).holds v w' → wpAny P .any l.toArray (Lift N Q) fuel (listed.setIfInBounds i true) (a.put o.dst v) w' := fun v w' ⟨hc, hv⟩ =>
     ih _ _ _ (by have := openCount_set hisz hun l.length hil; omega) (hM.step hdst ho him hun hpre hfirm hc hv)
    unfold wpOp
    rw [hlit]
    simp only
    cases hg : o.guard with
    | none =>
     rw [hg] at hF
     have hwa : Region.wanted o (yielded l.toArray a.tmps) = true := by simp [Region.wanted, hg]
     rw [if_pos hwa]
     unfold OpW at hF
     exact .inl (hF a hfit _ _ hgo)
    | some g =>
     obtain ⟨j, want⟩ := g
     rw [hg] at hF
     obtain ⟨b, hj, hjd, hb, h1, h2⟩ := hF
     have hwa : Region.wanted o (yielded l.toArray a.tmps) = (b == want) := by
      cases hoj : l[j]? with
      | none => simp [hoj] at hjd
      | some oj =>
       cases hd : oj.dst with
       | none => simp [hoj, hd] at hjd
       | some d =>
        have := (hpv j hj oj hoj d hd).1
        unfold Region.wanted yielded
        rcases hb with hb | ⟨hbw, hb⟩
        ·rw [hb] at this
         simp only [hg, List.getElem?_toArray, hoj, Option.bind_some, hd, this]
         cases b <;> cases want <;> rfl
        ·rw [hb] at this
         simp only [hg, List.getElem?_toArray, hoj, Option.bind_some, hd, this]
         subst hbw
         cases want <;> rfl
     rw [hwa]
     by_cases hbw : b = want
     ·subst hbw
      rw [if_pos (by simp)]
      have h3 := h1 rfl
      unfold OpW at h3
      exact .inl (h3 a hfit _ _ hgo)
     ·have hbn : b = !want := by cases b <;> cases want <;> first | rfl | exact absurd rfl hbw
      rw [if_neg (by simpa using hbw)]
      exact hgo undef w ⟨Chg.refl _ _, h2 hbn⟩
def Firms (q : Nat) (S : List Nat) : Nat → List VS → Prop
 | _, [] => True
 | i, s :: r => s.firm (Oth q S i) ∧ Firms q S (i + 1) r
theorem Firms.at : ∀ {Vs : List VS} {i0 : Nat}, Firms q S i0 Vs → ∀ i, (vsAt Vs i).firm (Oth q S (i0 + i))
 | [], _, _, i => by simp [vsAt, VS.firm]
 | s :: r, i0, h, 0 => h.1
 | s :: r, i0, h, i + 1 => by
  have := Firms.at h.2 i
  rw [show i0 + (i + 1) = i0 + 1 + i from by omega]; exact this
theorem Firms.snoc {s : VS} : ∀ {Vs : List VS} {i0 : Nat}, Firms q S i0 Vs → s.firm (Oth q S (i0 + Vs.length)) → Firms q S i0 (Vs ++ [s])
 | [], _, _, h => ⟨h, trivial⟩
 | a :: A, i0, hf, h => ⟨hf.1, Firms.snoc hf.2 (by rw [show i0 + 1 + A.length = i0 + (A.length + 1) from by omega]; exact h)⟩
theorem W_draw {id : Nat} {Q : Post} (m q : Nat) (S : List Nat) (Vs : List VS) (hfol : P.follows .mixedOrders = true) (hdst : dstsOk N l = true) (htl : tailOk m l = true) (hfirms : Firms q S 0 Vs)
  (hfront : Front P N q S l Vs e w 0 m l)
  (hend : ∀ (val : Nat → Value) (w1 : World), Chg S w w1 → (∀ i, i < m → ∀ o d, l[i]? = some o → o.dst = some d → (vsAt Vs i).holds (valOf Vs val i) w1) → (∀ i, i < m → ∀ o, l[i]? = some o → o.dst = none → ∃ v, (vsAt Vs i).holds v w1) → WL P N l.toArray (l.drop m) Q (frontEnv Vs val 0 m l ++ e) w1) :
  W P N (.region id l.toArray true) Q e w := by
 have hfirm : ∀ i, (vsAt Vs i).firm (Oth q S i) := fun i => by have := hfirms.at i; rwa [Nat.zero_add] at this
 unfold W
 intro a ha
 refine wp_region_any hfol ?_
 have hc0 : openCount (Array.replicate l.length false) l.length = l.length := by
  have : ∀ n, n ≤ l.length → openCount (Array.replicate l.length false) n = n := by
   intro n
   induction n with
   | zero => intro _; rfl
   | succ n ih =>
    intro hn
    have h1 : (Array.replicate l.length false).getD n true = false := by rw [Array.getD_eq_getD_getElem?, Array.getElem?_replicate, if_pos (by omega)]; rfl
    simp only [openCount]; rw [ih (by omega), h1]; rfl
  exact this _ (Nat.le_refl _)
 have hM : Mid N q S l m Vs e w (Array.replicate l.length false) a { w with drawn := w.drawn + 1 } := by
  refine ⟨ha.size, ha.defers, Chg.drawn S w _, fun _ => Chg.drawn [] w _, by simp, fun i hi _ => by simp [Array.getD_eq_getD_getElem?, hi], fun i o ho hl => ?_, fun t v hv _ => ha.look t v hv, fun i o d ho _ hl => ?_, fun i o ho _ hl => ?_⟩
  ·have hi := (List.getElem?_eq_some_iff.1 ho).1
   simp [Array.getD_eq_getD_getElem?, hi] at hl
  ·have hi := (List.getElem?_eq_some_iff.1 ho).1
   simp [Array.getD_eq_getD_getElem?, hi] at hl
  ·have hi := (List.getElem?_eq_some_iff.1 ho).1
   simp [Array.getD_eq_getD_getElem?, hi] at hl
 have := mid_any (P := P) (Q := Q) hdst htl hfirm (fun i o him ho => by simpa using Front.get l 0 m hfront i o him ho) hend l.length _ _ _ hc0 hM
 simpa using this
/-! ### The same, walked in the text's order: what an operation leaves is found on the way -/
def StepP (P : Program) (N : Nat) (q : Nat) (S : List Nat) (l : List Oper) (Vs : List VS) (e : Env) (w : World) (i : Nat) (o : Oper) (s : VS) : Prop :=
 ∀ (val : Nat → Value) (w1 : World), Chg (Pre q S l i) w w1 → (∀ j, (predsOf o).contains j = true → ∀ oj d, l[j]? = some oj → oj.dst = some d → (vsAt Vs j).holds (valOf Vs val j) w1) →
  match o.guard with
  | none => OpW P N o (opEnv l Vs e i o val) w1 (fun v w' => Chg (Sel q S i) w1 w' ∧ s.holds v w')
  | some (j, want) => ∃ b, (predsOf o).contains j = true ∧ ((l[j]?).bind (·.dst)).isSome = true ∧ (valOf Vs val j = .bool b ∨ (b = (!want) ∧ valOf Vs val j = undef)) ∧
    (b = want → OpW P N o (opEnv l Vs e i o val) w1 (fun v w' => Chg (Sel q S i) w1 w' ∧ s.holds v w')) ∧ (b = !want → s.holds undef w1)
def Walk (P : Program) (N : Nat) (q : Nat) (S : List Nat) (l : List Oper) (e : Env) (w : World) (fin : List VS → Prop) : Nat → List Oper → List VS → Prop
 | _, [], Vs => fin Vs
 | i, o :: r, Vs => ∃ s : VS, s.firm (Oth q S i) ∧ StepP P N q S l Vs e w i o s ∧ Walk P N q S l e w fin (i + 1) r (Vs ++ [s])
theorem walk_front (htl : tailOk m l = true) (hml : m ≤ l.length) {fin : List VS → Prop} : ∀ (r : List Oper) (i : Nat) (Vs : List VS), Vs.length = i → (l.take m).drop i = r → Firms q S 0 Vs → Walk P N q S l e w fin i r Vs →
  ∃ rest : List VS, rest.length = r.length ∧ Firms q S 0 (Vs ++ rest) ∧ fin (Vs ++ rest) ∧ ∀ k o, r[k]? = some o → FrontOp P N q S l (Vs ++ rest) e w (i + k) o
 | [], i, Vs, hi, hr, hf, h => ⟨[], rfl, by simpa using hf, by simpa [Walk] using h, fun k o hk => by simp at hk⟩
 | o :: r, i, Vs, hi, hr, hf, h => by
  obtain ⟨s, hs, hst, hw⟩ := h
  have hr' : (l.take m).drop (i + 1) = r := by rw [← List.drop_drop, hr]; rfl
  have hf' : Firms q S 0 (Vs ++ [s]) := hf.snoc (by rw [Nat.zero_add, hi]; exact hs)
  obtain ⟨rest, hl, h1, h2, h3⟩ := walk_front htl hml r (i + 1) (Vs ++ [s]) (by simp [hi]) hr' hf' hw
  rw [List.append_assoc] at h1 h2 h3
  refine ⟨s :: rest, by simp [hl], h1, h2, fun k ok hk => ?_⟩
  cases k with
  | zero =>
   simp at hk
   subst hk
   rw [Nat.add_zero]
   have ho : l[i]? = some o := by
    have h4 : ((l.take m).drop i)[0]? = some o := by rw [hr]; rfl
    rw [List.getElem?_drop, Nat.add_zero, List.getElem?_take] at h4
    split at h4
    ·exact h4
    ·cases h4
   have hpl : ∀ j, (predsOf o).contains j = true → j < Vs.length := fun j hj => by rw [hi]; exact (tail_preds htl ho).2 j hj
   have hpe : ∀ val, opEnv l (Vs ++ s :: rest) e i o val = opEnv l Vs e i o val := fun val => by
    unfold opEnv; rw [predEnv_append _ (fun j hj => hpl j (by simpa using hj))]
   have hvs : vsAt (Vs ++ s :: rest) i = s := by rw [← hi]; exact vsAt_at
   intro val w1 hc hp
   have hq := hst val w1 hc (fun j hj oj d h5 h6 => by
    have := hp j hj oj d h5 h6
    rw [vsAt_append (hpl j hj), valOf_append (hpl j hj)] at this; exact this)
   rw [hpe val, hvs]
   cases hg : o.guard with
   | none => rw [hg] at hq; exact hq
   | some g =>
    obtain ⟨j, want⟩ := g
    rw [hg] at hq
    obtain ⟨b, h5, h6, h7, h8, h9⟩ := hq
    exact ⟨b, h5, h6, by rw [valOf_append (hpl j h5)]; exact h7, h8, h9⟩
  | succ k =>
   have := h3 k ok (by simpa using hk)
   rw [show i + (k + 1) = i + 1 + k from by omega]; exact this
theorem front_of {Vs : List VS} : ∀ (r : List Oper) (i k : Nat), (∀ j o, j < k → r[j]? = some o → FrontOp P N q S l Vs e w (i + j) o) → Front P N q S l Vs e w i k r
 | [], i, k, h => by cases k <;> exact trivial
 | o :: r, i, 0, h => trivial
 | o :: r, i, k + 1, h => ⟨h 0 o (by omega) rfl, front_of r (i + 1) k (fun j oj hj hoj => by
   have := h (j + 1) oj (by omega) (by simpa using hoj)
   rw [show i + 1 + j = i + (j + 1) from by omega]; exact this)⟩
theorem W_walkf {id : Nat} {Q : Post} (m q : Nat) (S : List Nat) (hfol : P.follows .mixedOrders = true) (hdst : dstsOk N l = true) (htl : tailOk m l = true)
  (h : Walk P N q S l e w (fun Vs => ∀ (val : Nat → Value) (w1 : World), Chg S w w1 → (∀ i, i < m → ∀ o d, l[i]? = some o → o.dst = some d → (vsAt Vs i).holds (valOf Vs val i) w1) → (∀ i, i < m → ∀ o, l[i]? = some o → o.dst = none → ∃ v, (vsAt Vs i).holds v w1) → WL P N l.toArray (l.drop m) Q (frontEnv Vs val 0 m l ++ e) w1) 0 (l.take m) []) :
  W P N (.region id l.toArray true) Q e w := by
 have hml : m ≤ l.length := by
  have h2 := htl
  unfold tailOk at h2
  simp only [Bool.and_eq_true] at h2
  exact Nat.le_of_ble_eq_true h2.1.1
 obtain ⟨rest, hl, h1, h2, h3⟩ := walk_front htl hml (l.take m) 0 [] rfl (by simp) trivial h
 rw [List.nil_append] at h1 h2 h3
 refine W_draw m q S rest hfol hdst htl h1 (front_of l 0 m fun j o hj ho => ?_) h2
 exact h3 j o (by rw [List.getElem?_take, if_pos hj]; exact ho)
theorem Walk.mono {fin fin' : List VS → Prop} (hf : ∀ Vs, fin Vs → fin' Vs) : ∀ (r : List Oper) (i : Nat) (Vs : List VS), Walk P N q S l e w fin i r Vs → Walk P N q S l e w fin' i r Vs
 | [], _, Vs, h => hf Vs h
 | _ :: r, i, Vs, ⟨s, h1, h2, h3⟩ => ⟨s, h1, h2, Walk.mono hf r (i + 1) (Vs ++ [s]) h3⟩
theorem W_walkq {id : Nat} {Q : Post} (m q : Nat) (S : List Nat) (hfol : P.follows .mixedOrders = true) (hdst : dstsOk N l = true) (htl : tailOk m l = true)
  (h : Walk P N q S l e w (fun Vs => ∀ (val : Nat → Value) (w1 : World), Chg S w w1 → (∀ i, i < m → ∀ o d, l[i]? = some o → o.dst = some d → (vsAt Vs i).holds (valOf Vs val i) w1) → WL P N l.toArray (l.drop m) Q (frontEnv Vs val 0 m l ++ e) w1) 0 (l.take m) []) :
  W P N (.region id l.toArray true) Q e w :=
 W_walkf m q S hfol hdst htl (Walk.mono (fun Vs h val w1 hc hp _ => h val w1 hc hp) _ _ _ h)
theorem Walk.plain {fin : List VS → Prop} {i : Nat} {r : List Oper} {Vs : List VS} {o : Oper} {v : Value} (hi : Nat.beq i q = false) (hg : o.guard = none)
  (h : ∀ (val : Nat → Value) (w1 : World), Chg S w w1 → (∀ j, (predsOf o).contains j = true → ∀ oj d, l[j]? = some oj → oj.dst = some d → (vsAt Vs j).holds (valOf Vs val j) w1) → OpW P N o (opEnv l Vs e i o val) w1 (fun u w' => Chg [] w1 w' ∧ u = v))
  (hr : Walk P N q S l e w fin (i + 1) r (Vs ++ [.c v])) : Walk P N q S l e w fin i (o :: r) Vs := by
 have hne : ¬ i = q := fun e => by subst e; simp at hi
 refine ⟨.c v, trivial, fun val w1 hc hp => ?_, hr⟩
 rw [hg]
 replace hc := hc.mono (fun k hk _ => pre_oth k hk)
 unfold Oth at hc
 rw [if_neg hne] at hc
 unfold Sel
 rw [if_neg hne]
 exact h val w1 hc hp
theorem Walk.plainP {fin : List VS → Prop} {i : Nat} {r : List Oper} {Vs : List VS} {o : Oper} {v : Value} (hi : Nat.beq i q = false) (hp : qPre q l i = true) (hg : o.guard = none)
  (h : ∀ (val : Nat → Value) (w1 : World), Chg [] w w1 → (∀ j, (predsOf o).contains j = true → ∀ oj d, l[j]? = some oj → oj.dst = some d → (vsAt Vs j).holds (valOf Vs val j) w1) → OpW P N o (opEnv l Vs e i o val) w1 (fun u w' => Chg [] w1 w' ∧ u = v))
  (hr : Walk P N q S l e w fin (i + 1) r (Vs ++ [.c v])) : Walk P N q S l e w fin i (o :: r) Vs := by
 have hne : ¬ i = q := fun e => by subst e; simp at hi
 refine ⟨.c v, trivial, fun val w1 hc hp' => ?_, hr⟩
 rw [hg]
 unfold Pre at hc
 rw [if_neg hne, if_pos hp] at hc
 unfold Sel
 rw [if_neg hne]
 exact h val w1 hc hp'
theorem Walk.rel {fin : List VS → Prop} {i : Nat} {r : List Oper} {Vs : List VS} {o : Oper} (hi : Nat.beq i q = false) (R : Value → World → Prop) (hg : o.guard = none) (hR : ∀ v w w', R v w → Chg S w w' → R v w')
  (h : ∀ (val : Nat → Value) (w1 : World), Chg S w w1 → (∀ j, (predsOf o).contains j = true → ∀ oj d, l[j]? = some oj → oj.dst = some d → (vsAt Vs j).holds (valOf Vs val j) w1) → OpW P N o (opEnv l Vs e i o val) w1 (fun u w' => Chg [] w1 w' ∧ R u w'))
  (hr : Walk P N q S l e w fin (i + 1) r (Vs ++ [.r R])) : Walk P N q S l e w fin i (o :: r) Vs := by
 have hne : ¬ i = q := fun e => by subst e; simp at hi
 refine ⟨.r R, ?_, fun val w1 hc hp => ?_, hr⟩
 ·unfold Oth; rw [if_neg hne]; exact hR
 rw [hg]
 replace hc := hc.mono (fun k hk _ => pre_oth k hk)
 unfold Oth at hc
 rw [if_neg hne] at hc
 unfold Sel
 rw [if_neg hne]
 exact h val w1 hc hp
theorem Walk.turn {fin : List VS → Prop} {i : Nat} {r : List Oper} {Vs : List VS} {o : Oper} (hi : Nat.beq i q = true) (R : Value → World → Prop) (hg : o.guard = none) (hR : ∀ v w w', R v w → Chg [] w w' → R v w')
  (h : ∀ (val : Nat → Value) (w1 : World), Chg [] w w1 → (∀ j, (predsOf o).contains j = true → ∀ oj d, l[j]? = some oj → oj.dst = some d → (vsAt Vs j).holds (valOf Vs val j) w1) → OpW P N o (opEnv l Vs e i o val) w1 (fun u w' => Chg S w1 w' ∧ R u w'))
  (hr : Walk P N q S l e w fin (i + 1) r (Vs ++ [.r R])) : Walk P N q S l e w fin i (o :: r) Vs := by
 have he : i = q := Nat.eq_of_beq_eq_true hi
 refine ⟨.r R, ?_, fun val w1 hc hp => ?_, hr⟩
 ·unfold Oth; rw [if_pos he]; exact hR
 rw [hg]
 replace hc := hc.mono (fun k hk _ => pre_oth k hk)
 unfold Oth at hc
 rw [if_pos he] at hc
 unfold Sel
 rw [if_pos he]
 exact h val w1 hc hp
theorem Walk.guardT {fin : List VS → Prop} {i j : Nat} {want : Bool} {r : List Oper} {Vs : List VS} {o : Oper} {v : Value} (hi : Nat.beq i q = false) (hg : o.guard = some (j, want)) (hj : (predsOf o).contains j = true) (hjd : ((l[j]?).bind (·.dst)).isSome = true) (hb : ∀ val, valOf Vs val j = .bool want)
  (h : ∀ (val : Nat → Value) (w1 : World), Chg S w w1 → (∀ j, (predsOf o).contains j = true → ∀ oj d, l[j]? = some oj → oj.dst = some d → (vsAt Vs j).holds (valOf Vs val j) w1) → OpW P N o (opEnv l Vs e i o val) w1 (fun u w' => Chg [] w1 w' ∧ u = v))
  (hr : Walk P N q S l e w fin (i + 1) r (Vs ++ [.c v])) : Walk P N q S l e w fin i (o :: r) Vs := by
 have hne : ¬ i = q := fun e => by subst e; simp at hi
 refine ⟨.c v, trivial, fun val w1 hc hp => ?_, hr⟩
 rw [hg]
 replace hc := hc.mono (fun k hk _ => pre_oth k hk)
 unfold Oth at hc
 rw [if_neg hne] at hc
 unfold Sel
 rw [if_neg hne]
 exact ⟨want, hj, hjd, .inl (hb val), (fun _ => h val w1 hc hp), (fun hn => by cases want <;> cases hn)⟩
theorem Walk.guardR {fin : List VS → Prop} {i j : Nat} {want : Bool} {r : List Oper} {Vs : List VS} {o : Oper} (hi : Nat.beq i q = false) (R : Value → World → Prop) (hg : o.guard = some (j, want)) (hj : (predsOf o).contains j = true) (hjd : ((l[j]?).bind (·.dst)).isSome = true) (hb : ∀ val, valOf Vs val j = .bool want) (hR : ∀ v w w', R v w → Chg S w w' → R v w')
  (h : ∀ (val : Nat → Value) (w1 : World), Chg S w w1 → (∀ j, (predsOf o).contains j = true → ∀ oj d, l[j]? = some oj → oj.dst = some d → (vsAt Vs j).holds (valOf Vs val j) w1) → OpW P N o (opEnv l Vs e i o val) w1 (fun u w' => Chg [] w1 w' ∧ R u w'))
  (hr : Walk P N q S l e w fin (i + 1) r (Vs ++ [.r R])) : Walk P N q S l e w fin i (o :: r) Vs := by
 have hne : ¬ i = q := fun e => by subst e; simp at hi
 refine ⟨.r R, ?_, fun val w1 hc hp => ?_, hr⟩
 ·unfold Oth; rw [if_neg hne]; exact hR
 rw [hg]
 replace hc := hc.mono (fun k hk _ => pre_oth k hk)
 unfold Oth at hc
 rw [if_neg hne] at hc
 unfold Sel
 rw [if_neg hne]
 exact ⟨want, hj, hjd, .inl (hb val), (fun _ => h val w1 hc hp), (fun hn => by cases want <;> cases hn)⟩
theorem Walk.guardF {fin : List VS → Prop} {i j : Nat} {want b : Bool} {r : List Oper} {Vs : List VS} {o : Oper} (hg : o.guard = some (j, want)) (hj : (predsOf o).contains j = true) (hjd : ((l[j]?).bind (·.dst)).isSome = true) (hb : ∀ val, valOf Vs val j = .bool b) (hbw : b = !want)
  (hr : Walk P N q S l e w fin (i + 1) r (Vs ++ [.c undef])) : Walk P N q S l e w fin i (o :: r) Vs :=
 ⟨.c undef, trivial, fun val w1 hc hp => by rw [hg]; exact ⟨b, hj, hjd, .inl (hb val), (fun hn => by subst hbw; cases want <;> cases hn), (fun _ => rfl)⟩, hr⟩
theorem Walk.fin {fin : List VS → Prop} {i : Nat} {Vs : List VS} (h : fin Vs) : Walk P N q S l e w fin i [] Vs := h
attribute [irreducible] Walk
end
end Go.Vc.Q
/-! Rows whose elements have several cells. -/
namespace Go.Vc
open Go
def Elem (w : World) (ad : Addr) (m : Nat) (cs : List Value) : Prop := ∀ j u, cs[j]? = some u → w.cell? (ad.add (m + j)) = some u
theorem Elem.keep0 {w w' : World} {ad : Addr} {m : Nat} {cs : List Value} (h : Elem w ad m cs) (hc : Chg [] w w') : Elem w' ad m cs := fun j u hj => hc.cell0 (h j u hj)
def RdL {α : Type} (f : α → List Value) (_ : World) (cs : List Value) (x : α) : Prop := cs = f x
theorem RdL.kept {α : Type} {f : α → List Value} : KeptK (RdL f) := fun _ _ _ _ _ h => h
section
variable {α : Type} {f : α → List Value} {k : Nat} {w w' : World} {v : Value} {L : List α}
theorem SliceK.keepR (h : SliceK k (RdL f) w v L) (hc : Chg [] w w') : SliceK k (RdL f) w' v L := h.keep RdL.kept hc
theorem SliceK.at {A : Option Addr} {n c : Nat} (h : SliceK k (RdL f) w (.slice A n c) L) {i : Nat} {x : α} (hx : L[i]? = some x) : ∃ ad, A = some ad ∧ Elem w ad (i * k) (f x) := by
 obtain ⟨ad, cs, h1, _, h2, h3⟩ := h.get hx
 unfold RdL at h3
 subst h3
 exact ⟨ad, h1, h2⟩
theorem rk_len (hf : ∀ x, (f x).length = k) : ∀ L : List α, (L.flatMap f).length = L.length * k
 | [] => by simp
 | x :: L => by rw [List.flatMap_cons, List.length_append, hf, rk_len hf L, List.length_cons, Nat.succ_mul]; omega
theorem rk_get (hf : ∀ x, (f x).length = k) : ∀ (L : List α) {i j : Nat} {x : α}, L[i]? = some x → j < k → (L.flatMap f)[i * k + j]? = (f x)[j]?
 | [], i, j, x, h, _ => by simp at h
 | a :: l, 0, j, x, h, hj => by
  simp at h
  subst h
  rw [List.flatMap_cons, Nat.zero_mul, Nat.zero_add, List.getElem?_append_left (by rw [hf]; exact hj)]
 | a :: l, i + 1, j, x, h, hj => by
  rw [List.flatMap_cons, List.getElem?_append_right (by rw [hf, Nat.succ_mul]; omega), hf, show (i + 1) * k + j - k = i * k + j from by rw [Nat.succ_mul]; omega]
  exact rk_get hf l (by simpa using h) hj
theorem rk_lt {i n k : Nat} (hi : i < n) : i * k + k ≤ n * k := by
 have : (i + 1) * k ≤ n * k := Nat.mul_le_mul_right k hi
 rw [Nat.succ_mul] at this
 exact this
def RowB (w : World) (g : Nat) (t : TypeId) (f : α → List Value) (L : List α) (rest : List Value) : Prop := Blk w g t (L.flatMap f ++ rest)
theorem RowB.keep0 {g : Nat} {t : TypeId} {rest : List Value} (h : RowB w g t f L rest) (hc : Chg [] w w') : RowB w' g t f L rest := Blk.keep0 h hc
theorem RowB.keep {S : List Nat} {g : Nat} {t : TypeId} {rest : List Value} (h : RowB w g t f L rest) (hc : Chg S w w') (hn : g ∉ S) : RowB w' g t f L rest := Blk.keep h hc hn
theorem RowB.lt {g : Nat} {t : TypeId} {rest : List Value} (h : RowB w g t f L rest) : g < w.heap.size := Blk.lt h
theorem RowB.elem (hf : ∀ x, (f x).length = k) {g : Nat} {t : TypeId} {rest : List Value} (h : RowB w g t f L rest) {i : Nat} {x : α} (hx : L[i]? = some x) : Elem w ⟨g, 0, none⟩ (i * k) (f x) := fun j u hj => by
 have hjk : j < k := by have := (List.getElem?_eq_some_iff.1 hj).1; rw [hf] at this; exact this
 have hi := (List.getElem?_eq_some_iff.1 hx).1
 rw [add_plain]
 unfold RowB at h
 refine h.cell ?_
 rw [List.getElem?_append_left (by rw [rk_len hf]; have := rk_lt (k := k) hi; omega), rk_get hf L hx hjk]
 exact hj
theorem Own.rowB {t : TypeId} {g n c : Nat} (h : Own w t k (.slice (some ⟨g, 0, none⟩) n c) n (L.flatMap f)) : ∃ rest, RowB w g t f L rest ∧ (L.flatMap f ++ rest).length = c * k := by
 rcases h.cases with ⟨h1, _⟩ | ⟨g', cap, cur, h1, _, _, h2, h3, h4⟩
 ·cases h1
 ·injection h1 with e1 _ e2
  injection e1 with e1
  injection e1 with e1 _ _
  subst e1; subst e2
  refine ⟨cur.drop (n * k), ?_, ?_⟩
  ·unfold RowB
   rw [← h4, List.take_append_drop]
   exact h2
  ·rw [← h4, List.take_append_drop]; exact h3
theorem RowB.own (hf : ∀ x, (f x).length = k) {g c : Nat} {t : TypeId} {rest : List Value} (h : RowB w g t f L rest) (hl : (L.flatMap f ++ rest).length = c * k) (hc : L.length ≤ c) (hm : c ≤ maxLen) : Own w t k (.slice (some ⟨g, 0, none⟩) L.length c) L.length (L.flatMap f) :=
 Own.mk h hc hm hl (by rw [← rk_len hf L]; exact List.take_left' rfl)
theorem Own.addr {t : TypeId} {A : Option Addr} {n c : Nat} {xs : List Value} (h : Own w t k (.slice A n c) n xs) (hn : 0 < n) : ∃ g, A = some ⟨g, 0, none⟩ := by
 obtain ⟨g, cap, cur, h1, _⟩ := h.blk hn
 injection h1 with h1
 exact ⟨g, h1⟩
theorem Own.readsK (hf : ∀ x, (f x).length = k) {t : TypeId} (h : Own w t k v L.length (L.flatMap f)) : SliceK k (RdL f) w v L := by
 obtain ⟨A, c, rfl, h1, h2⟩ := h.form
 unfold SliceK
 refine ⟨A, c, rfl, h1, h2, fun i x hx => ?_⟩
 obtain ⟨g, rfl⟩ := h.addr (by have := (List.getElem?_eq_some_iff.1 hx).1; omega)
 obtain ⟨rest, hr, _⟩ := h.rowB
 exact ⟨_, f x, rfl, hf x, hr.elem hf hx, rfl⟩
end
section
variable {P : Program} {N : Nat} {e : Env} {w : World} {o : Oper} {K : Value → World → Prop} {α : Type} {f : α → List Value} {k : Nat}
theorem op_loadE (T : Types P) {x : Operand} {t : TypeId} {d : TInfo} {ad : Addr} {m : Nat} {cs : List Value} (h0 : Elem w ad m cs)
  (hop : o.op = .load t x) (hx : ev e x = some (.pointer (some (ad.add m)))) (ht : T.tbl t = some d) (hd : aggI d = true) (hs' : Nat.beq d.size cs.length = true) (h : K (.agg cs.toArray) w) : OpW P N o e w K :=
 op_load_cells T hop hx ht hd hs' (fun j u hj => by rw [add_of_add]; exact h0 j u hj) h
theorem op_indexK (T : Types P) {x y : Operand} {t el : TypeId} {ad : Addr} {n c : Nat} {kk : IntKind} {i : Nat} {j : TInfo}
  (hop : o.op = .indexAddr t x y) (hx : ev e x = some (.slice (some ad) n c)) (hy : ev e y = some (.int kk (i : Int))) (ht : T.d t = some (.slice el)) (hel : T.tbl el = some j)
  (h1 : i < n) (h : K (.pointer (some (ad.add (i * j.size)))) w) : OpW P N o e w K :=
 op_index_slice T hop hx hy ht hel (by omega) (by omega) (by rw [Int.toNat_natCast]) h
theorem op_appendK (T : Types P) (hf : ∀ x, (f x).length = k) {x y : Operand} {t el : TypeId} {d : TInfo} {v : Value} {g5 c : Nat} {L : List α} {a : α} {ts : Array TypeId}
  (hop : o.op = .call { callee := .builtin .append, args := #[x, y], argTypes := ts }) (hts : ts = #[t, t]) (hx : ev e x = some v) (hy : ev e y = some (.slice (some ⟨g5, 0, none⟩) 1 c)) (ht : T.d t = some (.slice el)) (hel : T.tbl el = some d)
  (hz : Nat.beq d.zero.cells.size d.size = true) (hpos : Nat.blt 0 d.size = true) (hsz : Nat.beq d.size k = true) (hby : Nat.ble d.bytes 1000 = true)
  (hown : Own w el k v L.length (L.flatMap f)) (hg : Blk w g5 el (f a)) (h1 : ∀ u ∈ f a, u.oneCell' = true) (hlim : L.length < 1000000)
  (h : ∀ v' w1, Own w1 el k v' (L ++ [a]).length ((L ++ [a]).flatMap f) → Chg v.ownBlock.toList w w1 → (v'.ownBlock = v.ownBlock ∨ ∃ g, v'.ownBlock = some g ∧ w.heap.size ≤ g) → K v' w1) : OpW P N o e w K := by
 obtain rfl : d.size = k := Nat.eq_of_beq_eq_true hsz
 have hby' := Nat.le_of_ble_eq_true hby
 refine op_append T (n := L.length) (xs := L.flatMap f) (m := 1) (news := f a) hop hts hx hy ht hel hz hpos hown (by rw [hf, Nat.one_mul]) ?_ (by unfold maxLen; omega) ?_ (fun v' w1 ho hc hb _ => h v' w1 ?_ hc hb)
 ·intro j u hj
  exact ⟨⟨_, rfl, by rw [add_plain]; exact hg.cell hj⟩, h1 u (List.mem_of_getElem? hj)⟩
 ·have : (L.length + 1) * d.bytes ≤ (L.length + 1) * 1000 := Nat.mul_le_mul_left _ hby'
  omega
 ·rw [List.length_append, List.flatMap_append]
  simpa using ho
end
end Go.Vc
/-! The kit's sorts of rows: the worlds behind them. -/
namespace Go.Vc
open Go Go.Sort Go.Proofs
section
variable {α : Type} [Inhabited α] {w : World} {g n : Nat} {os : Array Obj} {cur : Array Value} {e : TypeId}
theorem heap_put (enc : α → Value) {fr : Nat × Nat} (d : Array α) (hb : w.heap[g]? = some (.cells cur e fr)) : (grow (putRow enc (Sort.ahead w n) g 0 d) os).heap[g]? = some (.cells (putCells enc 0 d cur) e fr) := by
 have hg : g < w.heap.size := (Array.getElem?_eq_some_iff.1 hb).1
 rw [heap_grow_old _ _ (by simpa using hg)]
 simp [putRow, mapBlock, Sort.ahead, Array.getElem?_modify, hb, onCells]
theorem chg_put (enc : α → Value) (d : Array α) : Chg [g] w (grow (putRow enc (Sort.ahead w n) g 0 d) os) := by
 have h : w.grownBy (grow (putRow enc (Sort.ahead w n) g 0 d) os) (some g) := by
  refine ⟨rfl, rfl, rfl, by simp, fun k hk hne => ?_⟩
  rw [heap_grow_old _ _ (by simpa using hk)]
  have : g ≠ k := fun e => hne (by rw [e])
  simp [putRow, mapBlock, Sort.ahead, Array.getElem?_modify, this]
 exact Chg.of_grown h
theorem take_put (enc : α → Value) (cur : Array Value) (ts : List α) (h : ts.length ≤ cur.size) : (putCells enc 0 ts.toArray cur).toList.take ts.length = ts.map enc := by
 apply List.ext_getElem?
 intro j
 by_cases hj : j < ts.length
 ·rw [List.getElem?_take_of_lt hj, Array.getElem?_toList]
  simp [putCells, hj, show j < cur.size by omega]
 ·rw [List.getElem?_take_eq_none (by omega), List.getElem?_eq_none (by simp; omega)]
theorem put_size (enc : α → Value) (cur : Array Value) (d : Array α) : (putCells enc 0 d cur).size = cur.size := by simp [putCells]
theorem holds_of (enc : α → Value) {ss : List α} (hb : w.heap[g]? = some (.cells cur e (0, 0))) (ht : cur.toList.take ss.length = ss.map enc) : Holds enc w g 0 ss.toArray := by
 intro j hj
 have hj' : j < ss.length := by simpa using hj
 refine ⟨?_, by simp [World.frozen?, hb]⟩
 have h1 : (cur.toList.take ss.length)[j]? = (ss.map enc)[j]? := by rw [ht]
 rw [List.getElem?_take_of_lt hj'] at h1
 simp only [World.cell?, hb, Nat.zero_add]
 simp only [Option.isSome_none, Bool.false_eq_true, if_false]
 rw [← Array.getElem?_toList, h1]
 simp [hj']
end
theorem flatK_eq {α : Type} [Inhabited α] {f : α → List Value} {k : Nat} (hf : ∀ x, (f x).length = k) (L : List α) : (flatK f k L.toArray).toList = L.flatMap f := by
 apply List.ext_getElem?
 intro t
 by_cases ht : t < L.length * k
 ·have hk : 0 < k := by
   rcases Nat.eq_zero_or_pos k with h | h
   ·subst h; simp at ht
   ·exact h
  have hi : t / k < L.length := Nat.div_lt_of_lt_mul (by rw [Nat.mul_comm]; exact ht)
  have hx : L[t / k]? = some L[t / k] := List.getElem?_eq_getElem hi
  have hm : t % k < k := Nat.mod_lt _ hk
  have hdm : t / k * k + t % k = t := Nat.div_add_mod' t k
  have h1 := rk_get hf L hx hm
  rw [hdm] at h1
  rw [h1]
  have h2 : (f L[t / k])[t % k]? = some ((f L[t / k])[t % k]'(by rw [hf]; exact hm)) := List.getElem?_eq_getElem _
  rw [h2]
  have hsz : t < (flatK f k L.toArray).size := by simpa using ht
  have h3 := get_flatK f k L.toArray t (by simpa using ht)
  rw [getElem!_pos _ t hsz] at h3
  rw [Array.getElem?_toList, Array.getElem?_eq_getElem hsz, h3]
  simp [hi, hf, hm]
 ·rw [List.getElem?_eq_none (by simp; omega), List.getElem?_eq_none (by rw [rk_len hf]; omega)]
end Go.Vc
/-
 DERIVED: THE SHELF's CONTRACTS AT THIS DUMP, IN PLAIN WORDS (tools/lay-plain.mjs out of 'TryzShelf.lean', which tools/lay-shelf.mjs wrote): THE SAME DECLARATIONS UNDER THE SAME NAMES: 'import', 'namespace', 'open', 'def', 'theorem' AND NOTHING ELSE: no command of the shelf's: FOR A HAND-IN. Each laying: the table of numbers ('.._ren') and one theorem, a field a fact of the dump's own or the kernel's comparison; each contract: ONE APPLICATION.
-/
namespace Go.Proofs
open Go.Shelf
def Tryz.keysA_ren : Go.Shelf.Ren := ⟨fun | 7 => 68 | 10 => 114 | n => n, fun | 23 => 83 | 26 => 9 | 3 => 103 | 28 => 122 | 0 => 0 | 27 => 121 | 33 => 102 | 4 => 4 | n => n, fun | n => n⟩
theorem Tryz.keysA : Go.Proofs.SlLaysZ.n7 Tryz.prog Tryz.keysA_ren := {
 mixed := by kernel_rfl
 f7 := ⟨Tryz.f68.name, by decide, Tryz.func68.trans (congrArg some (by kernel_rfl))⟩
 f10 := ⟨Tryz.f114.name, by decide, Tryz.func114.trans (congrArg some (by kernel_rfl))⟩
 t0 := Tryz.underlying0
 a0 := Tryz.isAgg0
 z0 := Tryz.sizeOf0
 v0 := Tryz.zeroValue0
 t4 := Tryz.underlying4
 a4 := Tryz.isAgg4
 z4 := Tryz.sizeOf4
 v4 := Tryz.zeroValue4
 t23 := Tryz.underlying83
 a23 := Tryz.isAgg83
 z23 := Tryz.sizeOf83
 v23 := Tryz.zeroValue83
 t26 := Tryz.underlying9
 a26 := Tryz.isAgg9
 z26 := Tryz.sizeOf9
 v26 := Tryz.zeroValue9
 t27 := Tryz.underlying121
 a27 := Tryz.isAgg121
 z27 := Tryz.sizeOf121
 v27 := Tryz.zeroValue121
 t28 := Tryz.underlying122
 a28 := Tryz.isAgg122
 z28 := Tryz.sizeOf122
 v28 := Tryz.zeroValue122
 t33 := Tryz.underlying102
 a33 := Tryz.isAgg102
 z33 := Tryz.sizeOf102
 v33 := Tryz.zeroValue102 }
def Tryz.sortedA_ren : Go.Shelf.Ren := ⟨fun | 6 => 67 | 8 => 112 | 9 => 113 | 11 => 163 | 13 => 75 | 12 => 164 | 23 => 124 | 24 => 125 | 14 => 182 | 15 => 183 | 16 => 184 | 17 => 185 | 18 => 186 | 19 => 187 | 20 => 188 | 21 => 189 | 22 => 190 | 25 => 212 | 26 => 166 | 27 => 167 | 28 => 213 | 29 => 214 | 30 => 215 | 31 => 224 | n => n, fun | 26 => 9 | 28 => 122 | 24 => 50 | 0 => 0 | 3 => 3 | 37 => 128 | 48 => 24 | 50 => 176 | 4 => 4 | 40 => 167 | 39 => 166 | 45 => 172 | 5 => 5 | 9 => 9 | 51 => 210 | 55 => 214 | 57 => 232 | 58 => 233 | 33 => 102 | n => n, fun | n => n⟩
theorem Tryz.sortedA : Go.Proofs.SlLaysZ.n6 Tryz.prog Tryz.sortedA_ren := {
 mixed := by kernel_rfl
 f6 := ⟨Tryz.f67.name, by decide, Tryz.func67.trans (congrArg some (by kernel_rfl))⟩
 f8 := ⟨Tryz.f112.name, by decide, Tryz.func112.trans (congrArg some (by kernel_rfl))⟩
 f11 := ⟨Tryz.f163.name, by decide, Tryz.func163.trans (congrArg some (by kernel_rfl))⟩
 t0 := Tryz.underlying0
 a0 := Tryz.isAgg0
 z0 := Tryz.sizeOf0
 v0 := Tryz.zeroValue0
 t24 := Tryz.underlying50
 a24 := Tryz.isAgg50
 z24 := Tryz.sizeOf50
 v24 := Tryz.zeroValue50
 t26 := Tryz.underlying9
 a26 := Tryz.isAgg9
 z26 := Tryz.sizeOf9
 v26 := Tryz.zeroValue9
 t28 := Tryz.underlying122
 a28 := Tryz.isAgg122
 z28 := Tryz.sizeOf122
 v28 := Tryz.zeroValue122
 i26 := by kernel_rfl }
def Tryz.sortA_ren : Go.Shelf.Ren := ⟨fun | 6 => 113 | 8 => 75 | 9 => 164 | 19 => 124 | 20 => 125 | 21 => 182 | 22 => 183 | 23 => 184 | 24 => 185 | 25 => 186 | 26 => 187 | 27 => 188 | 28 => 189 | 29 => 190 | 36 => 212 | 31 => 166 | 32 => 167 | 37 => 213 | 38 => 214 | 39 => 215 | 41 => 224 | n => n, fun | 27 => 50 | 29 => 9 | 3 => 3 | 32 => 128 | 26 => 50 | 0 => 0 | 44 => 24 | 46 => 176 | 4 => 4 | 36 => 167 | 35 => 166 | 41 => 172 | 5 => 5 | 9 => 9 | 53 => 210 | 57 => 214 | 63 => 232 | 64 => 233 | n => n, fun | n => n⟩
theorem Tryz.sortA : Go.Proofs.SlLaysM.n6 Tryz.prog Tryz.sortA_ren := {
 mixed := by kernel_rfl
 f6 := ⟨Tryz.f113.name, by decide, Tryz.func113.trans (congrArg some (by kernel_rfl))⟩
 f8 := Tryz.func75.trans (congrArg some (by kernel_rfl))
 f9 := ⟨Tryz.f164.name, by decide, Tryz.func164.trans (congrArg some (by kernel_rfl))⟩
 f19 := Tryz.func124.trans (congrArg some (by kernel_rfl))
 f20 := Tryz.func125.trans (congrArg some (by kernel_rfl))
 f21 := ⟨Tryz.f182.name, by decide, Tryz.func182.trans (congrArg some (by kernel_rfl))⟩
 f22 := ⟨Tryz.f183.name, by decide, Tryz.func183.trans (congrArg some (by kernel_rfl))⟩
 f23 := ⟨Tryz.f184.name, by decide, Tryz.func184.trans (congrArg some (by kernel_rfl))⟩
 f24 := ⟨Tryz.f185.name, by decide, Tryz.func185.trans (congrArg some (by kernel_rfl))⟩
 f25 := ⟨Tryz.f186.name, by decide, Tryz.func186.trans (congrArg some (by kernel_rfl))⟩
 f26 := ⟨Tryz.f187.name, by decide, Tryz.func187.trans (congrArg some (by kernel_rfl))⟩
 f27 := ⟨Tryz.f188.name, by decide, Tryz.func188.trans (congrArg some (by kernel_rfl))⟩
 f28 := ⟨Tryz.f189.name, by decide, Tryz.func189.trans (congrArg some (by kernel_rfl))⟩
 f29 := ⟨Tryz.f190.name, by decide, Tryz.func190.trans (congrArg some (by kernel_rfl))⟩
 f31 := Tryz.func166.trans (congrArg some (by kernel_rfl))
 f32 := Tryz.func167.trans (congrArg some (by kernel_rfl))
 f36 := ⟨Tryz.f212.name, by decide, Tryz.func212.trans (congrArg some (by kernel_rfl))⟩
 f37 := ⟨Tryz.f213.name, by decide, Tryz.func213.trans (congrArg some (by kernel_rfl))⟩
 f38 := ⟨Tryz.f214.name, by decide, Tryz.func214.trans (congrArg some (by kernel_rfl))⟩
 f39 := ⟨Tryz.f215.name, by decide, Tryz.func215.trans (congrArg some (by kernel_rfl))⟩
 f41 := ⟨Tryz.f224.name, by decide, Tryz.func224.trans (congrArg some (by kernel_rfl))⟩
 t0 := Tryz.underlying0
 a0 := Tryz.isAgg0
 z0 := Tryz.sizeOf0
 v0 := Tryz.zeroValue0
 t3 := Tryz.underlying3
 a3 := Tryz.isAgg3
 z3 := Tryz.sizeOf3
 v3 := Tryz.zeroValue3
 t4 := Tryz.underlying4
 a4 := Tryz.isAgg4
 z4 := Tryz.sizeOf4
 v4 := Tryz.zeroValue4
 t5 := Tryz.underlying5
 a5 := Tryz.isAgg5
 z5 := Tryz.sizeOf5
 v5 := Tryz.zeroValue5
 t9 := Tryz.underlying9
 a9 := Tryz.isAgg9
 z9 := Tryz.sizeOf9
 v9 := Tryz.zeroValue9
 t26 := Tryz.underlying50
 a26 := Tryz.isAgg50
 z26 := Tryz.sizeOf50
 v26 := Tryz.zeroValue50
 t27 := Tryz.underlying50
 a27 := Tryz.isAgg50
 z27 := Tryz.sizeOf50
 v27 := Tryz.zeroValue50
 t29 := Tryz.underlying9
 a29 := Tryz.isAgg9
 z29 := Tryz.sizeOf9
 v29 := Tryz.zeroValue9
 t32 := Tryz.underlying128
 a32 := Tryz.isAgg128
 z32 := Tryz.sizeOf128
 v32 := Tryz.zeroValue128
 t35 := Tryz.underlying166
 a35 := Tryz.isAgg166
 z35 := Tryz.sizeOf166
 v35 := Tryz.zeroValue166
 t36 := Tryz.underlying167
 a36 := Tryz.isAgg167
 z36 := Tryz.sizeOf167
 v36 := Tryz.zeroValue167
 t41 := Tryz.underlying172
 a41 := Tryz.isAgg172
 z41 := Tryz.sizeOf172
 v41 := Tryz.zeroValue172
 t44 := Tryz.underlying24
 a44 := Tryz.isAgg24
 z44 := Tryz.sizeOf24
 v44 := Tryz.zeroValue24
 t46 := Tryz.underlying176
 a46 := Tryz.isAgg176
 z46 := Tryz.sizeOf176
 v46 := Tryz.zeroValue176
 t53 := Tryz.underlying210
 a53 := Tryz.isAgg210
 z53 := Tryz.sizeOf210
 v53 := Tryz.zeroValue210
 t57 := Tryz.underlying214
 a57 := Tryz.isAgg214
 z57 := Tryz.sizeOf214
 v57 := Tryz.zeroValue214
 t63 := Tryz.underlying232
 a63 := Tryz.isAgg232
 z63 := Tryz.sizeOf232
 v63 := Tryz.zeroValue232
 t64 := Tryz.underlying233
 a64 := Tryz.isAgg233
 z64 := Tryz.sizeOf233
 v64 := Tryz.zeroValue233 }
def Tryz.cloneM_ren : Go.Shelf.Ren := ⟨fun | 5 => 65 | 7 => 111 | n => n, fun | 23 => 83 | 25 => 9 | 3 => 103 | 4 => 4 | 20 => 20 | n => n, fun | n => n⟩
theorem Tryz.cloneM : Go.Proofs.SlLaysW.n5 Tryz.prog Tryz.cloneM_ren := {
 mixed := by kernel_rfl
 f5 := ⟨Tryz.f65.name, by decide, Tryz.func65.trans (congrArg some (by kernel_rfl))⟩
 f7 := Tryz.func111.trans (congrArg some (by kernel_rfl))
 t4 := Tryz.underlying4
 a4 := Tryz.isAgg4
 z4 := Tryz.sizeOf4
 v4 := Tryz.zeroValue4
 t20 := Tryz.underlying20
 a20 := Tryz.isAgg20
 z20 := Tryz.sizeOf20
 v20 := Tryz.zeroValue20
 t23 := Tryz.underlying83
 a23 := Tryz.isAgg83
 z23 := Tryz.sizeOf83
 v23 := Tryz.zeroValue83 }
def Tryz.sortI_ren : Go.Shelf.Ren := ⟨fun | 5 => 38 | 8 => 75 | 7 => 74 | 19 => 124 | 20 => 125 | 10 => 115 | 11 => 116 | 12 => 117 | 13 => 118 | 14 => 119 | 15 => 120 | 16 => 121 | 17 => 122 | 18 => 123 | 30 => 165 | 31 => 166 | 32 => 167 | 33 => 168 | 34 => 169 | 35 => 170 | 40 => 191 | n => n, fun | 23 => 27 | 25 => 2 | 3 => 3 | 32 => 128 | 22 => 27 | 0 => 0 | 44 => 24 | 46 => 176 | 4 => 4 | 36 => 167 | 35 => 166 | 41 => 172 | 5 => 5 | 9 => 9 | 53 => 210 | 57 => 214 | 63 => 232 | 64 => 233 | n => n, fun | n => n⟩
theorem Tryz.sortI : Go.Proofs.SlLaysM.n5 Tryz.prog Tryz.sortI_ren := {
 mixed := by kernel_rfl
 f5 := ⟨Tryz.f38.name, by decide, Tryz.func38.trans (congrArg some (by kernel_rfl))⟩
 f7 := ⟨Tryz.f74.name, by decide, Tryz.func74.trans (congrArg some (by kernel_rfl))⟩
 f8 := Tryz.func75.trans (congrArg some (by kernel_rfl))
 f10 := ⟨Tryz.f115.name, by decide, Tryz.func115.trans (congrArg some (by kernel_rfl))⟩
 f11 := ⟨Tryz.f116.name, by decide, Tryz.func116.trans (congrArg some (by kernel_rfl))⟩
 f12 := ⟨Tryz.f117.name, by decide, Tryz.func117.trans (congrArg some (by kernel_rfl))⟩
 f13 := ⟨Tryz.f118.name, by decide, Tryz.func118.trans (congrArg some (by kernel_rfl))⟩
 f14 := ⟨Tryz.f119.name, by decide, Tryz.func119.trans (congrArg some (by kernel_rfl))⟩
 f15 := ⟨Tryz.f120.name, by decide, Tryz.func120.trans (congrArg some (by kernel_rfl))⟩
 f16 := ⟨Tryz.f121.name, by decide, Tryz.func121.trans (congrArg some (by kernel_rfl))⟩
 f17 := ⟨Tryz.f122.name, by decide, Tryz.func122.trans (congrArg some (by kernel_rfl))⟩
 f18 := ⟨Tryz.f123.name, by decide, Tryz.func123.trans (congrArg some (by kernel_rfl))⟩
 f19 := Tryz.func124.trans (congrArg some (by kernel_rfl))
 f20 := Tryz.func125.trans (congrArg some (by kernel_rfl))
 f30 := ⟨Tryz.f165.name, by decide, Tryz.func165.trans (congrArg some (by kernel_rfl))⟩
 f31 := Tryz.func166.trans (congrArg some (by kernel_rfl))
 f32 := Tryz.func167.trans (congrArg some (by kernel_rfl))
 f33 := ⟨Tryz.f168.name, by decide, Tryz.func168.trans (congrArg some (by kernel_rfl))⟩
 f34 := ⟨Tryz.f169.name, by decide, Tryz.func169.trans (congrArg some (by kernel_rfl))⟩
 f35 := ⟨Tryz.f170.name, by decide, Tryz.func170.trans (congrArg some (by kernel_rfl))⟩
 f40 := ⟨Tryz.f191.name, by decide, Tryz.func191.trans (congrArg some (by kernel_rfl))⟩
 t0 := Tryz.underlying0
 a0 := Tryz.isAgg0
 z0 := Tryz.sizeOf0
 v0 := Tryz.zeroValue0
 t3 := Tryz.underlying3
 a3 := Tryz.isAgg3
 z3 := Tryz.sizeOf3
 v3 := Tryz.zeroValue3
 t4 := Tryz.underlying4
 a4 := Tryz.isAgg4
 z4 := Tryz.sizeOf4
 v4 := Tryz.zeroValue4
 t5 := Tryz.underlying5
 a5 := Tryz.isAgg5
 z5 := Tryz.sizeOf5
 v5 := Tryz.zeroValue5
 t9 := Tryz.underlying9
 a9 := Tryz.isAgg9
 z9 := Tryz.sizeOf9
 v9 := Tryz.zeroValue9
 t22 := Tryz.underlying27
 a22 := Tryz.isAgg27
 z22 := Tryz.sizeOf27
 v22 := Tryz.zeroValue27
 t23 := Tryz.underlying27
 a23 := Tryz.isAgg27
 z23 := Tryz.sizeOf27
 v23 := Tryz.zeroValue27
 t25 := Tryz.underlying2
 a25 := Tryz.isAgg2
 z25 := Tryz.sizeOf2
 v25 := Tryz.zeroValue2
 t32 := Tryz.underlying128
 a32 := Tryz.isAgg128
 z32 := Tryz.sizeOf128
 v32 := Tryz.zeroValue128
 t35 := Tryz.underlying166
 a35 := Tryz.isAgg166
 z35 := Tryz.sizeOf166
 v35 := Tryz.zeroValue166
 t36 := Tryz.underlying167
 a36 := Tryz.isAgg167
 z36 := Tryz.sizeOf167
 v36 := Tryz.zeroValue167
 t41 := Tryz.underlying172
 a41 := Tryz.isAgg172
 z41 := Tryz.sizeOf172
 v41 := Tryz.zeroValue172
 t44 := Tryz.underlying24
 a44 := Tryz.isAgg24
 z44 := Tryz.sizeOf24
 v44 := Tryz.zeroValue24
 t46 := Tryz.underlying176
 a46 := Tryz.isAgg176
 z46 := Tryz.sizeOf176
 v46 := Tryz.zeroValue176
 t53 := Tryz.underlying210
 a53 := Tryz.isAgg210
 z53 := Tryz.sizeOf210
 v53 := Tryz.zeroValue210
 t57 := Tryz.underlying214
 a57 := Tryz.isAgg214
 z57 := Tryz.sizeOf214
 v57 := Tryz.zeroValue214
 t63 := Tryz.underlying232
 a63 := Tryz.isAgg232
 z63 := Tryz.sizeOf232
 v63 := Tryz.zeroValue232
 t64 := Tryz.underlying233
 a64 := Tryz.isAgg233
 z64 := Tryz.sizeOf233
 v64 := Tryz.zeroValue233 }
def Tryz.sortSeg_ren : Go.Shelf.Ren := ⟨fun | 6 => 142 | 15 => 75 | 14 => 176 | 28 => 124 | 29 => 125 | 20 => 196 | 21 => 197 | 22 => 198 | 23 => 199 | 24 => 200 | 25 => 201 | 26 => 202 | 27 => 203 | 46 => 218 | 47 => 166 | 48 => 167 | 49 => 219 | 50 => 220 | 57 => 225 | n => n, fun | 22 => 22 | 24 => 26 | 25 => 188 | 3 => 3 | 39 => 128 | 0 => 0 | 53 => 24 | 55 => 176 | 4 => 4 | 46 => 167 | 45 => 166 | 50 => 172 | 5 => 5 | 9 => 9 | 66 => 210 | 70 => 214 | 76 => 232 | 77 => 233 | n => n, fun | n => n⟩
theorem Tryz.sortSeg : Go.Proofs.SlLaysF0.n6 Tryz.prog Tryz.sortSeg_ren := {
 mixed := by kernel_rfl
 f6 := ⟨Tryz.f142.name, by decide, Tryz.func142.trans (congrArg some (by kernel_rfl))⟩
 f14 := ⟨Tryz.f176.name, by decide, Tryz.func176.trans (congrArg some (by kernel_rfl))⟩
 f15 := Tryz.func75.trans (congrArg some (by kernel_rfl))
 f20 := ⟨Tryz.f196.name, by decide, Tryz.func196.trans (congrArg some (by kernel_rfl))⟩
 f21 := ⟨Tryz.f197.name, by decide, Tryz.func197.trans (congrArg some (by kernel_rfl))⟩
 f22 := ⟨Tryz.f198.name, by decide, Tryz.func198.trans (congrArg some (by kernel_rfl))⟩
 f23 := ⟨Tryz.f199.name, by decide, Tryz.func199.trans (congrArg some (by kernel_rfl))⟩
 f24 := ⟨Tryz.f200.name, by decide, Tryz.func200.trans (congrArg some (by kernel_rfl))⟩
 f25 := ⟨Tryz.f201.name, by decide, Tryz.func201.trans (congrArg some (by kernel_rfl))⟩
 f26 := ⟨Tryz.f202.name, by decide, Tryz.func202.trans (congrArg some (by kernel_rfl))⟩
 f27 := ⟨Tryz.f203.name, by decide, Tryz.func203.trans (congrArg some (by kernel_rfl))⟩
 f28 := Tryz.func124.trans (congrArg some (by kernel_rfl))
 f29 := Tryz.func125.trans (congrArg some (by kernel_rfl))
 f46 := ⟨Tryz.f218.name, by decide, Tryz.func218.trans (congrArg some (by kernel_rfl))⟩
 f47 := Tryz.func166.trans (congrArg some (by kernel_rfl))
 f48 := Tryz.func167.trans (congrArg some (by kernel_rfl))
 f49 := ⟨Tryz.f219.name, by decide, Tryz.func219.trans (congrArg some (by kernel_rfl))⟩
 f50 := ⟨Tryz.f220.name, by decide, Tryz.func220.trans (congrArg some (by kernel_rfl))⟩
 f57 := ⟨Tryz.f225.name, by decide, Tryz.func225.trans (congrArg some (by kernel_rfl))⟩
 t0 := Tryz.underlying0
 a0 := Tryz.isAgg0
 z0 := Tryz.sizeOf0
 v0 := Tryz.zeroValue0
 t3 := Tryz.underlying3
 a3 := Tryz.isAgg3
 z3 := Tryz.sizeOf3
 v3 := Tryz.zeroValue3
 t4 := Tryz.underlying4
 a4 := Tryz.isAgg4
 z4 := Tryz.sizeOf4
 v4 := Tryz.zeroValue4
 t5 := Tryz.underlying5
 a5 := Tryz.isAgg5
 z5 := Tryz.sizeOf5
 v5 := Tryz.zeroValue5
 t9 := Tryz.underlying9
 a9 := Tryz.isAgg9
 z9 := Tryz.sizeOf9
 v9 := Tryz.zeroValue9
 t22 := Tryz.underlying22
 a22 := Tryz.isAgg22
 z22 := Tryz.sizeOf22
 v22 := Tryz.zeroValue22
 t25 := Tryz.underlying188
 a25 := Tryz.isAgg188
 z25 := Tryz.sizeOf188
 v25 := Tryz.zeroValue188
 t39 := Tryz.underlying128
 a39 := Tryz.isAgg128
 z39 := Tryz.sizeOf128
 v39 := Tryz.zeroValue128
 t45 := Tryz.underlying166
 a45 := Tryz.isAgg166
 z45 := Tryz.sizeOf166
 v45 := Tryz.zeroValue166
 t46 := Tryz.underlying167
 a46 := Tryz.isAgg167
 z46 := Tryz.sizeOf167
 v46 := Tryz.zeroValue167
 t50 := Tryz.underlying172
 a50 := Tryz.isAgg172
 z50 := Tryz.sizeOf172
 v50 := Tryz.zeroValue172
 t53 := Tryz.underlying24
 a53 := Tryz.isAgg24
 z53 := Tryz.sizeOf24
 v53 := Tryz.zeroValue24
 t55 := Tryz.underlying176
 a55 := Tryz.isAgg176
 z55 := Tryz.sizeOf176
 v55 := Tryz.zeroValue176
 t66 := Tryz.underlying210
 a66 := Tryz.isAgg210
 z66 := Tryz.sizeOf210
 v66 := Tryz.zeroValue210
 t70 := Tryz.underlying214
 a70 := Tryz.isAgg214
 z70 := Tryz.sizeOf214
 v70 := Tryz.zeroValue214
 t76 := Tryz.underlying232
 a76 := Tryz.isAgg232
 z76 := Tryz.sizeOf232
 v76 := Tryz.zeroValue232
 t77 := Tryz.underlying233
 a77 := Tryz.isAgg233
 z77 := Tryz.sizeOf233
 v77 := Tryz.zeroValue233 }
def Tryz.sortPar_ren : Go.Shelf.Ren := ⟨fun | 6 => 150 | 15 => 75 | 14 => 177 | 28 => 124 | 29 => 125 | 20 => 204 | 21 => 205 | 22 => 206 | 23 => 207 | 24 => 208 | 25 => 209 | 26 => 210 | 27 => 211 | 46 => 221 | 47 => 166 | 48 => 167 | 49 => 222 | 50 => 223 | 57 => 226 | n => n, fun | 22 => 47 | 24 => 70 | 25 => 193 | 3 => 3 | 39 => 128 | 0 => 0 | 53 => 24 | 55 => 176 | 4 => 4 | 46 => 167 | 45 => 166 | 50 => 172 | 5 => 5 | 9 => 9 | 66 => 210 | 70 => 214 | 76 => 232 | 77 => 233 | n => n, fun | n => n⟩
theorem Tryz.sortPar : Go.Proofs.SlLaysF0.n6 Tryz.prog Tryz.sortPar_ren := {
 mixed := by kernel_rfl
 f6 := ⟨Tryz.f150.name, by decide, Tryz.func150.trans (congrArg some (by kernel_rfl))⟩
 f14 := ⟨Tryz.f177.name, by decide, Tryz.func177.trans (congrArg some (by kernel_rfl))⟩
 f15 := Tryz.func75.trans (congrArg some (by kernel_rfl))
 f20 := ⟨Tryz.f204.name, by decide, Tryz.func204.trans (congrArg some (by kernel_rfl))⟩
 f21 := ⟨Tryz.f205.name, by decide, Tryz.func205.trans (congrArg some (by kernel_rfl))⟩
 f22 := ⟨Tryz.f206.name, by decide, Tryz.func206.trans (congrArg some (by kernel_rfl))⟩
 f23 := ⟨Tryz.f207.name, by decide, Tryz.func207.trans (congrArg some (by kernel_rfl))⟩
 f24 := ⟨Tryz.f208.name, by decide, Tryz.func208.trans (congrArg some (by kernel_rfl))⟩
 f25 := ⟨Tryz.f209.name, by decide, Tryz.func209.trans (congrArg some (by kernel_rfl))⟩
 f26 := ⟨Tryz.f210.name, by decide, Tryz.func210.trans (congrArg some (by kernel_rfl))⟩
 f27 := ⟨Tryz.f211.name, by decide, Tryz.func211.trans (congrArg some (by kernel_rfl))⟩
 f28 := Tryz.func124.trans (congrArg some (by kernel_rfl))
 f29 := Tryz.func125.trans (congrArg some (by kernel_rfl))
 f46 := ⟨Tryz.f221.name, by decide, Tryz.func221.trans (congrArg some (by kernel_rfl))⟩
 f47 := Tryz.func166.trans (congrArg some (by kernel_rfl))
 f48 := Tryz.func167.trans (congrArg some (by kernel_rfl))
 f49 := ⟨Tryz.f222.name, by decide, Tryz.func222.trans (congrArg some (by kernel_rfl))⟩
 f50 := ⟨Tryz.f223.name, by decide, Tryz.func223.trans (congrArg some (by kernel_rfl))⟩
 f57 := ⟨Tryz.f226.name, by decide, Tryz.func226.trans (congrArg some (by kernel_rfl))⟩
 t0 := Tryz.underlying0
 a0 := Tryz.isAgg0
 z0 := Tryz.sizeOf0
 v0 := Tryz.zeroValue0
 t3 := Tryz.underlying3
 a3 := Tryz.isAgg3
 z3 := Tryz.sizeOf3
 v3 := Tryz.zeroValue3
 t4 := Tryz.underlying4
 a4 := Tryz.isAgg4
 z4 := Tryz.sizeOf4
 v4 := Tryz.zeroValue4
 t5 := Tryz.underlying5
 a5 := Tryz.isAgg5
 z5 := Tryz.sizeOf5
 v5 := Tryz.zeroValue5
 t9 := Tryz.underlying9
 a9 := Tryz.isAgg9
 z9 := Tryz.sizeOf9
 v9 := Tryz.zeroValue9
 t22 := Tryz.underlying47
 a22 := Tryz.isAgg47
 z22 := Tryz.sizeOf47
 v22 := Tryz.zeroValue47
 t25 := Tryz.underlying193
 a25 := Tryz.isAgg193
 z25 := Tryz.sizeOf193
 v25 := Tryz.zeroValue193
 t39 := Tryz.underlying128
 a39 := Tryz.isAgg128
 z39 := Tryz.sizeOf128
 v39 := Tryz.zeroValue128
 t45 := Tryz.underlying166
 a45 := Tryz.isAgg166
 z45 := Tryz.sizeOf166
 v45 := Tryz.zeroValue166
 t46 := Tryz.underlying167
 a46 := Tryz.isAgg167
 z46 := Tryz.sizeOf167
 v46 := Tryz.zeroValue167
 t50 := Tryz.underlying172
 a50 := Tryz.isAgg172
 z50 := Tryz.sizeOf172
 v50 := Tryz.zeroValue172
 t53 := Tryz.underlying24
 a53 := Tryz.isAgg24
 z53 := Tryz.sizeOf24
 v53 := Tryz.zeroValue24
 t55 := Tryz.underlying176
 a55 := Tryz.isAgg176
 z55 := Tryz.sizeOf176
 v55 := Tryz.zeroValue176
 t66 := Tryz.underlying210
 a66 := Tryz.isAgg210
 z66 := Tryz.sizeOf210
 v66 := Tryz.zeroValue210
 t70 := Tryz.underlying214
 a70 := Tryz.isAgg214
 z70 := Tryz.sizeOf214
 v70 := Tryz.zeroValue214
 t76 := Tryz.underlying232
 a76 := Tryz.isAgg232
 z76 := Tryz.sizeOf232
 v76 := Tryz.zeroValue232
 t77 := Tryz.underlying233
 a77 := Tryz.isAgg233
 z77 := Tryz.sizeOf233
 v77 := Tryz.zeroValue233 }
def Tryz.cmpA_ren : Go.Shelf.Ren := ⟨fun | 5 => 144 | 7 => 170 | n => n, fun | 22 => 2 | 3 => 3 | 4 => 4 | n => n, fun | n => n⟩
theorem Tryz.cmpA : Go.Proofs.SlLaysC2.n5 Tryz.prog Tryz.cmpA_ren := {
 mixed := by kernel_rfl
 f5 := ⟨Tryz.f144.name, by decide, Tryz.func144.trans (congrArg some (by kernel_rfl))⟩
 f7 := ⟨Tryz.f170.name, by decide, Tryz.func170.trans (congrArg some (by kernel_rfl))⟩
 t3 := Tryz.underlying3
 a3 := Tryz.isAgg3
 z3 := Tryz.sizeOf3
 v3 := Tryz.zeroValue3
 t4 := Tryz.underlying4
 a4 := Tryz.isAgg4
 z4 := Tryz.sizeOf4
 v4 := Tryz.zeroValue4
 t22 := Tryz.underlying2
 a22 := Tryz.isAgg2
 z22 := Tryz.sizeOf2
 v22 := Tryz.zeroValue2 }
end Go.Proofs
/-! The library's sort of int64. -/
namespace Go.Vc
open Go Go.Sort Go.Proofs
def i64V (n : Int) : Value := .int .i64 n
def sortI (l : List Int) : List Int := l.mergeSort fun x y => decide (x ≤ y)
end Go.Vc
namespace Go.Proofs.YtiadjkjlifnopaaGreatDoor.Tryz
open Go Go.Vc
theorem sortI_has (v : Value) (L : List Int) (w : World) (hown : Own w 2 1 v L.length (L.map i64V)) (hlen : L.length ≤ 1000000) :
  Has Tryz.prog 38 #[v] w (fun u w' => u = .tuple #[] ∧ Chg v.ownBlock.toList w w' ∧ Own w' 2 1 v (sortI L).length ((sortI L).map i64V)) := by
 have hsl : (sortI L).length = L.length := List.length_mergeSort _
 by_cases hpos : 0 < L.length
 ·obtain ⟨g, cap, cur, rfl, hn, hm, hb, hl, ht⟩ := hown.blk hpos
  have hb' := hb
  unfold Blk at hb'
  rw [Nat.mul_one] at ht
  have hc := Go.Proofs.AnyM.slices_Sort_int Tryz.sortI g 0 cap L w (holds_of (Value.int .i64) hb' (by rw [show cur.toArray.toList = cur from by simp]; exact ht)) hb.lt (by omega)
  refine ⟨⟨_, Tryz.func38, rfl, by decide⟩, Calls.mono hc ?_⟩
  rintro e w' ⟨rfl, n, os, rfl⟩
  have hcs : L.length ≤ cur.toArray.size := by simp at hl ⊢; omega
  refine ⟨_, rfl, rfl, chg_put _ _, ?_⟩
  have hblk : Blk (Sort.grow (Sort.putRow (Value.int .i64) (Sort.ahead w n) g 0 (sortI L).toArray) os) g 2 (Sort.putCells (Value.int .i64) 0 (sortI L).toArray cur.toArray).toList := by
   unfold Blk
   rw [heap_put _ _ hb']
  rw [show (Value.slice (some ⟨g, 0, none⟩) L.length cap) = .slice (some ⟨g, 0, none⟩) (sortI L).length cap from by rw [hsl]]
  refine Own.mk hblk (by omega) hm (by rw [Array.length_toList, put_size]; simpa using hl) ?_
  rw [Nat.mul_one]
  exact take_put _ _ _ (by omega)
 ·obtain rfl : L = [] := List.eq_nil_of_length_eq_zero (by omega)
  obtain ⟨A, c, rfl, _, _⟩ := hown.form
  have hc := Go.Proofs.AnyM.slices_Sort_int_none Tryz.sortI A c w
  refine ⟨⟨_, Tryz.func38, rfl, by decide⟩, Calls.mono hc ?_⟩
  rintro e w' ⟨rfl, rfl⟩
  exact ⟨_, rfl, rfl, Chg.refl _ _, by rw [show sortI [] = [] from by simp [sortI]]; exact hown⟩
end Go.Proofs.YtiadjkjlifnopaaGreatDoor.Tryz
/-! Sums and seals, in plain words. -/
namespace Go.Vc
open Go
def xorU (x y : Int) : Int := IntKind.u32.wrap ((BitVec.ofInt 32 x ^^^ BitVec.ofInt 32 y).toNat : Int)
def andU (x y : Int) : Int := IntKind.u32.wrap ((BitVec.ofInt 32 x &&& BitVec.ofInt 32 y).toNat : Int)
def crcBit (x : Int) : Int := xorU (x.fdiv (2 ^ (min (1 : Int).toNat 32))) (andU 3988292384 (IntKind.u32.wrap (0 - andU x 1)))
def crcBits : Nat → Int → Int
 | 0, x => x
 | n + 1, x => crcBit (crcBits n x)
def crcByte (x : Int) (c : UInt8) : Int := crcBits 8 (xorU x (IntKind.u32.wrap (c.toNat : Int)))
def crcTo (l : List UInt8) : Int := l.foldl crcByte 4294967295
def crc (l : List UInt8) : Int := IntKind.u32.wrap ((BitVec.ofInt 32 4294967295 ^^^ BitVec.ofInt 32 (crcTo l)).toNat : Int)
theorem crcTo_take (l : List UInt8) (k : Nat) (h : k < l.length) : crcTo (l.take (k + 1)) = crcByte (crcTo (l.take k)) l[k] := by
 rw [List.take_add_one, List.getElem?_eq_getElem h]
 exact List.foldl_append
theorem wrap_u32_range (n : Int) : 0 ≤ IntKind.u32.wrap n ∧ IntKind.u32.wrap n < 4294967296 := by
 simp [IntKind.wrap, IntKind.signed, IntKind.bits]
 omega
def crcN (l : List UInt8) : Nat := (crc l).toNat
theorem crc_eq (l : List UInt8) : crc l = (crcN l : Int) := by
 have := (wrap_u32_range ((BitVec.ofInt 32 4294967295 ^^^ BitVec.ofInt 32 (crcTo l)).toNat : Int)).1
 exact (Int.toNat_of_nonneg this).symm
theorem crcN_lt (l : List UInt8) : crcN l < 4294967296 := by
 have := (wrap_u32_range ((BitVec.ofInt 32 4294967295 ^^^ BitVec.ofInt 32 (crcTo l)).toNat : Int)).2
 have h2 : crc l < 4294967296 := this
 have := crc_eq l
 omega
def sealM (b : List UInt8) : List UInt8 := fourM b.length ++ fourM (crcN (fourM b.length)) ++ fourM (crcN b) ++ b
theorem fourM_length (n : Nat) : (fourM n).length = 4 := rfl
theorem sealM_length (b : List UInt8) : (sealM b).length = 12 + b.length := by simp [sealM, fourM_length]; omega
def firstM (l : List UInt8) : List UInt8 × Nat × Bool :=
 if l.length < 12 then ([], 0, true)
 else if getFourM (l.drop 4) ≠ crcN (l.take 4) then ([], 0, false)
 else if l.length - 12 < getFourM l then ([], 0, true)
 else if getFourM (l.drop 8) ≠ crcN ((l.drop 12).take (getFourM l)) then ([], 0, false)
 else ((l.drop 12).take (getFourM l), 12 + getFourM l, true)
theorem firstM_bound (l : List UInt8) : (firstM l).2.1 = 0 ∨ (12 ≤ (firstM l).2.1 ∧ (firstM l).2.1 ≤ l.length ∧ (firstM l).1.length + 12 = (firstM l).2.1) := by
 unfold firstM
 split
 ·exact .inl rfl
 split
 ·exact .inl rfl
 split
 ·exact .inl rfl
 split
 ·exact .inl rfl
 ·refine .inr ⟨by dsimp only; omega, by dsimp only; omega, ?_⟩
  simp [List.length_take, List.length_drop]
  omega
def scanM (l : List UInt8) : List (List UInt8) × Nat × Bool :=
 if h : (firstM l).2.1 = 0 then ([], 0, (firstM l).2.2)
 else ((firstM l).1 :: (scanM (l.drop (firstM l).2.1)).1, (firstM l).2.1 + (scanM (l.drop (firstM l).2.1)).2.1, (scanM (l.drop (firstM l).2.1)).2.2)
termination_by l.length
decreasing_by
 all_goals
  rcases firstM_bound l with h' | ⟨h1, h2, _⟩
  ·exact absurd h' h
  ·rw [List.length_drop]; omega
theorem scanM_end {l : List UInt8} (h : (firstM l).2.1 = 0) : scanM l = ([], 0, (firstM l).2.2) := by rw [scanM]; exact dif_pos h
theorem scanM_step {l : List UInt8} (h : ¬ (firstM l).2.1 = 0) : scanM l = ((firstM l).1 :: (scanM (l.drop (firstM l).2.1)).1, (firstM l).2.1 + (scanM (l.drop (firstM l).2.1)).2.1, (scanM (l.drop (firstM l).2.1)).2.2) := by
 rw [scanM]; exact dif_neg h
theorem firstM_sealM (b rest : List UInt8) (hb : b.length < 4294967296) : firstM (sealM b ++ rest) = (b, 12 + b.length, true) := by
 have e0 : sealM b ++ rest = fourM b.length ++ (fourM (crcN (fourM b.length)) ++ (fourM (crcN b) ++ (b ++ rest))) := by simp [sealM]
 have l0 : (sealM b ++ rest).length = 12 + b.length + rest.length := by rw [List.length_append, sealM_length]
 have h1 : getFourM (sealM b ++ rest) = b.length := by rw [e0]; exact getFourM_fourM _ _ hb
 have h2 : (sealM b ++ rest).drop 4 = fourM (crcN (fourM b.length)) ++ (fourM (crcN b) ++ (b ++ rest)) := by rw [e0]; exact List.drop_left' (fourM_length _)
 have h3 : (sealM b ++ rest).take 4 = fourM b.length := by rw [e0]; exact List.take_left' (fourM_length _)
 have h4 : (sealM b ++ rest).drop 8 = fourM (crcN b) ++ (b ++ rest) := by rw [show 8 = 4 + 4 from rfl, ← List.drop_drop, h2]; exact List.drop_left' (fourM_length _)
 have h5 : (sealM b ++ rest).drop 12 = b ++ rest := by rw [show 12 = 8 + 4 from rfl, ← List.drop_drop, h4]; exact List.drop_left' (fourM_length _)
 unfold firstM
 rw [if_neg (by omega), if_neg (by rw [h2, h3, getFourM_fourM _ _ (crcN_lt _)]; simp), if_neg (by omega), h1, h5, List.take_left' rfl, h4, getFourM_fourM _ _ (crcN_lt _), if_neg (by simp)]
theorem scanM_sealM (b rest : List UInt8) (hb : b.length < 4294967296) : scanM (sealM b ++ rest) = (b :: (scanM rest).1, 12 + b.length + (scanM rest).2.1, (scanM rest).2.2) := by
 have h := firstM_sealM b rest hb
 rw [scanM_step (by rw [h]; simp), h]
 dsimp only
 have : (sealM b ++ rest).drop (12 + b.length) = rest := List.drop_left' (sealM_length b)
 rw [this]
theorem scanM_nil : scanM [] = ([], 0, true) := by
 have : firstM [] = ([], 0, true) := by unfold firstM; rw [if_pos (by decide)]
 rw [scanM_end (by rw [this]), this]
end Go.Vc
/-! Records, in plain words. -/
namespace Go.Vc
open Go
def stepM (s : List UInt8 × Bool) (n : Nat) : List UInt8 × Bool := if s.2 = true ∨ n = 0 then ([], true) else (s.1.drop n, false)
def numM (s : List UInt8 × Bool) (most : Nat) : Nat × (List UInt8 × Bool) :=
 (if (stepM s (if most < (getM s.1).1 then 0 else (getM s.1).2)).2 = true then 0 else (getM s.1).1, stepM s (if most < (getM s.1).1 then 0 else (getM s.1).2))
theorem numM_putM {n most : Nat} (rest : List UInt8) (h : n ≤ most) (hm : most < 18446744073709551616) : numM (putM n ++ rest, false) most = (n, (rest, false)) := by
 have hp := putM_pos n
 have hs : stepM (putM n ++ rest, false) (if most < (getM (putM n ++ rest)).1 then 0 else (getM (putM n ++ rest)).2) = (rest, false) := by
  rw [getM_putM rest (by omega)]
  dsimp only
  rw [if_neg (by omega)]
  unfold stepM
  rw [if_neg (by
    rintro (h | h); · cases h
    ·omega)]
  simp
 unfold numM
 dsimp only
 rw [hs, getM_putM rest (by omega)]
 rfl
end Go.Vc
/-! Edits, in plain words. -/
namespace Go.Vc
open Go
structure SegM where
 num : Int
 sealed : Bool
 group : Int
 member : Int
 size : Int
 sum : Nat
structure ParM where
 group : Int
 nums : List Int
 sizes : List Int
 size : Int
 sum : Nat
structure EditM where
 next : Int
 seq : Int
 adds : List SegM
 dels : List Int
 pars : List ParM
 drops : List Int
def segL (s : SegM) : List Value := [.int .i64 s.num, .bool s.sealed, .int .i64 s.group, .int .i64 s.member, .int .i64 s.size, .int .u32 (s.sum : Int)]
theorem segL_len (s : SegM) : (segL s).length = 6 := rfl
theorem segL_one (s : SegM) : ∀ u ∈ segL s, u.oneCell' = true := by
 intro u hu
 simp only [segL, List.mem_cons, List.not_mem_nil, or_false] at hu
 rcases hu with rfl | rfl | rfl | rfl | rfl | rfl <;> rfl
structure ParV where
 p : ParM
 vn : Value
 vs : Value
def parL (q : ParV) : List Value := [.int .i64 q.p.group, q.vn, q.vs, .int .i64 q.p.size, .int .u32 (q.p.sum : Int)]
theorem parL_len (q : ParV) : (parL q).length = 5 := rfl
def inB (lo hi : Int) (l : List Int) : Bool := l.all fun n => decide (lo ≤ n ∧ n ≤ hi)
def segB (s : SegM) : Bool := inB 1 1125899906842624 [s.num] && inB 0 1125899906842624 [s.group] && inB 0 3 [s.member] && inB 0 4194304 [s.size]
def parGo (nums sizes : List Int) : Nat → Nat → Bool
 | 0, _ => true
 | n + 1, i => !(nums.take i).contains (nums[i]?.getD 0) && (inB 0 4194304 [sizes[i]?.getD 0] && parGo nums sizes n (i + 1))
def parHead (p : ParM) : Bool := decide (1 ≤ p.nums.length) && decide (p.nums.length ≤ 3) && decide (p.sizes.length = p.nums.length) && inB 1 1125899906842624 p.nums && inB 1 1125899906842624 [p.group] && inB 0 4194304 [p.size]
def parB (p : ParM) : Bool := parHead p && parGo p.nums p.sizes p.nums.length 0
def editB (e : EditM) : Bool :=
 inB 0 1125899906842624 [e.next, e.seq] && (decide (e.adds.length ≤ 60) && decide (e.dels.length ≤ 60) && decide (e.pars.length ≤ 60) && decide (e.drops.length ≤ 60)) && inB 1 1125899906842624 e.dels && inB 1 1125899906842624 e.drops && e.adds.all segB && e.pars.all parB
theorem inB_mem {lo hi : Int} {l : List Int} : inB lo hi l = true ↔ ∀ n ∈ l, lo ≤ n ∧ n ≤ hi := by unfold inB; simp
theorem inB_one {lo hi n : Int} : inB lo hi [n] = true ↔ lo ≤ n ∧ n ≤ hi := by unfold inB; simp
structure SegOk (s : SegM) : Prop where
 num : 1 ≤ s.num ∧ s.num ≤ 1125899906842624
 group : 0 ≤ s.group ∧ s.group ≤ 1125899906842624
 member : 0 ≤ s.member ∧ s.member ≤ 3
 size : 0 ≤ s.size ∧ s.size ≤ 4194304
theorem segB_ok {s : SegM} : segB s = true ↔ SegOk s := by
 unfold segB
 simp only [Bool.and_eq_true, inB_one]
 exact ⟨fun ⟨⟨⟨a, b⟩, c⟩, d⟩ => ⟨a, b, c, d⟩, fun h => ⟨⟨⟨h.num, h.group⟩, h.member⟩, h.size⟩⟩
structure ParOk (p : ParM) : Prop where
 len1 : 1 ≤ p.nums.length
 len3 : p.nums.length ≤ 3
 lens : p.sizes.length = p.nums.length
 nums : ∀ n ∈ p.nums, 1 ≤ n ∧ n ≤ 1125899906842624
 group : 1 ≤ p.group ∧ p.group ≤ 1125899906842624
 size : 0 ≤ p.size ∧ p.size ≤ 4194304
 sizes : ∀ n ∈ p.sizes, 0 ≤ n ∧ n ≤ 4194304
 nodup : p.nums.Nodup
theorem parGo_iff (nums sizes : List Int) : ∀ (n i : Nat), parGo nums sizes n i = true ↔ ∀ j, i ≤ j → j < i + n → (nums[j]?.getD 0) ∉ nums.take j ∧ 0 ≤ sizes[j]?.getD 0 ∧ sizes[j]?.getD 0 ≤ 4194304
 | 0, i => by simp [parGo]; intro j h1 h2; omega
 | n + 1, i => by
  rw [parGo, Bool.and_eq_true, Bool.and_eq_true, parGo_iff nums sizes n (i + 1), inB_one, Bool.not_eq_true', ← Bool.not_eq_true, List.contains_iff_mem]
  constructor
  ·rintro ⟨h1, h2, h3⟩ j h4 h5
   rcases Nat.lt_or_eq_of_le h4 with h6 | rfl
   ·exact h3 j (by omega) (by omega)
   ·exact ⟨h1, h2⟩
  ·intro h
   have h0 := h i (Nat.le_refl _) (by omega)
   exact ⟨h0.1, h0.2, fun j h1 h2 => h j (by omega) (by omega)⟩
theorem nodup_take {l : List Int} : l.Nodup ↔ ∀ j, j < l.length → (l[j]?.getD 0) ∉ l.take j := by
 unfold List.Nodup
 rw [List.pairwise_iff_getElem]
 constructor
 ·intro h j hj hm
  rw [List.getElem?_eq_getElem hj, Option.getD_some] at hm
  obtain ⟨i, hi, e⟩ := List.mem_take_iff_getElem.1 hm
  exact h i j (by omega) hj (by omega) e
 ·intro h i j hi hj hij e
  apply h j hj
  rw [List.getElem?_eq_getElem hj, Option.getD_some]
  exact List.mem_take_iff_getElem.2 ⟨i, by omega, e⟩
theorem parB_ok {p : ParM} : parB p = true ↔ ParOk p := by
 unfold parB parHead
 simp only [Bool.and_eq_true, inB_mem, decide_eq_true_eq, parGo_iff, Nat.zero_le, forall_const, Nat.zero_add, List.mem_singleton, forall_eq]
 constructor
 ·rintro ⟨⟨⟨⟨⟨⟨a, b⟩, c⟩, d⟩, e⟩, f⟩, g⟩
  refine ⟨a, b, c, d, e, f, fun n hn => ?_, nodup_take.2 fun j hj => (g j hj).1⟩
  obtain ⟨j, hj, rfl⟩ := List.mem_iff_getElem.1 hn
  have := (g j (by omega)).2
  rwa [List.getElem?_eq_getElem hj, Option.getD_some] at this
 ·intro h
  refine ⟨⟨⟨⟨⟨⟨h.len1, h.len3⟩, h.lens⟩, h.nums⟩, h.group⟩, h.size⟩, fun j hj => ⟨nodup_take.1 h.nodup j hj, ?_⟩⟩
  rw [List.getElem?_eq_getElem (by rw [h.lens]; exact hj), Option.getD_some]
  exact h.sizes _ (List.getElem_mem _)
structure EditOk (e : EditM) : Prop where
 next : 0 ≤ e.next ∧ e.next ≤ 1125899906842624
 seq : 0 ≤ e.seq ∧ e.seq ≤ 1125899906842624
 adds : e.adds.length ≤ 60
 dels : e.dels.length ≤ 60
 pars : e.pars.length ≤ 60
 drops : e.drops.length ≤ 60
 dels1 : ∀ n ∈ e.dels, 1 ≤ n ∧ n ≤ 1125899906842624
 drops1 : ∀ n ∈ e.drops, 1 ≤ n ∧ n ≤ 1125899906842624
 adds1 : ∀ s ∈ e.adds, SegOk s
 pars1 : ∀ p ∈ e.pars, ParOk p
theorem editB_ok {e : EditM} : editB e = true ↔ EditOk e := by
 unfold editB
 simp only [Bool.and_eq_true, inB_mem, decide_eq_true_eq, List.all_eq_true, List.mem_cons, List.not_mem_nil, or_false, forall_eq_or_imp, forall_eq]
 constructor
 ·rintro ⟨⟨⟨⟨⟨⟨a, b⟩, ⟨⟨c, d⟩, e1⟩, f⟩, g⟩, h⟩, i⟩, j⟩
  exact ⟨a, b, c, d, e1, f, g, h, fun s hs => segB_ok.1 (i s hs), fun p hp => parB_ok.1 (j p hp)⟩
 ·intro h
  exact ⟨⟨⟨⟨⟨⟨h.next, h.seq⟩, ⟨⟨h.adds, h.dels⟩, h.pars⟩, h.drops⟩, h.dels1⟩, h.drops1⟩, fun s hs => segB_ok.2 (h.adds1 s hs)⟩, fun p hp => parB_ok.2 (h.pars1 p hp)⟩
/-! ### As bytes -/
def numsE (l : List Int) : List UInt8 := l.flatMap fun n => putM n.toNat
def truthI (b : Bool) : Int := if b then 1 else 0
def segE (s : SegM) : List UInt8 := numsE [s.num, truthI s.sealed, s.group, s.member, s.size, s.sum]
def pairE : List Int → List Int → List UInt8
 | n :: ns, z :: zs => numsE [n, z] ++ pairE ns zs
 | _, _ => []
def parE (p : ParM) : List UInt8 := numsE [p.group, p.nums.length] ++ pairE p.nums p.sizes ++ numsE [p.size, p.sum]
def textE (e : EditM) : List UInt8 :=
 numsE [e.next, e.seq, e.adds.length] ++ e.adds.flatMap segE ++ numsE [e.dels.length] ++ numsE e.dels ++ numsE [e.pars.length] ++ e.pars.flatMap parE ++ numsE [e.drops.length] ++ numsE e.drops
def encE (e : EditM) : List UInt8 × Int := if editB e then (sealM (textE e), 0) else ([], 10)
/-! ### Out of bytes -/
abbrev RS := List UInt8 × Bool
def listD : Nat → RS → List Int × RS
 | 0, s => ([], s)
 | n + 1, s => let a := numM s 1125899906842624; let r := listD n a.2; ((a.1 : Int) :: r.1, r.2)
def listE (s : RS) : List Int × RS := listD (numM s 60).1 (numM s 60).2
def segD (s : RS) : SegM × RS :=
 let a := numM s 1125899906842624; let b := numM a.2 1; let c := numM b.2 1125899906842624; let d := numM c.2 3; let e := numM d.2 4194304; let f := numM e.2 4294967295
 (⟨a.1, decide (b.1 = 1), c.1, d.1, e.1, f.1⟩, f.2)
def segsD : Nat → RS → List SegM × RS
 | 0, s => ([], s)
 | n + 1, s => let a := segD s; let r := segsD n a.2; (a.1 :: r.1, r.2)
def pairD : Nat → RS → (List Int × List Int) × RS
 | 0, s => (([], []), s)
 | n + 1, s => let a := numM s 1125899906842624; let b := numM a.2 4194304; let r := pairD n b.2; (((a.1 : Int) :: r.1.1, (b.1 : Int) :: r.1.2), r.2)
def parD (s : RS) : ParM × RS :=
 let a := numM s 1125899906842624; let k := numM a.2 3; let r := pairD k.1 k.2; let d := numM r.2 4194304; let e := numM d.2 4294967295
 (⟨a.1, r.1.1, r.1.2, d.1, e.1⟩, e.2)
def parsD : Nat → RS → List ParM × RS
 | 0, s => ([], s)
 | n + 1, s => let a := parD s; let r := parsD n a.2; (a.1 :: r.1, r.2)
def editD (b : List UInt8) : EditM × RS :=
 let a := numM (b, false) 1125899906842624; let s := numM a.2 1125899906842624; let k := numM s.2 60; let A := segsD k.1 k.2; let D := listE A.2; let j := numM D.2 60; let P := parsD j.1 j.2; let R := listE P.2
 (⟨a.1, s.1, A.1, D.1, P.1, R.1⟩, R.2)
def decE (b : List UInt8) : EditM × Bool := ((editD b).1, decide ((editD b).2.2 = false ∧ (editD b).2.1 = []) && (editB (editD b).1 && decide (textE (editD b).1 = b)))
def edGo : List (List UInt8) → Nat → Bool → List EditM × Nat × Bool
 | [], k, cut => ([], k, cut)
 | b :: l, k, cut => if (decE b).2 then ((decE b).1 :: (edGo l (k + (sealM b).length) cut).1, (edGo l (k + (sealM b).length) cut).2) else ([], k, false)
def scanE (b : List UInt8) : List EditM × Nat × Bool := edGo (scanM b).1 0 (scanM b).2.2
/-! ### There and back -/
theorem numsE_cons (n : Int) (l : List Int) : numsE (n :: l) = putM n.toNat ++ numsE l := rfl
theorem numsE_append (a b : List Int) : numsE (a ++ b) = numsE a ++ numsE b := by unfold numsE; rw [List.flatMap_append]
theorem numM_numsE {n : Int} {most : Nat} (l : List Int) (rest : List UInt8) (h0 : 0 ≤ n) (h : n ≤ most) (hm : most < 18446744073709551616) : numM (numsE (n :: l) ++ rest, false) most = (n.toNat, (numsE l ++ rest, false)) := by
 rw [numsE_cons, List.append_assoc]
 exact numM_putM _ (by omega) hm
theorem listD_numsE : ∀ (l : List Int) (rest : List UInt8), (∀ n ∈ l, 0 ≤ n ∧ n ≤ 1125899906842624) → listD l.length (numsE l ++ rest, false) = (l, (rest, false))
 | [], rest, _ => rfl
 | n :: l, rest, h => by
  have hn := h n (by simp)
  rw [List.length_cons, listD, numM_numsE l rest hn.1 hn.2 (by decide)]
  dsimp only
  rw [listD_numsE l rest (fun m hm => h m (by simp [hm]))]
  simp only [Prod.mk.injEq, List.cons.injEq, and_true]
  omega
theorem listE_numsE (l : List Int) (rest : List UInt8) (hl : l.length ≤ 60) (h : ∀ n ∈ l, 0 ≤ n ∧ n ≤ 1125899906842624) : listE (numsE [(l.length : Int)] ++ (numsE l ++ rest), false) = (l, (rest, false)) := by
 unfold listE
 rw [numM_numsE [] _ (by omega) (by omega) (by decide), show numsE [] = [] from rfl, List.nil_append, Int.toNat_natCast]
 exact listD_numsE l rest h
theorem segD_segE {s : SegM} (h : SegOk s) (hs : s.sum < 4294967296) (rest : List UInt8) : segD (segE s ++ rest, false) = (s, (rest, false)) := by
 obtain ⟨⟨a, a'⟩, ⟨b, b'⟩, ⟨c, c'⟩, ⟨d, d'⟩⟩ := h
 have ht : 0 ≤ truthI s.sealed ∧ truthI s.sealed ≤ 1 := by unfold truthI; split <;> omega
 unfold segD segE
 rw [numM_numsE _ _ (by omega) (by omega) (by decide)]
 dsimp only
 rw [numM_numsE _ _ ht.1 (by omega) (by decide)]
 dsimp only
 rw [numM_numsE _ _ b (by omega) (by decide)]
 dsimp only
 rw [numM_numsE _ _ c (by omega) (by decide)]
 dsimp only
 rw [numM_numsE _ _ d (by omega) (by decide)]
 dsimp only
 rw [numM_numsE _ _ (by omega) (by omega) (by decide)]
 rw [show numsE [] = [] from rfl, List.nil_append]
 refine Prod.ext ?_ rfl
 dsimp only
 have e1 : ((s.num.toNat : Nat) : Int) = s.num := by omega
 have e2 : ((s.group.toNat : Nat) : Int) = s.group := by omega
 have e3 : ((s.member.toNat : Nat) : Int) = s.member := by omega
 have e4 : ((s.size.toNat : Nat) : Int) = s.size := by omega
 rw [e1, e2, e3, e4, Int.toNat_natCast]
 cases s with
 | mk n z g m sz su => cases z <;> simp [truthI]
theorem segsD_segE : ∀ (l : List SegM) (rest : List UInt8), (∀ s ∈ l, SegOk s ∧ s.sum < 4294967296) → segsD l.length (l.flatMap segE ++ rest, false) = (l, (rest, false))
 | [], rest, _ => rfl
 | s :: l, rest, h => by
  have hs := h s (by simp)
  rw [List.length_cons, segsD, List.flatMap_cons, List.append_assoc, segD_segE hs.1 hs.2]
  dsimp only
  rw [segsD_segE l rest (fun x hx => h x (by simp [hx]))]
theorem pairD_pairE : ∀ (ns zs : List Int) (rest : List UInt8), zs.length = ns.length → (∀ n ∈ ns, 0 ≤ n ∧ n ≤ 1125899906842624) → (∀ n ∈ zs, 0 ≤ n ∧ n ≤ 4194304) → pairD ns.length (pairE ns zs ++ rest, false) = ((ns, zs), (rest, false))
 | [], [], rest, _, _, _ => rfl
 | [], z :: zs, rest, h, _, _ => by simp at h
 | n :: ns, [], rest, h, _, _ => by simp at h
 | n :: ns, z :: zs, rest, h, h1, h2 => by
  have a := h1 n (by simp)
  have b := h2 z (by simp)
  rw [List.length_cons, pairD, pairE, List.append_assoc, numM_numsE _ _ a.1 (by omega) (by decide)]
  dsimp only
  rw [numM_numsE _ _ b.1 (by omega) (by decide)]
  dsimp only
  rw [show numsE [] = [] from rfl, List.nil_append, pairD_pairE ns zs rest (by simpa using h) (fun m hm => h1 m (by simp [hm])) (fun m hm => h2 m (by simp [hm]))]
  simp only [Prod.mk.injEq, List.cons.injEq, and_true]
  omega
theorem parD_parE {p : ParM} (h : ParOk p) (hs : p.sum < 4294967296) (rest : List UInt8) : parD (parE p ++ rest, false) = (p, (rest, false)) := by
 have hg := h.group
 have hz := h.size
 have hl := h.len3
 unfold parD parE
 rw [List.append_assoc, List.append_assoc, numM_numsE _ _ (by omega) (by omega) (by decide)]
 dsimp only
 rw [numM_numsE _ _ (by omega) (by omega) (by decide)]
 dsimp only
 rw [show numsE [] = [] from rfl, List.nil_append, Int.toNat_natCast, pairD_pairE _ _ _ h.lens (fun n hn => by have := h.nums n hn; omega) h.sizes]
 dsimp only
 rw [numM_numsE _ _ (by omega) (by omega) (by decide)]
 dsimp only
 rw [numM_numsE _ _ (by omega) (by omega) (by decide)]
 rw [show numsE [] = [] from rfl, List.nil_append]
 refine Prod.ext ?_ rfl
 dsimp only
 have e1 : ((p.group.toNat : Nat) : Int) = p.group := by omega
 have e2 : ((p.size.toNat : Nat) : Int) = p.size := by omega
 rw [e1, e2, Int.toNat_natCast]
theorem parsD_parE : ∀ (l : List ParM) (rest : List UInt8), (∀ s ∈ l, ParOk s ∧ s.sum < 4294967296) → parsD l.length (l.flatMap parE ++ rest, false) = (l, (rest, false))
 | [], rest, _ => rfl
 | s :: l, rest, h => by
  have hs := h s (by simp)
  rw [List.length_cons, parsD, List.flatMap_cons, List.append_assoc, parD_parE hs.1 hs.2]
  dsimp only
  rw [parsD_parE l rest (fun x hx => h x (by simp [hx]))]
def Sums (e : EditM) : Prop := (∀ s ∈ e.adds, s.sum < 4294967296) ∧ ∀ p ∈ e.pars, p.sum < 4294967296
theorem editD_textE {e : EditM} (h : EditOk e) (hs : Sums e) : editD (textE e) = (e, ([], false)) := by
 have h1 := h.next
 have h2 := h.seq
 have h3 := h.adds
 have h4 := h.pars
 unfold editD textE
 simp only [List.append_assoc]
 rw [numM_numsE _ _ h1.1 h1.2 (by decide)]
 dsimp only
 rw [numM_numsE _ _ h2.1 h2.2 (by decide)]
 dsimp only
 rw [numM_numsE _ _ (by omega) (by omega) (by decide)]
 dsimp only
 rw [show numsE [] = [] from rfl, List.nil_append, Int.toNat_natCast, segsD_segE _ _ (fun s hx => ⟨h.adds1 s hx, hs.1 s hx⟩)]
 dsimp only
 rw [listE_numsE _ _ h.dels (fun n hn => by have := h.dels1 n hn; omega)]
 dsimp only
 rw [numM_numsE _ _ (by omega) (by omega) (by decide)]
 dsimp only
 rw [show numsE [] = [] from rfl, List.nil_append, Int.toNat_natCast, parsD_parE _ _ (fun s hx => ⟨h.pars1 s hx, hs.2 s hx⟩)]
 dsimp only
 have hr := listE_numsE e.drops [] h.drops (fun n hn => by have := h.drops1 n hn; omega)
 rw [List.append_nil] at hr
 rw [hr]
 dsimp only
 have e1 : ((e.next.toNat : Nat) : Int) = e.next := by omega
 have e2 : ((e.seq.toNat : Nat) : Int) = e.seq := by omega
 rw [e1, e2]
theorem decE_textE {e : EditM} (h : EditOk e) (hs : Sums e) : decE (textE e) = (e, true) := by
 unfold decE
 rw [editD_textE h hs, editB_ok.2 h]
 simp
end Go.Vc
/-! The place of the first element that is so; below 0: none. -/
namespace Go.Vc
open Go
def idxM {α : Type} (p : α → Bool) : List α → Int
 | [] => -1
 | x :: l => if p x = true then 0 else if idxM p l < 0 then -1 else idxM p l + 1
theorem idxM_lt {α : Type} (p : α → Bool) : ∀ l : List α, -1 ≤ idxM p l ∧ idxM p l < l.length
 | [] => by simp [idxM]
 | x :: l => by
  have := idxM_lt p l
  unfold idxM
  split
  ·simp only [List.length_cons]; omega
  ·split
   ·simp only [List.length_cons]; omega
   ·simp only [List.length_cons]; omega
theorem idxM_stop {α : Type} {p : α → Bool} : ∀ {l : List α} {i : Nat} {x : α}, l[i]? = some x → p x = true → (∀ j y, j < i → l[j]? = some y → p y = false) → idxM p l = i
 | [], i, x, h, _, _ => by simp at h
 | a :: l, 0, x, h, hp, _ => by simp at h; subst h; unfold idxM; rw [if_pos hp]; rfl
 | a :: l, i + 1, x, h, hp, hb => by
  have ih := idxM_stop (l := l) (i := i) (by simpa using h) hp (fun j y hj hy => hb (j + 1) y (by omega) (by simpa using hy))
  have h0 := hb 0 a (by omega) rfl
  unfold idxM
  rw [if_neg (by simp [h0]), if_neg (by omega), ih]; omega
theorem idxM_none {α : Type} {p : α → Bool} : ∀ {l : List α}, (∀ x ∈ l, p x = false) → idxM p l = -1
 | [], _ => rfl
 | a :: l, h => by
  have ih := idxM_none (l := l) (fun x hx => h x (by simp [hx]))
  unfold idxM
  rw [if_neg (by simp [h a (by simp)]), ih]; rfl
theorem idxM_neg {α : Type} {p : α → Bool} : ∀ {l : List α}, idxM p l < 0 → ∀ x ∈ l, p x = false
 | [], _, x, hx => by cases hx
 | a :: l, h, x, hx => by
  unfold idxM at h
  split at h
  ·omega
  rename_i h1
  split at h
  ·rename_i h2
   rcases List.mem_cons.1 hx with rfl | hx
   ·simpa using h1
   ·exact idxM_neg h2 x hx
  ·rename_i h2; omega
theorem idxM_at {α : Type} {p : α → Bool} : ∀ {l : List α}, ¬ idxM p l < 0 → ∃ x, l[(idxM p l).toNat]? = some x ∧ p x = true
 | [], h => by simp [idxM] at h
 | a :: l, h => by
  unfold idxM at h ⊢
  split
  ·rename_i h1; exact ⟨a, rfl, h1⟩
  ·rename_i h1
   rw [if_neg h1] at h
   split
   ·rename_i h2; rw [if_pos h2] at h; omega
   ·rename_i h2
    obtain ⟨x, h3, h4⟩ := idxM_at h2
    refine ⟨x, ?_, h4⟩
    rw [show (idxM p l + 1).toNat = (idxM p l).toNat + 1 from by omega]
    simpa using h3
end Go.Vc
/-! The library's searches at numbers, texts, segments. -/
namespace Go.Vc
open Go
theorem any_idxM {α : Type} (p : α → Bool) : ∀ l : List α, l.any p = decide (0 ≤ idxM p l)
 | [] => rfl
 | a :: l => by
  have ih := any_idxM p l
  have hb := idxM_lt p l
  rw [List.any_cons, ih, idxM]
  cases p a with
  | true => rfl
  | false =>
   rw [Bool.false_or, if_neg (by decide)]
   split
   ·rename_i h
    rw [decide_eq_false (show ¬ 0 ≤ idxM p l by omega)]; rfl
   ·rename_i h
    rw [decide_eq_true (show 0 ≤ idxM p l by omega), decide_eq_true (show 0 ≤ idxM p l + 1 by omega)]
def RstrL (_ : World) (v : Value) (x : List UInt8) : Prop := v = .string (str x)
theorem RstrL.kept : Kept RstrL := fun _ _ _ _ _ h => h
end Go.Vc
namespace Go.Proofs.YtiadjkjlifnopaaGreatDoor.Tryz
open Go Go.Vc
section
variable {w : World}
set_option maxHeartbeats 1000000 in
theorem indexJ_has (A : Option Addr) (n c : Nat) (L : List Int) (fn : Nat) (cv : Array Value) (p : Int → Bool) (hs : SliceOf Ri64 w (.slice A n c) L)
  (hf : ∀ w1 x, Chg [] w w1 → x ∈ L → Has Tryz.prog fn (#[] ++ #[.int .i64 x] ++ cv) w1 (fun v w' => Chg [] w1 w' ∧ v = .bool (p x))) :
  Has Tryz.prog 86 #[.slice A n c, .func (.func fn) #[] cv] w (fun v w' => Chg [] w w' ∧ v = .int .i64 (idxM p L)) := by
 obtain ⟨rfl, hl1, hl2⟩ := hs.len
 unfold maxLen at hl2
 refine enter Tryz.func86 rfl rfl (by decide) rfl (e := [(0, .slice A L.length c), (1, .func (.func fn) #[] cv)]) ⟨rfl, rfl, trivial⟩ ?_
 refine run ?_
 refine go T 14 rfl ?_
 refine W_loop (σ := Nat) (fun i => [(0, .slice A L.length c), (1, .func (.func fn) #[] cv), (6, .slice A L.length c), (7, .int .i64 L.length), (8, .int .i64 i)])
  (fun (i : Nat) w' => i ≤ L.length ∧ (∀ (j : Nat) y, j < i → L[j]? = some y → p y = false) ∧ Chg [] w w') (fun i => L.length - i) 0 ⟨rfl, rfl, rfl, rfl, rfl, trivial⟩ ⟨by omega, fun j y hj => by omega, Chg.refl _ _⟩ ?_
 rintro i w1 ⟨hi, hb, hc⟩
 refine run ?_
 refine go T 2 rfl ?_
 refine ltS rfl rfl rfl rfl (fun hcmp => ?_) (fun hcmp => ?_)
 ·have hlt : i < L.length := by omega
  have hx := List.getElem?_eq_getElem hlt
  have hm : L[i] ∈ L := List.getElem_mem hlt
  obtain ⟨ad, u, rfl, hu, rfl, _⟩ := hs.get hx
  replace hu := hc.cell0 hu
  generalize L[i] = y at *
  refine go T 19 rfl ?_
  refine o1 rfl (op_index_nat T rfl rfl rfl rfl rfl rfl (by omega) ?_)
  refine o1 rfl (op_load T rfl rfl rfl rfl (by assumption) ?_)
  refine o1 rfl ?_
  refine op_callf rfl rfl rfl (hf w1 y hc hm) ?_
  rintro _ w2 ⟨hc2, rfl⟩
  cases hp : p y with
  | true =>
   rw [idxM_stop hx hp hb]
   refine go T 12 rfl ?_
   refine rndR ?_
   refine go T 2 rfl ?_
   exact post1 (.inl rfl) rfl rfl ⟨hc.trans' hc2, rfl⟩
  | false =>
   refine go T 7 rfl ?_
   refine adI rfl rfl rfl rfl (by omega) (by omega) ?_
   refine go T 2 rfl ?_
   refine Round_n (i + 1) ⟨rfl, rfl, rfl, rfl, rfl, trivial⟩ ⟨by omega, fun j z hj hz => ?_, hc.trans' hc2⟩ (by omega)
   by_cases hji : j = i
   ·subst hji; rw [hx] at hz; injection hz with hz; subst hz; exact hp
   ·exact hb j z (by omega) hz
 ·rw [idxM_none (p := p) (l := L) (fun x hx => by
   obtain ⟨j, hj⟩ := List.getElem?_of_mem hx
   have := (List.getElem?_eq_some_iff.1 hj).1
   exact hb j x (by omega) hj)]
  refine go T 6 rfl ?_
  refine rndX ?_
  refine go T 8 rfl ?_
  exact post1 (.inl rfl) rfl rfl ⟨hc, rfl⟩
theorem hasJ_has (A : Option Addr) (n c : Nat) (L : List Int) (fn : Nat) (cv : Array Value) (p : Int → Bool) (hs : SliceOf Ri64 w (.slice A n c) L)
  (hf : ∀ w1 x, Chg [] w w1 → x ∈ L → Has Tryz.prog fn (#[] ++ #[.int .i64 x] ++ cv) w1 (fun v w' => Chg [] w1 w' ∧ v = .bool (p x))) :
  Has Tryz.prog 48 #[.slice A n c, .func (.func fn) #[] cv] w (fun v w' => Chg [] w w' ∧ v = .bool (L.any p)) := by
 refine enter Tryz.func48 rfl rfl (by decide) rfl (e := [(0, .slice A n c), (1, .func (.func fn) #[] cv)]) ⟨rfl, rfl, trivial⟩ ?_
 refine run ?_
 refine go T 9 rfl ?_
 refine o1 rfl ?_
 refine op_call rfl rfl rfl (indexJ_has A n c L fn cv p hs hf) ?_
 rintro _ w1 ⟨hc, rfl⟩
 rw [any_idxM]
 by_cases h : 0 ≤ idxM p L
 ·rw [decide_eq_true h]
  refine geT rfl rfl rfl rfl (by omega) ?_
  refine go T 4 rfl ?_
  exact post1 (.inl rfl) rfl rfl ⟨hc, rfl⟩
 ·rw [decide_eq_false h]
  refine geF rfl rfl rfl rfl (by omega) ?_
  refine go T 4 rfl ?_
  exact post1 (.inl rfl) rfl rfl ⟨hc, rfl⟩
set_option maxHeartbeats 1000000 in
theorem indexSeg_has (A : Option Addr) (n c : Nat) (L : List SegM) (fn : Nat) (cv : Array Value) (p : SegM → Bool) (hs : SliceK 6 (RdL segL) w (.slice A n c) L)
  (hf : ∀ w1 x, Chg [] w w1 → x ∈ L → Has Tryz.prog fn (#[] ++ #[.agg (segL x).toArray] ++ cv) w1 (fun v w' => Chg [] w1 w' ∧ v = .bool (p x))) :
  Has Tryz.prog 126 #[.slice A n c, .func (.func fn) #[] cv] w (fun v w' => Chg [] w w' ∧ v = .int .i64 (idxM p L)) := by
 obtain ⟨rfl, hl1, hl2⟩ := hs.len
 unfold maxLen at hl2
 refine enter Tryz.func126 rfl rfl (by decide) rfl (e := [(0, .slice A L.length c), (1, .func (.func fn) #[] cv)]) ⟨rfl, rfl, trivial⟩ ?_
 refine run ?_
 refine go T 14 rfl ?_
 refine W_loop (σ := Nat) (fun i => [(0, .slice A L.length c), (1, .func (.func fn) #[] cv), (6, .slice A L.length c), (7, .int .i64 L.length), (8, .int .i64 i)])
  (fun (i : Nat) w' => i ≤ L.length ∧ (∀ (j : Nat) y, j < i → L[j]? = some y → p y = false) ∧ Chg [] w w') (fun i => L.length - i) 0 ⟨rfl, rfl, rfl, rfl, rfl, trivial⟩ ⟨by omega, fun j y hj => by omega, Chg.refl _ _⟩ ?_
 rintro i w1 ⟨hi, hb, hc⟩
 refine run ?_
 refine go T 2 rfl ?_
 refine ltS rfl rfl rfl rfl (fun hcmp => ?_) (fun hcmp => ?_)
 ·have hlt : i < L.length := by omega
  have hx := List.getElem?_eq_getElem hlt
  have hm : L[i] ∈ L := List.getElem_mem hlt
  obtain ⟨ad, rfl, he⟩ := (hs.keepR hc).at hx
  generalize L[i] = y at *
  refine go T 19 rfl ?_
  refine o1 rfl (op_indexK T rfl rfl rfl rfl rfl (by omega) ?_)
  refine o1 rfl (op_loadE T he rfl rfl rfl rfl rfl ?_)
  refine o1 rfl ?_
  refine op_callf rfl rfl rfl (hf w1 y hc hm) ?_
  rintro _ w2 ⟨hc2, rfl⟩
  cases hp : p y with
  | true =>
   rw [idxM_stop hx hp hb]
   refine go T 12 rfl ?_
   refine rndR ?_
   refine go T 2 rfl ?_
   exact post1 (.inl rfl) rfl rfl ⟨hc.trans' hc2, rfl⟩
  | false =>
   refine go T 7 rfl ?_
   refine adI rfl rfl rfl rfl (by omega) (by omega) ?_
   refine go T 2 rfl ?_
   refine Round_n (i + 1) ⟨rfl, rfl, rfl, rfl, rfl, trivial⟩ ⟨by omega, fun j z hj hz => ?_, hc.trans' hc2⟩ (by omega)
   by_cases hji : j = i
   ·subst hji; rw [hx] at hz; injection hz with hz; subst hz; exact hp
   ·exact hb j z (by omega) hz
 ·rw [idxM_none (p := p) (l := L) (fun x hx => by
   obtain ⟨j, hj⟩ := List.getElem?_of_mem hx
   have := (List.getElem?_eq_some_iff.1 hj).1
   exact hb j x (by omega) hj)]
  refine go T 6 rfl ?_
  refine rndX ?_
  refine go T 8 rfl ?_
  exact post1 (.inl rfl) rfl rfl ⟨hc, rfl⟩
theorem hasSeg_has (A : Option Addr) (n c : Nat) (L : List SegM) (fn : Nat) (cv : Array Value) (p : SegM → Bool) (hs : SliceK 6 (RdL segL) w (.slice A n c) L)
  (hf : ∀ w1 x, Chg [] w w1 → x ∈ L → Has Tryz.prog fn (#[] ++ #[.agg (segL x).toArray] ++ cv) w1 (fun v w' => Chg [] w1 w' ∧ v = .bool (p x))) :
  Has Tryz.prog 133 #[.slice A n c, .func (.func fn) #[] cv] w (fun v w' => Chg [] w w' ∧ v = .bool (L.any p)) := by
 refine enter Tryz.func133 rfl rfl (by decide) rfl (e := [(0, .slice A n c), (1, .func (.func fn) #[] cv)]) ⟨rfl, rfl, trivial⟩ ?_
 refine run ?_
 refine go T 9 rfl ?_
 refine o1 rfl ?_
 refine op_call rfl rfl rfl (indexSeg_has A n c L fn cv p hs hf) ?_
 rintro _ w1 ⟨hc, rfl⟩
 rw [any_idxM]
 by_cases h : 0 ≤ idxM p L
 ·rw [decide_eq_true h]
  refine geT rfl rfl rfl rfl (by omega) ?_
  refine go T 4 rfl ?_
  exact post1 (.inl rfl) rfl rfl ⟨hc, rfl⟩
 ·rw [decide_eq_false h]
  refine geF rfl rfl rfl rfl (by omega) ?_
  refine go T 4 rfl ?_
  exact post1 (.inl rfl) rfl rfl ⟨hc, rfl⟩
set_option maxHeartbeats 1000000 in
theorem indexPar_has (A : Option Addr) (n c : Nat) (L : List ParV) (fn : Nat) (cv : Array Value) (p : ParV → Bool) (hs : SliceK 5 (RdL parL) w (.slice A n c) L)
  (hf : ∀ w1 x, Chg [] w w1 → x ∈ L → Has Tryz.prog fn (#[] ++ #[.agg (parL x).toArray] ++ cv) w1 (fun v w' => Chg [] w1 w' ∧ v = .bool (p x))) :
  Has Tryz.prog 146 #[.slice A n c, .func (.func fn) #[] cv] w (fun v w' => Chg [] w w' ∧ v = .int .i64 (idxM p L)) := by
 obtain ⟨rfl, hl1, hl2⟩ := hs.len
 unfold maxLen at hl2
 refine enter Tryz.func146 rfl rfl (by decide) rfl (e := [(0, .slice A L.length c), (1, .func (.func fn) #[] cv)]) ⟨rfl, rfl, trivial⟩ ?_
 refine run ?_
 refine go T 14 rfl ?_
 refine W_loop (σ := Nat) (fun i => [(0, .slice A L.length c), (1, .func (.func fn) #[] cv), (6, .slice A L.length c), (7, .int .i64 L.length), (8, .int .i64 i)])
  (fun (i : Nat) w' => i ≤ L.length ∧ (∀ (j : Nat) y, j < i → L[j]? = some y → p y = false) ∧ Chg [] w w') (fun i => L.length - i) 0 ⟨rfl, rfl, rfl, rfl, rfl, trivial⟩ ⟨by omega, fun j y hj => by omega, Chg.refl _ _⟩ ?_
 rintro i w1 ⟨hi, hb, hc⟩
 refine run ?_
 refine go T 2 rfl ?_
 refine ltS rfl rfl rfl rfl (fun hcmp => ?_) (fun hcmp => ?_)
 ·have hlt : i < L.length := by omega
  have hx := List.getElem?_eq_getElem hlt
  have hm : L[i] ∈ L := List.getElem_mem hlt
  obtain ⟨ad, rfl, he⟩ := (hs.keepR hc).at hx
  generalize L[i] = y at *
  refine go T 19 rfl ?_
  refine o1 rfl (op_indexK T rfl rfl rfl rfl rfl (by omega) ?_)
  refine o1 rfl (op_loadE T he rfl rfl rfl rfl rfl ?_)
  refine o1 rfl ?_
  refine op_callf rfl rfl rfl (hf w1 y hc hm) ?_
  rintro _ w2 ⟨hc2, rfl⟩
  cases hp : p y with
  | true =>
   rw [idxM_stop hx hp hb]
   refine go T 12 rfl ?_
   refine rndR ?_
   refine go T 2 rfl ?_
   exact post1 (.inl rfl) rfl rfl ⟨hc.trans' hc2, rfl⟩
  | false =>
   refine go T 7 rfl ?_
   refine adI rfl rfl rfl rfl (by omega) (by omega) ?_
   refine go T 2 rfl ?_
   refine Round_n (i + 1) ⟨rfl, rfl, rfl, rfl, rfl, trivial⟩ ⟨by omega, fun j z hj hz => ?_, hc.trans' hc2⟩ (by omega)
   by_cases hji : j = i
   ·subst hji; rw [hx] at hz; injection hz with hz; subst hz; exact hp
   ·exact hb j z (by omega) hz
 ·rw [idxM_none (p := p) (l := L) (fun x hx => by
   obtain ⟨j, hj⟩ := List.getElem?_of_mem hx
   have := (List.getElem?_eq_some_iff.1 hj).1
   exact hb j x (by omega) hj)]
  refine go T 6 rfl ?_
  refine rndX ?_
  refine go T 8 rfl ?_
  exact post1 (.inl rfl) rfl rfl ⟨hc, rfl⟩
theorem hasPar_has (A : Option Addr) (n c : Nat) (L : List ParV) (fn : Nat) (cv : Array Value) (p : ParV → Bool) (hs : SliceK 5 (RdL parL) w (.slice A n c) L)
  (hf : ∀ w1 x, Chg [] w w1 → x ∈ L → Has Tryz.prog fn (#[] ++ #[.agg (parL x).toArray] ++ cv) w1 (fun v w' => Chg [] w1 w' ∧ v = .bool (p x))) :
  Has Tryz.prog 136 #[.slice A n c, .func (.func fn) #[] cv] w (fun v w' => Chg [] w w' ∧ v = .bool (L.any p)) := by
 refine enter Tryz.func136 rfl rfl (by decide) rfl (e := [(0, .slice A n c), (1, .func (.func fn) #[] cv)]) ⟨rfl, rfl, trivial⟩ ?_
 refine run ?_
 refine go T 9 rfl ?_
 refine o1 rfl ?_
 refine op_call rfl rfl rfl (indexPar_has A n c L fn cv p hs hf) ?_
 rintro _ w1 ⟨hc, rfl⟩
 rw [any_idxM]
 by_cases h : 0 ≤ idxM p L
 ·rw [decide_eq_true h]
  refine geT rfl rfl rfl rfl (by omega) ?_
  refine go T 4 rfl ?_
  exact post1 (.inl rfl) rfl rfl ⟨hc, rfl⟩
 ·rw [decide_eq_false h]
  refine geF rfl rfl rfl rfl (by omega) ?_
  refine go T 4 rfl ?_
  exact post1 (.inl rfl) rfl rfl ⟨hc, rfl⟩
end
end Go.Proofs.YtiadjkjlifnopaaGreatDoor.Tryz
/-! Edits: what may be. -/
namespace Go.Vc
open Go
theorem inB_any (lo hi : Int) (l : List Int) : inB lo hi l = !(l.any fun n => decide (n < lo) || decide (hi < n)) := by
 unfold inB
 induction l with
 | nil => rfl
 | cons a l ih =>
  rw [List.all_cons, List.any_cons, ih, Bool.not_or]
  congr 1
  by_cases h1 : a < lo
  ·simp [h1] <;> omega
  ·by_cases h2 : hi < a
   ·simp [h1, h2] <;> omega
   ·simp [h1, h2] <;> omega
theorem one_i64 {w : World} {g : Nat} {t : TypeId} {n : Int} {rest : List Value} (hg : Blk w g t [.int .i64 n]) (h : -9223372036854775808 ≤ n ∧ n ≤ 9223372036854775807) : SliceOf Ri64 w (.slice (some ⟨g, 0, none⟩) 1 1) [n] :=
 SliceOf.of_blk hg rfl (Nat.le_refl _) (by decide) (fun i y hy => by
  match i, hy with
  | 0, hy => cases hy; exact ⟨_, rfl, rfl, h.1, h.2⟩)
end Go.Vc
namespace Go.Proofs.YtiadjkjlifnopaaGreatDoor.Tryz
open Go Go.Vc
section
variable {w : World}
theorem in1_has {g1 g2 : Nat} {lo hi n : Int} (h1 : Blk w g1 2 [.int .i64 lo]) (h2 : Blk w g2 2 [.int .i64 hi]) :
  Has Tryz.prog 175 (#[] ++ #[.int .i64 n] ++ #[.pointer (some ⟨g1, 0, none⟩), .pointer (some ⟨g2, 0, none⟩)]) w (fun v w' => Chg [] w w' ∧ v = .bool (decide (n < lo) || decide (hi < n))) := by
 refine enter Tryz.func175 rfl rfl (by decide) rfl (e := [(0, .int .i64 n), (1, .pointer (some ⟨g1, 0, none⟩)), (2, .pointer (some ⟨g2, 0, none⟩))]) ⟨rfl, rfl, rfl, trivial⟩ ?_
 by_cases a : n < lo
 ·rw [decide_eq_true a]
  refine run ?_
  refine go T 8 rfl ?_
  refine ldB T h1 rfl rfl rfl rfl rfl rfl ?_
  refine ltT rfl rfl rfl rfl (by omega) ?_
  refine go T 9 rfl ?_
  exact post1 (.inl rfl) rfl rfl ⟨Chg.refl _ _, rfl⟩
 rw [decide_eq_false a]
 by_cases b : hi < n
 ·rw [decide_eq_true b]
  refine run ?_
  refine go T 8 rfl ?_
  refine ldB T h1 rfl rfl rfl rfl rfl rfl ?_
  refine ltF rfl rfl rfl rfl (by omega) ?_
  refine go T 2 rfl ?_
  refine ldB T h2 rfl rfl rfl rfl rfl rfl ?_
  refine gtT rfl rfl rfl rfl (by omega) ?_
  refine go T 5 rfl ?_
  exact post1 (.inl rfl) rfl rfl ⟨Chg.refl _ _, rfl⟩
 rw [decide_eq_false b]
 refine run ?_
 refine go T 8 rfl ?_
 refine ldB T h1 rfl rfl rfl rfl rfl rfl ?_
 refine ltF rfl rfl rfl rfl (by omega) ?_
 refine go T 2 rfl ?_
 refine ldB T h2 rfl rfl rfl rfl rfl rfl ?_
 refine gtF rfl rfl rfl rfl (by omega) ?_
 refine go T 5 rfl ?_
 exact post1 (.inl rfl) rfl rfl ⟨Chg.refl _ _, rfl⟩
theorem in_has (lo hi : Int) (A : Option Addr) (n c : Nat) (l : List Int) (hs : SliceOf Ri64 w (.slice A n c) l) :
  Has Tryz.prog 132 #[.int .i64 lo, .int .i64 hi, .slice A n c] w (fun v w' => Chg [] w w' ∧ v = .bool (inB lo hi l)) := by
 refine enter Tryz.func132 rfl rfl (by decide) rfl (e := [(0, .int .i64 lo), (1, .int .i64 hi), (2, .slice A n c)]) ⟨rfl, rfl, rfl, trivial⟩ ?_
 refine run ?_
 refine go T 2 rfl ?_
 refine o1 rfl ?_
 refine op_box rfl rfl (fun g1 w1 hs1 hc1 h1 => ?_)
 have h1 : Blk w1 g1 2 [.int .i64 lo] := h1
 refine o1 rfl ?_
 refine op_box rfl rfl (fun g2 w2 hs2 hc2 h2 => ?_)
 have h2 : Blk w2 g2 2 [.int .i64 hi] := h2
 replace h1 := h1.keep0 hc2
 have hc := hc1.trans' hc2
 refine go T 6 rfl ?_
 refine o1 rfl ?_
 refine op_makeFunc (fv := #[]) (cv := #[.pointer (some ⟨g1, 0, none⟩), .pointer (some ⟨g2, 0, none⟩)]) rfl rfl rfl ?_
 refine o1 rfl ?_
 refine op_call rfl rfl rfl (hasJ_has A n c l _ _ (fun n => decide (n < lo) || decide (hi < n)) (SliceOf.kept Ri64.kept _ _ _ _ hc hs) (fun w3 x hc3 _ => in1_has (h1.keep0 hc3) (h2.keep0 hc3))) ?_
 rintro _ w3 ⟨hc3, rfl⟩
 rw [inB_any]
 generalize (l.any fun n => decide (n < lo) || decide (hi < n)) = b
 cases b <;>
 ·refine go T 5 rfl ?_
  exact post1 (.inl rfl) rfl rfl ⟨hc.trans' hc3, rfl⟩
theorem in_one {g : Nat} {lo hi n : Int} (hg : Blk w g 2 [.int .i64 n]) (h : -9223372036854775808 ≤ n ∧ n ≤ 9223372036854775807) :
  Has Tryz.prog 132 #[.int .i64 lo, .int .i64 hi, .slice (some ⟨g, 0, none⟩) 1 1] w (fun v w' => Chg [] w w' ∧ v = .bool (inB lo hi [n])) := in_has lo hi _ 1 1 [n] (one_i64 (rest := []) hg h)
def I64 (n : Int) : Prop := -9223372036854775808 ≤ n ∧ n ≤ 9223372036854775807
structure SegI (s : SegM) : Prop where
 num : I64 s.num
 group : I64 s.group
 member : I64 s.member
 size : I64 s.size
 sum : s.sum < 4294967296
structure ParI (p : ParM) : Prop where
 group : I64 p.group
 size : I64 p.size
 sum : p.sum < 4294967296
set_option maxHeartbeats 1000000 in
theorem seg_has (s : SegM) (hI : SegI s) :
  Has Tryz.prog 135 #[.agg (segL s).toArray] w (fun v w' => Chg [] w w' ∧ v = .bool (segB s)) := by
 refine enter Tryz.func135 rfl rfl (by decide) rfl (e := [(0, .agg (segL s).toArray)]) ⟨rfl, trivial⟩ ?_
 refine run ?_
 refine go T 2 rfl ?_
 refine o1 rfl ?_
 refine op_box rfl rfl (fun g1 w1 hs1 hc1 h1 => ?_)
 have h1 : Blk w1 g1 26 (segL s) := h1
 unfold segL at h1
 refine go T 6 rfl ?_
 refine ldB T h1 rfl rfl rfl rfl rfl rfl ?_
 refine o1 rfl ?_
 refine op_buildSlice T rfl rfl rfl rfl rfl rfl rfl (fun g2 w2 hs2 hc2 h2 => ?_)
 have h2 : Blk w2 g2 2 [.int .i64 s.num] := h2
 replace h1 := h1.keep0 hc2
 refine o1 rfl ?_
 refine op_call rfl rfl rfl (in_one h2 hI.num) ?_
 rintro _ w3 ⟨hc3, rfl⟩
 replace h1 := h1.keep0 hc3
 replace hc1 := (hc1.trans' hc2).trans' hc3
 clear h2 hc2 hc3
 unfold segB
 cases inB 1 1125899906842624 [s.num] with
 | false =>
  refine go T 22 rfl ?_
  exact post1 (.inl rfl) rfl rfl ⟨hc1, rfl⟩
 | true =>
 refine go T 2 rfl ?_
 refine ldB T h1 rfl rfl rfl rfl rfl rfl ?_
 refine o1 rfl ?_
 refine op_buildSlice T rfl rfl rfl rfl rfl rfl rfl (fun g2 w2 hs2 hc2 h2 => ?_)
 have h2 : Blk w2 g2 2 [.int .i64 s.group] := h2
 replace h1 := h1.keep0 hc2
 refine o1 rfl ?_
 refine op_call rfl rfl rfl (in_one h2 hI.group) ?_
 rintro _ w4 ⟨hc3, rfl⟩
 replace h1 := h1.keep0 hc3
 replace hc1 := (hc1.trans' hc2).trans' hc3
 clear h2 hc2 hc3
 cases inB 0 1125899906842624 [s.group] with
 | false =>
  refine go T 17 rfl ?_
  exact post1 (.inl rfl) rfl rfl ⟨hc1, rfl⟩
 | true =>
 refine go T 3 rfl ?_
 refine ldB T h1 rfl rfl rfl rfl rfl rfl ?_
 refine o1 rfl ?_
 refine op_buildSlice T rfl rfl rfl rfl rfl rfl rfl (fun g2 w2 hs2 hc2 h2 => ?_)
 have h2 : Blk w2 g2 2 [.int .i64 s.member] := h2
 replace h1 := h1.keep0 hc2
 refine o1 rfl ?_
 refine op_call rfl rfl rfl (in_one h2 hI.member) ?_
 rintro _ w5 ⟨hc3, rfl⟩
 replace h1 := h1.keep0 hc3
 replace hc1 := (hc1.trans' hc2).trans' hc3
 clear h2 hc2 hc3
 cases inB 0 3 [s.member] with
 | false =>
  refine go T 11 rfl ?_
  exact post1 (.inl rfl) rfl rfl ⟨hc1, rfl⟩
 | true =>
 refine go T 3 rfl ?_
 refine ldB T h1 rfl rfl rfl rfl rfl rfl ?_
 refine o1 rfl ?_
 refine op_buildSlice T rfl rfl rfl rfl rfl rfl rfl (fun g2 w2 hs2 hc2 h2 => ?_)
 have h2 : Blk w2 g2 2 [.int .i64 s.size] := h2
 refine o1 rfl ?_
 refine op_call rfl rfl rfl (in_one h2 hI.size) ?_
 rintro _ w6 ⟨hc3, rfl⟩
 replace hc1 := (hc1.trans' hc2).trans' hc3
 refine go T 5 rfl ?_
 exact post1 (.inl rfl) rfl rfl ⟨hc1, rfl⟩
theorem check1_has (s : SegM) (hI : SegI s) :
  Has Tryz.prog 134 (#[] ++ #[.agg (segL s).toArray] ++ #[]) w (fun v w' => Chg [] w w' ∧ v = .bool (!segB s)) := by
 refine enter Tryz.func134 rfl rfl (by decide) rfl (e := [(0, .agg (segL s).toArray)]) ⟨rfl, trivial⟩ ?_
 refine run ?_
 refine go T 2 rfl ?_
 refine o1 rfl ?_
 refine op_box rfl rfl (fun g1 w1 hs1 hc1 h1 => ?_)
 have h1 : Blk w1 g1 26 (segL s) := h1
 refine go T 5 rfl ?_
 refine o1 rfl (op_load_agg T rfl rfl rfl rfl h1 (by exact Nat.le_of_ble_eq_true rfl) (by exact rfl) ?_)
 refine o1 rfl ?_
 refine op_call rfl rfl rfl (seg_has s hI) ?_
 rintro _ w2 ⟨hc2, rfl⟩
 generalize segB s = b
 cases b <;>
 ·refine go T 5 rfl ?_
  exact post1 (.inl rfl) rfl rfl ⟨hc1.trans' hc2, rfl⟩
end
end Go.Proofs.YtiadjkjlifnopaaGreatDoor.Tryz
/-! Edits: what parity, and what edits, may be. -/
namespace Go.Vc
open Go
def PRd (w : World) (q : ParV) : Prop := SliceOf Ri64 w q.vn q.p.nums ∧ SliceOf Ri64 w q.vs q.p.sizes
theorem PRd.keep0 {w w' : World} {q : ParV} (h : PRd w q) (hc : Chg [] w w') : PRd w' q := ⟨SliceOf.kept Ri64.kept _ _ _ _ hc h.1, SliceOf.kept Ri64.kept _ _ _ _ hc h.2⟩
theorem i64_of {w : World} {v : Value} {l : List Int} (h : SliceOf Ri64 w v l) {i : Nat} {x : Int} (hx : l[i]? = some x) : -9223372036854775808 ≤ x ∧ x ≤ 9223372036854775807 := by
 obtain ⟨A, c, rfl, _, _⟩ := h.form
 obtain ⟨_, _, _, _, hr⟩ := h.get hx
 exact hr.2
end Go.Vc
namespace Go.Proofs.YtiadjkjlifnopaaGreatDoor.Tryz
open Go Go.Vc
section
variable {w : World}
theorem indexI_has (A : Option Addr) (n c : Nat) (L : List Int) (s : Int) (hs : SliceOf Ri64 w (.slice A n c) L) :
  Has Tryz.prog 85 #[.slice A n c, .int .i64 s] w (fun v w' => w' = w ∧ v = .int .i64 (idxM (fun x => decide (x = s)) L)) := by
 obtain ⟨rfl, hl1, hl2⟩ := hs.len
 unfold maxLen at hl2
 refine enter Tryz.func85 rfl rfl (by decide) rfl (e := [(0, .slice A L.length c), (1, .int .i64 s)]) ⟨rfl, rfl, trivial⟩ ?_
 refine run ?_
 refine go T 14 rfl ?_
 refine W_loop (σ := Nat) (fun i => [(0, .slice A L.length c), (1, .int .i64 s), (7, .int .i64 L.length), (8, .int .i64 i)])
  (fun (i : Nat) w' => i ≤ L.length ∧ (∀ (j : Nat) y, j < i → L[j]? = some y → y ≠ s) ∧ w' = w) (fun i => L.length - i) 0 ⟨rfl, rfl, rfl, rfl, trivial⟩ ⟨by omega, fun j y hj => by omega, rfl⟩ ?_
 rintro i w1 ⟨hi, hb, rfl⟩
 refine run ?_
 refine go T 2 rfl ?_
 refine ltS rfl rfl rfl rfl (fun hcmp => ?_) (fun hcmp => ?_)
 ·have hlt : i < L.length := by omega
  have hx := List.getElem?_eq_getElem hlt
  obtain ⟨ad, u, rfl, hu, rfl, _⟩ := hs.get hx
  generalize L[i] = y at *
  by_cases h : s = y
  ·have := idxM_stop (p := fun x => decide (x = s)) hx (by simp [h]) (fun j z hj hz => by simpa using hb j z hj hz)
   rw [this]
   refine go T 19 rfl ?_
   refine o1 rfl (op_index_nat T rfl rfl rfl rfl rfl rfl (by omega) ?_)
   refine o1 rfl (op_load T rfl rfl rfl rfl (by assumption) ?_)
   refine eqT rfl rfl rfl rfl (by omega) ?_
   refine go T 12 rfl ?_
   refine rndR ?_
   refine go T 2 rfl ?_
   exact post1 (.inl rfl) rfl rfl ⟨rfl, rfl⟩
  ·refine go T 19 rfl ?_
   refine o1 rfl (op_index_nat T rfl rfl rfl rfl rfl rfl (by omega) ?_)
   refine o1 rfl (op_load T rfl rfl rfl rfl (by assumption) ?_)
   refine eqF rfl rfl rfl rfl (by omega) ?_
   refine go T 7 rfl ?_
   refine adI rfl rfl rfl rfl (by omega) (by omega) ?_
   refine go T 2 rfl ?_
   refine Round_n (i + 1) ⟨rfl, rfl, rfl, rfl, trivial⟩ ⟨by omega, fun j z hj hz => ?_, rfl⟩ (by omega)
   by_cases hji : j = i
   ·subst hji; rw [hx] at hz; injection hz with hz; subst hz; exact fun e => h e.symm
   ·exact hb j z (by omega) hz
 ·have := idxM_none (p := fun x => decide (x = s)) (l := L) (fun x hx => by
   obtain ⟨j, hj⟩ := List.getElem?_of_mem hx
   have := (List.getElem?_eq_some_iff.1 hj).1
   simpa using hb j x (by omega) hj)
  rw [this]
  refine go T 6 rfl ?_
  refine rndX ?_
  refine go T 8 rfl ?_
  exact post1 (.inl rfl) rfl rfl ⟨rfl, rfl⟩
theorem containsI_has (A : Option Addr) (n c : Nat) (L : List Int) (s : Int) (hs : SliceOf Ri64 w (.slice A n c) L) :
  Has Tryz.prog 47 #[.slice A n c, .int .i64 s] w (fun v w' => w' = w ∧ v = .bool (L.contains s)) := by
 refine enter Tryz.func47 rfl rfl (by decide) rfl (e := [(0, .slice A n c), (1, .int .i64 s)]) ⟨rfl, rfl, trivial⟩ ?_
 refine run ?_
 refine go T 9 rfl ?_
 refine o1 rfl ?_
 refine op_call rfl rfl rfl (indexI_has A n c L s hs) ?_
 rintro _ _ ⟨rfl, rfl⟩
 have e : L.contains s = decide (0 ≤ idxM (fun x => decide (x = s)) L) := by
  rw [← any_idxM, List.contains_eq_any_beq]
  congr 1
  funext x
  by_cases h : x = s
  ·simp [h]
  ·have h' : ¬ s = x := fun e => h e.symm
   simp [h, h']
 rw [e]
 by_cases h : 0 ≤ idxM (fun x => decide (x = s)) L
 ·rw [decide_eq_true h]
  refine geT rfl rfl rfl rfl (by omega) ?_
  refine go T 4 rfl ?_
  exact post1 (.inl rfl) rfl rfl ⟨rfl, rfl⟩
 ·rw [decide_eq_false h]
  refine geF rfl rfl rfl rfl (by omega) ?_
  refine go T 4 rfl ?_
  exact post1 (.inl rfl) rfl rfl ⟨rfl, rfl⟩
set_option maxHeartbeats 2000000 in
theorem par_has (q : ParV) (hI : ParI q.p) (hr : PRd w q) :
  Has Tryz.prog 138 #[.agg (parL q).toArray] w (fun v w' => Chg [] w w' ∧ v = .bool (parB q.p)) := by
 refine enter Tryz.func138 rfl rfl (by decide) rfl (e := [(0, .agg (parL q).toArray)]) ⟨rfl, trivial⟩ ?_
 obtain ⟨p, vn, vs⟩ := q
 obtain ⟨hn, hz⟩ := hr
 dsimp only at hn hz hI ⊢
 obtain ⟨An, cn, rfl, hn1, hn2⟩ := hn.form
 obtain ⟨Az, cz, rfl, hz1, hz2⟩ := hz.form
 unfold maxLen at hn2 hz2
 refine run ?_
 refine go T 2 rfl ?_
 refine o1 rfl ?_
 refine op_box rfl rfl (fun g1 w1 hs1 hc1 h1 => ?_)
 have h1 : Blk w1 g1 70 [.int .i64 p.group, .slice An p.nums.length cn, .slice Az p.sizes.length cz, .int .i64 p.size, .int .u32 (p.sum : Int)] := h1
 replace hn := SliceOf.kept Ri64.kept _ _ _ _ hc1 hn
 replace hz := SliceOf.kept Ri64.kept _ _ _ _ hc1 hz
 unfold parB parHead
 by_cases a : 1 ≤ p.nums.length
 rotate_left
 ·rw [decide_eq_false a]
  refine go T 7 rfl ?_
  refine ldB T h1 rfl rfl rfl rfl rfl rfl ?_
  refine go T 1 rfl ?_
  refine ltT rfl rfl rfl rfl (by omega) ?_
  refine go T 45 rfl ?_
  exact post1 (.inl rfl) rfl rfl ⟨hc1, rfl⟩
 by_cases b : p.nums.length ≤ 3
 rotate_left
 ·rw [decide_eq_false b, Bool.and_false]
  refine go T 7 rfl ?_
  refine ldB T h1 rfl rfl rfl rfl rfl rfl ?_
  refine go T 1 rfl ?_
  refine ltF rfl rfl rfl rfl (by omega) ?_
  refine go T 2 rfl ?_
  refine ldB T h1 rfl rfl rfl rfl rfl rfl ?_
  refine go T 1 rfl ?_
  refine gtT rfl rfl rfl rfl (by omega) ?_
  refine go T 40 rfl ?_
  exact post1 (.inl rfl) rfl rfl ⟨hc1, rfl⟩
 by_cases c : p.sizes.length = p.nums.length
 rotate_left
 ·rw [decide_eq_false c, Bool.and_false]
  refine go T 7 rfl ?_
  refine ldB T h1 rfl rfl rfl rfl rfl rfl ?_
  refine go T 1 rfl ?_
  refine ltF rfl rfl rfl rfl (by omega) ?_
  refine go T 2 rfl ?_
  refine ldB T h1 rfl rfl rfl rfl rfl rfl ?_
  refine go T 1 rfl ?_
  refine gtF rfl rfl rfl rfl (by omega) ?_
  refine go T 3 rfl ?_
  refine ldB T h1 rfl rfl rfl rfl rfl rfl ?_
  refine go T 2 rfl ?_
  refine ldB T h1 rfl rfl rfl rfl rfl rfl ?_
  refine go T 1 rfl ?_
  refine neT rfl rfl rfl rfl (by omega) ?_
  refine go T 31 rfl ?_
  exact post1 (.inl rfl) rfl rfl ⟨hc1, rfl⟩
 rw [decide_eq_true a, decide_eq_true b, decide_eq_true c, Bool.true_and, Bool.true_and]
 refine go T 7 rfl ?_
 refine ldB T h1 rfl rfl rfl rfl rfl rfl ?_
 refine go T 1 rfl ?_
 refine ltF rfl rfl rfl rfl (by omega) ?_
 refine go T 2 rfl ?_
 refine ldB T h1 rfl rfl rfl rfl rfl rfl ?_
 refine go T 1 rfl ?_
 refine gtF rfl rfl rfl rfl (by omega) ?_
 refine go T 3 rfl ?_
 refine ldB T h1 rfl rfl rfl rfl rfl rfl ?_
 refine go T 2 rfl ?_
 refine ldB T h1 rfl rfl rfl rfl rfl rfl ?_
 refine go T 1 rfl ?_
 refine neF rfl rfl rfl rfl (by omega) ?_
 refine go T 3 rfl ?_
 refine ldB T h1 rfl rfl rfl rfl rfl rfl ?_
 refine o1 rfl ?_
 refine op_call rfl rfl rfl (in_has 1 1125899906842624 An _ cn p.nums hn) ?_
 rintro _ w2 ⟨hc2, rfl⟩
 replace hc1 := hc1.trans' hc2
 replace hn := SliceOf.kept Ri64.kept _ _ _ _ hc2 hn
 replace hz := SliceOf.kept Ri64.kept _ _ _ _ hc2 hz
 replace h1 := h1.keep0 hc2
 cases inB 1 1125899906842624 p.nums with
 | false =>
  refine go T 26 rfl ?_
  exact post1 (.inl rfl) rfl rfl ⟨hc1, rfl⟩
 | true =>
 refine go T 4 rfl ?_
 refine ldB T h1 rfl rfl rfl rfl rfl rfl ?_
 refine o1 rfl ?_
 refine op_buildSlice T rfl rfl rfl rfl rfl rfl rfl (fun g2 w3 hs3 hc3 h2 => ?_)
 have h2 : Blk w3 g2 2 [.int .i64 p.group] := h2
 replace h1 := h1.keep0 hc3
 refine o1 rfl ?_
 refine op_call rfl rfl rfl (in_one h2 hI.group) ?_
 rintro _ w4 ⟨hc4, rfl⟩
 replace h1 := h1.keep0 hc4
 have hc := hc3.trans' hc4
 replace hc1 := hc1.trans' hc
 replace hn := SliceOf.kept Ri64.kept _ _ _ _ hc hn
 replace hz := SliceOf.kept Ri64.kept _ _ _ _ hc hz
 clear h2 hc hc2 hc3 hc4
 cases inB 1 1125899906842624 [p.group] with
 | false =>
  refine go T 19 rfl ?_
  exact post1 (.inl rfl) rfl rfl ⟨hc1, rfl⟩
 | true =>
 refine go T 4 rfl ?_
 refine ldB T h1 rfl rfl rfl rfl rfl rfl ?_
 refine o1 rfl ?_
 refine op_buildSlice T rfl rfl rfl rfl rfl rfl rfl (fun g2 w5 hs3 hc3 h2 => ?_)
 have h2 : Blk w5 g2 2 [.int .i64 p.size] := h2
 replace h1 := h1.keep0 hc3
 refine o1 rfl ?_
 refine op_call rfl rfl rfl (in_one h2 hI.size) ?_
 rintro _ w6 ⟨hc4, rfl⟩
 replace h1 := h1.keep0 hc4
 have hc := hc3.trans' hc4
 replace hc1 := hc1.trans' hc
 replace hn := SliceOf.kept Ri64.kept _ _ _ _ hc hn
 replace hz := SliceOf.kept Ri64.kept _ _ _ _ hc hz
 clear h2 hc hc3 hc4
 cases inB 0 4194304 [p.size] with
 | false =>
  refine go T 12 rfl ?_
  exact post1 (.inl rfl) rfl rfl ⟨hc1, rfl⟩
 | true =>
 simp only [Bool.true_and, Bool.and_true]
 refine go T 11 rfl ?_
 refine ldB T h1 rfl rfl rfl rfl rfl rfl ?_
 refine go T 5 rfl ?_
 refine W_loop (σ := Nat) (fun i => [(1, .pointer (some ⟨g1, 0, none⟩)), (45, .slice An p.nums.length cn), (46, .int .i64 p.nums.length), (47, .int .i64 i)])
  (fun (i : Nat) w' => i ≤ p.nums.length ∧ parGo p.nums p.sizes p.nums.length 0 = parGo p.nums p.sizes (p.nums.length - i) i ∧ Chg [] w6 w') (fun i => p.nums.length - i) 0 ⟨rfl, rfl, rfl, rfl, trivial⟩ ⟨Nat.zero_le _, rfl, Chg.refl _ _⟩ ?_
 rintro i w7 ⟨hi, hg, hc7⟩
 replace h1 := h1.keep0 hc7
 replace hn := SliceOf.kept Ri64.kept _ _ _ _ hc7 hn
 replace hz := SliceOf.kept Ri64.kept _ _ _ _ hc7 hz
 refine run ?_
 refine go T 2 rfl ?_
 refine ltS rfl rfl rfl rfl (fun hcmp => ?_) (fun hcmp => ?_)
 ·have hlt : i < p.nums.length := by omega
  have hx := List.getElem?_eq_getElem hlt
  have hy := List.getElem?_eq_getElem (show i < p.sizes.length by omega)
  have hyI := i64_of hz hy
  rw [show p.nums.length - i = (p.nums.length - (i + 1)) + 1 from by omega, parGo, hx, hy] at hg
  rw [Option.getD_some, Option.getD_some] at hg
  obtain ⟨ad, u, rfl, hu, rfl, _⟩ := hn.get hx
  obtain ⟨ad2, u2, rfl, hu2, rfl, _⟩ := hz.get hy
  generalize p.nums[i] = x at *
  generalize p.sizes[i] = y at *
  refine go T 11 rfl ?_
  refine o1 rfl (op_index_nat T rfl rfl rfl rfl rfl rfl (by omega) ?_)
  refine o1 rfl (op_load T rfl rfl rfl rfl (by assumption) ?_)
  refine go T 7 rfl ?_
  refine ldB T h1 rfl rfl rfl rfl rfl rfl ?_
  refine go T 1 rfl ?_
  refine o1 rfl ?_
  refine op_slice (l := 0) (h' := i) T rfl rfl rfl rfl rfl ⟨_, rfl⟩ (by omega) (by omega) ?_
  have hpre : SliceOf Ri64 w7 (.slice (if cn = 0 then some ad else (some ad).map (·.add (0 * 1))) (i - 0) (cn - 0)) (p.nums.take i) := by
   have := hn.cut (l := 0) (k := i) (by omega) (by omega)
   rw [List.drop_zero] at this
   exact this
  refine go T 1 rfl ?_
  refine o1 rfl ?_
  refine op_call rfl rfl rfl (containsI_has _ _ _ _ x hpre) ?_
  rintro _ _ ⟨rfl, rfl⟩
  cases hct : (p.nums.take i).contains x with
  | true =>
   rw [hct, Bool.not_true, Bool.false_and] at hg
   rw [hg]
   refine go T 21 rfl ?_
   refine rndR ?_
   refine go T 2 rfl ?_
   exact post1 (.inl rfl) rfl rfl ⟨hc1.trans' hc7, rfl⟩
  | false =>
  rw [hct, Bool.not_false, Bool.true_and] at hg
  refine go T 2 rfl ?_
  refine ldB T h1 rfl rfl rfl rfl rfl rfl ?_
  refine go T 1 rfl ?_
  refine o1 rfl (op_index_nat T rfl rfl rfl rfl rfl rfl (by omega) ?_)
  refine o1 rfl (op_load T rfl rfl rfl rfl (by assumption) ?_)
  refine o1 rfl ?_
  refine op_buildSlice T rfl rfl rfl rfl rfl rfl rfl (fun g2 w8 hs8 hc8 h2 => ?_)
  have h2 : Blk w8 g2 2 [.int .i64 y] := h2
  refine o1 rfl ?_
  refine op_call rfl rfl rfl (in_one h2 hyI) ?_
  rintro _ w9 ⟨hc9, rfl⟩
  have hc79 := hc7.trans' (hc8.trans' hc9)
  cases hin : inB 0 4194304 [y] with
  | false =>
   rw [hin, Bool.false_and] at hg
   rw [hg]
   refine go T 13 rfl ?_
   refine rndR ?_
   refine go T 2 rfl ?_
   exact post1 (.inl rfl) rfl rfl ⟨hc1.trans' hc79, rfl⟩
  | true =>
  rw [hin, Bool.true_and] at hg
  refine go T 9 rfl ?_
  refine adI rfl rfl rfl rfl (by omega) (by omega) ?_
  refine go T 2 rfl ?_
  exact Round_n (i + 1) ⟨rfl, rfl, rfl, rfl, trivial⟩ ⟨by omega, hg, hc79⟩ (by omega)
 ·obtain rfl : i = p.nums.length := by omega
  rw [Nat.sub_self, parGo] at hg
  rw [hg]
  refine go T 6 rfl ?_
  refine rndX ?_
  refine go T 8 rfl ?_
  exact post1 (.inl rfl) rfl rfl ⟨hc1.trans' hc7, rfl⟩
theorem check2_has (q : ParV) (hI : ParI q.p) (hr : PRd w q) :
  Has Tryz.prog 137 (#[] ++ #[.agg (parL q).toArray] ++ #[]) w (fun v w' => Chg [] w w' ∧ v = .bool (!parB q.p)) := by
 refine enter Tryz.func137 rfl rfl (by decide) rfl (e := [(0, .agg (parL q).toArray)]) ⟨rfl, trivial⟩ ?_
 refine run ?_
 refine go T 2 rfl ?_
 refine o1 rfl ?_
 refine op_box rfl rfl (fun g1 w1 hs1 hc1 h1 => ?_)
 have h1 : Blk w1 g1 70 (parL q) := h1
 refine go T 5 rfl ?_
 refine o1 rfl (op_load_agg T rfl rfl rfl rfl h1 (by exact Nat.le_of_ble_eq_true rfl) (by exact rfl) ?_)
 refine o1 rfl ?_
 refine op_call rfl rfl rfl (par_has q hI (hr.keep0 hc1)) ?_
 rintro _ w2 ⟨hc2, rfl⟩
 generalize parB q.p = b
 cases b <;>
 ·refine go T 5 rfl ?_
  exact post1 (.inl rfl) rfl rfl ⟨hc1.trans' hc2, rfl⟩
end
end Go.Proofs.YtiadjkjlifnopaaGreatDoor.Tryz
/-! Numbers: Put, Get, Text, GetText, Four, GetFour; small decimal texts. -/
namespace Go.Proofs.YtiadjkjlifnopaaGreatDoor.Tryz
open Go Go.Vc
set_option maxRecDepth 100000 in
theorem or128 : ∀ a, a < 256 → a ||| 128 = a % 128 + 128 := by decide
theorem byte_cell (n : Nat) : Value.int .u8 ((n % 2 ^ IntKind.u8.bits : Nat) : Int) = Value.int .u8 ((UInt8.ofNat n).toNat : Int) := by
 have : (UInt8.ofNat n).toNat = n % 2 ^ IntKind.u8.bits := by simp [IntKind.bits]
 rw [this]
theorem one_u8 {w : World} {g : Nat} {t : TypeId} (c : UInt8) (hg : Blk w g t [.int .u8 (c.toNat : Int)]) : SliceOf Ru8 w (.slice (some ⟨g, 0, none⟩) 1 1) [c] :=
 SliceOf.of_blk hg rfl (Nat.le_refl _) (by decide) (fun i y hy => by
  match i, hy with
  | 0, hy => cases hy; exact ⟨_, rfl, rfl⟩)
set_option maxHeartbeats 1000000 in
theorem put_has (n : Nat) (w : World) (hn : n < 18446744073709551616) :
  Has Tryz.prog 178 #[.int .u64 (n : Int)] w (fun v w' => MadeB 5 w w' v (putM n)) := by
 have hlen := putM_len10 hn
 refine enter Tryz.func178 rfl rfl (by decide) rfl (e := [(0, .int .u64 (n : Int))]) ⟨rfl, trivial⟩ ?_
 repeat (first | refine W_seq ?_ | refine W_region ?_ | refine Then_n ?_ | refine WL_nil ?_ | refine WL_some rfl rfl rfl ?_ | refine op_assign rfl rfl ?_)
 refine W_meet (σ := Nat × List UInt8 × Value) (fun s => [(0, .int .u64 (s.1 : Int)), (3, s.2.2)]) (fun s w' => s.1 < 128 ∧ s.2.1 ++ putM s.1 = putM n ∧ MadeB 5 w w' s.2.2 s.2.1) ?_ ?_
 ·refine W_block ?_
  refine W_loop (σ := Nat × List UInt8 × Value) (fun s => [(0, .int .u64 (s.1 : Int)), (3, s.2.2)]) (fun s w' => s.1 < 18446744073709551616 ∧ s.2.1 ++ putM s.1 = putM n ∧ MadeB 5 w w' s.2.2 s.2.1) (fun s => s.1) (n, [], .slice none 0 0) ⟨rfl, rfl, trivial⟩ ⟨hn, rfl, MadeB.nil _ _⟩ ?_
  rintro ⟨m, l, v⟩ w1 ⟨h1, h2, h3⟩
  dsimp only at h1 h2 h3 ⊢
  repeat (first | refine W_seq ?_ | refine W_region ?_ | refine WL_some rfl rfl rfl ?_ | refine op_move rfl rfl ?_)
  (refine op_gtr rfl rfl rfl (fun hc => ?_) (fun hc => ?_))
  ·have hm : ¬ m < 128 := by omega
   have hpl := putM_pos (m / 128)
   have hl : l.length ≤ 10 := by rw [← h2] at hlen; simp at hlen; omega
   repeat (first | refine W_seq ?_ | refine W_block ?_ | refine W_region ?_ | refine W_skip ?_ | refine Then_n ?_ | refine WL_nil ?_ | refine W_condT rfl ?_ | refine WL_some rfl rfl rfl ?_ | refine op_move rfl rfl ?_)
   refine op_convert_nat T rfl rfl rfl rfl rfl ?_
   repeat (refine WL_some rfl rfl rfl ?_)
   refine op_or_nat (a := m % 2 ^ IntKind.u8.bits) (b := 128) rfl (Nat.mod_lt _ (by decide)) (by decide) rfl rfl rfl ?_
   repeat (refine WL_some rfl rfl rfl ?_)
   refine op_buildSlice T rfl rfl rfl rfl rfl rfl rfl (fun g w2 hgs hc2 hg2 => ?_)
   have eb : Value.int .u8 (((m % 2 ^ IntKind.u8.bits ||| 128 : Nat)) : Int) = Value.int .u8 ((UInt8.ofNat (m % 128 + 128)).toNat : Int) := by
    have e1 : m % 2 ^ IntKind.u8.bits ||| 128 = m % 128 + 128 := by
     show m % 256 ||| 128 = _
     rw [or128 _ (Nat.mod_lt _ (by decide))]; omega
    rw [e1, toNat_ofNat (by omega)]
   have hs2 := one_u8 (UInt8.ofNat (m % 128 + 128)) (by rw [← eb]; exact hg2)
   repeat (refine WL_some rfl rfl rfl ?_)
   refine op_appB T rfl rfl rfl rfl rfl rfl rfl rfl rfl (h3.keep0 hc2) hs2 (by simp; omega) (fun v' w3 hm3 _ _ => ?_)
   repeat (first | refine W_region ?_ | refine Then_n ?_ | refine WL_nil ?_ | refine WL_some rfl rfl rfl ?_ | refine op_move rfl rfl ?_ | refine op_assign rfl rfl ?_)
   refine op_shr_nat (s := 7) (by decide) rfl rfl rfl ?_
   repeat (first | refine InBlock_n ?_ | refine WL_nil ?_ | refine WL_some rfl rfl rfl ?_ | refine op_assign rfl rfl ?_)
   refine Round_n (m / 128, l ++ [UInt8.ofNat (m % 128 + 128)], v') ⟨rfl, rfl, trivial⟩ ⟨by dsimp only; omega, ?_, hm3⟩ (by dsimp only; omega)
   dsimp only
   rw [← h2, putM_big hm, List.append_assoc]; rfl
  ·repeat (first | refine W_exit ?_ | refine Then_n ?_ | refine Then_x ?_ | refine InBlock_hit ?_ | refine Round_x ?_ | refine WL_nil ?_ | refine W_condF rfl ?_)
   refine Meet_n (m, l, v) ⟨rfl, rfl, trivial⟩ ⟨?_, h2, h3⟩
   dsimp only; omega
 ·rintro ⟨m, l, v⟩ w1 ⟨h1, h2, h3⟩
  dsimp only at h1 h2 h3 ⊢
  have hl : l.length ≤ 10 := by rw [← h2] at hlen; simp at hlen; omega
  repeat (first | refine W_seq ?_ | refine W_region ?_ | refine Then_n ?_ | refine WL_some rfl rfl rfl ?_ | refine op_move rfl rfl ?_)
  refine op_convert_nat T rfl rfl rfl rfl rfl ?_
  repeat (refine WL_some rfl rfl rfl ?_)
  refine op_buildSlice T rfl rfl rfl rfl rfl rfl rfl (fun g w2 hgs hc2 hg2 => ?_)
  have hs2 := one_u8 (UInt8.ofNat m) (by rw [← byte_cell]; exact hg2)
  repeat (refine WL_some rfl rfl rfl ?_)
  refine op_appB T rfl rfl rfl rfl rfl rfl rfl rfl rfl (h3.keep0 hc2) hs2 (by simp; omega) (fun v' w3 hm3 _ _ => ?_)
  repeat (first | refine W_ret ?_ | refine Then_n ?_ | refine WL_nil ?_ | refine WL_some rfl rfl rfl ?_ | refine op_assign rfl rfl ?_)
  refine post1 (.inl rfl) rfl rfl ?_
  rw [← h2, putM_small h1]
  exact hm3
theorem four_has (n : Nat) (w : World) (hn : n < 4294967296) :
  Has Tryz.prog 155 #[.int .u32 (n : Int)] w (fun v w' => MadeB 5 w w' v (fourM n)) := by
 refine enter Tryz.func155 rfl rfl (by decide) rfl (e := [(0, .int .u32 (n : Int))]) ⟨rfl, trivial⟩ ?_
 repeat (first | refine W_seq ?_ | refine W_region ?_ | refine Then_n ?_ | refine WL_nil ?_ | refine WL_some rfl rfl rfl ?_ | refine op_move rfl rfl ?_ | refine op_assign rfl rfl ?_)
 refine op_convert_nat T rfl rfl rfl rfl rfl ?_
 repeat (first | refine WL_some rfl rfl rfl ?_ | refine op_move rfl rfl ?_)
 refine op_shr_nat (s := 8) (by decide) rfl rfl rfl ?_
 repeat (refine WL_some rfl rfl rfl ?_)
 refine op_convert_nat T rfl rfl rfl rfl rfl ?_
 repeat (first | refine WL_some rfl rfl rfl ?_ | refine op_move rfl rfl ?_)
 refine op_shr_nat (s := 16) (by decide) rfl rfl rfl ?_
 repeat (refine WL_some rfl rfl rfl ?_)
 refine op_convert_nat T rfl rfl rfl rfl rfl ?_
 repeat (first | refine WL_some rfl rfl rfl ?_ | refine op_move rfl rfl ?_)
 refine op_shr_nat (s := 24) (by decide) rfl rfl rfl ?_
 repeat (refine WL_some rfl rfl rfl ?_)
 refine op_convert_nat T rfl rfl rfl rfl rfl ?_
 repeat (refine WL_some rfl rfl rfl ?_)
 refine op_buildSlice T rfl rfl rfl rfl rfl rfl rfl (fun g w2 hgs hc2 hg2 => ?_)
 repeat (first | refine W_ret ?_ | refine Then_n ?_ | refine WL_nil ?_ | refine WL_some rfl rfl rfl ?_ | refine op_assign rfl rfl ?_)
 have hg3 : Blk w2 g 5 (u8s (fourM n)) := by
  rw [byte_cell, byte_cell, byte_cell, byte_cell] at hg2
  exact hg2
 refine post1 (.inl rfl) rfl rfl ⟨hc2, Own.mk hg3 (Nat.le_refl _) (by decide) rfl rfl, fun h hh => ?_⟩
 simp [Value.ownBlock] at hh; omega
end Go.Proofs.YtiadjkjlifnopaaGreatDoor.Tryz
/-! Numbers: GetFour, Get, GetText; small decimal texts. -/
namespace Go.Proofs.YtiadjkjlifnopaaGreatDoor.Tryz
open Go Go.Vc
theorem or_add {a b : Nat} (k : Nat) (h : a < 2 ^ k) : a ||| b * 2 ^ k = a + b * 2 ^ k := by
 rw [Nat.or_comm, ← Nat.shiftLeft_eq, ← Nat.shiftLeft_add_eq_or_of_lt h, Nat.add_comm]
set_option maxHeartbeats 2000000 in
theorem getFour_has (A : Option Addr) (n c : Nat) (l : List UInt8) (w : World) (hl : SliceOf Ru8 w (.slice A n c) l) :
  Has Tryz.prog 179 #[.slice A n c] w (fun v w' => Chg [] w w' ∧ v = .int .u32 (getFourM l : Nat)) := by
 obtain ⟨rfl, hl1, hl2⟩ := hl.len
 unfold maxLen at hl2
 refine enter Tryz.func179 rfl rfl (by decide) rfl (e := [(0, .slice A l.length c)]) ⟨rfl, trivial⟩ ?_
 repeat (first | refine W_seq ?_ | refine W_region ?_ | refine Then_n ?_ | refine WL_nil ?_ | refine WL_some rfl rfl rfl ?_ | refine op_move rfl rfl ?_ | refine op_assign rfl rfl ?_ | refine op_len_slice T rfl rfl rfl rfl ?_)
 (refine op_lss rfl rfl rfl (fun hc => ?_) (fun hc => ?_))
 ·have hz : getFourM l = 0 := by
   match l with
   | [] => rfl
   | [_] => rfl
   | [_, _] => rfl
   | [_, _, _] => rfl
   | _ :: _ :: _ :: _ :: _ => simp at *; omega
  rw [hz]
  repeat (first | refine W_seq ?_ | refine W_region ?_ | refine W_ret ?_ | refine Then_n ?_ | refine Then_r ?_ | refine WL_nil ?_ | refine W_condT rfl ?_ | refine WL_some rfl rfl rfl ?_ | refine op_assign rfl rfl ?_)
  exact post1 (.inl rfl) rfl rfl ⟨Chg.refl _ _, rfl⟩
 ·obtain ⟨x0, x1, x2, x3, t, rfl⟩ : ∃ x0 x1 x2 x3 t, l = x0 :: x1 :: x2 :: x3 :: t := by
   match l with
   | [] => simp at *
   | [_] => simp at *
   | [_, _] => simp at *
   | [_, _, _] => simp at *
   | x0 :: x1 :: x2 :: x3 :: t => exact ⟨x0, x1, x2, x3, t, rfl⟩
  obtain ⟨ad, u0, rfl, hu0, rfl⟩ := hl.get (i := 0) rfl
  obtain ⟨ad1, u1, e1, hu1, rfl⟩ := hl.get (i := 1) rfl
  cases e1
  obtain ⟨ad2, u2, e2, hu2, rfl⟩ := hl.get (i := 2) rfl
  cases e2
  obtain ⟨ad3, u3, e3, hu3, rfl⟩ := hl.get (i := 3) rfl
  cases e3
  have b0 := x0.toNat_lt; have b1 := x1.toNat_lt; have b2 := x2.toNat_lt; have b3 := x3.toNat_lt
  simp only [List.length_cons] at *
  repeat (first | refine W_seq ?_ | refine W_skip ?_ | refine Then_n ?_ | refine WL_nil ?_ | refine W_condF rfl ?_)
  refine W_walk 22 [] fol (by kernel_rfl) (by kernel_rfl) ?_
  refine Walk.plain rfl (by intro val w_ hR hp; exact op_move rfl rfl ⟨Chg.refl _ _, rfl⟩) ?_; dsimp only [na1, na2]
  refine Walk.plain rfl (by intro val w_ hR hp; exact op_index_nat (i := 0) T rfl rfl rfl rfl rfl rfl (by omega) ⟨Chg.refl _ _, rfl⟩) ?_; dsimp only [na1, na2]
  refine Walk.plain rfl (by intro val w_ hR hp; exact op_load T rfl rfl rfl rfl (hR.cell0 (by assumption)) ⟨Chg.refl _ _, rfl⟩) ?_; dsimp only [na1, na2]
  refine Walk.plain rfl (by intro val w_ hR hp; exact op_convert_fit T rfl rfl rfl rfl (wrap_u32_in (by omega) (by omega)) ⟨Chg.refl _ _, rfl⟩) ?_; dsimp only [na1, na2]
  refine Walk.plain rfl (by intro val w_ hR hp; exact op_move rfl rfl ⟨Chg.refl _ _, rfl⟩) ?_; dsimp only [na1, na2]
  refine Walk.plain rfl (by intro val w_ hR hp; exact op_index_nat (i := 1) T rfl rfl rfl rfl rfl rfl (by omega) ⟨Chg.refl _ _, rfl⟩) ?_; dsimp only [na1, na2]
  refine Walk.plain rfl (by intro val w_ hR hp; exact op_load T rfl rfl rfl rfl (hR.cell0 (by assumption)) ⟨Chg.refl _ _, rfl⟩) ?_; dsimp only [na1, na2]
  refine Walk.plain rfl (by intro val w_ hR hp; exact op_convert_fit T rfl rfl rfl rfl (wrap_u32_in (by omega) (by omega)) ⟨Chg.refl _ _, rfl⟩) ?_; dsimp only [na1, na2]
  refine Walk.plain rfl (by intro val w_ hR hp; exact op_shl_nat (s := 8) rfl (by decide) rfl rfl rfl ⟨Chg.refl _ _, rfl⟩) ?_; dsimp only [na1, na2]
  refine Walk.plain rfl (by intro val w_ hR hp; exact op_or_nat rfl (show _ < 4294967296 by omega) (Nat.mod_lt _ (by decide)) rfl rfl rfl ⟨Chg.refl _ _, rfl⟩) ?_; dsimp only [na1, na2]
  refine Walk.plain rfl (by intro val w_ hR hp; exact op_move rfl rfl ⟨Chg.refl _ _, rfl⟩) ?_; dsimp only [na1, na2]
  refine Walk.plain rfl (by intro val w_ hR hp; exact op_index_nat (i := 2) T rfl rfl rfl rfl rfl rfl (by omega) ⟨Chg.refl _ _, rfl⟩) ?_; dsimp only [na1, na2]
  refine Walk.plain rfl (by intro val w_ hR hp; exact op_load T rfl rfl rfl rfl (hR.cell0 (by assumption)) ⟨Chg.refl _ _, rfl⟩) ?_; dsimp only [na1, na2]
  refine Walk.plain rfl (by intro val w_ hR hp; exact op_convert_fit T rfl rfl rfl rfl (wrap_u32_in (by omega) (by omega)) ⟨Chg.refl _ _, rfl⟩) ?_; dsimp only [na1, na2]
  refine Walk.plain rfl (by intro val w_ hR hp; exact op_shl_nat (s := 16) rfl (by decide) rfl rfl rfl ⟨Chg.refl _ _, rfl⟩) ?_; dsimp only [na1, na2]
  refine Walk.plain rfl (by intro val w_ hR hp; exact op_or_nat rfl (Nat.or_lt_two_pow (n := 32) (show _ < 4294967296 by omega) (Nat.mod_lt _ (by decide))) (Nat.mod_lt _ (by decide)) rfl rfl rfl ⟨Chg.refl _ _, rfl⟩) ?_; dsimp only [na1, na2]
  refine Walk.plain rfl (by intro val w_ hR hp; exact op_move rfl rfl ⟨Chg.refl _ _, rfl⟩) ?_; dsimp only [na1, na2]
  refine Walk.plain rfl (by intro val w_ hR hp; exact op_index_nat (i := 3) T rfl rfl rfl rfl rfl rfl (by omega) ⟨Chg.refl _ _, rfl⟩) ?_; dsimp only [na1, na2]
  refine Walk.plain rfl (by intro val w_ hR hp; exact op_load T rfl rfl rfl rfl (hR.cell0 (by assumption)) ⟨Chg.refl _ _, rfl⟩) ?_; dsimp only [na1, na2]
  refine Walk.plain rfl (by intro val w_ hR hp; exact op_convert_fit T rfl rfl rfl rfl (wrap_u32_in (by omega) (by omega)) ⟨Chg.refl _ _, rfl⟩) ?_; dsimp only [na1, na2]
  refine Walk.plain rfl (by intro val w_ hR hp; exact op_shl_nat (s := 24) rfl (by decide) rfl rfl rfl ⟨Chg.refl _ _, rfl⟩) ?_; dsimp only [na1, na2]
  refine Walk.plain rfl (by intro val w_ hR hp; exact op_or_nat rfl (Nat.or_lt_two_pow (n := 32) (Nat.or_lt_two_pow (n := 32) (show _ < 4294967296 by omega) (Nat.mod_lt _ (by decide))) (Nat.mod_lt _ (by decide))) (Nat.mod_lt _ (by decide)) rfl rfl rfl ⟨Chg.refl _ _, rfl⟩) ?_; dsimp only [na1, na2]
  refine Walk.fin ?_
  intro val w1 hc1 hp
  repeat (first | refine W_ret ?_ | refine Then_n ?_ | refine WL_nil ?_ | refine WL_some rfl rfl rfl ?_ | refine op_assign rfl rfl ?_)
  refine post1 (.inl rfl) rfl rfl ⟨hc1, ?_⟩
  refine congrArg (fun n : Nat => Value.int .u32 (n : Int)) ?_
  show ((x0.toNat ||| x1.toNat * 2 ^ 8 % 4294967296) ||| x2.toNat * 2 ^ 16 % 4294967296) ||| x3.toNat * 2 ^ 24 % 4294967296 = x0.toNat + 256 * x1.toNat + 65536 * x2.toNat + 16777216 * x3.toNat
  rw [Nat.mod_eq_of_lt (by omega), Nat.mod_eq_of_lt (by omega), Nat.mod_eq_of_lt (by omega), or_add 8 (by omega), or_add 16 (by omega), or_add 24 (by omega)]
  omega
theorem getGo_drop {L : List UInt8} {i acc : Nat} {c : UInt8} (hc : L[i]? = some c) : getGo i acc (L.drop i) = if 127 < c.toNat then getGo (i + 1) (getAcc acc c i) (L.drop (i + 1)) else if (0 < i ∧ c.toNat = 0) ∨ (i = 9 ∧ 1 < c.toNat) then (0, 0) else (getAcc acc c i, i + 1) := by
 have hi := (List.getElem?_eq_some_iff.1 hc).1
 rw [List.drop_eq_getElem_cons hi]
 have : L[i] = c := (List.getElem?_eq_some_iff.1 hc).2
 rw [this]
 rfl
set_option maxHeartbeats 2000000 in
theorem get_has (A : Option Addr) (n c : Nat) (l : List UInt8) (w : World) (hl : SliceOf Ru8 w (.slice A n c) l) :
  Has Tryz.prog 180 #[.slice A n c] w (fun v w' => w' = w ∧ v = .tuple #[.int .u64 ((getM l).1 : Nat), .int .i64 ((getM l).2 : Nat)]) := by
 obtain ⟨rfl, hl1, hl2⟩ := hl.len
 unfold maxLen at hl2
 refine enter Tryz.func180 rfl rfl (by decide) rfl (e := [(0, .slice A l.length c)]) ⟨rfl, trivial⟩ ?_
 repeat (first | refine W_seq ?_ | refine W_region ?_ | refine Then_n ?_ | refine WL_nil ?_ | refine WL_some rfl rfl rfl ?_ | refine op_move rfl rfl ?_ | refine op_assign rfl rfl ?_ | refine op_len_slice T rfl rfl rfl rfl ?_ | refine op_min rfl rfl rfl ?_)
 refine op_cut T (l := 0) (h' := min l.length 10) rfl rfl rfl rfl rfl rfl ⟨_, some_int (by omega)⟩ hl (Nat.zero_le _) (Nat.min_le_left _ _) (fun A' hA' => ?_)
 have hl10 := hA' w hl
 rw [show (l.take (min l.length 10)).drop 0 = l.take 10 from by rw [List.drop_zero, Nat.min_comm]; exact (List.take_eq_take_min).symm] at hl10
 clear hA'
 have hgm : getM l = getGo 0 0 ((l.take 10).drop 0) := rfl
 rw [hgm]
 clear hgm
 have hlen10 : (l.take 10).length ≤ 10 := by rw [List.length_take]; omega
 generalize l.take 10 = L at *
 generalize min l.length 10 - 0 = m at *
 obtain ⟨rfl, _, _⟩ := hl10.len
 repeat (first | refine W_block ?_ | refine Then_n ?_ | refine WL_nil ?_ | refine WL_some rfl rfl rfl ?_ | refine op_move rfl rfl ?_ | refine op_len_slice T rfl rfl rfl rfl ?_)
 refine W_loop (σ := Nat × Nat) (fun s => [(4, .int .u64 (s.2 : Int)), (11, .slice A' L.length (c - 0)), (12, .int .i64 L.length), (13, .int .i64 s.1)])
  (fun s w' => s.1 ≤ L.length ∧ s.2 < 18446744073709551616 ∧ getGo 0 0 (L.drop 0) = getGo s.1 s.2 (L.drop s.1) ∧ w' = w) (fun s => L.length - s.1) (0, 0) ⟨rfl, rfl, rfl, rfl, trivial⟩ ⟨Nat.zero_le _, by decide, rfl, rfl⟩ ?_
 rintro ⟨i, acc⟩ w1 ⟨h1, h2, h3, rfl⟩
 dsimp only at h1 h2 h3 ⊢
 repeat (first | refine W_seq ?_ | refine W_region ?_ | refine WL_some rfl rfl rfl ?_)
 (refine op_lss rfl rfl rfl (fun hc => ?_) (fun hc => ?_))
 ·have hlt : i < L.length := by omega
  obtain ⟨ad, u, rfl, hu, rfl⟩ := hl10.get (i := i) (List.getElem?_eq_getElem hlt)
  have hg := getGo_drop (acc := acc) (List.getElem?_eq_getElem hlt)
  rw [h3]
  generalize L[i] = ch at *
  have hch := ch.toNat_lt
  repeat (first | refine W_seq ?_ | refine W_block ?_ | refine W_region ?_ | refine W_skip ?_ | refine Then_n ?_ | refine WL_nil ?_ | refine W_condT rfl ?_ | refine WL_some rfl rfl rfl ?_ | refine op_move rfl rfl ?_ | refine op_assign rfl rfl ?_ | refine op_index_nat T rfl rfl rfl rfl rfl rfl (by omega) ?_ | refine op_load T rfl rfl rfl rfl (by assumption) ?_)
  refine op_and_nat (k := .u8) (a := ch.toNat) (b := 127) rfl hch (by decide) rfl rfl rfl ?_
  repeat (refine WL_some rfl rfl rfl ?_)
  refine op_convert_fit T rfl rfl rfl rfl (wrap_u64_in (by omega) (by have := Nat.and_le_right (n := ch.toNat) (m := 127); omega)) ?_
  repeat (first | refine WL_some rfl rfl rfl ?_ | refine op_move rfl rfl ?_ | refine op_mul rfl rfl rfl (wrap_i64_in (by omega) (by omega)) ?_)
  refine op_shl_nat (k := .u64) (s := 7 * i) rfl (show 7 * i ≤ 64 by omega) rfl rfl (some_int (by omega)) ?_
  repeat (refine WL_some rfl rfl rfl ?_)
  refine op_or_nat (k := .u64) (a := acc) rfl h2 (Nat.mod_lt _ (by decide)) rfl rfl rfl ?_
  have ha : acc ||| (ch.toNat &&& 127) * 2 ^ (7 * i) % 2 ^ IntKind.u64.bits = getAcc acc ch i := rfl
  rw [ha]
  have hal := getAcc_lt (c := ch) (i := i) h2
  by_cases hbig : 127 < ch.toNat
  ·rw [if_pos hbig] at hg
   rw [hg]
   repeat (first | refine W_seq ?_ | refine W_region ?_ | refine W_exit ?_ | refine Then_n ?_ | refine Then_x ?_ | refine InBlock_hit ?_ | refine WL_nil ?_ | refine W_condT rfl ?_ | refine WL_some rfl rfl rfl ?_ | refine op_move rfl rfl ?_ | refine op_assign rfl rfl ?_ | refine op_add rfl rfl rfl (wrap_i64_in (by omega) (by omega)) ?_ | refine op_gtr rfl rfl rfl (fun hc => ?_) (fun hc => False.elim (by omega)))
   refine Round_n (i + 1, getAcc acc ch i) ⟨rfl, rfl, rfl, rfl, trivial⟩ ⟨by dsimp only; omega, hal, rfl, rfl⟩ (by dsimp only; omega)
  ·rw [if_neg hbig] at hg
   by_cases hbad : (0 < i ∧ ch.toNat = 0) ∨ (i = 9 ∧ 1 < ch.toNat)
   ·rw [if_pos hbad] at hg
    rw [hg]
    by_cases h0 : ch.toNat = 0
    ·have : 0 < i := by omega
     repeat (first | refine W_seq ?_ | refine W_region ?_ | refine W_skip ?_ | refine W_exit ?_ | refine W_ret ?_ | refine Then_n ?_ | refine Then_x ?_ | refine InBlock_hit ?_ | refine InBlock_miss rfl ?_ | refine Round_x ?_ | refine WL_nil ?_ | refine W_condT rfl ?_ | refine W_condF rfl ?_ | refine WL_some rfl rfl rfl ?_ | refine WL_guardT rfl rfl rfl rfl ?_ | refine WL_guardF rfl rfl rfl rfl rfl ?_ | refine WL_guardU rfl rfl rfl rfl ?_ | refine op_move rfl rfl ?_ | refine op_assign rfl rfl ?_ | refine op_pick rfl rfl rfl rfl ?_ | refine op_gtr rfl rfl rfl (fun hc => ?_) (fun hc => False.elim (by omega)) | refine op_gtr rfl rfl rfl (fun hc => False.elim (by omega)) (fun hc => ?_) | refine op_eql rfl rfl rfl (fun hc => ?_) (fun hc => False.elim (by omega)))
     exact post2 (.inl rfl) rfl rfl rfl ⟨rfl, rfl⟩
    ·have : i = 9 := by omega
     repeat (first | refine W_seq ?_ | refine W_region ?_ | refine W_skip ?_ | refine W_exit ?_ | refine W_ret ?_ | refine Then_n ?_ | refine Then_x ?_ | refine InBlock_hit ?_ | refine InBlock_miss rfl ?_ | refine Round_x ?_ | refine WL_nil ?_ | refine W_condT rfl ?_ | refine W_condF rfl ?_ | refine WL_some rfl rfl rfl ?_ | refine WL_guardT rfl rfl rfl rfl ?_ | refine op_move rfl rfl ?_ | refine op_assign rfl rfl ?_ | refine op_pick rfl rfl rfl rfl ?_ | refine op_gtr rfl rfl rfl (fun hc => ?_) (fun hc => False.elim (by omega)) | refine op_gtr rfl rfl rfl (fun hc => False.elim (by omega)) (fun hc => ?_) | refine op_eql rfl rfl rfl (fun hc => ?_) (fun hc => False.elim (by omega)) | refine op_eql rfl rfl rfl (fun hc => False.elim (by omega)) (fun hc => ?_))
     exact post2 (.inl rfl) rfl rfl rfl ⟨rfl, rfl⟩
   ·rw [if_neg hbad] at hg
    rw [hg]
    by_cases h0 : 0 < i
    ·by_cases h9 : i = 9
     ·repeat (first | refine W_seq ?_ | refine W_region ?_ | refine W_skip ?_ | refine W_ret ?_ | refine Then_n ?_ | refine Then_r ?_ | refine InBlock_r ?_ | refine Round_r ?_ | refine WL_nil ?_ | refine W_condF rfl ?_ | refine WL_some rfl rfl rfl ?_ | refine WL_guardT rfl rfl rfl rfl ?_ | refine op_move rfl rfl ?_ | refine op_assign rfl rfl ?_ | refine op_pick rfl rfl rfl rfl ?_ | refine op_add rfl rfl rfl (wrap_i64_in (by omega) (by omega)) ?_ | refine op_gtr rfl rfl rfl (fun hc => ?_) (fun hc => False.elim (by omega)) | refine op_gtr rfl rfl rfl (fun hc => False.elim (by omega)) (fun hc => ?_) | refine op_eql rfl rfl rfl (fun hc => ?_) (fun hc => False.elim (by omega)) | refine op_eql rfl rfl rfl (fun hc => False.elim (by omega)) (fun hc => ?_))
      exact post2 (.inl rfl) rfl rfl rfl ⟨rfl, rfl⟩
     ·repeat (first | refine W_seq ?_ | refine W_region ?_ | refine W_skip ?_ | refine W_ret ?_ | refine Then_n ?_ | refine Then_r ?_ | refine InBlock_r ?_ | refine Round_r ?_ | refine WL_nil ?_ | refine W_condF rfl ?_ | refine WL_some rfl rfl rfl ?_ | refine WL_guardT rfl rfl rfl rfl ?_ | refine WL_guardF rfl rfl rfl rfl rfl ?_ | refine op_move rfl rfl ?_ | refine op_assign rfl rfl ?_ | refine op_pick rfl rfl rfl rfl ?_ | refine op_add rfl rfl rfl (wrap_i64_in (by omega) (by omega)) ?_ | refine op_gtr rfl rfl rfl (fun hc => ?_) (fun hc => False.elim (by omega)) | refine op_gtr rfl rfl rfl (fun hc => False.elim (by omega)) (fun hc => ?_) | refine op_eql rfl rfl rfl (fun hc => False.elim (by omega)) (fun hc => ?_))
      exact post2 (.inl rfl) rfl rfl rfl ⟨rfl, rfl⟩
    ·repeat (first | refine W_seq ?_ | refine W_region ?_ | refine W_skip ?_ | refine W_ret ?_ | refine Then_n ?_ | refine Then_r ?_ | refine InBlock_r ?_ | refine Round_r ?_ | refine WL_nil ?_ | refine W_condF rfl ?_ | refine WL_some rfl rfl rfl ?_ | refine WL_guardT rfl rfl rfl rfl ?_ | refine WL_guardF rfl rfl rfl rfl rfl ?_ | refine op_move rfl rfl ?_ | refine op_assign rfl rfl ?_ | refine op_pick rfl rfl rfl rfl ?_ | refine op_add rfl rfl rfl (wrap_i64_in (by omega) (by omega)) ?_ | refine op_gtr rfl rfl rfl (fun hc => False.elim (by omega)) (fun hc => ?_) | refine op_eql rfl rfl rfl (fun hc => False.elim (by omega)) (fun hc => ?_))
     exact post2 (.inl rfl) rfl rfl rfl ⟨rfl, rfl⟩
 ·obtain rfl : i = L.length := by omega
  rw [h3, List.drop_length]
  repeat (first | refine W_seq ?_ | refine W_region ?_ | refine W_exit ?_ | refine W_ret ?_ | refine Then_n ?_ | refine Then_x ?_ | refine InBlock_hit ?_ | refine Round_x ?_ | refine WL_nil ?_ | refine W_condF rfl ?_ | refine WL_some rfl rfl rfl ?_ | refine op_assign rfl rfl ?_)
  exact post2 (.inl rfl) rfl rfl rfl ⟨rfl, rfl⟩
theorem small_has (n : Nat) (w : World) (hn : n < 10) : Has Tryz.prog 171 #[.int .i64 (n : Int)] w (fun v w' => w' = w ∧ v = .string (str [UInt8.ofNat (48 + n)])) := by
 refine enter Tryz.func171 rfl rfl (by decide) rfl (e := [(0, .int .i64 (n : Int))]) ⟨rfl, trivial⟩ ?_
 repeat (first | refine W_seq ?_ | refine W_region ?_ | refine Then_n ?_ | refine WL_nil ?_ | refine W_condT rfl ?_ | refine WL_some rfl rfl rfl ?_ | refine op_move rfl rfl ?_ | refine op_assign rfl rfl ?_ | refine op_add rfl rfl rfl (wrap_i64_in (by omega) (by omega)) ?_ | refine op_lss rfl rfl rfl (fun hc => ?_) (fun hc => False.elim (by omega)))
 refine op_slice_str T (l := n) (h' := n + 1) rfl rfl rfl rfl (some_int (by omega)) (by omega) (by simp; omega) ?_
 repeat (first | refine W_ret ?_ | refine Then_n ?_ | refine Then_r ?_ | refine WL_nil ?_ | refine WL_some rfl rfl rfl ?_ | refine op_assign rfl rfl ?_)
 refine post1 (.inl rfl) rfl rfl ⟨rfl, ?_⟩
 match n, hn with
 | 0, _ => rfl
 | 1, _ => rfl
 | 2, _ => rfl
 | 3, _ => rfl
 | 4, _ => rfl
 | 5, _ => rfl
 | 6, _ => rfl
 | 7, _ => rfl
 | 8, _ => rfl
 | 9, _ => rfl
end Go.Proofs.YtiadjkjlifnopaaGreatDoor.Tryz
/-! bytes.Clone. -/
namespace Go.Proofs.YtiadjkjlifnopaaGreatDoor.Tryz
open Go Go.Vc
theorem clone_has (A : Option Addr) (n c : Nat) (l : List UInt8) (w : World) (hl : SliceOf Ru8 w (.slice A n c) l) (hb : l.length ≤ 1099511627776) :
  Has Tryz.prog 63 #[.slice A n c] w (fun v w' => Chg [] w w' ∧ Own w' 5 1 v l.length (u8s l) ∧ ∀ g, v.ownBlock = some g → w.heap.size ≤ g) := by
 obtain ⟨rfl, hl1, hl2⟩ := hl.len
 refine enter Tryz.func63 rfl rfl (by decide) rfl (e := [(0, .slice A l.length c)]) ⟨rfl, trivial⟩ ?_
 repeat (first | refine W_seq ?_ | refine W_block ?_ | refine W_scope ?_ | refine W_region ?_ | refine W_skip ?_ | refine W_exit ?_ | refine W_ret ?_ | refine W_label ?_ | refine Then_n ?_ | refine Then_x ?_ | refine Then_r ?_ | refine InBlock_hit ?_ | refine InBlock_miss rfl ?_ | refine InBlock_n ?_ | refine InBlock_r ?_ | refine NoGoto_n ?_ | refine NoGoto_x ?_ | refine NoGoto_r ?_ | refine Meet_x ?_ | refine Meet_r ?_ | refine Round_x ?_ | refine Round_r ?_ | refine WL_nil ?_ | refine W_condT rfl ?_ | refine W_condF rfl ?_ | refine WL_some rfl rfl rfl ?_ | refine WL_none rfl rfl ?_ | refine WL_guardT rfl rfl rfl rfl ?_ | refine WL_guardF rfl rfl rfl rfl rfl ?_ | refine WL_guardU rfl rfl rfl rfl ?_ | refine op_move rfl rfl ?_ | refine op_assign rfl rfl ?_ | refine op_pick rfl rfl rfl rfl ?_ | refine op_len_slice T rfl rfl rfl rfl ?_ | refine op_len_string T rfl rfl rfl rfl ?_ | refine op_add rfl rfl rfl (wrap_i64_in (by omega) (by omega)) ?_ | refine op_subt rfl rfl rfl (wrap_i64_in (by omega) (by omega)) ?_ | refine op_mul rfl rfl rfl (wrap_i64_in (by omega) (by omega)) ?_ | refine op_max rfl rfl rfl ?_ | refine op_min rfl rfl rfl ?_ | refine op_notT rfl rfl ?_ | refine op_notF rfl rfl ?_ | refine op_not rfl rfl rfl ?_ | refine op_extract rfl rfl rfl ?_ | refine op_nilCheck rfl rfl ?_ | refine op_rem rfl rfl rfl (by omega) rfl ?_ | refine op_index_own T rfl rfl rfl rfl rfl rfl (by omega) ?_ | refine op_index_nat T rfl rfl rfl rfl rfl rfl (by omega) ?_ | refine op_load T rfl rfl rfl rfl (by assumption) ?_ | refine op_lss rfl rfl rfl (fun hc => ?_) (fun hc => False.elim (by omega)) | refine op_lss rfl rfl rfl (fun hc => False.elim (by omega)) (fun hc => ?_) | refine op_leq rfl rfl rfl (fun hc => ?_) (fun hc => False.elim (by omega)) | refine op_leq rfl rfl rfl (fun hc => False.elim (by omega)) (fun hc => ?_) | refine op_gtr rfl rfl rfl (fun hc => ?_) (fun hc => False.elim (by omega)) | refine op_gtr rfl rfl rfl (fun hc => False.elim (by omega)) (fun hc => ?_) | refine op_geq rfl rfl rfl (fun hc => ?_) (fun hc => False.elim (by omega)) | refine op_geq rfl rfl rfl (fun hc => False.elim (by omega)) (fun hc => ?_) | refine op_eql rfl rfl rfl (fun hc => ?_) (fun hc => False.elim (by omega)) | refine op_eql rfl rfl rfl (fun hc => False.elim (by omega)) (fun hc => ?_) | refine op_neq rfl rfl rfl (fun hc => ?_) (fun hc => False.elim (by omega)) | refine op_neq rfl rfl rfl (fun hc => False.elim (by omega)) (fun hc => ?_))
 refine op_eql_nil T rfl rfl rfl rfl (fun hA => ?_) (fun ad hA => ?_)
 ·have hl0 : l = [] := by
   cases l with
   | nil => rfl
   | cons c l => obtain ⟨ad, u, he, _⟩ := hl.get (i := 0) (x := c) rfl; rw [hA] at he; cases he
  subst hl0
  repeat (first | refine W_seq ?_ | refine W_block ?_ | refine W_scope ?_ | refine W_region ?_ | refine W_skip ?_ | refine W_exit ?_ | refine W_ret ?_ | refine W_label ?_ | refine Then_n ?_ | refine Then_x ?_ | refine Then_r ?_ | refine InBlock_hit ?_ | refine InBlock_miss rfl ?_ | refine InBlock_n ?_ | refine InBlock_r ?_ | refine NoGoto_n ?_ | refine NoGoto_x ?_ | refine NoGoto_r ?_ | refine Meet_x ?_ | refine Meet_r ?_ | refine Round_x ?_ | refine Round_r ?_ | refine WL_nil ?_ | refine W_condT rfl ?_ | refine W_condF rfl ?_ | refine WL_some rfl rfl rfl ?_ | refine WL_none rfl rfl ?_ | refine WL_guardT rfl rfl rfl rfl ?_ | refine WL_guardF rfl rfl rfl rfl rfl ?_ | refine WL_guardU rfl rfl rfl rfl ?_ | refine op_move rfl rfl ?_ | refine op_assign rfl rfl ?_ | refine op_pick rfl rfl rfl rfl ?_ | refine op_len_slice T rfl rfl rfl rfl ?_ | refine op_len_string T rfl rfl rfl rfl ?_ | refine op_add rfl rfl rfl (wrap_i64_in (by omega) (by omega)) ?_ | refine op_subt rfl rfl rfl (wrap_i64_in (by omega) (by omega)) ?_ | refine op_mul rfl rfl rfl (wrap_i64_in (by omega) (by omega)) ?_ | refine op_max rfl rfl rfl ?_ | refine op_min rfl rfl rfl ?_ | refine op_notT rfl rfl ?_ | refine op_notF rfl rfl ?_ | refine op_not rfl rfl rfl ?_ | refine op_extract rfl rfl rfl ?_ | refine op_nilCheck rfl rfl ?_ | refine op_rem rfl rfl rfl (by omega) rfl ?_ | refine op_index_own T rfl rfl rfl rfl rfl rfl (by omega) ?_ | refine op_index_nat T rfl rfl rfl rfl rfl rfl (by omega) ?_ | refine op_load T rfl rfl rfl rfl (by assumption) ?_ | refine op_lss rfl rfl rfl (fun hc => ?_) (fun hc => False.elim (by omega)) | refine op_lss rfl rfl rfl (fun hc => False.elim (by omega)) (fun hc => ?_) | refine op_leq rfl rfl rfl (fun hc => ?_) (fun hc => False.elim (by omega)) | refine op_leq rfl rfl rfl (fun hc => False.elim (by omega)) (fun hc => ?_) | refine op_gtr rfl rfl rfl (fun hc => ?_) (fun hc => False.elim (by omega)) | refine op_gtr rfl rfl rfl (fun hc => False.elim (by omega)) (fun hc => ?_) | refine op_geq rfl rfl rfl (fun hc => ?_) (fun hc => False.elim (by omega)) | refine op_geq rfl rfl rfl (fun hc => False.elim (by omega)) (fun hc => ?_) | refine op_eql rfl rfl rfl (fun hc => ?_) (fun hc => False.elim (by omega)) | refine op_eql rfl rfl rfl (fun hc => False.elim (by omega)) (fun hc => ?_) | refine op_neq rfl rfl rfl (fun hc => ?_) (fun hc => False.elim (by omega)) | refine op_neq rfl rfl rfl (fun hc => False.elim (by omega)) (fun hc => ?_))
  exact post1 (.inl rfl) rfl rfl ⟨Chg.refl _ _, Own.nil _ _ _, fun g h => by simp [Value.ownBlock] at h⟩
 ·subst hA
  repeat (first | refine W_seq ?_ | refine W_block ?_ | refine W_scope ?_ | refine W_region ?_ | refine W_skip ?_ | refine W_exit ?_ | refine W_ret ?_ | refine W_label ?_ | refine Then_n ?_ | refine Then_x ?_ | refine Then_r ?_ | refine InBlock_hit ?_ | refine InBlock_miss rfl ?_ | refine InBlock_n ?_ | refine InBlock_r ?_ | refine NoGoto_n ?_ | refine NoGoto_x ?_ | refine NoGoto_r ?_ | refine Meet_x ?_ | refine Meet_r ?_ | refine Round_x ?_ | refine Round_r ?_ | refine WL_nil ?_ | refine W_condT rfl ?_ | refine W_condF rfl ?_ | refine WL_some rfl rfl rfl ?_ | refine WL_none rfl rfl ?_ | refine WL_guardT rfl rfl rfl rfl ?_ | refine WL_guardF rfl rfl rfl rfl rfl ?_ | refine WL_guardU rfl rfl rfl rfl ?_ | refine op_move rfl rfl ?_ | refine op_assign rfl rfl ?_ | refine op_pick rfl rfl rfl rfl ?_ | refine op_len_slice T rfl rfl rfl rfl ?_ | refine op_len_string T rfl rfl rfl rfl ?_ | refine op_add rfl rfl rfl (wrap_i64_in (by omega) (by omega)) ?_ | refine op_subt rfl rfl rfl (wrap_i64_in (by omega) (by omega)) ?_ | refine op_mul rfl rfl rfl (wrap_i64_in (by omega) (by omega)) ?_ | refine op_max rfl rfl rfl ?_ | refine op_min rfl rfl rfl ?_ | refine op_notT rfl rfl ?_ | refine op_notF rfl rfl ?_ | refine op_not rfl rfl rfl ?_ | refine op_extract rfl rfl rfl ?_ | refine op_nilCheck rfl rfl ?_ | refine op_rem rfl rfl rfl (by omega) rfl ?_ | refine op_index_own T rfl rfl rfl rfl rfl rfl (by omega) ?_ | refine op_index_nat T rfl rfl rfl rfl rfl rfl (by omega) ?_ | refine op_load T rfl rfl rfl rfl (by assumption) ?_ | refine op_lss rfl rfl rfl (fun hc => ?_) (fun hc => False.elim (by omega)) | refine op_lss rfl rfl rfl (fun hc => False.elim (by omega)) (fun hc => ?_) | refine op_leq rfl rfl rfl (fun hc => ?_) (fun hc => False.elim (by omega)) | refine op_leq rfl rfl rfl (fun hc => False.elim (by omega)) (fun hc => ?_) | refine op_gtr rfl rfl rfl (fun hc => ?_) (fun hc => False.elim (by omega)) | refine op_gtr rfl rfl rfl (fun hc => False.elim (by omega)) (fun hc => ?_) | refine op_geq rfl rfl rfl (fun hc => ?_) (fun hc => False.elim (by omega)) | refine op_geq rfl rfl rfl (fun hc => False.elim (by omega)) (fun hc => ?_) | refine op_eql rfl rfl rfl (fun hc => ?_) (fun hc => False.elim (by omega)) | refine op_eql rfl rfl rfl (fun hc => False.elim (by omega)) (fun hc => ?_) | refine op_neq rfl rfl rfl (fun hc => ?_) (fun hc => False.elim (by omega)) | refine op_neq rfl rfl rfl (fun hc => False.elim (by omega)) (fun hc => ?_))
  refine op_buildSlice T rfl rfl rfl rfl rfl rfl rfl (fun g w1 hgs hc1 hg1 => ?_)
  have ho : Own w1 5 1 (.slice (some ⟨g, 0, none⟩) 0 0) 0 [] := Own.mk hg1 (Nat.le_refl _) (Nat.zero_le _) rfl rfl
  have hl' := SliceOf.kept Ru8.kept _ _ _ _ hc1 hl
  repeat (first | refine W_seq ?_ | refine W_block ?_ | refine W_scope ?_ | refine W_region ?_ | refine W_skip ?_ | refine W_exit ?_ | refine W_ret ?_ | refine W_label ?_ | refine Then_n ?_ | refine Then_x ?_ | refine Then_r ?_ | refine InBlock_hit ?_ | refine InBlock_miss rfl ?_ | refine InBlock_n ?_ | refine InBlock_r ?_ | refine NoGoto_n ?_ | refine NoGoto_x ?_ | refine NoGoto_r ?_ | refine Meet_x ?_ | refine Meet_r ?_ | refine Round_x ?_ | refine Round_r ?_ | refine WL_nil ?_ | refine W_condT rfl ?_ | refine W_condF rfl ?_ | refine WL_some rfl rfl rfl ?_ | refine WL_none rfl rfl ?_ | refine WL_guardT rfl rfl rfl rfl ?_ | refine WL_guardF rfl rfl rfl rfl rfl ?_ | refine WL_guardU rfl rfl rfl rfl ?_ | refine op_move rfl rfl ?_ | refine op_assign rfl rfl ?_ | refine op_pick rfl rfl rfl rfl ?_ | refine op_len_slice T rfl rfl rfl rfl ?_ | refine op_len_string T rfl rfl rfl rfl ?_ | refine op_add rfl rfl rfl (wrap_i64_in (by omega) (by omega)) ?_ | refine op_subt rfl rfl rfl (wrap_i64_in (by omega) (by omega)) ?_ | refine op_mul rfl rfl rfl (wrap_i64_in (by omega) (by omega)) ?_ | refine op_max rfl rfl rfl ?_ | refine op_min rfl rfl rfl ?_ | refine op_notT rfl rfl ?_ | refine op_notF rfl rfl ?_ | refine op_not rfl rfl rfl ?_ | refine op_extract rfl rfl rfl ?_ | refine op_nilCheck rfl rfl ?_ | refine op_rem rfl rfl rfl (by omega) rfl ?_ | refine op_index_own T rfl rfl rfl rfl rfl rfl (by omega) ?_ | refine op_index_nat T rfl rfl rfl rfl rfl rfl (by omega) ?_ | refine op_load T rfl rfl rfl rfl (by assumption) ?_ | refine op_lss rfl rfl rfl (fun hc => ?_) (fun hc => False.elim (by omega)) | refine op_lss rfl rfl rfl (fun hc => False.elim (by omega)) (fun hc => ?_) | refine op_leq rfl rfl rfl (fun hc => ?_) (fun hc => False.elim (by omega)) | refine op_leq rfl rfl rfl (fun hc => False.elim (by omega)) (fun hc => ?_) | refine op_gtr rfl rfl rfl (fun hc => ?_) (fun hc => False.elim (by omega)) | refine op_gtr rfl rfl rfl (fun hc => False.elim (by omega)) (fun hc => ?_) | refine op_geq rfl rfl rfl (fun hc => ?_) (fun hc => False.elim (by omega)) | refine op_geq rfl rfl rfl (fun hc => False.elim (by omega)) (fun hc => ?_) | refine op_eql rfl rfl rfl (fun hc => ?_) (fun hc => False.elim (by omega)) | refine op_eql rfl rfl rfl (fun hc => False.elim (by omega)) (fun hc => ?_) | refine op_neq rfl rfl rfl (fun hc => ?_) (fun hc => False.elim (by omega)) | refine op_neq rfl rfl rfl (fun hc => False.elim (by omega)) (fun hc => ?_))
  refine op_append T (n := 0) (xs := []) (m := l.length) (news := u8s l) rfl rfl rfl rfl rfl rfl rfl rfl ho (by rw [u8s_length, Nat.mul_one]) ?_ (by unfold maxLen; omega) (by show (0 + _) * 1 ≤ _; omega) ?_
  ·intro j u hu
   obtain ⟨x, hx, rfl⟩ : ∃ x, l[j]? = some x ∧ u = .int .u8 (x.toNat : Int) := by
    unfold u8s at hu
    rw [List.getElem?_map] at hu
    cases hx : l[j]? with
    | none => simp [hx] at hu
    | some x => simp [hx] at hu; exact ⟨x, rfl, hu.symm⟩
   obtain ⟨ad', u', he, hu', rfl⟩ := hl'.get hx
   exact ⟨⟨ad', he, hu'⟩, rfl⟩
  ·intro v w2 ho2 hc2 hown2 _
   repeat (first | refine W_seq ?_ | refine W_block ?_ | refine W_scope ?_ | refine W_region ?_ | refine W_skip ?_ | refine W_exit ?_ | refine W_ret ?_ | refine W_label ?_ | refine Then_n ?_ | refine Then_x ?_ | refine Then_r ?_ | refine InBlock_hit ?_ | refine InBlock_miss rfl ?_ | refine InBlock_n ?_ | refine InBlock_r ?_ | refine NoGoto_n ?_ | refine NoGoto_x ?_ | refine NoGoto_r ?_ | refine Meet_x ?_ | refine Meet_r ?_ | refine Round_x ?_ | refine Round_r ?_ | refine WL_nil ?_ | refine W_condT rfl ?_ | refine W_condF rfl ?_ | refine WL_some rfl rfl rfl ?_ | refine WL_none rfl rfl ?_ | refine WL_guardT rfl rfl rfl rfl ?_ | refine WL_guardF rfl rfl rfl rfl rfl ?_ | refine WL_guardU rfl rfl rfl rfl ?_ | refine op_move rfl rfl ?_ | refine op_assign rfl rfl ?_ | refine op_pick rfl rfl rfl rfl ?_ | refine op_len_slice T rfl rfl rfl rfl ?_ | refine op_len_string T rfl rfl rfl rfl ?_ | refine op_add rfl rfl rfl (wrap_i64_in (by omega) (by omega)) ?_ | refine op_subt rfl rfl rfl (wrap_i64_in (by omega) (by omega)) ?_ | refine op_mul rfl rfl rfl (wrap_i64_in (by omega) (by omega)) ?_ | refine op_max rfl rfl rfl ?_ | refine op_min rfl rfl rfl ?_ | refine op_notT rfl rfl ?_ | refine op_notF rfl rfl ?_ | refine op_not rfl rfl rfl ?_ | refine op_extract rfl rfl rfl ?_ | refine op_nilCheck rfl rfl ?_ | refine op_rem rfl rfl rfl (by omega) rfl ?_ | refine op_index_own T rfl rfl rfl rfl rfl rfl (by omega) ?_ | refine op_index_nat T rfl rfl rfl rfl rfl rfl (by omega) ?_ | refine op_load T rfl rfl rfl rfl (by assumption) ?_ | refine op_lss rfl rfl rfl (fun hc => ?_) (fun hc => False.elim (by omega)) | refine op_lss rfl rfl rfl (fun hc => False.elim (by omega)) (fun hc => ?_) | refine op_leq rfl rfl rfl (fun hc => ?_) (fun hc => False.elim (by omega)) | refine op_leq rfl rfl rfl (fun hc => False.elim (by omega)) (fun hc => ?_) | refine op_gtr rfl rfl rfl (fun hc => ?_) (fun hc => False.elim (by omega)) | refine op_gtr rfl rfl rfl (fun hc => False.elim (by omega)) (fun hc => ?_) | refine op_geq rfl rfl rfl (fun hc => ?_) (fun hc => False.elim (by omega)) | refine op_geq rfl rfl rfl (fun hc => False.elim (by omega)) (fun hc => ?_) | refine op_eql rfl rfl rfl (fun hc => ?_) (fun hc => False.elim (by omega)) | refine op_eql rfl rfl rfl (fun hc => False.elim (by omega)) (fun hc => ?_) | refine op_neq rfl rfl rfl (fun hc => ?_) (fun hc => False.elim (by omega)) | refine op_neq rfl rfl rfl (fun hc => False.elim (by omega)) (fun hc => ?_))
   refine post1 (.inl rfl) rfl rfl ⟨hc1.trans hc2 (by simp [Value.ownBlock]; omega), by simpa using ho2, fun g' hg' => ?_⟩
   have := hc1.size
   rcases hown2 with h | ⟨g2, h, hge⟩
   ·rw [h] at hg'; simp [Value.ownBlock] at hg'; omega
   ·rw [h] at hg'; injection hg' with hg'; omega
end Go.Proofs.YtiadjkjlifnopaaGreatDoor.Tryz
/-! Sums and seals. -/
namespace Go.Proofs.YtiadjkjlifnopaaGreatDoor.Tryz
open Go Go.Vc
theorem sum_has (A : Option Addr) (n c : Nat) (l : List UInt8) (w : World) (hl : SliceOf Ru8 w (.slice A n c) l) :
  Has Tryz.prog 36 #[.slice A n c] w (fun v w' => w' = w ∧ v = .int .u32 (crc l)) := by
 obtain ⟨rfl, hl1, hl2⟩ := hl.len
 unfold maxLen at hl2
 refine enter Tryz.func36 rfl rfl (by decide) rfl (e := [(0, .slice A l.length c)]) ⟨rfl, trivial⟩ ?_
 repeat (first | refine W_seq ?_ | refine W_block ?_ | refine W_region ?_ | refine Then_n ?_ | refine WL_nil ?_ | refine WL_some rfl rfl rfl ?_ | refine op_move rfl rfl ?_ | refine op_assign rfl rfl ?_ | refine op_len_slice T rfl rfl rfl rfl ?_)
 refine W_loop (σ := Nat) (fun k => [(3, .int .u32 (crcTo (l.take k))), (6, .slice A l.length c), (7, .int .i64 l.length), (8, .int .i64 k)])
  (fun (k : Nat) w' => k ≤ l.length ∧ w' = w) (fun k => l.length - k) 0 ⟨rfl, rfl, rfl, rfl, trivial⟩ ⟨by omega, rfl⟩ ?_
 rintro k w1 ⟨hk, rfl⟩
 repeat (first | refine W_seq ?_ | refine W_region ?_ | refine WL_some rfl rfl rfl ?_)
 (refine op_lss rfl rfl rfl (fun hc => ?_) (fun hc => ?_))
 ·have hlt : k < l.length := by omega
  obtain ⟨ad, u, rfl, hu, rfl⟩ := hl.get (i := k) (List.getElem?_eq_getElem hlt)
  repeat (first | refine W_seq ?_ | refine W_block ?_ | refine W_region ?_ | refine W_skip ?_ | refine Then_n ?_ | refine WL_nil ?_ | refine W_condT rfl ?_ | refine WL_some rfl rfl rfl ?_ | refine op_move rfl rfl ?_ | refine op_assign rfl rfl ?_ | refine op_index_nat T rfl rfl rfl rfl rfl rfl (by omega) ?_ | refine op_load T rfl rfl rfl rfl (by assumption) ?_)
  refine op_convert_int T rfl rfl rfl rfl rfl ?_
  repeat (refine WL_some rfl rfl rfl ?_)
  refine op_xor rfl rfl rfl rfl ?_
  repeat (first | refine W_seq ?_ | refine W_block ?_ | refine W_region ?_ | refine Then_n ?_ | refine WL_nil ?_ | refine WL_some rfl rfl rfl ?_ | refine op_move rfl rfl ?_ | refine op_assign rfl rfl ?_)
  refine W_loop (σ := Nat) (fun j => [(3, .int .u32 (crcBits j (xorU (crcTo (l.take k)) (IntKind.u32.wrap (l[k].toNat : Int))))), (6, .slice (some ad) l.length c), (7, .int .i64 l.length), (8, .int .i64 k), (16, .int .i64 j)])
   (fun (j : Nat) w' => j ≤ 8 ∧ w' = w1) (fun j => 8 - j) 0 ⟨rfl, rfl, rfl, rfl, rfl, trivial⟩ ⟨by omega, rfl⟩ ?_
  rintro j w2 ⟨hj, rfl⟩
  repeat (first | refine W_seq ?_ | refine W_region ?_ | refine WL_some rfl rfl rfl ?_)
  (refine op_lss rfl rfl rfl (fun hc => ?_) (fun hc => ?_))
  ·repeat (first | refine W_seq ?_ | refine W_block ?_ | refine W_region ?_ | refine W_skip ?_ | refine Then_n ?_ | refine WL_nil ?_ | refine W_condT rfl ?_ | refine WL_some rfl rfl rfl ?_ | refine op_move rfl rfl ?_)
   refine op_shr rfl rfl rfl (by decide) rfl ?_
   repeat (first | refine WL_some rfl rfl rfl ?_ | refine op_move rfl rfl ?_)
   refine op_and rfl rfl rfl rfl ?_
   repeat (refine WL_some rfl rfl rfl ?_)
   refine op_neg rfl rfl rfl ?_
   repeat (refine WL_some rfl rfl rfl ?_)
   refine op_and rfl rfl rfl rfl ?_
   repeat (refine WL_some rfl rfl rfl ?_)
   refine op_xor rfl rfl rfl rfl ?_
   repeat (first | refine W_region ?_ | refine Then_n ?_ | refine InBlock_n ?_ | refine WL_nil ?_ | refine WL_some rfl rfl rfl ?_ | refine op_move rfl rfl ?_ | refine op_assign rfl rfl ?_ | refine op_add rfl rfl rfl (wrap_i64_in (by omega) (by omega)) ?_)
   exact Round_n (j + 1) ⟨rfl, rfl, rfl, rfl, rfl, trivial⟩ ⟨by omega, rfl⟩ (by omega)
  ·obtain rfl : j = 8 := by omega
   repeat (first | refine W_seq ?_ | refine W_region ?_ | refine W_exit ?_ | refine Then_n ?_ | refine Then_x ?_ | refine InBlock_hit ?_ | refine InBlock_n ?_ | refine Round_x ?_ | refine WL_nil ?_ | refine W_condF rfl ?_ | refine WL_some rfl rfl rfl ?_ | refine op_move rfl rfl ?_ | refine op_add rfl rfl rfl (wrap_i64_in (by omega) (by omega)) ?_)
   refine Round_n (k + 1) ⟨?_, rfl, rfl, rfl, trivial⟩ ⟨by omega, rfl⟩ (by omega)
   rw [crcTo_take l k hlt]
   rfl
 ·obtain rfl : k = l.length := by omega
  rw [List.take_length]
  repeat (first | refine W_seq ?_ | refine W_region ?_ | refine W_exit ?_ | refine Then_n ?_ | refine Then_x ?_ | refine InBlock_hit ?_ | refine Round_x ?_ | refine WL_nil ?_ | refine W_condF rfl ?_ | refine WL_some rfl rfl rfl ?_ | refine op_move rfl rfl ?_)
  refine op_compl rfl rfl rfl ?_
  repeat (first | refine W_ret ?_ | refine Then_n ?_ | refine WL_nil ?_ | refine WL_some rfl rfl rfl ?_ | refine op_assign rfl rfl ?_)
  exact post1 (.inl rfl) rfl rfl ⟨rfl, rfl⟩
theorem sumN_has (A : Option Addr) (n c : Nat) (l : List UInt8) (w : World) (hl : SliceOf Ru8 w (.slice A n c) l) :
  Has Tryz.prog 36 #[.slice A n c] w (fun v w' => Chg [] w w' ∧ v = .int .u32 (crcN l : Nat)) :=
 (sum_has A n c l w hl).mono fun v w' ⟨h1, h2⟩ => ⟨h1 ▸ Chg.refl _ _, by rw [h2, crc_eq]⟩
theorem cloneB_has (A : Option Addr) (n c : Nat) (l : List UInt8) (w : World) (hl : SliceOf Ru8 w (.slice A n c) l) (hb : l.length ≤ 1099511627776) :
  Has Tryz.prog 63 #[.slice A n c] w (fun v w' => MadeB 5 w w' v l) := (clone_has A n c l w hl hb).mono fun v w' ⟨h1, h2, h3⟩ => ⟨h1, h2, h3⟩
set_option maxHeartbeats 1000000 in
theorem seal_has (A : Option Addr) (n c : Nat) (l : List UInt8) (w : World) (hl : SliceOf Ru8 w (.slice A n c) l) (hb : l.length < 4294967296) :
  Has Tryz.prog 105 #[.slice A n c] w (fun v w' => MadeB 5 w w' v (sealM l)) := by
 obtain ⟨rfl, hl1, hl2⟩ := hl.len
 refine enter Tryz.func105 rfl rfl (by decide) rfl (e := [(0, .slice A l.length c)]) ⟨rfl, trivial⟩ ?_
 repeat (first | refine W_seq ?_ | refine W_region ?_ | refine Then_n ?_ | refine WL_nil ?_ | refine WL_some rfl rfl rfl ?_ | refine op_move rfl rfl ?_ | refine op_assign rfl rfl ?_ | refine op_len_slice T rfl rfl rfl rfl ?_)
 refine op_convert_fit T rfl rfl rfl rfl (wrap_u32_in (by omega) (by omega)) ?_
 repeat (refine WL_some rfl rfl rfl ?_)
 refine op_call rfl rfl rfl (four_has l.length w hb) ?_
 intro v1 w1 m1
 repeat (first | refine W_seq ?_ | refine W_region ?_ | refine Then_n ?_ | refine WL_nil ?_ | refine WL_some rfl rfl rfl ?_ | refine op_move rfl rfl ?_ | refine op_assign rfl rfl ?_)
 obtain ⟨A1, c1, rfl, _, _⟩ := m1.form
 refine op_call rfl rfl rfl (cloneB_has A1 _ c1 _ w1 m1.reads (by simp [fourM_length])) ?_
 intro v2 w2 m2
 have k2 := m2.base m1.chg
 have r2 := SliceOf.kept Ru8.kept _ _ _ _ m2.chg m1.reads
 repeat (first | refine WL_some rfl rfl rfl ?_ | refine op_move rfl rfl ?_)
 refine op_call rfl rfl rfl (sumN_has A1 _ c1 _ w2 r2) ?_
 rintro _ w3 ⟨hc3, rfl⟩
 repeat (refine WL_some rfl rfl rfl ?_)
 refine op_call rfl rfl rfl (four_has _ w3 (crcN_lt _)) ?_
 intro v4 w4 m4
 repeat (refine WL_some rfl rfl rfl ?_)
 have k4 := (k2.keep0 hc3).keep0 m4.chg
 obtain ⟨A4, c4, rfl, _, _⟩ := m4.form
 refine op_appB T rfl rfl rfl rfl rfl rfl rfl rfl rfl k4 m4.reads (by simp [fourM_length]) (fun v5 w5 m5 _ _ => ?_)
 have r5 := SliceOf.kept Ru8.kept _ _ _ _ m5.chg hl
 repeat (first | refine W_seq ?_ | refine W_region ?_ | refine Then_n ?_ | refine WL_nil ?_ | refine WL_some rfl rfl rfl ?_ | refine op_move rfl rfl ?_ | refine op_assign rfl rfl ?_)
 refine op_call rfl rfl rfl (sumN_has A _ c _ w5 r5) ?_
 rintro _ w6 ⟨hc6, rfl⟩
 repeat (refine WL_some rfl rfl rfl ?_)
 refine op_call rfl rfl rfl (four_has _ w6 (crcN_lt _)) ?_
 intro v7 w7 m7
 repeat (refine WL_some rfl rfl rfl ?_)
 have k7 := (m5.keep0 hc6).keep0 m7.chg
 obtain ⟨A7, c7, rfl, _, _⟩ := m7.form
 refine op_appB T rfl rfl rfl rfl rfl rfl rfl rfl rfl k7 m7.reads (by simp [fourM_length]) (fun v8 w8 m8 _ _ => ?_)
 have r8 := SliceOf.kept Ru8.kept _ _ _ _ m8.chg hl
 repeat (first | refine WL_some rfl rfl rfl ?_ | refine op_move rfl rfl ?_)
 refine op_appB T rfl rfl rfl rfl rfl rfl rfl rfl rfl m8 r8 (by simp [fourM_length]; omega) (fun v9 w9 m9 _ _ => ?_)
 repeat (first | refine W_ret ?_ | refine Then_n ?_ | refine WL_nil ?_ | refine WL_some rfl rfl rfl ?_ | refine op_assign rfl rfl ?_)
 exact post1 (.inl rfl) rfl rfl m9
set_option maxHeartbeats 2000000 in
theorem first_has (A : Option Addr) (n c : Nat) (l : List UInt8) (w : World) (hl : SliceOf Ru8 w (.slice A n c) l) (hb : l.length < 4294967296) :
  Has Tryz.prog 158 #[.slice A n c] w (fun v w' => ∃ u, v = .tuple #[u, .int .i64 ((firstM l).2.1 : Nat), .bool (firstM l).2.2] ∧ MadeB 5 w w' u (firstM l).1) := by
 obtain ⟨rfl, hl1, hl2⟩ := hl.len
 unfold maxLen at hl2
 have hnil : ∀ w', Chg [] w w' → MadeB 5 w w' (.slice none 0 0) [] := fun w' hc => ⟨hc, Own.nil _ _ _, fun h hh => by simp [Value.ownBlock] at hh⟩
 unfold firstM
 refine enter Tryz.func158 rfl rfl (by decide) rfl (e := [(0, .slice A l.length c)]) ⟨rfl, trivial⟩ ?_
 repeat (first | refine W_seq ?_ | refine W_region ?_ | refine Then_n ?_ | refine WL_nil ?_ | refine WL_some rfl rfl rfl ?_ | refine op_move rfl rfl ?_ | refine op_assign rfl rfl ?_ | refine op_len_slice T rfl rfl rfl rfl ?_)
 (refine op_lss rfl rfl rfl (fun hc => ?_) (fun hc => ?_))
 ·rw [if_pos (by omega)]
  repeat (first | refine W_seq ?_ | refine W_region ?_ | refine W_ret ?_ | refine Then_n ?_ | refine Then_r ?_ | refine WL_nil ?_ | refine W_condT rfl ?_ | refine WL_some rfl rfl rfl ?_ | refine op_assign rfl rfl ?_)
  exact post3 (.inl rfl) rfl rfl rfl rfl ⟨_, rfl, hnil _ (Chg.refl _ _)⟩
 rw [if_neg (by omega)]
 have s4 := hl.cut (l := 4) (k := l.length) (by omega) (Nat.le_refl _)
 rw [List.take_length] at s4
 have t4 := hl.cut (l := 0) (k := 4) (by omega) (by omega)
 rw [List.drop_zero] at t4
 have hg4 := getFourM_lt l
 repeat (first | refine W_seq ?_ | refine W_skip ?_ | refine Then_n ?_ | refine WL_nil ?_ | refine W_condF rfl ?_)
 refine W_meet (σ := Unit) (fun _ => [(0, .slice A l.length c), (2, .slice none 0 0), (16, .bool (decide (getFourM (l.drop 4) ≠ crcN (l.take 4))))]) (fun _ w' => Chg [] w w') ?_ ?_
 ·refine W_walk 7 [] fol (by kernel_rfl) (by kernel_rfl) ?_
  refine Walk.plain rfl (by intro val w_ hR hp; exact op_move rfl rfl ⟨Chg.refl _ _, rfl⟩) ?_; dsimp only [na1, na2]
  refine Walk.plain rfl (by intro val w_ hR hp; exact op_slice T (l := 4) (h' := l.length) rfl rfl rfl rfl ⟨_, rfl⟩ rfl (by omega) (by omega) ⟨Chg.refl _ _, rfl⟩) ?_; dsimp only [na1, na2]
  refine Walk.plain rfl (by intro val w_ hR hp; exact op_call rfl rfl rfl (getFour_has _ _ _ _ w_ (SliceOf.kept Ru8.kept _ _ _ _ hR s4)) (fun v w' h => h)) ?_; dsimp only [na1, na2]
  refine Walk.plain rfl (by intro val w_ hR hp; exact op_move rfl rfl ⟨Chg.refl _ _, rfl⟩) ?_; dsimp only [na1, na2]
  refine Walk.plain rfl (by intro val w_ hR hp; exact op_slice T (l := 0) (h' := 4) rfl rfl rfl rfl rfl ⟨_, rfl⟩ (by omega) (by omega) ⟨Chg.refl _ _, rfl⟩) ?_; dsimp only [na1, na2]
  refine Walk.plain rfl (by intro val w_ hR hp; exact op_call rfl rfl rfl (sumN_has _ _ _ _ w_ (SliceOf.kept Ru8.kept _ _ _ _ hR t4)) (fun v w' h => h)) ?_; dsimp only [na1, na2]
  refine Walk.plain (v := .bool (decide (getFourM (l.drop 4) ≠ crcN (l.take 4)))) rfl (by intro val w_ hR hp; exact op_neq rfl rfl rfl (fun hc => ⟨Chg.refl _ _, by rw [decide_eq_true (by omega)]⟩) (fun hc => ⟨Chg.refl _ _, by rw [decide_eq_false (by omega)]⟩)) ?_; dsimp only [na1, na2]
  refine Walk.fin ?_
  intro val w1 hc1 hp
  repeat (refine WL_nil ?_)
  exact Meet_n () ⟨rfl, rfl, rfl, trivial⟩ hc1
 rintro _ w1 hc1
 by_cases hh : getFourM (l.drop 4) ≠ crcN (l.take 4)
 ·rw [decide_eq_true hh, if_pos hh]
  repeat (first | refine W_seq ?_ | refine W_region ?_ | refine W_ret ?_ | refine Then_n ?_ | refine Then_r ?_ | refine WL_nil ?_ | refine W_condT rfl ?_ | refine WL_some rfl rfl rfl ?_ | refine op_assign rfl rfl ?_)
  exact post3 (.inl rfl) rfl rfl rfl rfl ⟨_, rfl, hnil _ hc1⟩
 rw [decide_eq_false hh, if_neg hh]
 have hl1' := SliceOf.kept Ru8.kept _ _ _ _ hc1 hl
 repeat (first | refine W_seq ?_ | refine W_region ?_ | refine W_skip ?_ | refine Then_n ?_ | refine W_condF rfl ?_ | refine WL_some rfl rfl rfl ?_ | refine op_move rfl rfl ?_)
 refine op_call rfl rfl rfl (getFour_has A _ c l w1 hl1') ?_
 rintro _ w2 ⟨hc2, rfl⟩
 have hl2' := SliceOf.kept Ru8.kept _ _ _ _ hc2 hl1'
 repeat (refine WL_some rfl rfl rfl ?_)
 refine op_convert_fit T rfl rfl rfl rfl (wrap_u64_in (by omega) (by omega)) ?_
 repeat (first | refine W_seq ?_ | refine W_region ?_ | refine Then_n ?_ | refine WL_nil ?_ | refine WL_some rfl rfl rfl ?_ | refine op_move rfl rfl ?_ | refine op_assign rfl rfl ?_ | refine op_len_slice T rfl rfl rfl rfl ?_ | refine op_subt rfl rfl rfl (wrap_i64_in (by omega) (by omega)) ?_)
 refine op_convert_fit T rfl rfl rfl rfl (wrap_u64_in (by omega) (by omega)) ?_
 repeat (refine WL_some rfl rfl rfl ?_)
 (refine op_gtr rfl rfl rfl (fun hc => ?_) (fun hc => ?_))
 ·rw [if_pos (by omega)]
  repeat (first | refine W_seq ?_ | refine W_region ?_ | refine W_ret ?_ | refine Then_n ?_ | refine Then_r ?_ | refine WL_nil ?_ | refine W_condT rfl ?_ | refine WL_some rfl rfl rfl ?_ | refine op_assign rfl rfl ?_)
  exact post3 (.inl rfl) rfl rfl rfl rfl ⟨_, rfl, hnil _ (hc1.trans' hc2)⟩
 rw [if_neg (by omega)]
 generalize getFourM l = m at *
 repeat (first | refine W_seq ?_ | refine W_region ?_ | refine W_skip ?_ | refine Then_n ?_ | refine WL_nil ?_ | refine W_condF rfl ?_ | refine WL_some rfl rfl rfl ?_ | refine op_move rfl rfl ?_)
 refine op_convert_fit T rfl rfl rfl rfl (wrap_i64_in (by omega) (by omega)) ?_
 repeat (first | refine WL_some rfl rfl rfl ?_ | refine op_add rfl rfl rfl (wrap_i64_in (by omega) (by omega)) ?_)
 refine op_cut T (l := 12) (h' := 12 + m) rfl rfl rfl rfl rfl ⟨_, rfl⟩ ⟨_, some_int (by omega)⟩ hl2' (by omega) (by omega) (fun A6 hA6 => ?_)
 have s6 := hA6 w2 hl2'
 have ex : (l.take (12 + m)).drop 12 = (l.drop 12).take m := by rw [List.drop_take]; congr 1; omega
 rw [ex] at s6
 repeat (first | refine W_seq ?_ | refine W_region ?_ | refine Then_n ?_ | refine WL_nil ?_ | refine WL_some rfl rfl rfl ?_ | refine op_move rfl rfl ?_ | refine op_assign rfl rfl ?_)
 refine op_cut T (l := 8) (h' := l.length) rfl rfl rfl rfl rfl ⟨_, rfl⟩ rfl hl2' (by omega) (by omega) (fun A7 hA7 => ?_)
 have s7 := hA7 w2 hl2'
 rw [List.take_length] at s7
 repeat (refine WL_some rfl rfl rfl ?_)
 refine op_call rfl rfl rfl (getFour_has A7 _ _ _ w2 s7) ?_
 rintro _ w3 ⟨hc3, rfl⟩
 have s63 := SliceOf.kept Ru8.kept _ _ _ _ hc3 s6
 repeat (first | refine WL_some rfl rfl rfl ?_ | refine op_move rfl rfl ?_)
 refine op_call rfl rfl rfl (sumN_has A6 _ _ _ w3 s63) ?_
 rintro _ w4 ⟨hc4, rfl⟩
 have s64 := SliceOf.kept Ru8.kept _ _ _ _ hc4 s63
 have hc04 : Chg [] w w4 := ((hc1.trans' hc2).trans' hc3).trans' hc4
 repeat (refine WL_some rfl rfl rfl ?_)
 (refine op_neq rfl rfl rfl (fun hc => ?_) (fun hc => ?_))
 ·rw [if_pos (by omega)]
  repeat (first | refine W_seq ?_ | refine W_region ?_ | refine W_ret ?_ | refine Then_n ?_ | refine Then_r ?_ | refine WL_nil ?_ | refine W_condT rfl ?_ | refine WL_some rfl rfl rfl ?_ | refine op_assign rfl rfl ?_)
  exact post3 (.inl rfl) rfl rfl rfl rfl ⟨_, rfl, hnil _ hc04⟩
 rw [if_neg (by omega)]
 repeat (first | refine W_seq ?_ | refine W_region ?_ | refine W_skip ?_ | refine Then_n ?_ | refine WL_nil ?_ | refine W_condF rfl ?_ | refine WL_some rfl rfl rfl ?_)
 refine op_buildSlice T rfl rfl rfl rfl rfl rfl rfl (fun g w5 hgs hc5 hg5 => ?_)
 have k5 : MadeB 5 w w5 (.slice (some ⟨g, 0, none⟩) 0 0) [] := ⟨hc04.trans' hc5, Own.mk hg5 (Nat.le_refl _) (Nat.zero_le _) rfl rfl, fun h hh => by simp [Value.ownBlock] at hh; have := hc04.size; omega⟩
 have s65 := SliceOf.kept Ru8.kept _ _ _ _ hc5 s64
 repeat (first | refine WL_some rfl rfl rfl ?_ | refine op_move rfl rfl ?_)
 refine op_appB T rfl rfl rfl rfl rfl rfl rfl rfl rfl k5 s65 (by simp; omega) (fun v6 w6 m6 _ _ => ?_)
 repeat (first | refine WL_some rfl rfl rfl ?_ | refine op_move rfl rfl ?_)
 refine op_convert_fit T rfl rfl rfl rfl (wrap_i64_in (by omega) (by omega)) ?_
 repeat (first | refine W_ret ?_ | refine Then_n ?_ | refine WL_nil ?_ | refine WL_some rfl rfl rfl ?_ | refine op_assign rfl rfl ?_ | refine op_add rfl rfl rfl (wrap_i64_in (by omega) (by omega)) ?_)
 exact post3 (.inl rfl) rfl rfl (some_int (by dsimp only; omega)) rfl ⟨_, rfl, m6⟩
end Go.Proofs.YtiadjkjlifnopaaGreatDoor.Tryz
/-! Edits: where one lies; Check; numbers written one behind the other. -/
namespace Go.Vc
open Go
theorem op_max4 {P : Program} {N : Nat} {e : Env} {w : World} {K : Value → World → Prop} {o : Oper} {x y z u : Operand} {ts : Array TypeId} {k : IntKind} {a b c d : Int}
  (hop : o.op = .call { callee := .builtin .max, args := #[x, y, z, u], argTypes := ts }) (hx : ev e x = some (.int k a)) (hy : ev e y = some (.int k b)) (hz : ev e z = some (.int k c)) (hu : ev e u = some (.int k d))
  (h : K (.int k (max (max (max a b) c) d)) w) : OpW P N o e w K := by
 have hm : ∀ m n : Int, (if n > m then n else m) = max m n := fun m n => by split <;> omega
 refine OpW_run (v := .int k (max (max (max a b) c) d)) (w' := w) (fun f hf => ?_) h
 simp [execOp, hop, hf.ev hx, hf.ev hy, hf.ev hz, hf.ev hu, resolve, invoke, builtin, Builtin.max_, Builtin.max2, ← hm]
structure EdV where
 e : EditM
 va : Value
 vd : Value
 vp : Value
 vr : Value
 Q : List ParV
def edL (x : EdV) : List Value := [.int .i64 x.e.next, .int .i64 x.e.seq, x.va, x.vd, x.vp, x.vr]
theorem edL_len (x : EdV) : (edL x).length = 6 := rfl
structure ERd (w : World) (x : EdV) : Prop where
 adds : SliceK 6 (RdL segL) w x.va x.e.adds
 dels : SliceOf Ri64 w x.vd x.e.dels
 pars : SliceK 5 (RdL parL) w x.vp x.Q
 parsE : x.Q.map (·.p) = x.e.pars
 prd : ∀ q ∈ x.Q, PRd w q
 drops : SliceOf Ri64 w x.vr x.e.drops
theorem ERd.keep0 {w w' : World} {x : EdV} (h : ERd w x) (hc : Chg [] w w') : ERd w' x :=
 ⟨h.adds.keepR hc, SliceOf.kept Ri64.kept _ _ _ _ hc h.dels, h.pars.keepR hc, h.parsE, fun q hq => (h.prd q hq).keep0 hc, SliceOf.kept Ri64.kept _ _ _ _ hc h.drops⟩
end Go.Vc
namespace Go.Proofs.YtiadjkjlifnopaaGreatDoor.Tryz
open Go Go.Vc
structure EdI (e : EditM) : Prop where
 next : I64 e.next
 seq : I64 e.seq
 adds : ∀ s ∈ e.adds, SegI s
 pars : ∀ p ∈ e.pars, ParI p
theorem any_not {α : Type} (p : α → Bool) (l : List α) : (l.any fun x => !p x) = !l.all p := by
 induction l with
 | nil => rfl
 | cons a l ih => rw [List.any_cons, List.all_cons, ih, Bool.not_and]
section
variable {w : World}
theorem two_i64 {g : Nat} {a b : Int} (hg : Blk w g 2 [.int .i64 a, .int .i64 b]) (ha : I64 a) (hb : I64 b) : SliceOf Ri64 w (.slice (some ⟨g, 0, none⟩) 2 2) [a, b] :=
 SliceOf.of_blk hg rfl (Nat.le_refl _) (by decide) (fun i y hy => by
  match i, hy with
  | 0, hy => cases hy; exact ⟨_, rfl, rfl, ha.1, ha.2⟩
  | 1, hy => cases hy; exact ⟨_, rfl, rfl, hb.1, hb.2⟩)
set_option maxHeartbeats 2000000 in
theorem checkE_has (x : EdV) (hI : EdI x.e) (hr : ERd w x) :
  Has Tryz.prog 95 #[.agg (edL x).toArray] w (fun v w' => Chg [] w w' ∧ v = .int .i64 (if editB x.e then 0 else 10)) := by
 refine enter Tryz.func95 rfl rfl (by decide) rfl (e := [(0, .agg (edL x).toArray)]) ⟨rfl, trivial⟩ ?_
 obtain ⟨e, va, vd, vp, vr, Q⟩ := x
 obtain ⟨ha, hd, hp, hpe, hpr, hdr⟩ := hr
 dsimp only at ha hd hp hpe hpr hdr hI ⊢
 obtain ⟨Aa, ca, rfl, ha1, ha2⟩ := ha.form
 obtain ⟨Ad, cd, rfl, hd1, hd2⟩ := hd.form
 obtain ⟨Ap, cp, rfl, hp1, hp2⟩ := hp.form
 obtain ⟨Ar, cr, rfl, hr1, hr2⟩ := hdr.form
 have hpl : Q.length = e.pars.length := by rw [← hpe, List.length_map]
 refine run ?_
 refine go T 2 rfl ?_
 refine o1 rfl ?_
 refine op_box rfl rfl (fun g1 w1 hs1 hc1 h1 => ?_)
 have h1 : Blk w1 g1 49 [.int .i64 e.next, .int .i64 e.seq, .slice Aa e.adds.length ca, .slice Ad e.dels.length cd, .slice Ap Q.length cp, .slice Ar e.drops.length cr] := h1
 refine go T 9 rfl ?_
 refine ldB T h1 rfl rfl rfl rfl rfl rfl ?_
 refine go T 1 rfl ?_
 refine ldB T h1 rfl rfl rfl rfl rfl rfl ?_
 refine o1 rfl ?_
 refine op_buildSlice T rfl rfl rfl rfl rfl rfl rfl (fun g2 w2 hs2 hc2 h2 => ?_)
 have h2 : Blk w2 g2 2 [.int .i64 e.next, .int .i64 e.seq] := h2
 refine o1 rfl ?_
 refine op_call rfl rfl rfl (in_has 0 1125899906842624 _ _ _ _ (two_i64 h2 hI.next hI.seq)) ?_
 rintro _ w3 ⟨hc3, rfl⟩
 replace h1 := (h1.keep0 hc2).keep0 hc3
 have hc : Chg [] w w3 := (hc1.trans' hc2).trans' hc3
 clear hc1 hc2 hc3 h2
 unfold editB
 cases inB 0 1125899906842624 [e.next, e.seq] with
 | false =>
  refine go T 16 rfl ?_
  exact post1 (.inl rfl) rfl rfl ⟨hc, rfl⟩
 | true =>
 refine go T 8 rfl ?_
 refine ldB T h1 rfl rfl rfl rfl rfl rfl ?_
 refine go T 2 rfl ?_
 refine ldB T h1 rfl rfl rfl rfl rfl rfl ?_
 refine go T 2 rfl ?_
 refine ldB T h1 rfl rfl rfl rfl rfl rfl ?_
 refine go T 2 rfl ?_
 refine ldB T h1 rfl rfl rfl rfl rfl rfl ?_
 refine go T 1 rfl ?_
 refine o1 rfl ?_
 refine op_max4 rfl rfl rfl rfl rfl ?_
 by_cases hm : 60 < max (max (max (e.adds.length : Int) e.dels.length) Q.length) e.drops.length
 ·have : (decide (e.adds.length ≤ 60) && decide (e.dels.length ≤ 60) && decide (e.pars.length ≤ 60) && decide (e.drops.length ≤ 60)) = false := by
   rw [Bool.eq_false_iff]
   simp only [ne_eq, Bool.and_eq_true, decide_eq_true_eq]
   omega
  rw [this]
  refine gtT rfl rfl rfl rfl (by omega) ?_
  refine go T 15 rfl ?_
  exact post1 (.inl rfl) rfl rfl ⟨hc, rfl⟩
 have : (decide (e.adds.length ≤ 60) && decide (e.dels.length ≤ 60) && decide (e.pars.length ≤ 60) && decide (e.drops.length ≤ 60)) = true := by
  simp only [Bool.and_eq_true, decide_eq_true_eq]
  omega
 rw [this, Bool.true_and, Bool.true_and]
 refine gtF rfl rfl rfl rfl (by omega) ?_
 refine go T 7 rfl ?_
 refine ldB T h1 rfl rfl rfl rfl rfl rfl ?_
 refine o1 rfl ?_
 refine op_call rfl rfl rfl (in_has 1 1125899906842624 _ _ _ _ (SliceOf.kept Ri64.kept _ _ _ _ hc hd)) ?_
 rintro _ w4 ⟨hc4, rfl⟩
 replace h1 := h1.keep0 hc4
 replace hc := hc.trans' hc4
 cases inB 1 1125899906842624 e.dels with
 | false =>
  refine go T 16 rfl ?_
  exact post1 (.inl rfl) rfl rfl ⟨hc, rfl⟩
 | true =>
 rw [Bool.true_and]
 refine go T 8 rfl ?_
 refine ldB T h1 rfl rfl rfl rfl rfl rfl ?_
 refine o1 rfl ?_
 refine op_call rfl rfl rfl (in_has 1 1125899906842624 _ _ _ _ (SliceOf.kept Ri64.kept _ _ _ _ hc hdr)) ?_
 rintro _ w5 ⟨hc5, rfl⟩
 replace h1 := h1.keep0 hc5
 replace hc := hc.trans' hc5
 cases inB 1 1125899906842624 e.drops with
 | false =>
  refine go T 16 rfl ?_
  exact post1 (.inl rfl) rfl rfl ⟨hc, rfl⟩
 | true =>
 rw [Bool.true_and]
 refine go T 8 rfl ?_
 refine ldB T h1 rfl rfl rfl rfl rfl rfl ?_
 refine o1 rfl ?_
 refine op_call rfl rfl rfl (hasSeg_has _ _ _ _ 134 #[] (fun s => !segB s) (ha.keepR hc) (fun w1 s _ hs => check1_has s (hI.adds s hs))) ?_
 rintro _ w6 ⟨hc6, rfl⟩
 replace h1 := h1.keep0 hc6
 replace hc := hc.trans' hc6
 rw [any_not]
 cases e.adds.all segB with
 | false =>
  refine go T 15 rfl ?_
  exact post1 (.inl rfl) rfl rfl ⟨hc, rfl⟩
 | true =>
 rw [Bool.true_and]
 refine go T 6 rfl ?_
 refine ldB T h1 rfl rfl rfl rfl rfl rfl ?_
 refine o1 rfl ?_
 refine op_call rfl rfl rfl (hasPar_has _ _ _ _ 137 #[] (fun q => !parB q.p) (hp.keepR hc) (fun w1 q h1 hq => check2_has q (hI.pars q.p (by rw [← hpe]; exact List.mem_map.2 ⟨q, hq, rfl⟩)) ((hpr q hq).keep0 (hc.trans' h1)))) ?_
 rintro _ w7 ⟨hc7, rfl⟩
 replace hc := hc.trans' hc7
 rw [any_not (fun q : ParV => parB q.p), show (Q.all fun q => parB q.p) = e.pars.all parB from by rw [← hpe, List.all_map]; rfl]
 cases e.pars.all parB with
 | false =>
  refine go T 12 rfl ?_
  exact post1 (.inl rfl) rfl rfl ⟨hc, rfl⟩
 | true =>
  refine go T 13 rfl ?_
  exact post1 (.inl rfl) rfl rfl ⟨hc, rfl⟩
end
end Go.Proofs.YtiadjkjlifnopaaGreatDoor.Tryz
/-! Rows of the call's own: what lies outside of them; one element more. -/
namespace Go.Vc
open Go
section
variable {w0 w : World} {g : Nat}
theorem fresh_of {v v' : Value} (hf : ∀ h, v.ownBlock = some h → w0.heap.size ≤ h) (hw : w0.heap.size ≤ w.heap.size) (hb : v'.ownBlock = v.ownBlock ∨ ∃ h, v'.ownBlock = some h ∧ w.heap.size ≤ h) : ∀ h, v'.ownBlock = some h → w0.heap.size ≤ h := fun h hh => by
 rcases hb with hb | ⟨h', hb, hge⟩
 ·exact hf h (by rw [← hb]; exact hh)
 ·rw [hb] at hh; injection hh with hh; omega
theorem out_of {t t' : TypeId} {cs : List Value} {s n : Nat} {v : Value} {xs : List Value} (hb : Blk w g t cs) (ho : Own w t' s v n xs) (hne : t ≠ t') : g ∉ v.ownBlock.toList := fun hm => by
 obtain ⟨cur, hr⟩ := ho.row (show v.ownBlock = some g by simpa using hm)
 exact hb.ne_ hr hne rfl
theorem out_own {t t' : TypeId} {s s' n n' : Nat} {v u : Value} {xs ys : List Value} (h1 : Own w t s v n xs) (h2 : Own w t' s' u n' ys) (hne : t ≠ t') : ∀ k, v.ownBlock = some k → k ∉ u.ownBlock.toList := fun k hk hm => by
 obtain ⟨cur, hr⟩ := h1.row hk
 exact out_of hr h2 hne hm
theorem out_lt {v : Value} {t : TypeId} {s n h : Nat} {xs : List Value} (ho : Own w t s v n xs) (hh : w.heap.size ≤ h) : h ∉ v.ownBlock.toList := fun hm => by
 have := ho.lt (show v.ownBlock = some h by simpa using hm)
 omega
end
section
variable {P : Program} {N : Nat} {e : Env} {w : World} {o : Oper} {K : Value → World → Prop}
theorem op_append1 (T : Types P) {α : Type} {f : α → Value} {x y : Operand} {t el : TypeId} {d : TInfo} {v : Value} {g5 c : Nat} {L : List α} {a : α} {ts : Array TypeId}
  (hop : o.op = .call { callee := .builtin .append, args := #[x, y], argTypes := ts }) (hts : ts = #[t, t]) (hx : ev e x = some v) (hy : ev e y = some (.slice (some ⟨g5, 0, none⟩) 1 c)) (ht : T.d t = some (.slice el)) (hel : T.tbl el = some d)
  (hz : Nat.beq d.zero.cells.size d.size = true) (hsz : Nat.beq d.size 1 = true) (hby : Nat.ble d.bytes 1000 = true)
  (hown : Own w el 1 v L.length (L.map f)) (hg : Blk w g5 el [f a]) (h1 : (f a).oneCell' = true) (hlim : L.length < 1000000)
  (h : ∀ v' w1, Own w1 el 1 v' (L ++ [a]).length ((L ++ [a]).map f) → Chg v.ownBlock.toList w w1 → (v'.ownBlock = v.ownBlock ∨ ∃ g, v'.ownBlock = some g ∧ w.heap.size ≤ g) → K v' w1) : OpW P N o e w K := by
 have hm : ∀ l : List α, l.map f = l.flatMap (fun x => [f x]) := fun l => by induction l with
  | nil => rfl
  | cons a l ih => simp [ih]
 refine op_appendK T (f := fun x => [f x]) (k := 1) (a := a) (fun _ => rfl) hop hts hx hy ht hel hz (by rw [Nat.eq_of_beq_eq_true hsz]; rfl) hsz hby (by rw [← hm]; exact hown) hg (by simpa using h1) hlim (fun v' w1 ho hc hb => h v' w1 (by rw [hm]; exact ho) hc hb)
end
theorem op_eql_d {P : Program} {N : Nat} {e : Env} {w : World} {o : Oper} {K : Value → World → Prop} {t ty : TypeId} {x y : Operand} {k : IntKind} {m n : Int} (hop : o.op = .binOp .eql t x y ty) (hx : ev e x = some (.int k m)) (hy : ev e y = some (.int k n)) (h : K (.bool (decide (m = n))) w) : OpW P N o e w K :=
 op_eql hop hx hy (fun e => by rw [decide_eq_true e] at h; exact h) (fun e => by rw [decide_eq_false e] at h; exact h)
end Go.Vc
/-! Edits: numbers written one behind the other; an edit's text. -/
namespace Go.Proofs.YtiadjkjlifnopaaGreatDoor.Tryz
open Go Go.Vc
structure WrAt (w0 w : World) (g : Nat) (l : List UInt8) (v : Value) : Prop where
 blk : Blk w g 197 [v]
 made : MadeB 5 w0 w v l
 ge : w0.heap.size ≤ g
section
variable {w0 w w' : World} {g : Nat} {l pre : List UInt8} {v v' : Value}
theorem WrAt.keep0 (h : WrAt w0 w g l v) (hc : Chg [] w w') : WrAt w0 w' g l v := ⟨h.blk.keep0 hc, h.made.keep0 hc, h.ge⟩
theorem WrAt.chg (h : WrAt w0 w g l v) : Chg [] w0 w := h.made.chg
theorem WrAt.out (h : WrAt w0 w g l v) {k : Nat} {t : TypeId} {cs : List Value} (hb : Blk w k t cs) (h1 : t ≠ 197) (h2 : t ≠ 5) : k ∉ g :: v.ownBlock.toList := fun hm => by
 rcases List.mem_cons.1 hm with rfl | hm
 ·exact hb.ne_ h.blk h1 rfl
 ·exact out_of hb h.made.own h2 hm
def WrDone (w0 w : World) (g : Nat) (v : Value) (l : List UInt8) (w' : World) : Prop := Chg (g :: v.ownBlock.toList) w w' ∧ ∃ v', WrAt w0 w' g l v' ∧ (v'.ownBlock = v.ownBlock ∨ ∃ h, v'.ownBlock = some h ∧ w.heap.size ≤ h)
theorem nums_keep {l : List Int} {A : Option Addr} {n c : Nat} (hs : SliceOf Ri64 w (.slice A n c) l) (hx : WrAt w0 w g pre v) (ho : ∀ ad, A = some ad → l ≠ [] → ad.block ∉ g :: v.ownBlock.toList) (hc : Chg (g :: v.ownBlock.toList) w w') : SliceOf Ri64 w' (.slice A n c) l := by
 obtain ⟨rfl, h1, h2⟩ := hs.len
 refine SliceOf.mk rfl h1 h2 (fun i x hx => ?_)
 obtain ⟨ad, u, rfl, hu, hr⟩ := hs.get hx
 exact ⟨ad, u, rfl, hc.cell hu (by rw [block_of_add]; exact ho _ rfl (fun e => by rw [e] at hx; simp at hx)), hr⟩
set_option maxHeartbeats 2000000 in
theorem nums_has {pre : List UInt8} {ns : List Int} (x : WrAt w0 w g pre v) {A : Option Addr} {n c : Nat} (hs : SliceOf Ri64 w (.slice A n c) ns) (ho : ∀ ad, A = some ad → ns ≠ [] → ad.block ∉ g :: v.ownBlock.toList) (hp : ∀ n ∈ ns, 0 ≤ n) (hl : pre.length + 10 * ns.length < 100000000) :
  Has Tryz.prog 156 #[.pointer (some ⟨g, 0, none⟩), .slice A n c] w (fun u w' => WrDone w0 w g v (pre ++ numsE ns) w') := by
 obtain ⟨rfl, hl1, hl2⟩ := hs.len
 unfold maxLen at hl2
 refine enter Tryz.func156 rfl rfl (by decide) rfl (e := [(0, .pointer (some ⟨g, 0, none⟩)), (1, .slice A ns.length c)]) ⟨rfl, rfl, trivial⟩ ?_
 refine run ?_
 refine go T 8 rfl ?_
 refine W_loop (σ := Nat) (fun i => [(0, .pointer (some ⟨g, 0, none⟩)), (6, .slice A ns.length c), (7, .int .i64 ns.length), (8, .int .i64 i)])
  (fun i w' => i ≤ ns.length ∧ (pre ++ numsE (ns.take i)).length ≤ pre.length + 10 * i ∧ WrDone w0 w g v (pre ++ numsE (ns.take i)) w') (fun i => ns.length - i) 0 ⟨rfl, rfl, rfl, rfl, trivial⟩
  ⟨Nat.zero_le _, by simp [numsE], Chg.refl _ _, v, by simpa [numsE] using x, .inl rfl⟩ ?_
 rintro i w1 ⟨hi, hlen, hc1, v1, x1, hb1⟩
 have hs1 := nums_keep hs x ho hc1
 refine run ?_
 refine go T 2 rfl ?_
 refine ltS rfl rfl rfl rfl (fun hcmp => ?_) (fun hcmp => ?_)
 ·have hlt : i < ns.length := by omega
  have hx := List.getElem?_eq_getElem hlt
  have hpos := hp _ (List.getElem_mem hlt)
  obtain ⟨ad, u, rfl, hu, rfl, hr⟩ := hs1.get hx
  have htk : numsE (ns.take (i + 1)) = numsE (ns.take i) ++ putM (ns[i]).toNat := by rw [List.take_add_one, hx, numsE_append]; simp [numsE]
  generalize ns[i] = z at *
  obtain ⟨zn, rfl⟩ : ∃ k : Nat, z = (k : Int) := ⟨z.toNat, by omega⟩
  rw [Int.toNat_natCast] at htk
  have hpl := putM_len10 (n := zn) (by omega)
  have hblk := x1.blk
  have hown := x1.made.own
  have hfr : ∀ k, v1.ownBlock = some k → w0.heap.size ≤ k := x1.made.fresh
  have hgv : g ∉ v1.ownBlock.toList := out_of x1.blk x1.made.own (by decide)
  refine go T 10 rfl ?_
  refine o1 rfl (op_index_nat T rfl rfl rfl rfl rfl rfl (by omega) ?_)
  refine o1 rfl (op_load T rfl rfl rfl rfl (by assumption) ?_)
  refine go T 3 rfl ?_
  refine Q.W_walkq 9 8 v1.ownBlock.toList fol (by kernel_rfl) (by kernel_rfl) ?_
  refine Q.Walk.plain rfl rfl (by intro val w_ hR hp; exact op_move rfl rfl ⟨Chg.refl _ _, rfl⟩) ?_; dsimp only [na1, na2]
  refine Q.Walk.plain rfl rfl (by intro val w_ hR hp; exact op_move rfl rfl ⟨Chg.refl _ _, rfl⟩) ?_; dsimp only [na1, na2]
  refine Q.Walk.plain rfl rfl (by intro val w_ hR hp; exact op_nilCheck rfl rfl ⟨Chg.refl _ _, rfl⟩) ?_; dsimp only [na1, na2]
  refine Q.Walk.plain rfl rfl (by intro val w_ hR hp; exact op_fieldAddr T rfl rfl rfl rfl rfl rfl rfl rfl ⟨Chg.refl _ _, rfl⟩) ?_; dsimp only [na1, na2]
  refine Q.Walk.plain rfl rfl (by intro val w_ hR hp; exact op_loadB T rfl rfl rfl rfl (hblk.keep hR (by assumption)) (by exact rfl) ⟨Chg.refl _ _, rfl⟩) ?_; dsimp only [na1, na2]
  refine Q.Walk.plain rfl rfl (by intro val w_ hR hp; exact op_move rfl rfl ⟨Chg.refl _ _, rfl⟩) ?_; dsimp only [na1, na2]
  refine Q.Walk.plain rfl rfl (by intro val w_ hR hp; exact op_convert_fit T rfl rfl rfl rfl (wrap_u64_in (by omega) (by omega)) ⟨Chg.refl _ _, rfl⟩) ?_; dsimp only [na1, na2]
  refine Q.Walk.rel rfl (fun u w' => Own w' 5 1 u (putM zn).length (u8s (putM zn)) ∧ ∀ h, u.ownBlock = some h → w1.heap.size ≤ h) rfl (fun u a b h hab => ⟨h.1.keep hab (fun k hk hm => by have := h.2 k hk; have := hown.lt (show v1.ownBlock = some k by simpa using hm); omega), h.2⟩) ?_ ?_
  ·intro val w_ hR hp
   exact op_call rfl rfl rfl (put_has zn _ (by omega)) (fun u w' m => ⟨m.chg, m.own, fun h hh => by have := m.fresh h hh; have := hR.size; omega⟩)
  dsimp only [List.nil_append, List.cons_append]
  refine Q.Walk.turn rfl (fun u w' => MadeB 5 w0 w' u (pre ++ numsE (ns.take i) ++ putM zn) ∧ (u.ownBlock = v1.ownBlock ∨ ∃ h, u.ownBlock = some h ∧ w1.heap.size ≤ h)) rfl (fun v a b h hab => ⟨h.1.keep0 hab, h.2⟩) ?_ ?_
  ·intro val w_ hR hp
   have h7 : Own w_ 5 1 (val 7) (putM zn).length (u8s (putM zn)) ∧ ∀ h, (val 7).ownBlock = some h → w1.heap.size ≤ h := hp 7 rfl _ _ rfl rfl
   obtain ⟨A7, c7, e7, _, _⟩ := h7.1.form
   rw [e7] at h7
   exact op_appB T rfl rfl rfl (congrArg some e7) rfl rfl rfl rfl rfl (x1.made.keep0 hR) h7.1.bytes (by omega) (fun v' w' m hc hb => ⟨hc, m, hb.imp _root_.id (fun ⟨h, h1, h2⟩ => ⟨h, h1, by have := hR.size; omega⟩)⟩)
  dsimp only [List.nil_append, List.cons_append]
  refine Q.Walk.fin ?_
  intro val w6 hc6 hp6
  obtain ⟨m6, hb6⟩ : MadeB 5 w0 w6 (val 8) (pre ++ numsE (ns.take i) ++ putM zn) ∧ ((val 8).ownBlock = v1.ownBlock ∨ ∃ h, (val 8).ownBlock = some h ∧ w1.heap.size ≤ h) := hp6 8 (by omega) _ _ rfl rfl
  clear hp6
  refine WL_sub (e' := [(0, .pointer (some ⟨g, 0, none⟩)), (6, .slice (some ad) ns.length c), (7, .int .i64 ns.length), (8, .int .i64 i), (12, .pointer (some ⟨g, 0, none⟩)), (20, val 8)]) ⟨rfl, rfl, rfl, rfl, rfl, rfl, trivial⟩ ?_
  generalize val 8 = u6 at m6 hb6
  obtain ⟨A6, c6, rfl, _, _⟩ := m6.form
  have hj6 := hblk.keep hc6 hgv
  refine runL ?_
  refine go T 2 rfl ?_
  refine op0 rfl rfl ?_
  refine op_store T rfl rfl rfl rfl rfl rfl hj6 (by simp) (fun w7 hc7 hj7 _ => ?_)
  have hj7 : Blk w7 g 197 [.slice A6 (pre ++ numsE (ns.take i) ++ putM zn).length c6] := hj7
  have hc17 : Chg (g :: v1.ownBlock.toList) w1 w7 := (hc6.mono (fun k hk _ => List.mem_cons_of_mem _ hk)).trans hc7 (fun k hk _ => by simp at hk; subst hk; exact List.mem_cons_self ..)
  have hge := x1.ge
  have m7 : MadeB 5 w0 w7 (.slice A6 (pre ++ numsE (ns.take i) ++ putM zn).length c6) (pre ++ numsE (ns.take i) ++ putM zn) := ⟨m6.chg.trans hc7 (fun k hk hlt => by simp at hk; omega), m6.own.keep hc7 (fun k hk hm => by
   simp at hm; subst hm
   exact out_of hj6 m6.own (by decide) (by simpa using hk)), m6.fresh⟩
  have he : pre ++ numsE (ns.take i) ++ putM zn = pre ++ numsE (ns.take (i + 1)) := by rw [htk, List.append_assoc]
  have hl7 : (pre ++ numsE (ns.take (i + 1))).length ≤ pre.length + 10 * (i + 1) := by rw [← he, List.length_append]; omega
  rw [he] at m7 hj7
  refine go T 4 rfl ?_
  refine adI rfl rfl rfl rfl (by omega) (by omega) ?_
  refine go T 2 rfl ?_
  refine Round_n (i + 1) ⟨rfl, rfl, rfl, rfl, trivial⟩ ⟨by omega, hl7, ?_, _, ⟨hj7, m7, hge⟩, ?_⟩ (by omega)
  ·refine hc1.trans hc17 (fun k hk hlt => ?_)
   rcases List.mem_cons.1 hk with rfl | hk
   ·exact List.mem_cons_self ..
   ·rcases hb1 with hb | ⟨h, hb, hge2⟩
    ·rw [hb] at hk; exact List.mem_cons_of_mem _ hk
    ·rw [hb] at hk; simp at hk; omega
  ·have hsz := hc1.size
   rw [he] at hb6
   rcases hb6 with hb | ⟨h, hb, hge2⟩
   ·rw [hb]
    exact hb1
   ·exact .inr ⟨h, hb, by omega⟩
 ·obtain rfl : i = ns.length := by omega
  rw [List.take_length] at x1
  refine go T 6 rfl ?_
  refine rndX ?_
  refine go T 1 rfl ?_
  exact post0 (.inr rfl) rfl ⟨hc1, v1, x1, hb1⟩
end
end Go.Proofs.YtiadjkjlifnopaaGreatDoor.Tryz
/-! Edits: an edit's text, and its seal. -/
namespace Go.Vc
open Go
theorem slice_lt {w : World} {A : Option Addr} {n c : Nat} {l : List Int} (h : SliceOf Ri64 w (.slice A n c) l) : ∀ ad, A = some ad → l ≠ [] → ad.block < w.heap.size := fun ad ha hl => by
 cases l with
 | nil => exact absurd rfl hl
 | cons x l =>
  obtain ⟨ad', u, e, hu, _⟩ := h.get (i := 0) (x := x) rfl
  rw [ha] at e; injection e with e; subst e
  have := World.block_lt_of_cell? w _ hu
  rwa [block_of_add] at this
theorem cells_i64 {w : World} {g : Nat} {t : TypeId} {l : List Int} (hg : Blk w g t (l.map (Value.int .i64))) (h : ∀ n ∈ l, -9223372036854775808 ≤ n ∧ n ≤ 9223372036854775807) (hl : l.length ≤ 100000000) : SliceOf Ri64 w (.slice (some ⟨g, 0, none⟩) l.length l.length) l :=
 SliceOf.of_blk hg rfl (Nat.le_refl _) (by unfold maxLen; omega) (fun i y hy => ⟨_, by rw [List.getElem?_map, hy]; rfl, rfl, (h y (List.mem_of_getElem? hy)).1, (h y (List.mem_of_getElem? hy)).2⟩)
theorem segE_snoc (l : List SegM) (s : SegM) : (l ++ [s]).flatMap segE = l.flatMap segE ++ segE s := by rw [List.flatMap_append]; simp
theorem pairE_take : ∀ (ns zs : List Int) (j : Nat) {y z : Int}, zs.length = ns.length → ns[j]? = some y → zs[j]? = some z → pairE (ns.take (j + 1)) (zs.take (j + 1)) = pairE (ns.take j) (zs.take j) ++ numsE [y, z]
 | [], _, _, _, _, _, h, _ => by simp at h
 | n :: ns, [], _, _, _, h, _, _ => by simp at h
 | n :: ns, z' :: zs, 0, y, z, _, h1, h2 => by simp at h1 h2; subst h1; subst h2; simp [pairE]
 | n :: ns, z' :: zs, j + 1, y, z, h, h1, h2 => by
  have ih := pairE_take ns zs j (by simpa using h) (by simpa using h1) (by simpa using h2)
  rw [List.take_succ_cons, List.take_succ_cons, pairE, ih, List.take_succ_cons, List.take_succ_cons, pairE, List.append_assoc]
theorem numsE_len : ∀ l : List Int, (∀ n ∈ l, n < 18446744073709551616) → (numsE l).length ≤ 10 * l.length
 | [], _ => by simp [numsE]
 | n :: l, h => by
  have h1 := numsE_len l (fun m hm => h m (by simp [hm]))
  have h2 := putM_len10 (n := n.toNat) (by have := h n (by simp); omega)
  rw [numsE_cons, List.length_append, List.length_cons]; omega
end Go.Vc
namespace Go.Proofs.YtiadjkjlifnopaaGreatDoor.Tryz
open Go Go.Vc
section
variable {w0 w w' : World} {g : Nat} {l pre : List UInt8} {v v' : Value}
theorem truth_has (b : Bool) : Has Tryz.prog 157 #[.bool b] w (fun v w' => w' = w ∧ v = .int .i64 (truthI b)) := by
 refine enter Tryz.func157 rfl rfl (by decide) rfl (e := [(0, .bool b)]) ⟨rfl, trivial⟩ ?_
 cases b <;>
 ·(first | (refine run ?_; refine go T 20 rfl ?_) | (refine run ?_; refine go T 19 rfl ?_))
  exact post1 (.inl rfl) rfl rfl ⟨rfl, rfl⟩
theorem numsB_has {k : Nat} (ns : List Int) (hk : ns.length = k) (x : WrAt w0 w g pre v) {h : Nat} (hb : Blk w h 2 (ns.map (Value.int .i64))) (hp : ∀ n ∈ ns, 0 ≤ n ∧ n ≤ 9223372036854775807) (hl : pre.length < 10000000) (hk2 : k ≤ 1000) :
  Has Tryz.prog 156 #[.pointer (some ⟨g, 0, none⟩), .slice (some ⟨h, 0, none⟩) k k] w (fun u w' => WrDone w0 w g v (pre ++ numsE ns) w') := by
 subst hk
 exact
 nums_has x (cells_i64 hb (fun n hn => by have := hp n hn; omega) (by omega)) (fun ad ha _ => by injection ha with ha; subst ha; exact x.out hb (by decide) (by decide)) (fun n hn => (hp n hn).1) (by omega)
theorem numsO_has {ns : List Int} (x : WrAt w0 w g pre v) {A : Option Addr} {n c : Nat} (hs : SliceOf Ri64 w0 (.slice A n c) ns) (hp : ∀ n ∈ ns, 0 ≤ n) (hl : pre.length + 10 * ns.length < 100000000) :
  Has Tryz.prog 156 #[.pointer (some ⟨g, 0, none⟩), .slice A n c] w (fun u w' => WrDone w0 w g v (pre ++ numsE ns) w') :=
 nums_has x (SliceOf.kept Ri64.kept _ _ _ _ x.chg hs) (fun ad ha hn hm => by
  have h1 := slice_lt hs ad ha hn
  have h2 := x.ge
  rcases List.mem_cons.1 hm with h | h
  ·omega
  ·have := x.made.fresh _ (show v.ownBlock = some ad.block by simpa using h); omega) hp hl
set_option maxHeartbeats 4000000 in
theorem etext_has (x : EdV) (hI : EdI x.e) (hok : EditOk x.e) (hr : ERd w x) :
  Has Tryz.prog 106 #[.agg (edL x).toArray] w (fun v w' => MadeB 5 w w' v (textE x.e) ∧ (textE x.e).length ≤ 100000) := by
 refine enter Tryz.func106 rfl rfl (by decide) rfl (e := [(0, .agg (edL x).toArray)]) ⟨rfl, trivial⟩ ?_
 obtain ⟨e, va, vd, vp, vr, Q⟩ := x
 obtain ⟨ha, hd, hp, hpe, hpr, hdr⟩ := hr
 dsimp only at ha hd hp hpe hpr hdr hI hok ⊢
 obtain ⟨Aa, ca, rfl, ha1, ha2⟩ := ha.form
 obtain ⟨Ad, cd, rfl, hd1, hd2⟩ := hd.form
 obtain ⟨Ap, cp, rfl, hp1, hp2⟩ := hp.form
 obtain ⟨Ar, cr, rfl, hr1, hr2⟩ := hdr.form
 have hpl : Q.length = e.pars.length := by rw [← hpe, List.length_map]
 have hla := hok.adds
 have hld := hok.dels
 have hlp := hok.pars
 have hlr := hok.drops
 have hnx := hok.next
 have hsq := hok.seq
 refine run ?_
 refine go T 2 rfl ?_
 refine o1 rfl ?_
 refine op_box rfl rfl (fun g1 w1 hs1 hc1 h1 => ?_)
 have h1 : Blk w1 g1 49 [.int .i64 e.next, .int .i64 e.seq, .slice Aa e.adds.length ca, .slice Ad e.dels.length cd, .slice Ap Q.length cp, .slice Ar e.drops.length cr] := h1
 refine go T 5 rfl ?_
 refine o1 rfl (op_build T rfl rfl rfl rfl rfl rfl ?_)
 refine o1 rfl ?_
 refine op_box rfl rfl (fun g2 w2 hs2 hc2 h2 => ?_)
 have h2 : Blk w2 g2 197 [.slice none 0 0] := h2
 have hc02 := hc1.trans' hc2
 have x2 : WrAt w w2 g2 [] (.slice none 0 0) := ⟨h2, (MadeB.nil 5 w).keep0 hc02, by have := hc1.size; omega⟩
 replace h1 := h1.keep0 hc2
 clear h2 hc1 hc2 hc02
 refine go T 7 rfl ?_
 refine ldB T h1 rfl rfl rfl rfl rfl rfl ?_
 refine go T 1 rfl ?_
 refine ldB T h1 rfl rfl rfl rfl rfl rfl ?_
 refine go T 1 rfl ?_
 refine ldB T h1 rfl rfl rfl rfl rfl rfl ?_
 refine go T 1 rfl ?_
 refine o1 rfl ?_
 refine op_buildSlice T rfl rfl rfl rfl rfl rfl rfl (fun g3 w3 hs3 hc3 h3 => ?_)
 have h3 : Blk w3 g3 2 ([e.next, e.seq, (e.adds.length : Int)].map (Value.int .i64)) := h3
 replace h1 := h1.keep0 hc3
 refine o1 rfl ?_
 have hn3 : ∀ n ∈ [e.next, e.seq, (e.adds.length : Int)], 0 ≤ n ∧ n ≤ 9223372036854775807 := fun n hn => by
  simp only [List.mem_cons, List.not_mem_nil, or_false] at hn
  rcases hn with rfl | rfl | rfl <;> omega
 refine op_call rfl rfl rfl (numsB_has (k := 3) [e.next, e.seq, (e.adds.length : Int)] rfl (x2.keep0 hc3) h3 hn3 (by decide) (by decide)) ?_
 rintro _ w4 ⟨hc4, v4, x4, _⟩
 replace h1 := h1.keep hc4 ((x2.keep0 hc3).out h1 (by decide) (by decide))
 rw [List.nil_append] at x4
 have hl4 := numsE_len [e.next, e.seq, (e.adds.length : Int)] (fun n hn => by have := hn3 n hn; omega)
 simp only [List.length_cons, List.length_nil] at hl4
 clear hc3 hc4 h3 x2
 unfold textE
 generalize numsE [e.next, e.seq, (e.adds.length : Int)] = pre at *
 refine go T 6 rfl ?_
 refine ldB T h1 rfl rfl rfl rfl rfl rfl ?_
 refine go T 5 rfl ?_
 refine W_loop (σ := Nat) (fun i => [(1, .pointer (some ⟨g1, 0, none⟩)), (3, .pointer (some ⟨g2, 0, none⟩)), (23, .slice Aa e.adds.length ca), (24, .int .i64 e.adds.length), (25, .int .i64 i)])
  (fun i w' => i ≤ e.adds.length ∧ (pre ++ (e.adds.take i).flatMap segE).length ≤ 30 + 60 * i ∧ Blk w' g1 49 [.int .i64 e.next, .int .i64 e.seq, .slice Aa e.adds.length ca, .slice Ad e.dels.length cd, .slice Ap Q.length cp, .slice Ar e.drops.length cr] ∧ ∃ v', WrAt w w' g2 (pre ++ (e.adds.take i).flatMap segE) v')
  (fun i => e.adds.length - i) 0 ⟨rfl, rfl, rfl, rfl, rfl, trivial⟩ ⟨Nat.zero_le _, by simpa using hl4, h1, v4, by simpa using x4⟩ ?_
 clear h1 x4
 rintro i w5 ⟨hi, hlen, h1, v5, x5⟩
 refine run ?_
 refine go T 2 rfl ?_
 refine ltS rfl rfl rfl rfl (fun hcmp => ?_) (fun hcmp => ?_)
 ·have hlt : i < e.adds.length := by omega
  have hx := List.getElem?_eq_getElem hlt
  have hsI := hI.adds _ (List.getElem_mem hlt)
  have hsO := hok.adds1 _ (List.getElem_mem hlt)
  have htk : (e.adds.take (i + 1)).flatMap segE = (e.adds.take i).flatMap segE ++ segE e.adds[i] := by rw [List.take_add_one, hx]; exact segE_snoc _ _
  obtain ⟨ad, rfl, he⟩ := (ha.keepR x5.chg).at hx
  generalize e.adds[i] = s at *
  unfold segL at he
  refine go T 10 rfl ?_
  refine o1 rfl (op_indexK T rfl rfl rfl rfl rfl (by omega) ?_)
  refine o1 rfl (op_loadE T he rfl rfl rfl rfl rfl ?_)
  refine o1 rfl ?_
  refine op_alloc T rfl rfl (fun g6 w6 hs6 hc6 h6 => ?_)
  have h6 : Blk w6 g6 26 [.int .i64 0, .bool false, .int .i64 0, .int .i64 0, .int .i64 0, .int .u32 0] := h6
  refine op0 rfl rfl ?_
  refine op_store_agg T rfl rfl rfl rfl rfl rfl h6 (by exact Nat.le_of_ble_eq_true rfl) (fun w7 hc7 h67 _ => ?_)
  have h67 : Blk w7 g6 26 [.int .i64 s.num, .bool s.sealed, .int .i64 s.group, .int .i64 s.member, .int .i64 s.size, .int .u32 (s.sum : Int)] := h67
  have hc57 : Chg [] w5 w7 := hc6.trans hc7 (fun k hk hlt => by simp at hk; subst hk; have : w5.heap.size ≤ k := hs6; omega)
  replace h1 := h1.keep0 hc57
  replace x5 := x5.keep0 hc57
  clear h6 hc6 hc7 he hs6
  have hsu := hsI.sum
  have ht : 0 ≤ truthI s.sealed ∧ truthI s.sealed ≤ 1 := by unfold truthI; split <;> omega
  refine go T 2 rfl ?_
  refine W_walk 16 [] fol (by kernel_rfl) (by kernel_rfl) ?_
  refine Walk.plain rfl (by intro val w_ hR hp; exact op_move rfl rfl ⟨Chg.refl _ _, rfl⟩) ?_; dsimp only [na1, na2]
  refine Walk.plain rfl (by intro val w_ hR hp; exact op_fieldAddr T rfl rfl rfl rfl rfl rfl rfl rfl ⟨Chg.refl _ _, rfl⟩) ?_; dsimp only [na1, na2]
  refine Walk.plain rfl (by intro val w_ hR hp; exact op_loadB T rfl rfl rfl rfl (h67.keep0 hR) (by exact rfl) ⟨Chg.refl _ _, rfl⟩) ?_; dsimp only [na1, na2]
  refine Walk.plain rfl (by intro val w_ hR hp; exact op_fieldAddr T rfl rfl rfl rfl rfl rfl rfl rfl ⟨Chg.refl _ _, rfl⟩) ?_; dsimp only [na1, na2]
  refine Walk.plain rfl (by intro val w_ hR hp; exact op_loadB T rfl rfl rfl rfl (h67.keep0 hR) (by exact rfl) ⟨Chg.refl _ _, rfl⟩) ?_; dsimp only [na1, na2]
  refine Walk.plain (v := .int .i64 (truthI s.sealed)) rfl (by intro val w_ hR hp; exact op_call rfl rfl rfl (truth_has s.sealed) (fun v w' ⟨h1, h2⟩ => ⟨h1 ▸ Chg.refl _ _, h2⟩)) ?_; dsimp only [na1, na2]
  refine Walk.plain rfl (by intro val w_ hR hp; exact op_fieldAddr T rfl rfl rfl rfl rfl rfl rfl rfl ⟨Chg.refl _ _, rfl⟩) ?_; dsimp only [na1, na2]
  refine Walk.plain rfl (by intro val w_ hR hp; exact op_loadB T rfl rfl rfl rfl (h67.keep0 hR) (by exact rfl) ⟨Chg.refl _ _, rfl⟩) ?_; dsimp only [na1, na2]
  refine Walk.plain rfl (by intro val w_ hR hp; exact op_fieldAddr T rfl rfl rfl rfl rfl rfl rfl rfl ⟨Chg.refl _ _, rfl⟩) ?_; dsimp only [na1, na2]
  refine Walk.plain rfl (by intro val w_ hR hp; exact op_loadB T rfl rfl rfl rfl (h67.keep0 hR) (by exact rfl) ⟨Chg.refl _ _, rfl⟩) ?_; dsimp only [na1, na2]
  refine Walk.plain rfl (by intro val w_ hR hp; exact op_fieldAddr T rfl rfl rfl rfl rfl rfl rfl rfl ⟨Chg.refl _ _, rfl⟩) ?_; dsimp only [na1, na2]
  refine Walk.plain rfl (by intro val w_ hR hp; exact op_loadB T rfl rfl rfl rfl (h67.keep0 hR) (by exact rfl) ⟨Chg.refl _ _, rfl⟩) ?_; dsimp only [na1, na2]
  refine Walk.plain rfl (by intro val w_ hR hp; exact op_fieldAddr T rfl rfl rfl rfl rfl rfl rfl rfl ⟨Chg.refl _ _, rfl⟩) ?_; dsimp only [na1, na2]
  refine Walk.plain rfl (by intro val w_ hR hp; exact op_loadB T rfl rfl rfl rfl (h67.keep0 hR) (by exact rfl) ⟨Chg.refl _ _, rfl⟩) ?_; dsimp only [na1, na2]
  refine Walk.plain rfl (by intro val w_ hR hp; exact op_convert_fit T rfl rfl rfl rfl (wrap_i64_in (by omega) (by omega)) ⟨Chg.refl _ _, rfl⟩) ?_; dsimp only [na1, na2]
  refine Walk.rel (fun v w' => ∃ g8, v = .slice (some ⟨g8, 0, none⟩) 6 6 ∧ Blk w' g8 2 [.int .i64 s.num, .int .i64 (truthI s.sealed), .int .i64 s.group, .int .i64 s.member, .int .i64 s.size, .int .i64 (s.sum : Int)]) rfl (fun v w w' h hab => let ⟨g8, a, b⟩ := h; ⟨g8, a, b.keep0 hab⟩) (by intro val w_ hR hp; exact op_buildSlice T rfl rfl rfl rfl rfl rfl rfl (fun g8 w8 hs8 hc8 h8 => ⟨hc8, g8, rfl, h8⟩)) ?_; dsimp only [na1, na2]
  refine Walk.fin ?_
  intro val w8 hc8 hp8
  obtain ⟨g8, e8, h8⟩ : ∃ g8, val 15 = .slice (some ⟨g8, 0, none⟩) 6 6 ∧ Blk w8 g8 2 ([s.num, truthI s.sealed, s.group, s.member, s.size, (s.sum : Int)].map (Value.int .i64)) := hp8 15 (by omega) _ _ rfl rfl
  clear hp8
  refine WL_sub (e' := [(1, .pointer (some ⟨g1, 0, none⟩)), (3, .pointer (some ⟨g2, 0, none⟩)), (23, .slice (some ad) e.adds.length ca), (24, .int .i64 e.adds.length), (25, .int .i64 i), (29, .pointer (some ⟨g2, 0, none⟩)), (44, .slice (some ⟨g8, 0, none⟩) 6 6)]) ⟨rfl, rfl, rfl, rfl, rfl, rfl, congrArg some e8, trivial⟩ ?_
  clear e8
  replace h1 := h1.keep0 hc8
  replace x5 := x5.keep0 hc8
  have hsn := hsO.num
  have hsg := hsO.group
  have hsm := hsO.member
  have hss := hsO.size
  have hn8 : ∀ n ∈ [s.num, truthI s.sealed, s.group, s.member, s.size, (s.sum : Int)], 0 ≤ n ∧ n ≤ 9223372036854775807 := fun n hn => by
   simp only [List.mem_cons, List.not_mem_nil, or_false] at hn
   rcases hn with rfl | rfl | rfl | rfl | rfl | rfl <;> omega
  have hl8 := numsE_len [s.num, truthI s.sealed, s.group, s.member, s.size, (s.sum : Int)] (fun n hn => by have := hn8 n hn; omega)
  simp only [List.length_cons, List.length_nil] at hl8
  refine runL ?_
  refine o1 rfl ?_
  refine op_call rfl rfl rfl (numsB_has (k := 6) [s.num, truthI s.sealed, s.group, s.member, s.size, (s.sum : Int)] rfl x5 h8 hn8 (by omega) (by decide)) ?_
  rintro _ w9 ⟨hc9, v9, x9, _⟩
  replace h1 := h1.keep hc9 (x5.out h1 (by decide) (by decide))
  have he9 : pre ++ (e.adds.take i).flatMap segE ++ numsE [s.num, truthI s.sealed, s.group, s.member, s.size, (s.sum : Int)] = pre ++ (e.adds.take (i + 1)).flatMap segE := by rw [htk, List.append_assoc]; rfl
  have hl9 : (pre ++ (e.adds.take (i + 1)).flatMap segE).length ≤ 30 + 60 * (i + 1) := by rw [← he9, List.length_append]; omega
  rw [he9] at x9
  refine go T 4 rfl ?_
  refine adI rfl rfl rfl rfl (by omega) (by omega) ?_
  refine go T 2 rfl ?_
  exact Round_n (i + 1) ⟨rfl, rfl, rfl, rfl, rfl, trivial⟩ ⟨by omega, hl9, h1, v9, x9⟩ (by omega)
 obtain rfl : i = e.adds.length := by omega
 rw [List.take_length] at hlen x5
 clear hi hcmp
 generalize pre ++ e.adds.flatMap segE = pre2 at *
 refine go T 6 rfl ?_
 refine rndX ?_
 refine go T 6 rfl ?_
 refine ldB T h1 rfl rfl rfl rfl rfl rfl ?_
 refine go T 1 rfl ?_
 refine o1 rfl ?_
 refine op_buildSlice T rfl rfl rfl rfl rfl rfl rfl (fun g6 w6 hs6 hc6 h6 => ?_)
 have h6 : Blk w6 g6 2 ([(e.dels.length : Int)].map (Value.int .i64)) := h6
 replace h1 := h1.keep0 hc6
 replace x5 := x5.keep0 hc6
 have hn6 : ∀ n ∈ [(e.dels.length : Int)], 0 ≤ n ∧ n ≤ 9223372036854775807 := fun n hn => by simp at hn; omega
 have hl6 := numsE_len [(e.dels.length : Int)] (fun n hn => by have := hn6 n hn; omega)
 simp only [List.length_cons, List.length_nil] at hl6
 refine o1 rfl ?_
 refine op_call rfl rfl rfl (numsB_has (k := 1) [(e.dels.length : Int)] rfl x5 h6 hn6 (by omega) (by decide)) ?_
 rintro _ w7 ⟨hc7, v7, x7, _⟩
 replace h1 := h1.keep hc7 (x5.out h1 (by decide) (by decide))
 have hl7 : (pre2 ++ numsE [(e.dels.length : Int)]).length ≤ 3640 := by rw [List.length_append]; omega
 clear x5 h6 hc6 hc7 hl6 hn6 hlen
 generalize pre2 ++ numsE [(e.dels.length : Int)] = pre3 at *
 refine go T 6 rfl ?_
 refine ldB T h1 rfl rfl rfl rfl rfl rfl ?_
 refine o1 rfl ?_
 refine op_call rfl rfl rfl (numsO_has x7 hd (fun n hn => by have := hok.dels1 n hn; omega) (by omega)) ?_
 rintro _ w8 ⟨hc8, v8, x8, _⟩
 replace h1 := h1.keep hc8 (x7.out h1 (by decide) (by decide))
 have hl8 : (pre3 ++ numsE e.dels).length ≤ 4240 := by
  have := numsE_len e.dels (fun n hn => by have := hok.dels1 n hn; omega)
  rw [List.length_append]; omega
 clear x7 hc8 hl7
 generalize pre3 ++ numsE e.dels = pre4 at *
 refine go T 6 rfl ?_
 refine ldB T h1 rfl rfl rfl rfl rfl rfl ?_
 refine go T 1 rfl ?_
 refine o1 rfl ?_
 refine op_buildSlice T rfl rfl rfl rfl rfl rfl rfl (fun g6 w9 hs6 hc6 h6 => ?_)
 have h6 : Blk w9 g6 2 ([(Q.length : Int)].map (Value.int .i64)) := h6
 replace h1 := h1.keep0 hc6
 replace x8 := x8.keep0 hc6
 have hn6 : ∀ n ∈ [(Q.length : Int)], 0 ≤ n ∧ n ≤ 9223372036854775807 := fun n hn => by simp at hn; omega
 have hl6 := numsE_len [(Q.length : Int)] (fun n hn => by have := hn6 n hn; omega)
 simp only [List.length_cons, List.length_nil] at hl6
 refine o1 rfl ?_
 refine op_call rfl rfl rfl (numsB_has (k := 1) [(Q.length : Int)] rfl x8 h6 hn6 (by omega) (by decide)) ?_
 rintro _ w10 ⟨hc7, v10, x10, _⟩
 replace h1 := h1.keep hc7 (x8.out h1 (by decide) (by decide))
 have hl10 : (pre4 ++ numsE [(Q.length : Int)]).length ≤ 4250 := by rw [List.length_append]; omega
 rw [hpl] at x10 hl10
 clear x8 h6 hc6 hc7 hl6 hn6 hl8
 generalize pre4 ++ numsE [(e.pars.length : Int)] = pre5 at *
 have hparE : e.pars.flatMap parE = Q.flatMap fun q => parE q.p := by rw [← hpe, List.flatMap_map]
 rw [hparE]
 refine go T 6 rfl ?_
 refine ldB T h1 rfl rfl rfl rfl rfl rfl ?_
 refine go T 5 rfl ?_
 refine W_loop (σ := Nat) (fun i => [(1, .pointer (some ⟨g1, 0, none⟩)), (3, .pointer (some ⟨g2, 0, none⟩)), (64, .slice Ap Q.length cp), (65, .int .i64 Q.length), (66, .int .i64 i)])
  (fun i w' => i ≤ Q.length ∧ (pre5 ++ (Q.take i).flatMap fun q => parE q.p).length ≤ 4250 + 100 * i ∧ Blk w' g1 49 [.int .i64 e.next, .int .i64 e.seq, .slice Aa e.adds.length ca, .slice Ad e.dels.length cd, .slice Ap Q.length cp, .slice Ar e.drops.length cr] ∧ ∃ v', WrAt w w' g2 (pre5 ++ (Q.take i).flatMap fun q => parE q.p) v')
  (fun i => Q.length - i) 0 ⟨rfl, rfl, rfl, rfl, rfl, trivial⟩ ⟨Nat.zero_le _, by simpa using hl10, h1, v10, by simpa using x10⟩ ?_
 clear h1 x10 hl10
 rintro i w11 ⟨hi, hlen, h1, v11, x11⟩
 refine run ?_
 refine go T 2 rfl ?_
 refine ltS rfl rfl rfl rfl (fun hcmp => ?_) (fun hcmp => ?_)
 ·have hlt : i < Q.length := by omega
  have hx := List.getElem?_eq_getElem hlt
  have hmem : Q[i].p ∈ e.pars := by rw [← hpe]; exact List.mem_map.2 ⟨_, List.getElem_mem hlt, rfl⟩
  have hpI := hI.pars _ hmem
  have hpO := hok.pars1 _ hmem
  have hrd := hpr _ (List.getElem_mem hlt)
  have htk : ((Q.take (i + 1)).flatMap fun q => parE q.p) = ((Q.take i).flatMap fun q => parE q.p) ++ parE Q[i].p := by rw [List.take_add_one, hx, List.flatMap_append]; simp
  obtain ⟨ad, rfl, he⟩ := (hp.keepR x11.chg).at hx
  generalize Q[i] = q at *
  obtain ⟨p, vn, vs⟩ := q
  obtain ⟨hrn, hrz⟩ := hrd
  dsimp only at hrn hrz hpI hpO htk
  obtain ⟨An, cn, rfl, hn1, hn2⟩ := hrn.form
  obtain ⟨Az, cz, rfl, hz1, hz2⟩ := hrz.form
  have hll := hpO.lens
  have hl3 := hpO.len3
  unfold parL at he
  refine go T 10 rfl ?_
  refine o1 rfl (op_indexK T rfl rfl rfl rfl rfl (by omega) ?_)
  refine o1 rfl (op_loadE T he rfl rfl rfl rfl rfl ?_)
  refine o1 rfl ?_
  refine op_alloc T rfl rfl (fun g6 w12 hs6 hc6 h6 => ?_)
  have h6 : Blk w12 g6 70 [.int .i64 0, .slice none 0 0, .slice none 0 0, .int .i64 0, .int .u32 0] := h6
  refine op0 rfl rfl ?_
  refine op_store_agg T rfl rfl rfl rfl rfl rfl h6 (by exact Nat.le_of_ble_eq_true rfl) (fun w13 hc7 h67 _ => ?_)
  have h67 : Blk w13 g6 70 [.int .i64 p.group, .slice An p.nums.length cn, .slice Az p.sizes.length cz, .int .i64 p.size, .int .u32 (p.sum : Int)] := h67
  have hc57 : Chg [] w11 w13 := hc6.trans hc7 (fun k hk hlt => by simp at hk; subst hk; have : w11.heap.size ≤ k := hs6; omega)
  replace h1 := h1.keep0 hc57
  replace x11 := x11.keep0 hc57
  clear h6 hc6 hc7 he hs6 hc57
  have hgr := hpO.group
  have hsz := hpO.size
  refine go T 6 rfl ?_
  refine ldB T h67 rfl rfl rfl rfl rfl rfl ?_
  refine go T 1 rfl ?_
  refine ldB T h67 rfl rfl rfl rfl rfl rfl ?_
  refine go T 1 rfl ?_
  refine o1 rfl ?_
  refine op_buildSlice T rfl rfl rfl rfl rfl rfl rfl (fun g8 w14 hs8 hc8 h8 => ?_)
  have h8 : Blk w14 g8 2 ([p.group, (p.nums.length : Int)].map (Value.int .i64)) := h8
  replace h1 := h1.keep0 hc8
  replace h67 := h67.keep0 hc8
  replace x11 := x11.keep0 hc8
  have hn8 : ∀ n ∈ [p.group, (p.nums.length : Int)], 0 ≤ n ∧ n ≤ 9223372036854775807 := fun n hn => by
   simp only [List.mem_cons, List.not_mem_nil, or_false] at hn
   rcases hn with rfl | rfl <;> omega
  have hl8 := numsE_len [p.group, (p.nums.length : Int)] (fun n hn => by have := hn8 n hn; omega)
  simp only [List.length_cons, List.length_nil] at hl8
  refine o1 rfl ?_
  refine op_call rfl rfl rfl (numsB_has (k := 2) [p.group, (p.nums.length : Int)] rfl x11 h8 hn8 (by omega) (by decide)) ?_
  rintro _ w15 ⟨hc9, v15, x15, _⟩
  replace h1 := h1.keep hc9 (x11.out h1 (by decide) (by decide))
  replace h67 := h67.keep hc9 (x11.out h67 (by decide) (by decide))
  have hl15 : (pre5 ++ ((Q.take i).flatMap fun q => parE q.p) ++ numsE [p.group, (p.nums.length : Int)]).length ≤ 4270 + 100 * i := by rw [List.length_append]; omega
  have hE : pre5 ++ ((Q.take i).flatMap fun q => parE q.p) ++ numsE [p.group, (p.nums.length : Int)] ++ (pairE p.nums p.sizes ++ numsE [p.size, (p.sum : Int)]) = pre5 ++ ((Q.take (i + 1)).flatMap fun q => parE q.p) := by rw [htk]; unfold parE; simp only [List.append_assoc]
  clear x11 h8 hc8 hc9 hn8 hl8 hs8
  generalize pre5 ++ ((Q.take i).flatMap fun q => parE q.p) ++ numsE [p.group, (p.nums.length : Int)] = pre6 at *
  refine go T 6 rfl ?_
  refine ldB T h67 rfl rfl rfl rfl rfl rfl ?_
  refine go T 5 rfl ?_
  refine W_loop (σ := Nat) (fun j => [(1, .pointer (some ⟨g1, 0, none⟩)), (3, .pointer (some ⟨g2, 0, none⟩)), (7, .pointer (some ⟨g6, 0, none⟩)), (64, .slice (some ad) Q.length cp), (65, .int .i64 Q.length), (66, .int .i64 i), (79, .slice An p.nums.length cn), (80, .int .i64 p.nums.length), (81, .int .i64 j)])
   (fun j w' => j ≤ p.nums.length ∧ (pre6 ++ pairE (p.nums.take j) (p.sizes.take j)).length ≤ 4270 + 100 * i + 20 * j ∧ Blk w' g1 49 [.int .i64 e.next, .int .i64 e.seq, .slice Aa e.adds.length ca, .slice Ad e.dels.length cd, .slice (some ad) Q.length cp, .slice Ar e.drops.length cr] ∧ Blk w' g6 70 [.int .i64 p.group, .slice An p.nums.length cn, .slice Az p.sizes.length cz, .int .i64 p.size, .int .u32 (p.sum : Int)] ∧ ∃ v', WrAt w w' g2 (pre6 ++ pairE (p.nums.take j) (p.sizes.take j)) v')
   (fun j => p.nums.length - j) 0 ⟨rfl, rfl, rfl, rfl, rfl, rfl, rfl, rfl, rfl, trivial⟩ ⟨Nat.zero_le _, by simpa [pairE] using hl15, h1, h67, v15, by simpa [pairE] using x15⟩ ?_
  clear h1 h67 x15
  rintro j w16 ⟨hj, hlenj, h1, h67, v16, x16⟩
  refine run ?_
  refine go T 2 rfl ?_
  refine ltS rfl rfl rfl rfl (fun hcmp => ?_) (fun hcmp => ?_)
  ·have hjl : j < p.nums.length := by omega
   have hxn := List.getElem?_eq_getElem hjl
   have hxz := List.getElem?_eq_getElem (show j < p.sizes.length by omega)
   have hnO := hpO.nums _ (List.getElem_mem hjl)
   have hzO := hpO.sizes _ (List.getElem_mem (show j < p.sizes.length by omega))
   obtain ⟨adn, u, rfl, hu, rfl, _⟩ := (SliceOf.kept Ri64.kept _ _ _ _ x16.chg hrn).get hxn
   obtain ⟨adz, u2, rfl, hu2, rfl, _⟩ := (SliceOf.kept Ri64.kept _ _ _ _ x16.chg hrz).get hxz
   have hpt : pairE (p.nums.take (j + 1)) (p.sizes.take (j + 1)) = pairE (p.nums.take j) (p.sizes.take j) ++ numsE [p.nums[j], p.sizes[j]] := pairE_take _ _ j (by omega) hxn hxz
   generalize p.nums[j] = y at *
   generalize p.sizes[j] = z at *
   refine go T 11 rfl ?_
   refine o1 rfl (op_index_nat T rfl rfl rfl rfl rfl rfl (by omega) ?_)
   refine o1 rfl (op_load T rfl rfl rfl rfl (by assumption) ?_)
   refine go T 8 rfl ?_
   refine ldB T h67 rfl rfl rfl rfl rfl rfl ?_
   refine go T 1 rfl ?_
   refine o1 rfl (op_index_nat T rfl rfl rfl rfl rfl rfl (by omega) ?_)
   refine o1 rfl (op_load T rfl rfl rfl rfl (by assumption) ?_)
   refine o1 rfl ?_
   refine op_buildSlice T rfl rfl rfl rfl rfl rfl rfl (fun g8 w17 hs8 hc8 h8 => ?_)
   have h8 : Blk w17 g8 2 ([y, z].map (Value.int .i64)) := h8
   replace h1 := h1.keep0 hc8
   replace h67 := h67.keep0 hc8
   replace x16 := x16.keep0 hc8
   have hn8 : ∀ n ∈ [y, z], 0 ≤ n ∧ n ≤ 9223372036854775807 := fun n hn => by
    simp only [List.mem_cons, List.not_mem_nil, or_false] at hn
    rcases hn with rfl | rfl <;> omega
   have hl8 := numsE_len [y, z] (fun n hn => by have := hn8 n hn; omega)
   simp only [List.length_cons, List.length_nil] at hl8
   refine o1 rfl ?_
   refine op_call rfl rfl rfl (numsB_has (k := 2) [y, z] rfl x16 h8 hn8 (by omega) (by decide)) ?_
   rintro _ w18 ⟨hc9, v18, x18, _⟩
   replace h1 := h1.keep hc9 (x16.out h1 (by decide) (by decide))
   replace h67 := h67.keep hc9 (x16.out h67 (by decide) (by decide))
   have he : pre6 ++ pairE (p.nums.take j) (p.sizes.take j) ++ numsE [y, z] = pre6 ++ pairE (p.nums.take (j + 1)) (p.sizes.take (j + 1)) := by rw [hpt, List.append_assoc]
   have hl18 : (pre6 ++ pairE (p.nums.take (j + 1)) (p.sizes.take (j + 1))).length ≤ 4270 + 100 * i + 20 * (j + 1) := by rw [← he, List.length_append]; omega
   rw [he] at x18
   refine go T 4 rfl ?_
   refine adI rfl rfl rfl rfl (by omega) (by omega) ?_
   refine go T 2 rfl ?_
   exact Round_n (j + 1) ⟨rfl, rfl, rfl, rfl, rfl, rfl, rfl, rfl, rfl, trivial⟩ ⟨by omega, hl18, h1, h67, v18, x18⟩ (by omega)
  obtain rfl : j = p.nums.length := by omega
  rw [List.take_length, ← hll, List.take_length] at x16 hlenj
  have hpsum := hpI.sum
  refine go T 6 rfl ?_
  refine rndX ?_
  refine go T 5 rfl ?_
  refine ldB T h67 rfl rfl rfl rfl rfl rfl ?_
  refine go T 1 rfl ?_
  refine ldB T h67 rfl rfl rfl rfl rfl rfl ?_
  refine o1 rfl (op_convert_fit T rfl rfl rfl rfl (wrap_i64_in (by omega) (by omega)) ?_)
  refine o1 rfl ?_
  refine op_buildSlice T rfl rfl rfl rfl rfl rfl rfl (fun g8 w17 hs8 hc8 h8 => ?_)
  have h8 : Blk w17 g8 2 ([p.size, (p.sum : Int)].map (Value.int .i64)) := h8
  replace h1 := h1.keep0 hc8
  replace x16 := x16.keep0 hc8
  have hn8 : ∀ n ∈ [p.size, (p.sum : Int)], 0 ≤ n ∧ n ≤ 9223372036854775807 := fun n hn => by
   simp only [List.mem_cons, List.not_mem_nil, or_false] at hn
   rcases hn with rfl | rfl <;> omega
  have hl8 := numsE_len [p.size, (p.sum : Int)] (fun n hn => by have := hn8 n hn; omega)
  simp only [List.length_cons, List.length_nil] at hl8
  refine o1 rfl ?_
  refine op_call rfl rfl rfl (numsB_has (k := 2) [p.size, (p.sum : Int)] rfl x16 h8 hn8 (by omega) (by decide)) ?_
  rintro _ w18 ⟨hc9, v18, x18, _⟩
  replace h1 := h1.keep hc9 (x16.out h1 (by decide) (by decide))
  have he : pre6 ++ pairE p.nums p.sizes ++ numsE [p.size, (p.sum : Int)] = pre5 ++ ((Q.take (i + 1)).flatMap fun q => parE q.p) := by rw [← hE, List.append_assoc]
  have hl18 : (pre5 ++ ((Q.take (i + 1)).flatMap fun q => parE q.p)).length ≤ 4250 + 100 * (i + 1) := by rw [← he, List.length_append]; omega
  rw [he] at x18
  refine go T 4 rfl ?_
  refine adI rfl rfl rfl rfl (by omega) (by omega) ?_
  refine go T 2 rfl ?_
  exact Round_n (i + 1) ⟨rfl, rfl, rfl, rfl, rfl, trivial⟩ ⟨by omega, hl18, h1, v18, x18⟩ (by omega)
 obtain rfl : i = Q.length := by omega
 rw [List.take_length] at hlen x11
 clear hi hcmp
 generalize pre5 ++ (Q.flatMap fun q => parE q.p) = pre7 at *
 refine go T 6 rfl ?_
 refine rndX ?_
 refine go T 6 rfl ?_
 refine ldB T h1 rfl rfl rfl rfl rfl rfl ?_
 refine go T 1 rfl ?_
 refine o1 rfl ?_
 refine op_buildSlice T rfl rfl rfl rfl rfl rfl rfl (fun g6 w12 hs6 hc6 h6 => ?_)
 have h6 : Blk w12 g6 2 ([(e.drops.length : Int)].map (Value.int .i64)) := h6
 replace h1 := h1.keep0 hc6
 replace x11 := x11.keep0 hc6
 have hn6 : ∀ n ∈ [(e.drops.length : Int)], 0 ≤ n ∧ n ≤ 9223372036854775807 := fun n hn => by simp at hn; omega
 have hl6 := numsE_len [(e.drops.length : Int)] (fun n hn => by have := hn6 n hn; omega)
 simp only [List.length_cons, List.length_nil] at hl6
 refine o1 rfl ?_
 refine op_call rfl rfl rfl (numsB_has (k := 1) [(e.drops.length : Int)] rfl x11 h6 hn6 (by omega) (by decide)) ?_
 rintro _ w13 ⟨hc7, v13, x13, _⟩
 replace h1 := h1.keep hc7 (x11.out h1 (by decide) (by decide))
 have hl13 : (pre7 ++ numsE [(e.drops.length : Int)]).length ≤ 10300 := by rw [List.length_append]; omega
 clear x11 h6 hc6 hc7 hl6 hn6 hlen
 generalize pre7 ++ numsE [(e.drops.length : Int)] = pre8 at *
 refine go T 6 rfl ?_
 refine ldB T h1 rfl rfl rfl rfl rfl rfl ?_
 refine o1 rfl ?_
 refine op_call rfl rfl rfl (numsO_has x13 hdr (fun n hn => by have := hok.drops1 n hn; omega) (by omega)) ?_
 rintro _ w14 ⟨hc8, v14, x14, _⟩
 have hl14 : (pre8 ++ numsE e.drops).length ≤ 100000 := by
  have := numsE_len e.drops (fun n hn => by have := hok.drops1 n hn; omega)
  rw [List.length_append]; omega
 have hb := x14.blk
 refine go T 7 rfl ?_
 refine ldB T hb rfl rfl rfl rfl rfl rfl ?_
 refine go T 4 rfl ?_
 exact post1 (.inl rfl) rfl rfl ⟨x14.made, hl14⟩
theorem encodeE_has (x : EdV) (hI : EdI x.e) (hr : ERd w x) :
  Has Tryz.prog 58 #[.agg (edL x).toArray] w (fun v w' => ∃ u, v = .tuple #[u, .int .i64 (encE x.e).2] ∧ MadeB 5 w w' u (encE x.e).1 ∧ (encE x.e).1.length ≤ 100012) := by
 refine enter Tryz.func58 rfl rfl (by decide) rfl (e := [(0, .agg (edL x).toArray)]) ⟨rfl, trivial⟩ ?_
 refine run ?_
 refine go T 2 rfl ?_
 refine o1 rfl ?_
 refine op_box rfl rfl (fun g1 w1 hs1 hc1 h1 => ?_)
 have h1 : Blk w1 g1 49 (edL x) := h1
 refine go T 7 rfl ?_
 refine o1 rfl (op_load_agg T rfl rfl rfl rfl h1 (by exact Nat.le_of_ble_eq_true rfl) (by exact rfl) ?_)
 refine o1 rfl ?_
 refine op_call rfl rfl rfl (checkE_has x hI (hr.keep0 hc1)) ?_
 rintro _ w2 ⟨hc2, rfl⟩
 have hc := hc1.trans' hc2
 replace h1 := h1.keep0 hc2
 unfold encE
 cases hb : editB x.e with
 | false =>
  rw [if_neg (by decide), if_neg (by decide)]
  refine go T 6 rfl ?_
  refine neT rfl rfl rfl rfl (by omega) ?_
  refine go T 12 rfl ?_
  exact post2 (.inl rfl) rfl rfl rfl ⟨_, rfl, (MadeB.nil 5 w).keep0 hc, by simp⟩
 | true =>
  rw [if_pos rfl, if_pos rfl]
  refine go T 6 rfl ?_
  refine neF rfl rfl rfl rfl (by omega) ?_
  refine go T 7 rfl ?_
  refine o1 rfl (op_load_agg T rfl rfl rfl rfl h1 (by exact Nat.le_of_ble_eq_true rfl) (by exact rfl) ?_)
  refine o1 rfl ?_
  refine op_call rfl rfl rfl (etext_has x hI (editB_ok.1 hb) (hr.keep0 hc)) ?_
  rintro v3 w3 ⟨m3, hl3⟩
  obtain ⟨A3, c3, rfl, _, _⟩ := m3.form
  refine o1 rfl ?_
  refine op_call rfl rfl rfl (seal_has A3 _ c3 (textE x.e) w3 m3.reads (by omega)) ?_
  intro v4 w4 m4
  refine go T 5 rfl ?_
  exact post2 (.inl rfl) rfl rfl rfl ⟨_, rfl, m4.base (hc.trans' m3.chg), by rw [sealM_length]; omega⟩
end
end Go.Proofs.YtiadjkjlifnopaaGreatDoor.Tryz
/-! Seals, one behind the other. -/
namespace Go.Proofs.YtiadjkjlifnopaaGreatDoor.Tryz
open Go Go.Vc
def Rbs (w : World) (u : Value) (x : List UInt8) : Prop := SliceOf Ru8 w u x
theorem Rbs.kept : Kept Rbs := SliceOf.kept Ru8.kept
set_option maxHeartbeats 1000000 in
theorem scan_has (A : Option Addr) (n c : Nat) (b : List UInt8) (w : World) (hl : SliceOf Ru8 w (.slice A n c) b) (hb : b.length ≤ 1000000000) :
  Has Tryz.prog 109 #[.slice A n c] w (fun v w' => ∃ u, v = .tuple #[u, .int .i64 ((scanM b).2.1 : Nat), .bool (scanM b).2.2] ∧ Chg [] w w' ∧ OwnOf Rbs 51 [] w' u (scanM b).1 ∧ ∀ h, u.ownBlock = some h → w.heap.size ≤ h) := by
 obtain ⟨rfl, hl1, hl2⟩ := hl.len
 unfold maxLen at hl2
 refine enter Tryz.func109 rfl rfl (by decide) rfl (e := [(0, .slice A b.length c)]) ⟨rfl, trivial⟩ ?_
 repeat (first | refine W_seq ?_ | refine W_block ?_ | refine W_region ?_ | refine Then_n ?_ | refine WL_nil ?_ | refine WL_some rfl rfl rfl ?_ | refine op_assign rfl rfl ?_)
 refine W_loop (σ := Nat × List (List UInt8) × Value) (fun s => [(0, .slice A b.length c), (5, s.2.2), (6, .int .i64 s.1)])
  (fun s w' => s.1 ≤ b.length ∧ 12 * s.2.1.length ≤ s.1 ∧ scanM b = (s.2.1 ++ (scanM (b.drop s.1)).1, s.1 + (scanM (b.drop s.1)).2.1, (scanM (b.drop s.1)).2.2) ∧ Chg [] w w' ∧ OwnOf Rbs 51 [] w' s.2.2 s.2.1 ∧ ∀ h, s.2.2.ownBlock = some h → w.heap.size ≤ h)
  (fun s => b.length - s.1) (0, [], .slice none 0 0) ⟨rfl, rfl, rfl, trivial⟩ ⟨Nat.zero_le _, Nat.zero_le _, by simp, Chg.refl _ _, OwnOf.nil _ _ _ _, fun h hh => by simp [Value.ownBlock] at hh⟩ ?_
 rintro ⟨at_, l, v⟩ w1 ⟨h1, h2, h3, h4, h5, h6⟩
 dsimp only at h1 h2 h3 h4 h5 h6 ⊢
 have hl1' := SliceOf.kept Ru8.kept _ _ _ _ h4 hl
 repeat (first | refine W_seq ?_ | refine W_block ?_ | refine W_region ?_ | refine WL_some rfl rfl rfl ?_ | refine op_move rfl rfl ?_)
 refine op_cut T (l := at_) (h' := b.length) rfl rfl rfl rfl rfl ⟨_, rfl⟩ rfl hl1' h1 (Nat.le_refl _) (fun A' hA' => ?_)
 have hs := hA' w1 hl1'
 rw [List.take_length] at hs
 repeat (refine WL_some rfl rfl rfl ?_)
 refine op_call rfl rfl rfl (first_has A' _ _ _ w1 hs (by rw [List.length_drop]; omega)) ?_
 rintro _ w2 ⟨u, rfl, hu⟩
 have h5' := h5.keep0 hu.chg
 have hbd := firstM_bound (b.drop at_)
 have hend := scanM_end (l := b.drop at_)
 have hstep := scanM_step (l := b.drop at_)
 rw [List.drop_drop] at hstep
 rw [List.length_drop] at hbd
 generalize firstM (b.drop at_) = q at *
 obtain ⟨x, k, cut⟩ := q
 dsimp only at *
 by_cases hk : k = 0
 ·subst hk
  rw [hend rfl] at h3
  dsimp only at h3
  rw [h3]
  dsimp only
  repeat (first | refine W_seq ?_ | refine W_region ?_ | refine W_ret ?_ | refine Then_n ?_ | refine Then_r ?_ | refine InBlock_r ?_ | refine Round_r ?_ | refine WL_nil ?_ | refine W_condT rfl ?_ | refine WL_some rfl rfl rfl ?_ | refine op_move rfl rfl ?_ | refine op_assign rfl rfl ?_ | refine op_extract rfl rfl rfl ?_ | refine op_eql rfl rfl rfl (fun hc => ?_) (fun hc => False.elim (by omega)))
  exact post3 (.inl rfl) rfl rfl (some_int (by omega)) rfl ⟨_, rfl, h4.trans' hu.chg, by rw [List.append_nil]; exact h5', h6⟩
 ·rw [hstep hk] at h3
  dsimp only at h3
  rcases hbd with hz | ⟨hb1, hb2, hb3⟩
  ·exact absurd hz hk
  obtain ⟨A9, c9, rfl, _, _⟩ := hu.form
  repeat (first | refine W_seq ?_ | refine W_region ?_ | refine W_skip ?_ | refine Then_n ?_ | refine WL_nil ?_ | refine W_condF rfl ?_ | refine WL_some rfl rfl rfl ?_ | refine op_move rfl rfl ?_ | refine op_assign rfl rfl ?_ | refine op_extract rfl rfl rfl ?_ | refine op_eql rfl rfl rfl (fun hc => False.elim (by omega)) (fun hc => ?_))
  refine op_buildSlice T rfl rfl rfl rfl rfl rfl rfl (fun g w3 hgs hc3 hg3 => ?_)
  repeat (refine WL_some rfl rfl rfl ?_)
  refine op_push T (xa := x) rfl rfl rfl rfl rfl rfl rfl rfl (h5'.keep0 hc3) hg3 ?_ ?_ (by omega) rfl (fun v' w4 ho4 hc4 hb4 => ?_)
  ·rfl
  ·refine Firm.step0 (hu.firm (fun k hk => ?_)) hc3
   exact h5.lt (by simpa using hk)
  have hc14 : Chg [] w w4 := (h4.trans' hu.chg).trans' hc3 |>.trans hc4 (fun k hk hlt => by have := h6 k (by simpa using hk); omega)
  repeat (first | refine W_region ?_ | refine Then_n ?_ | refine InBlock_n ?_ | refine WL_nil ?_ | refine WL_some rfl rfl rfl ?_ | refine op_move rfl rfl ?_ | refine op_assign rfl rfl ?_ | refine op_add rfl rfl rfl (wrap_i64_in (by omega) (by omega)) ?_)
  refine Round_n (at_ + k, l ++ [x], v') ⟨rfl, rfl, some_int (by dsimp only; omega), trivial⟩ ⟨by dsimp only; omega, by dsimp only; simp; omega, ?_, hc14, ho4, fun h hh => ?_⟩ (by dsimp only; omega)
  ·dsimp only
   rw [h3, List.append_assoc, Nat.add_assoc]; rfl
  ·rcases hb4 with hb4 | ⟨g', hb4, hge⟩
   ·exact h6 h (by rw [← hb4]; exact hh)
   ·rw [hb4] at hh; injection hh with hh
    have := h4.size; have := hu.chg.size; have := hc3.size; omega
end Go.Proofs.YtiadjkjlifnopaaGreatDoor.Tryz
/-! Records: Check, Encode. -/
namespace Go.Proofs.YtiadjkjlifnopaaGreatDoor.Tryz
open Go Go.Vc
end Go.Proofs.YtiadjkjlifnopaaGreatDoor.Tryz
/-! Records: Encode. -/
namespace Go.Proofs.YtiadjkjlifnopaaGreatDoor.Tryz
open Go Go.Vc
end Go.Proofs.YtiadjkjlifnopaaGreatDoor.Tryz
/-! Readers; a record out of bytes. -/
namespace Go.Vc
open Go
theorem Walk.guardR {P : Program} {N : Nat} {S : List Nat} {l : List Oper} {e : Env} {w : World} {fin : List VS → Prop} {i j : Nat} {want : Bool} {r : List Oper} {Vs : List VS} {o : Oper} (R : Value → World → Prop) (hg : o.guard = some (j, want)) (hj : (predsOf o).contains j = true) (hjd : ((l[j]?).bind (·.dst)).isSome = true) (hb : ∀ val, valOf Vs val j = .bool want) (hR : ∀ v w w', R v w → Chg S w w' → R v w')
  (h : ∀ (val : Nat → Value) (w1 : World), Chg S w w1 → (∀ j, (predsOf o).contains j = true → ∀ oj d, l[j]? = some oj → oj.dst = some d → (vsAt Vs j).holds (valOf Vs val j) w1) → OpW P N o (opEnv l Vs e i o val) w1 (fun u w' => Chg S w1 w' ∧ R u w'))
  (hr : Walk P N S l e w fin (i + 1) r (Vs ++ [.r R])) : Walk P N S l e w fin i (o :: r) Vs :=
 by
 unfold Walk
 exact ⟨.r R, hR, fun val w1 hc hp => by rw [hg]; exact ⟨want, hj, hjd, .inl (hb val), (fun _ => h val w1 hc hp), (fun hn => by cases want <;> cases hn)⟩, hr⟩
theorem scanM_bound : ∀ (n : Nat) (b : List UInt8), b.length ≤ n → 12 * (scanM b).1.length ≤ b.length ∧ ∀ s ∈ (scanM b).1, s.length ≤ b.length
 | 0, b, h => by
  have : b = [] := List.eq_nil_of_length_eq_zero (by omega)
  subst this
  rw [scanM_nil]
  simp
 | n + 1, b, h => by
  rcases firstM_bound b with hz | ⟨h1, h2, h3⟩
  ·rw [scanM_end hz]
   simp
  ·rw [scanM_step (by omega)]
   have hd : (b.drop (firstM b).2.1).length = b.length - (firstM b).2.1 := List.length_drop
   have ih := scanM_bound n (b.drop (firstM b).2.1) (by omega)
   refine ⟨by simp only [List.length_cons]; omega, fun s hs => ?_⟩
   rcases List.mem_cons.1 hs with rfl | hs
   ·omega
   ·have := ih.2 s hs; omega
end Go.Vc
namespace Go.Proofs.YtiadjkjlifnopaaGreatDoor.Tryz
open Go Go.Vc
structure RdAt (w0 w : World) (g : Nat) (s : List UInt8 × Bool) : Prop where
 ex : ∃ A n c, Blk w g 204 [.slice A n c, .bool s.2] ∧ SliceOf Ru8 w0 (.slice A n c) s.1
 chg : Chg [] w0 w
 ge : w0.heap.size ≤ g
theorem RdAt.keep {w0 w w' : World} {g : Nat} {s : List UInt8 × Bool} {S : List Nat} (h : RdAt w0 w g s) (hc : Chg S w w') (hS : ∀ k ∈ S, w0.heap.size ≤ k) (hg : g ∉ S) : RdAt w0 w' g s :=
 let ⟨A, n, c, h1, h2⟩ := h.ex
 ⟨⟨A, n, c, h1.keep hc hg, h2⟩, h.chg.trans hc (fun k hk hlt => by have := hS k hk; omega), h.ge⟩
theorem RdAt.keep0 {w0 w w' : World} {g : Nat} {s : List UInt8 × Bool} (h : RdAt w0 w g s) (hc : Chg [] w w') : RdAt w0 w' g s := h.keep hc (fun k hk => by cases hk) (by simp)
theorem RdAt.lt {w0 w : World} {g : Nat} {s : List UInt8 × Bool} (h : RdAt w0 w g s) : g < w.heap.size := let ⟨_, _, _, h1, _⟩ := h.ex; h1.lt
theorem RdAt.own {w0 w w' : World} {g : Nat} {s : List UInt8 × Bool} (h : RdAt w0 w g s) (hc : Chg [g] w w') : Chg [] w0 w' := h.chg.trans hc (fun k hk hlt => by have := h.ge; simp at hk; omega)
theorem equal_has (A : Option Addr) (n c : Nat) (a : List UInt8) (A' : Option Addr) (n' c' : Nat) (b : List UInt8) (w : World) (ha : SliceOf Ru8 w (.slice A n c) a) (hb : SliceOf Ru8 w (.slice A' n' c') b) :
  Has Tryz.prog 162 #[.slice A n c, .slice A' n' c'] w (fun v w' => Chg [] w w' ∧ v = .bool (decide (a = b))) := by
 refine enter Tryz.func162 rfl rfl (by decide) rfl (e := [(0, .slice A n c), (1, .slice A' n' c')]) ⟨rfl, rfl, trivial⟩ ?_
 repeat (first | refine W_seq ?_ | refine W_region ?_ | refine Then_n ?_ | refine WL_nil ?_ | refine WL_some rfl rfl rfl ?_ | refine op_move rfl rfl ?_ | refine op_assign rfl rfl ?_)
 refine op_string T rfl rfl rfl rfl rfl ha ?_
 repeat (first | refine WL_some rfl rfl rfl ?_ | refine op_move rfl rfl ?_)
 refine op_string T rfl rfl rfl rfl rfl hb ?_
 repeat (refine WL_some rfl rfl rfl ?_)
 refine op_str_eql (a := a) (b := b) rfl rfl rfl (fun h => ?_) (fun h => ?_)
 ·rw [decide_eq_true h]
  repeat (first | refine W_ret ?_ | refine Then_n ?_ | refine WL_nil ?_ | refine WL_some rfl rfl rfl ?_ | refine op_assign rfl rfl ?_)
  exact post1 (.inl rfl) rfl rfl ⟨Chg.refl _ _, rfl⟩
 ·rw [decide_eq_false h]
  repeat (first | refine W_ret ?_ | refine Then_n ?_ | refine WL_nil ?_ | refine WL_some rfl rfl rfl ?_ | refine op_assign rfl rfl ?_)
  exact post1 (.inl rfl) rfl rfl ⟨Chg.refl _ _, rfl⟩
theorem step_has (w0 : World) (g : Nat) (s : List UInt8 × Bool) (n : Nat) (w : World) (hx : RdAt w0 w g s) (hn : n ≤ s.1.length) :
  Has Tryz.prog 181 #[.pointer (some ⟨g, 0, none⟩), .int .i64 (n : Int)] w (fun v w' => Chg [g] w w' ∧ RdAt w0 w' g (stepM s n)) := by
 refine enter Tryz.func181 rfl rfl (by decide) rfl (e := [(0, .pointer (some ⟨g, 0, none⟩)), (1, .int .i64 (n : Int))]) ⟨rfl, rfl, trivial⟩ ?_
 have hx0 := hx
 obtain ⟨A, k, c, hb, hf⟩ := hx.ex
 obtain ⟨l, bad⟩ := s
 dsimp only at hb hf hn
 have hnil : ∀ w', SliceOf Ru8 w' (.slice none 0 0) [] := fun w' => SliceOf.nil _ _
 cases bad with
 | true =>
  rw [show stepM (l, true) n = ([], true) from rfl]
  repeat (first | refine W_seq ?_ | refine W_region ?_ | refine WL_some rfl rfl rfl ?_ | refine WL_none rfl rfl ?_ | refine WL_guardF rfl rfl rfl rfl rfl ?_ | refine op_move rfl rfl ?_ | refine op_pick rfl rfl rfl rfl ?_ | refine op_nilCheck rfl rfl ?_ | refine op_fieldAddr T rfl rfl rfl rfl rfl rfl rfl rfl ?_ | refine op_loadB T rfl rfl rfl rfl (by assumption) (by exact rfl) ?_)
  refine op_store T rfl rfl rfl rfl rfl rfl hb (by simp) (fun w1 hc1 hb1 _ => ?_)
  have hb1 : Blk w1 g 204 [.slice A k c, .bool true] := hb1
  repeat (first | refine W_seq ?_ | refine W_region ?_ | refine Then_n ?_ | refine WL_nil ?_ | refine W_condT rfl ?_ | refine WL_some rfl rfl rfl ?_ | refine WL_none rfl rfl ?_ | refine op_move rfl rfl ?_ | refine op_nilCheck rfl rfl ?_ | refine op_fieldAddr T rfl rfl rfl rfl rfl rfl rfl rfl ?_ | refine op_loadB T rfl rfl rfl rfl (by assumption) (by exact rfl) ?_)
  refine op_store T rfl rfl rfl rfl rfl rfl hb1 (by simp) (fun w2 hc2 hb2 _ => ?_)
  repeat (first | refine W_ret ?_ | refine Then_n ?_ | refine Then_r ?_ | refine WL_nil ?_)
  exact post0 (.inl rfl) rfl ⟨hc1.trans hc2 (fun k hk _ => hk), ⟨none, 0, 0, hb2, hnil _⟩, hx0.own (hc1.trans hc2 (fun k hk _ => hk)), hx0.ge⟩
 | false =>
  by_cases h0 : n = 0
  ·rw [show stepM (l, false) n = ([], true) from by unfold stepM; rw [if_pos (.inr h0)]]
   repeat (first | refine W_seq ?_ | refine W_region ?_ | refine WL_some rfl rfl rfl ?_ | refine WL_none rfl rfl ?_ | refine WL_guardT rfl rfl rfl rfl ?_ | refine op_move rfl rfl ?_ | refine op_pick rfl rfl rfl rfl ?_ | refine op_nilCheck rfl rfl ?_ | refine op_eql rfl rfl rfl (fun hc => ?_) (fun hc => False.elim (by omega)) | refine op_fieldAddr T rfl rfl rfl rfl rfl rfl rfl rfl ?_ | refine op_loadB T rfl rfl rfl rfl (by assumption) (by exact rfl) ?_)
   refine op_store T rfl rfl rfl rfl rfl rfl hb (by simp) (fun w1 hc1 hb1 _ => ?_)
   have hb1 : Blk w1 g 204 [.slice A k c, .bool true] := hb1
   repeat (first | refine W_seq ?_ | refine W_region ?_ | refine Then_n ?_ | refine WL_nil ?_ | refine W_condT rfl ?_ | refine WL_some rfl rfl rfl ?_ | refine WL_none rfl rfl ?_ | refine op_move rfl rfl ?_ | refine op_nilCheck rfl rfl ?_ | refine op_fieldAddr T rfl rfl rfl rfl rfl rfl rfl rfl ?_ | refine op_loadB T rfl rfl rfl rfl (by assumption) (by exact rfl) ?_)
   refine op_store T rfl rfl rfl rfl rfl rfl hb1 (by simp) (fun w2 hc2 hb2 _ => ?_)
   repeat (first | refine W_ret ?_ | refine Then_n ?_ | refine Then_r ?_ | refine WL_nil ?_)
   exact post0 (.inl rfl) rfl ⟨hc1.trans hc2 (fun k hk _ => hk), ⟨none, 0, 0, hb2, hnil _⟩, hx0.own (hc1.trans hc2 (fun k hk _ => hk)), hx0.ge⟩
  ·rw [show stepM (l, false) n = (l.drop n, false) from by unfold stepM; rw [if_neg (fun h => h.elim (fun h => by cases h) h0)]]
   repeat (first | refine W_seq ?_ | refine W_region ?_ | refine WL_some rfl rfl rfl ?_ | refine WL_none rfl rfl ?_ | refine WL_guardT rfl rfl rfl rfl ?_ | refine op_move rfl rfl ?_ | refine op_pick rfl rfl rfl rfl ?_ | refine op_nilCheck rfl rfl ?_ | refine op_eql rfl rfl rfl (fun hc => False.elim (by omega)) (fun hc => ?_) | refine op_fieldAddr T rfl rfl rfl rfl rfl rfl rfl rfl ?_ | refine op_loadB T rfl rfl rfl rfl (by assumption) (by exact rfl) ?_)
   refine op_store T rfl rfl rfl rfl rfl rfl hb (by simp) (fun w1 hc1 hb1 _ => ?_)
   have hb1 : Blk w1 g 204 [.slice A k c, .bool false] := hb1
   have hf1 := SliceOf.kept Ru8.kept _ _ _ _ (hx0.own hc1) hf
   repeat (first | refine W_seq ?_ | refine W_region ?_ | refine W_skip ?_ | refine Then_n ?_ | refine WL_nil ?_ | refine W_condF rfl ?_ | refine WL_some rfl rfl rfl ?_ | refine op_move rfl rfl ?_ | refine op_nilCheck rfl rfl ?_ | refine op_fieldAddr T rfl rfl rfl rfl rfl rfl rfl rfl ?_ | refine op_loadB T rfl rfl rfl rfl (by assumption) (by exact rfl) ?_)
   refine op_cut T (l := n) (h' := l.length) rfl rfl rfl rfl rfl ⟨_, rfl⟩ hf1.len.1.symm hf1 hn (Nat.le_refl _) (fun A' hA' => ?_)
   repeat (first | refine WL_some rfl rfl rfl ?_ | refine WL_none rfl rfl ?_ | refine op_nilCheck rfl rfl ?_ | refine op_fieldAddr T rfl rfl rfl rfl rfl rfl rfl rfl ?_)
   refine op_store T rfl rfl rfl rfl rfl rfl hb1 (by simp) (fun w2 hc2 hb2 _ => ?_)
   repeat (refine WL_nil ?_)
   have hf0 := hA' w0 hf
   rw [List.take_length] at hf0
   exact post0 (.inr rfl) rfl ⟨hc1.trans hc2 (fun k hk _ => hk), ⟨A', _, _, hb2, hf0⟩, hx0.own (hc1.trans hc2 (fun k hk _ => hk)), hx0.ge⟩
theorem num_has (w0 : World) (g : Nat) (s : List UInt8 × Bool) (most : Nat) (w : World) (hx : RdAt w0 w g s) (hm : most < 9223372036854775808) :
  Has Tryz.prog 159 #[.pointer (some ⟨g, 0, none⟩), .int .i64 (most : Int)] w (fun v w' => Chg [g] w w' ∧ v = .int .i64 ((numM s most).1 : Int) ∧ RdAt w0 w' g (numM s most).2) := by
 refine enter Tryz.func159 rfl rfl (by decide) rfl (e := [(0, .pointer (some ⟨g, 0, none⟩)), (1, .int .i64 (most : Int))]) ⟨rfl, rfl, trivial⟩ ?_
 have hx0 := hx
 obtain ⟨A, k, c, hb, hf⟩ := hx.ex
 have hnow := SliceOf.kept Ru8.kept _ _ _ _ hx.chg hf
 repeat (first | refine W_seq ?_ | refine W_region ?_ | refine Then_n ?_ | refine WL_nil ?_ | refine WL_some rfl rfl rfl ?_ | refine op_move rfl rfl ?_ | refine op_assign rfl rfl ?_ | refine op_nilCheck rfl rfl ?_ | refine op_fieldAddr T rfl rfl rfl rfl rfl rfl rfl rfl ?_ | refine op_loadB T rfl rfl rfl rfl (by assumption) (by exact rfl) ?_)
 refine op_call rfl rfl rfl (get_has A k c s.1 w hnow) ?_
 rintro _ _ ⟨rfl, rfl⟩
 have hbd := getM_bound s.1
 unfold numM
 generalize getM s.1 = q at *
 obtain ⟨n, kk⟩ := q
 dsimp only at *
 by_cases hbig : most < n
 ·rw [if_pos hbig]
  repeat (first | refine W_seq ?_ | refine W_region ?_ | refine Then_n ?_ | refine WL_nil ?_ | refine WL_some rfl rfl rfl ?_ | refine op_move rfl rfl ?_ | refine op_assign rfl rfl ?_ | refine op_extract rfl rfl rfl ?_)
  refine op_convert_fit T rfl rfl rfl rfl (wrap_u64_in (by omega) (by omega)) ?_
  repeat (first | refine W_seq ?_ | refine W_region ?_ | refine Then_n ?_ | refine WL_nil ?_ | refine W_condT rfl ?_ | refine WL_some rfl rfl rfl ?_ | refine op_move rfl rfl ?_ | refine op_assign rfl rfl ?_ | refine op_gtr rfl rfl rfl (fun hc => ?_) (fun hc => False.elim (by omega)))
  refine op_call rfl rfl rfl (step_has w0 g s 0 _ hx0 (Nat.zero_le _)) ?_
  rintro v w1 ⟨hc1, hx1⟩
  rw [show stepM s 0 = ([], true) from by unfold stepM; rw [if_pos (.inr rfl)]] at hx1 ⊢
  have hx2 := hx1
  obtain ⟨A1, k1, c1, hb1, hf1⟩ := hx1.ex
  rw [if_pos rfl]
  repeat (first | refine W_seq ?_ | refine W_region ?_ | refine W_ret ?_ | refine Then_n ?_ | refine Then_r ?_ | refine WL_nil ?_ | refine W_condT rfl ?_ | refine WL_some rfl rfl rfl ?_ | refine op_move rfl rfl ?_ | refine op_assign rfl rfl ?_ | refine op_nilCheck rfl rfl ?_ | refine op_fieldAddr T rfl rfl rfl rfl rfl rfl rfl rfl ?_ | refine op_loadB T rfl rfl rfl rfl (by assumption) (by exact rfl) ?_)
  exact post1 (.inl rfl) rfl rfl ⟨hc1, rfl, hx2⟩
 ·rw [if_neg hbig]
  repeat (first | refine W_seq ?_ | refine W_region ?_ | refine Then_n ?_ | refine WL_nil ?_ | refine WL_some rfl rfl rfl ?_ | refine op_move rfl rfl ?_ | refine op_assign rfl rfl ?_ | refine op_extract rfl rfl rfl ?_)
  refine op_convert_fit T rfl rfl rfl rfl (wrap_u64_in (by omega) (by omega)) ?_
  repeat (first | refine W_seq ?_ | refine W_region ?_ | refine W_skip ?_ | refine Then_n ?_ | refine WL_nil ?_ | refine W_condF rfl ?_ | refine WL_some rfl rfl rfl ?_ | refine op_move rfl rfl ?_ | refine op_gtr rfl rfl rfl (fun hc => False.elim (by omega)) (fun hc => ?_))
  refine op_call rfl rfl rfl (step_has w0 g s kk _ hx0 (by omega)) ?_
  rintro v w1 ⟨hc1, hx1⟩
  have hx2 := hx1
  obtain ⟨A1, k1, c1, hb1, hf1⟩ := hx1.ex
  generalize stepM s kk = z at *
  obtain ⟨l', bad⟩ := z
  dsimp only at *
  cases bad with
  | true =>
   rw [if_pos rfl]
   repeat (first | refine W_seq ?_ | refine W_region ?_ | refine W_ret ?_ | refine Then_n ?_ | refine Then_r ?_ | refine WL_nil ?_ | refine W_condT rfl ?_ | refine WL_some rfl rfl rfl ?_ | refine op_move rfl rfl ?_ | refine op_assign rfl rfl ?_ | refine op_nilCheck rfl rfl ?_ | refine op_fieldAddr T rfl rfl rfl rfl rfl rfl rfl rfl ?_ | refine op_loadB T rfl rfl rfl rfl (by assumption) (by exact rfl) ?_)
   exact post1 (.inl rfl) rfl rfl ⟨hc1, rfl, hx2⟩
  | false =>
   rw [if_neg (by simp)]
   repeat (first | refine W_seq ?_ | refine W_region ?_ | refine W_skip ?_ | refine Then_n ?_ | refine WL_nil ?_ | refine W_condF rfl ?_ | refine WL_some rfl rfl rfl ?_ | refine op_move rfl rfl ?_ | refine op_nilCheck rfl rfl ?_ | refine op_fieldAddr T rfl rfl rfl rfl rfl rfl rfl rfl ?_ | refine op_loadB T rfl rfl rfl rfl (by assumption) (by exact rfl) ?_)
   refine op_convert_fit T rfl rfl rfl rfl (wrap_i64_in (by omega) (by omega)) ?_
   repeat (first | refine W_ret ?_ | refine Then_n ?_ | refine WL_nil ?_ | refine WL_some rfl rfl rfl ?_ | refine op_assign rfl rfl ?_)
   exact post1 (.inl rfl) rfl rfl ⟨hc1, rfl, hx2⟩
theorem done_has (w0 : World) (g : Nat) (s : List UInt8 × Bool) (w : World) (hx : RdAt w0 w g s) :
  Has Tryz.prog 161 #[.pointer (some ⟨g, 0, none⟩)] w (fun v w' => Chg [] w w' ∧ v = .bool (decide (s.2 = false ∧ s.1 = []))) := by
 refine enter Tryz.func161 rfl rfl (by decide) rfl (e := [(0, .pointer (some ⟨g, 0, none⟩))]) ⟨rfl, trivial⟩ ?_
 obtain ⟨A, k, c, hb, hf⟩ := hx.ex
 obtain ⟨l, bad⟩ := s
 dsimp only at *
 obtain ⟨rfl, _, _⟩ := hf.len
 cases bad with
 | true =>
  rw [decide_eq_false (by simp)]
  repeat (first | refine W_seq ?_ | refine W_region ?_ | refine W_ret ?_ | refine Then_n ?_ | refine WL_nil ?_ | refine WL_some rfl rfl rfl ?_ | refine WL_guardF rfl rfl rfl rfl rfl ?_ | refine op_move rfl rfl ?_ | refine op_assign rfl rfl ?_ | refine op_pick rfl rfl rfl rfl ?_ | refine op_notT rfl rfl ?_ | refine op_nilCheck rfl rfl ?_ | refine op_fieldAddr T rfl rfl rfl rfl rfl rfl rfl rfl ?_ | refine op_loadB T rfl rfl rfl rfl (by assumption) (by exact rfl) ?_)
  exact post1 (.inl rfl) rfl rfl ⟨Chg.refl _ _, rfl⟩
 | false =>
  by_cases hl : l.length = 0
  ·rw [decide_eq_true ⟨rfl, List.eq_nil_of_length_eq_zero hl⟩]
   repeat (first | refine W_seq ?_ | refine W_region ?_ | refine W_ret ?_ | refine Then_n ?_ | refine WL_nil ?_ | refine WL_some rfl rfl rfl ?_ | refine WL_guardT rfl rfl rfl rfl ?_ | refine op_move rfl rfl ?_ | refine op_assign rfl rfl ?_ | refine op_pick rfl rfl rfl rfl ?_ | refine op_len_slice T rfl rfl rfl rfl ?_ | refine op_notF rfl rfl ?_ | refine op_nilCheck rfl rfl ?_ | refine op_eql rfl rfl rfl (fun hc => ?_) (fun hc => False.elim (by omega)) | refine op_fieldAddr T rfl rfl rfl rfl rfl rfl rfl rfl ?_ | refine op_loadB T rfl rfl rfl rfl (by assumption) (by exact rfl) ?_)
   exact post1 (.inl rfl) rfl rfl ⟨Chg.refl _ _, rfl⟩
  ·rw [decide_eq_false (by rintro ⟨_, rfl⟩; exact hl rfl)]
   repeat (first | refine W_seq ?_ | refine W_region ?_ | refine W_ret ?_ | refine Then_n ?_ | refine WL_nil ?_ | refine WL_some rfl rfl rfl ?_ | refine WL_guardT rfl rfl rfl rfl ?_ | refine op_move rfl rfl ?_ | refine op_assign rfl rfl ?_ | refine op_pick rfl rfl rfl rfl ?_ | refine op_len_slice T rfl rfl rfl rfl ?_ | refine op_notF rfl rfl ?_ | refine op_nilCheck rfl rfl ?_ | refine op_eql rfl rfl rfl (fun hc => False.elim (by omega)) (fun hc => ?_) | refine op_fieldAddr T rfl rfl rfl rfl rfl rfl rfl rfl ?_ | refine op_loadB T rfl rfl rfl rfl (by assumption) (by exact rfl) ?_)
   exact post1 (.inl rfl) rfl rfl ⟨Chg.refl _ _, rfl⟩
end Go.Proofs.YtiadjkjlifnopaaGreatDoor.Tryz
/-! Edits: out of bytes: lists of numbers, segments. -/
namespace Go.Vc
open Go
theorem numM_le (s : RS) (most : Nat) : (numM s most).1 ≤ most := by
 unfold numM
 by_cases h : most < (getM s.1).1
 ·have hs : stepM s 0 = ([], true) := by unfold stepM; rw [if_pos (.inr rfl)]
  simp [h, hs]
 ·simp only [h, if_false]
  split
  ·exact Nat.zero_le _
  ·omega
theorem listD_le : ∀ (n : Nat) (s : RS), ∀ x ∈ (listD n s).1, 0 ≤ x ∧ x ≤ 1125899906842624
 | 0, s => by simp [listD]
 | n + 1, s => by
  intro x hx
  rw [listD] at hx
  rcases List.mem_cons.1 hx with rfl | hx
  ·have := numM_le s 1125899906842624; omega
  ·exact listD_le n _ x hx
end Go.Vc
namespace Go.Proofs.YtiadjkjlifnopaaGreatDoor.Tryz
open Go Go.Vc
theorem RdAt.blk {w0 w : World} {g : Nat} {s : RS} (h : RdAt w0 w g s) : ∃ cs, Blk w g 204 cs := let ⟨_, _, _, h1, _⟩ := h.ex; ⟨_, h1⟩
theorem RdAt.out {w0 w : World} {g : Nat} {s : RS} (h : RdAt w0 w g s) {t : TypeId} {k n : Nat} {v : Value} {xs : List Value} (ho : Own w t k v n xs) (hne : 204 ≠ t) : ∀ b, v.ownBlock = some b → b ∉ [g] := fun b hb hm => by
 obtain ⟨cs, hr⟩ := h.blk
 simp at hm; subst hm
 exact out_of hr ho hne (by simpa using hb)
theorem RdAt.ne {w0 w : World} {g : Nat} {s : RS} (h : RdAt w0 w g s) {t : TypeId} {k : Nat} {cs : List Value} (hb : Blk w k t cs) (hne : 204 ≠ t) : k ∉ [g] := fun hm => by
 obtain ⟨cs', hr⟩ := h.blk
 simp at hm; subst hm
 exact hr.ne_ hb hne rfl
set_option maxHeartbeats 2000000 in
theorem list_has {w0 w : World} {g : Nat} {s : RS} (x : RdAt w0 w g s) :
  Has Tryz.prog 160 #[.pointer (some ⟨g, 0, none⟩)] w (fun v w' => Chg [g] w w' ∧ RdAt w0 w' g (listE s).2 ∧ Own w' 2 1 v (listE s).1.length ((listE s).1.map (Value.int .i64)) ∧ (∀ h, v.ownBlock = some h → w.heap.size ≤ h)) := by
 refine enter Tryz.func160 rfl rfl (by decide) rfl (e := [(0, .pointer (some ⟨g, 0, none⟩))]) ⟨rfl, trivial⟩ ?_
 refine run ?_
 refine go T 14 rfl ?_
 refine o1 rfl ?_
 refine op_call rfl rfl rfl (num_has w0 g s 60 w x (by decide)) ?_
 rintro _ w1 ⟨hc1, rfl, x1⟩
 unfold listE
 have hn := numM_le s 60
 generalize (numM s 60).2 = s1 at *
 generalize (numM s 60).1 = n at *
 refine go T 4 rfl ?_
 refine W_loop (σ := Nat × List Int × RS × Value) (fun q => [(0, .pointer (some ⟨g, 0, none⟩)), (3, q.2.2.2), (5, .int .i64 n), (6, .int .i64 q.1)])
  (fun q w' => q.1 ≤ n ∧ q.2.1.length = q.1 ∧ (∀ x ∈ q.2.1, 0 ≤ x ∧ x ≤ 1125899906842624) ∧ listD n s1 = (q.2.1 ++ (listD (n - q.1) q.2.2.1).1, (listD (n - q.1) q.2.2.1).2) ∧ Chg [g] w w' ∧ RdAt w0 w' g q.2.2.1 ∧ Own w' 2 1 q.2.2.2 q.2.1.length (q.2.1.map (Value.int .i64)) ∧ (∀ h, q.2.2.2.ownBlock = some h → w.heap.size ≤ h))
  (fun q => n - q.1) (0, [], s1, .slice none 0 0) ⟨rfl, rfl, rfl, rfl, trivial⟩ ⟨Nat.zero_le _, rfl, by simp, by simp, hc1, x1, Own.nil _ _ _, fun h hh => by simp [Value.ownBlock] at hh⟩ ?_
 clear x1 hc1
 rintro ⟨i, l, s2, u⟩ w2 ⟨hi, hll, hle, hD, hc2, x2, ho2, hf2⟩
 dsimp only at hi hll hle hD hc2 x2 ho2 hf2 ⊢
 refine run ?_
 refine go T 2 rfl ?_
 refine ltS rfl rfl rfl rfl (fun hcmp => ?_) (fun hcmp => ?_)
 ·rw [show n - i = (n - (i + 1)) + 1 from by omega, listD] at hD
  dsimp only at hD
  have hz := numM_le s2 1125899906842624
  refine go T 11 rfl ?_
  refine o1 rfl ?_
  refine op_call rfl rfl rfl (num_has w0 g s2 1125899906842624 w2 x2 (by decide)) ?_
  rintro _ w3 ⟨hc3, rfl, x3⟩
  replace ho2 := ho2.keep hc3 (x2.out ho2 (by decide))
  replace hc2 := hc2.trans hc3 (fun k hk _ => hk)
  generalize (numM s2 1125899906842624).2 = s3 at *
  generalize (numM s2 1125899906842624).1 = z at *
  refine o1 rfl ?_
  refine op_buildSlice T rfl rfl rfl rfl rfl rfl rfl (fun g4 w4 hs4 hc4 h4 => ?_)
  have h4 : Blk w4 g4 2 [.int .i64 (z : Int)] := h4
  replace ho2 := ho2.keep0 hc4
  replace x3 := x3.keep0 hc4
  replace hc2 := hc2.trans' hc4
  refine o1 rfl ?_
  refine op_append1 T rfl rfl rfl rfl rfl rfl rfl rfl rfl ho2 h4 rfl (by omega) (fun u' w5 hu5 hc5 hb5 => ?_)
  have hxg : g ∉ u.ownBlock.toList := by
   obtain ⟨cs, hr⟩ := x3.blk
   exact out_of hr ho2 (by decide)
  have hsz := hc2.size
  refine go T 5 rfl ?_
  refine adI rfl rfl rfl rfl (by omega) (by omega) ?_
  refine go T 2 rfl ?_
  refine Round_n (i + 1, l ++ [(z : Int)], s3, u') ⟨rfl, rfl, rfl, rfl, trivial⟩ ⟨by omega, by simp [hll], fun y hy => ?_, by dsimp only; rw [hD, List.append_assoc]; rfl, hc2.trans hc5 (fun k hk hlt => by have := hf2 k (by simpa using hk); omega), x3.keep hc5 (fun k hk => by have := hf2 k (by simpa using hk); have := x2.chg.size; have := x.chg.size; omega) hxg, hu5, fresh_of hf2 hsz hb5⟩ (by dsimp only; omega)
  rcases List.mem_append.1 hy with hy | hy
  ·exact hle y hy
  ·simp at hy; subst hy; omega
 ·obtain rfl : i = n := by omega
  rw [Nat.sub_self, listD, List.append_nil] at hD
  rw [hD]
  refine go T 6 rfl ?_
  refine rndX ?_
  refine go T 9 rfl ?_
  exact post1 (.inl rfl) rfl rfl ⟨hc2, x2, ho2, hf2⟩
end Go.Proofs.YtiadjkjlifnopaaGreatDoor.Tryz
/-! Edits: out of bytes. -/
namespace Go.Vc
open Go
end Go.Vc
namespace Go.Proofs.YtiadjkjlifnopaaGreatDoor.Tryz
open Go Go.Vc
structure POwn (w : World) (q : ParV) : Prop where
 nums : Own w 2 1 q.vn q.p.nums.length (q.p.nums.map (Value.int .i64))
 sizes : Own w 3 1 q.vs q.p.sizes.length (q.p.sizes.map (Value.int .i64))
 numsI : ∀ n ∈ q.p.nums, I64 n
 sizesI : ∀ n ∈ q.p.sizes, I64 n
theorem own_i64 {w : World} {t : TypeId} {v : Value} {l : List Int} (h : Own w t 1 v l.length (l.map (Value.int .i64))) (hI : ∀ n ∈ l, I64 n) : SliceOf Ri64 w v l :=
 h.reads rfl (fun i x u hx hu => by
  rw [List.getElem?_map, hx] at hu
  injection hu with hu
  exact ⟨hu.symm, (hI x (List.mem_of_getElem? hx)).1, (hI x (List.mem_of_getElem? hx)).2⟩)
theorem POwn.rd {w : World} {q : ParV} (h : POwn w q) : PRd w q := ⟨own_i64 h.nums h.numsI, own_i64 h.sizes h.sizesI⟩
theorem POwn.keep {w w' : World} {q : ParV} {S : List Nat} (h : POwn w q) (hc : Chg S w w') (h1 : ∀ b, q.vn.ownBlock = some b → b ∉ S) (h2 : ∀ b, q.vs.ownBlock = some b → b ∉ S) : POwn w' q := ⟨h.nums.keep hc h1, h.sizes.keep hc h2, h.numsI, h.sizesI⟩
theorem POwn.keep0 {w w' : World} {q : ParV} (h : POwn w q) (hc : Chg [] w w') : POwn w' q := h.keep hc (by simp) (by simp)
def PFr (b : Nat) (q : ParV) : Prop := (∀ h, q.vn.ownBlock = some h → b ≤ h) ∧ ∀ h, q.vs.ownBlock = some h → b ≤ h
structure EOwn (w : World) (x : EdV) : Prop where
 adds : Own w 26 6 x.va x.e.adds.length (x.e.adds.flatMap segL)
 dels : Own w 2 1 x.vd x.e.dels.length (x.e.dels.map (Value.int .i64))
 pars : Own w 70 5 x.vp x.Q.length (x.Q.flatMap parL)
 parsE : x.Q.map (·.p) = x.e.pars
 prd : ∀ q ∈ x.Q, POwn w q
 drops : Own w 2 1 x.vr x.e.drops.length (x.e.drops.map (Value.int .i64))
 delsI : ∀ n ∈ x.e.dels, I64 n
 dropsI : ∀ n ∈ x.e.drops, I64 n
structure EFr (b : Nat) (x : EdV) : Prop where
 adds : ∀ h, x.va.ownBlock = some h → b ≤ h
 dels : ∀ h, x.vd.ownBlock = some h → b ≤ h
 pars : ∀ h, x.vp.ownBlock = some h → b ≤ h
 prd : ∀ q ∈ x.Q, PFr b q
 drops : ∀ h, x.vr.ownBlock = some h → b ≤ h
section
variable {w w' : World} {x : EdV} {S : List Nat}
theorem EOwn.rd (h : EOwn w x) : ERd w x := ⟨h.adds.readsK segL_len, own_i64 h.dels h.delsI, h.pars.readsK parL_len, h.parsE, fun q hq => (h.prd q hq).rd, own_i64 h.drops h.dropsI⟩
theorem EOwn.keepB (h : EOwn w x) {b : Nat} (hf : EFr b x) (hc : Chg S w w') (hS : ∀ k ∈ S, k < b) : EOwn w' x := by
 have hh : ∀ {v : Value}, (∀ h, v.ownBlock = some h → b ≤ h) → ∀ k, v.ownBlock = some k → k ∉ S := fun hv k hk hm => by have := hv k hk; have := hS k hm; omega
 exact ⟨h.adds.keep hc (hh hf.adds), h.dels.keep hc (hh hf.dels), h.pars.keep hc (hh hf.pars), h.parsE, fun q hq => (h.prd q hq).keep hc (hh (hf.prd q hq).1) (hh (hf.prd q hq).2), h.drops.keep hc (hh hf.drops), h.delsI, h.dropsI⟩
theorem EOwn.keep0 (h : EOwn w x) (hc : Chg [] w w') : EOwn w' x := ⟨h.adds.keep0 hc, h.dels.keep0 hc, h.pars.keep0 hc, h.parsE, fun q hq => (h.prd q hq).keep0 hc, h.drops.keep0 hc, h.delsI, h.dropsI⟩
theorem EOwn.keepT (h : EOwn w x) {g : Nat} {t : TypeId} {cs : List Value} (hb : Blk w g t cs) (h1 : t ≠ 26) (h2 : t ≠ 2) (h3 : t ≠ 70) (h4 : t ≠ 3) (hc : Chg [g] w w') : EOwn w' x := by
 have hh : ∀ {t' : TypeId} {k n : Nat} {v : Value} {xs : List Value}, Own w t' k v n xs → t ≠ t' → ∀ b, v.ownBlock = some b → b ∉ [g] := fun ho hne b hb' hm => by
  simp at hm; subst hm
  exact out_of hb ho hne (by simpa using hb')
 exact ⟨h.adds.keep hc (hh h.adds h1), h.dels.keep hc (hh h.dels h2), h.pars.keep hc (hh h.pars h3), h.parsE, fun q hq => (h.prd q hq).keep hc (hh (h.prd q hq).nums h2) (hh (h.prd q hq).sizes h4), h.drops.keep hc (hh h.drops h2), h.delsI, h.dropsI⟩
end
structure DcAt (w w' : World) (g2 g4 g5 : Nat) (s : RS) (cs : List Value) : Prop where
 rd : RdAt w w' g4 s
 b2 : Blk w' g2 49 [.int .i64 0, .int .i64 0, .slice none 0 0, .slice none 0 0, .slice none 0 0, .slice none 0 0]
 b5 : Blk w' g5 49 cs
 ne : g2 ≠ g5
 f2 : w.heap.size ≤ g2
 f5 : w.heap.size ≤ g5
section
variable {w w' w1 : World} {g2 g4 g5 : Nat} {s s' : RS} {cs cs' : List Value}
theorem DcAt.keep0 (x : DcAt w w' g2 g4 g5 s cs) (hc : Chg [] w' w1) : DcAt w w1 g2 g4 g5 s cs := ⟨x.rd.keep0 hc, x.b2.keep0 hc, x.b5.keep0 hc, x.ne, x.f2, x.f5⟩
theorem DcAt.read (x : DcAt w w' g2 g4 g5 s cs) (hc : Chg [g4] w' w1) (hr : RdAt w w1 g4 s') : DcAt w w1 g2 g4 g5 s' cs := ⟨hr, x.b2.keep hc (x.rd.ne x.b2 (by decide)), x.b5.keep hc (x.rd.ne x.b5 (by decide)), x.ne, x.f2, x.f5⟩
theorem DcAt.keepN (x : DcAt w w' g2 g4 g5 s cs) {S : List Nat} (hc : Chg S w' w1) (h2 : g2 ∉ S) (h4 : g4 ∉ S) (h5 : g5 ∉ S) (hS : ∀ k ∈ S, w.heap.size ≤ k) : DcAt w w1 g2 g4 g5 s cs := ⟨x.rd.keep hc hS h4, x.b2.keep hc h2, x.b5.keep hc h5, x.ne, x.f2, x.f5⟩
theorem DcAt.row (x : DcAt w w' g2 g4 g5 s cs) {t : TypeId} {k n : Nat} {v : Value} {xs : List Value} (ho : Own w' t k v n xs) (hf : ∀ h, v.ownBlock = some h → w.heap.size ≤ h) (h1 : 49 ≠ t) (h2 : 204 ≠ t) (hc : Chg v.ownBlock.toList w' w1) : DcAt w w1 g2 g4 g5 s cs := by
 obtain ⟨cs', hr⟩ := x.rd.blk
 exact x.keepN hc (out_of x.b2 ho h1) (out_of hr ho h2) (out_of x.b5 ho h1) (fun k hk => hf k (by simpa using hk))
theorem DcAt.put (x : DcAt w w' g2 g4 g5 s cs) (hc : Chg [g5] w' w1) (hb : Blk w1 g5 49 cs') : DcAt w w1 g2 g4 g5 s cs' := by
 have hne := x.ne
 obtain ⟨cs0, hr⟩ := x.rd.blk
 exact ⟨x.rd.keep hc (fun k hk => by simp at hk; subst hk; exact x.f5) (fun hm => by simp at hm; subst hm; exact hr.ne_ x.b5 (by decide) rfl), x.b2.keep hc (by simpa using hne), hb, x.ne, x.f2, x.f5⟩
end
end Go.Proofs.YtiadjkjlifnopaaGreatDoor.Tryz
