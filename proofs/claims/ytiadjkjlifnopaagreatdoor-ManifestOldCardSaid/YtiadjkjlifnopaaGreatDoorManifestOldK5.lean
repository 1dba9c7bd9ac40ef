/- The walk of one law and the row that it ends in: whatever the arguments that can be read as data, the call returns true and leaves what was there as it was. No condition. -/
import Derived.Test.YtiadjkjlifnopaaGreatDoorManifestOldK4
import Derived.Test.YtiadjkjlifnopaaGreatDoorManifestOldK1
import Derived.Test.YtiadjkjlifnopaaGreatDoorManifestOldK2
import Derived.Test.YtiadjkjlifnopaaGreatDoorManifestOldK3
import Derived.Test.YtiadjkjlifnopaaGreatDoorRows
import Derived.ProofKit
import Derived.OpenShut
import Derived.ChangeOld
import Derived.ChangeCalls
import Derived.Deep.Slices
import Derived.LaidMore
import Derived.LaidLaws
import Derived.LaidHandle
import Derived.Stop.Joined
import Derived.Handed
import Derived.Test.YtiadjkjlifnopaaGreatDoorCards
import Derived.Test.YtiadjkjlifnopaaGreatDoorTie
import Derived.SevenTiedAt
/-! Manifests: a state in plain words, without the places of its lists. -/
set_option linter.unusedVariables false
namespace Go.Vc
open Go
section
variable {α β : Type} {f : α → β} {key : β → Int}
theorem erase_map : ∀ (L : List α) (i : Nat), (L.map f).eraseIdx i = (L.eraseIdx i).map f
  | [], i => by simp
  | a :: L, 0 => by simp
  | a :: L, i + 1 => by simp [erase_map L i]
theorem takeK_map : ∀ (ns : List Int) (L : List α), takeK key ns (L.map f) = (takeK (fun x => key (f x)) ns L).map (List.map f)
  | [], L => rfl
  | n :: ns, L => by
    rw [takeK, takeK, idxM_map]
    split
    · rfl
    · rw [erase_map, takeK_map ns]
theorem putK_map : ∀ (xs L : List α), putK key (xs.map f) (L.map f) = (putK (fun x => key (f x)) xs L).map (List.map f)
  | [], L => rfl
  | x :: xs, L => by
    rw [List.map_cons, putK, putK, List.any_map]
    by_cases h : (L.any fun y => decide (key (f x) = key (f y))) = true
    · rw [if_pos h, if_pos (by exact h)]; rfl
    · rw [if_neg h, if_neg (by exact h), show L.map f ++ [f x] = (L ++ [x]).map f from by simp, putK_map xs]
theorem insK_map (x : α) : ∀ l : List α, insM (leK key) (f x) (l.map f) = (insM (leK fun x => key (f x)) x l).map f
  | [] => rfl
  | y :: l => by
    rw [List.map_cons, insM, insM]
    by_cases h : leK (fun x => key (f x)) x y = true
    · rw [if_pos h, if_pos (by exact h)]; rfl
    · rw [if_neg h, if_neg (by exact h), insK_map x l]; rfl
theorem sortK_map : ∀ L : List α, sortK key (L.map f) = (sortK (fun x => key (f x)) L).map f
  | [] => rfl
  | x :: l => by
    have h := sortK_map l
    unfold sortK at *
    rw [List.map_cons, isM, isM, h, insK_map]
end
theorem ite_some {α : Type} {c : Bool} {a b : α} (h : (if c = true then some a else none) = some b) : c = true ∧ a = b := by
  cases c with
  | true => injection h with h; exact ⟨rfl, h⟩
  | false => cases h
structure PSt where
  segs : List SegM
  pars : List ParM
  next : Int
  seq : Int
def gKey (p : ParM) : Int := p.group
def finePM (S : List SegM) (Q : List ParM) (nx : Int) (X : List ParM) : Bool :=
  (X.all fun q => q.nums.all fun n => S.any (sealedAt n)) && (decide (max S.length Q.length ≤ 60) && (!(S.any fun s => decide (nx ≤ s.num)) && !(Q.any fun q => decide (nx ≤ q.group))))
def applyP (st : PSt) (e : EditM) (first : Bool) : Option PSt :=
  let t1 := takeK numK e.dels st.segs
  let p1 := putK numK e.adds (t1.getD [])
  let s2 := (p1.map (sortK numK)).getD []
  let t2 := takeK gKey e.drops st.pars
  let p2 := putK gKey e.pars (t2.getD [])
  let q2 := (p2.map (sortK gKey)).getD []
  let n := laterM st.next e.next
  let s := laterM st.seq e.seq
  if (editB e && (t1.isSome && (p1.isSome && (t2.isSome && (p2.isSome && (n.2 && (s.2 && finePM s2 q2 n.1 (if first then [] else e.pars)))))))) = true then some ⟨s2, q2, n.1, s.1⟩ else none
def StM.plain (st : StM) : PSt := ⟨st.segs, st.pars.map (·.1.p), st.next, st.seq⟩
theorem fineM_plain (S : List SegM) (Q X : List ParV) (nx : Int) : fineM S Q nx X = finePM S (Q.map (·.p)) nx (X.map (·.p)) := by
  unfold fineM finePM
  rw [List.length_map, List.all_map, List.any_map]
  rfl
theorem applyM_plain {st : StM} {e : EditM} {X : List ParS} {first : Bool} (hX : X.map (·.1.p) = e.pars) : (applyM st e X first).map StM.plain = applyP st.plain e first := by
  have ht : takeK gKey e.drops (st.pars.map (·.1.p)) = (takeK parKey e.drops st.pars).map (List.map (·.1.p)) := takeK_map e.drops st.pars
  have hp : putK gKey (X.map (·.1.p)) (((takeK parKey e.drops st.pars).getD []).map (·.1.p)) = (putK parKey X ((takeK parKey e.drops st.pars).getD [])).map (List.map (·.1.p)) := putK_map X _
  have hg : ∀ o : Option (List ParS), (o.map (List.map (·.1.p))).getD [] = (o.getD []).map (·.1.p) := fun o => by cases o <;> rfl
  have hs : ∀ o : Option (List ParS), ((o.map (List.map (·.1.p))).map (sortK gKey)).getD [] = ((o.map (sortK parKey)).getD []).map (·.1.p) := fun o => by
    cases o with
    | none => rfl
    | some l => exact sortK_map l
  have hi : ∀ o : Option (List ParS), (o.map (List.map (·.1.p))).isSome = o.isSome := fun o => by cases o <;> rfl
  have hif : ∀ b : Bool, ((if b then ([] : List ParV) else X.map (·.1))).map (·.p) = if b then [] else X.map (·.1.p) := fun b => by cases b <;> simp
  have key : ∀ (c c' : Bool) (a : StM) (b : PSt), c = c' → a.plain = b → (if c = true then some a else none).map StM.plain = if c' = true then some b else none := fun c c' a b hc hb => by subst hc; subst hb; split <;> rfl
  unfold applyM applyP
  refine key _ _ _ _ ?_ ?_
  · unfold StM.plain
    dsimp only
    rw [ht, hg, ← hX, hp, hs, hi, hi, fineM_plain, hif, List.map_map]
    cases first <;> rfl
  · unfold StM.plain
    dsimp only
    rw [ht, hg, ← hX, hp, hs]
    rfl
end Go.Vc
/-! Regions that draw their order, one of whose operations (number q) may turn blocks that the region itself has made; of one value that stands ahead of it (number j0) it is told what holds behind it (A0). -/
set_option linter.unusedSimpArgs false
set_option linter.unusedVariables false
namespace Go.Vc.G
open Go Go.RowKit Go.Vc

theorem OpW_mono' {P : Program} {N : Nat} {o : Oper} {e : Env} {w : World} {K K' : Value → World → Prop} (h : OpW P N o e w K) (hk : ∀ v w', K v w' → K' v w') : OpW P N o e w K' := by
  unfold OpW at *
  intro a ha K1 Q1 h1
  exact h a ha K1 Q1 (fun v w' hv => h1 v w' (hk v w' hv))
/-- What is told of a value: of one that is no constant, where b, what holds of it; else what held once. -/
def Tells (b : Bool) : VS → Value → World → Prop
  | .c u, v, _ => v = u
  | .r R, v, w => (b = true → R v w) ∧ ∃ w0, R v w0
theorem Tells.of {s : VS} {b : Bool} {v : Value} {w : World} (h : s.holds v w) : Tells b s v w := by
  cases s with
  | c u => exact h
  | r R => exact ⟨fun _ => h, _, h⟩
theorem Tells.less {s : VS} {b b' : Bool} {v : Value} {w : World} (h : Tells b s v w) (hb : b' = true → b = true) : Tells b' s v w := by
  cases s with
  | c u => exact h
  | r R => exact ⟨fun h' => h.1 (hb h'), h.2⟩
/-- What operation i may turn, n blocks being there before the region. -/
def Turns (q n i : Nat) (w w' : World) : Prop := ∃ S : List Nat, (∀ k ∈ S, n ≤ k ∧ i = q) ∧ Chg S w w'
theorem Turns.chg {q n i : Nat} {w w' : World} (h : Turns q n i w w') (hi : i ≠ q) : Chg [] w w' := by
  obtain ⟨S, h1, h2⟩ := h
  exact h2.mono (fun k hk _ => absurd (h1 k hk).2 hi)
theorem Turns.none (q n i : Nat) {w w' : World} (h : Chg [] w w') : Turns q n i w w' := ⟨[], fun _ h => (by cases h), h⟩

/-- Operation i is number q, or stands ahead of it. -/
def bq (l : List Oper) (q i : Nat) : Bool := Nat.beq i q || ((l[q]?).map fun o => (predsOf o).contains i).getD false
theorem bq_self (l : List Oper) (q : Nat) : bq l q q = true := by simp [bq]
/-- What is asked of front operation i. -/
def FrontOp (P : Program) (N : Nat) (q j0 : Nat) (A0 : Value → World → Prop) (l : List Oper) (Vs : List VS) (e : Env) (w : World) (i : Nat) (o : Oper) : Prop :=
  ∀ (val : Nat → Value) (w1 : World), Chg [] w w1 → (∀ j, (predsOf o).contains j = true → ∀ oj d, l[j]? = some oj → oj.dst = some d → Tells (bq l q i) (vsAt Vs j) (valOf Vs val j) w1) →
    match o.guard with
    | none => OpW P N o (opEnv l Vs e i o val) w1 (fun v w' => Turns q w.heap.size i w1 w' ∧ (vsAt Vs i).holds v w' ∧ (i = q → A0 (valOf Vs val j0) w'))
    | some (j, want) => ∃ b, (predsOf o).contains j = true ∧ ((l[j]?).bind (·.dst)).isSome = true ∧ (valOf Vs val j = .bool b ∨ (b = (!want) ∧ valOf Vs val j = undef)) ∧
        (b = want → OpW P N o (opEnv l Vs e i o val) w1 (fun v w' => Turns q w.heap.size i w1 w' ∧ (vsAt Vs i).holds v w' ∧ (i = q → A0 (valOf Vs val j0) w'))) ∧ (b = !want → (vsAt Vs i).holds undef w1 ∧ i ≠ q)
def Front (P : Program) (N : Nat) (q j0 : Nat) (A0 : Value → World → Prop) (l : List Oper) (Vs : List VS) (e : Env) (w : World) : Nat → Nat → List Oper → Prop
  | _, 0, _ => True
  | _, _ + 1, [] => True
  | i, m + 1, o :: r => FrontOp P N q j0 A0 l Vs e w i o ∧ Front P N q j0 A0 l Vs e w (i + 1) m r

theorem Front.get {P : Program} {N : Nat} {q j0 : Nat} {A0 : Value → World → Prop} {l : List Oper} {Vs : List VS} {e : Env} {w : World} :
    ∀ (r : List Oper) (i m : Nat), Front P N q j0 A0 l Vs e w i m r → ∀ k o, k < m → r[k]? = some o → FrontOp P N q j0 A0 l Vs e w (i + k) o
  | [], i, m, h, k, o, hk, ho => by simp at ho
  | p :: r, i, 0, h, k, o, hk, ho => by omega
  | p :: r, i, m + 1, h, 0, o, hk, ho => by simp at ho; subst ho; exact h.1
  | p :: r, i, m + 1, h, k + 1, o, hk, ho => by
    have := Front.get r (i + 1) m h.2 k o (by omega) (by simpa using ho)
    rw [show i + (k + 1) = i + 1 + k from by omega]; exact this

/-- The state in the middle of a region. -/
structure Mid (N : Nat) (q j0 : Nat) (A0 : Value → World → Prop) (l : List Oper) (m : Nat) (Vs : List VS) (e : Env) (w0 : World) (listed : Array Bool) (a : Act) (w : World) : Prop where
  size : a.tmps.size = N
  defers : a.defers = []
  chg : Chg [] w0 w
  lsize : listed.size = l.length
  front : ∀ i, i < l.length → m ≤ i → listed.getD i true = false
  down : ∀ i o, l[i]? = some o → listed.getD i true = true → ∀ j, (predsOf o).contains j = true → listed.getD j false = true
  old : ∀ t v, look e t = some v → (∀ i o, l[i]? = some o → o.dst = some t → listed.getD i true = false) → a.tmps[t]? = some v
  new : ∀ i o d, l[i]? = some o → o.dst = some d → listed.getD i true = true → ∃ v, a.tmps[d]? = some v ∧ Tells (Nat.beq i q || !listed.getD q false) (vsAt Vs i) v w
  noval : ∀ i o, l[i]? = some o → o.dst = none → listed.getD i true = true → ∃ v, Tells (Nat.beq i q || !listed.getD q false) (vsAt Vs i) v w
  behind : listed.getD q false = true → ∀ o d, l[j0]? = some o → o.dst = some d → listed.getD j0 true = true ∧ ∃ v, a.tmps[d]? = some v ∧ A0 v w

section
variable {P : Program} {N : Nat} {q j0 : Nat} {A0 : Value → World → Prop} {l : List Oper} {m : Nat} {Vs : List VS} {e : Env} {w0 : World} {listed : Array Bool} {a : Act} {w : World}

/-- The values that the listed front operations have left, as a function of their numbers. -/
theorem Mid.vals (hM : Mid N q j0 A0 l m Vs e w0 listed a w) : ∃ val : Nat → Value, ∀ i o d, l[i]? = some o → o.dst = some d → listed.getD i true = true → a.tmps[d]? = some (valOf Vs val i) ∧ Tells (Nat.beq i q || !listed.getD q false) (vsAt Vs i) (valOf Vs val i) w := by
  refine ⟨fun i => ((l[i]?).bind (·.dst)).elim undef fun d => a.tmps.getD d undef, fun i o d ho hd hl => ?_⟩
  obtain ⟨v, hv, hh⟩ := hM.new i o d ho hd hl
  unfold valOf
  cases hvs : Vs[i]? with
  | none => simp [ho, hd, Array.getD_eq_getD_getElem?, hv]; simpa [vsAt, hvs] using hh
  | some s =>
    cases s with
    | c u =>
      have : v = u := by simpa [vsAt, hvs, Tells] using hh
      subst this
      exact ⟨hv, by simp [vsAt, hvs, Tells]⟩
    | r R => simp [ho, hd, Array.getD_eq_getD_getElem?, hv]; simpa [vsAt, hvs] using hh

/-- One front operation more. -/
theorem Mid.step (hdst : dstsOk N l = true) (hM : Mid N q j0 A0 l m Vs e w0 listed a w) {i : Nat} {o : Oper} (ho : l[i]? = some o) (him : i < m) (hun : listed.getD i true = false)
    (hpre : ∀ j, (predsOf o).contains j = true → listed.getD j false = true) (hfirm : ∀ i, (vsAt Vs i).firm []) {v : Value} {w' : World} (hc : Turns q w0.heap.size i w w') (hv : (vsAt Vs i).holds v w') (hA : ∀ v w w', A0 v w → Chg [] w w' → A0 v w') (hq : i = q → ∀ o d, l[j0]? = some o → o.dst = some d → listed.getD j0 true = true ∧ ∃ u, a.tmps[d]? = some u ∧ A0 u w') :
    Mid N q j0 A0 l m Vs e w0 (listed.setIfInBounds i true) (a.put o.dst v) w' := by
  have hi : i < listed.size := by rw [hM.lsize]; exact (List.getElem?_eq_some_iff.1 ho).1
  refine ⟨by cases hd : o.dst <;> simp [Act.put, hM.size], by cases hd : o.dst <;> simp [Act.put, hM.defers], ?_, by simp [hM.lsize], fun k hk hmk => ?_, fun k ok hok hlk j hj => ?_, fun t u hu hall => ?_, fun k ok d hok hd hlk => ?_, fun k ok hok hd hlk => ?_, fun hlq o0 d0 ho0 hd0 => ?_⟩
  · obtain ⟨S, h1, h2⟩ := hc
    exact hM.chg.trans h2 (fun k hk hlt => by have := (h1 k hk).1; omega)
  · rw [getD_set hi, if_neg (by omega)]; exact hM.front k hk hmk
  · rw [getD_set hi] at hlk ⊢
    by_cases hij : i = j
    · rw [if_pos hij]
    · rw [if_neg hij]
      by_cases hik : i = k
      · subst hik
        rw [ho] at hok; injection hok with hok; subst hok
        exact hpre j hj
      · rw [if_neg hik] at hlk
        exact hM.down k ok hok hlk j hj
  · have h1 := hM.old t u hu (fun k ok hok hd => by
      have := hall k ok hok hd
      rw [getD_set hi] at this
      split at this
      · cases this
      · exact this)
    cases hd : o.dst with
    | none => simpa [Act.put] using h1
    | some d =>
      have hne : d ≠ t := fun h => by
        subst h
        have := hall i o ho hd
        rw [getD_set hi, if_pos rfl] at this
        cases this
      simp only [Act.put, Array.getElem?_setIfInBounds_ne hne]
      exact h1
  · rw [getD_set hi] at hlk
    by_cases hik : i = k
    · subst hik
      rw [ho] at hok; injection hok with hok; subst hok
      have := (dsts_spec hdst ho hd).1
      exact ⟨v, by simp [Act.put, hd, hM.size, this], Tells.of hv⟩
    · rw [if_neg hik] at hlk
      obtain ⟨u, hu, hh⟩ := hM.new k ok d hok hd hlk
      refine ⟨u, ?_, ?_⟩
      · cases hdo : o.dst with
        | none => simpa [Act.put] using hu
        | some d' =>
          have hne : d' ≠ d := fun h => by
            subst h
            exact hik ((dsts_spec hdst ho hdo).2 k ok hok hd).symm
          simp only [Act.put, Array.getElem?_setIfInBounds_ne hne]
          exact hu
      · by_cases hiq : i = q
        · subst hiq
          have hkq : Nat.beq k i = false := by
            cases hx : Nat.beq k i with
            | false => rfl
            | true => exact absurd (Nat.eq_of_beq_eq_true hx).symm hik
          rw [getD_set hi, if_pos rfl, hkq]
          revert hh
          cases vsAt Vs k with
          | c u' => exact fun h => h
          | r R => exact fun h => ⟨fun h' => absurd h' (by simp), h.2⟩
        · have hc0 := hc.chg hiq
          rw [getD_set hi, if_neg hiq]
          have hf := hfirm k
          revert hh hf
          cases vsAt Vs k with
          | c u' => exact fun h _ => h
          | r R => exact fun h hf => ⟨fun hb => hf _ _ _ (h.1 hb) hc0, h.2⟩
  · rw [getD_set hi] at hlk
    by_cases hik : i = k
    · subst hik; exact ⟨v, Tells.of hv⟩
    · rw [if_neg hik] at hlk
      obtain ⟨u, hh⟩ := hM.noval k ok hok hd hlk
      refine ⟨u, ?_⟩
      by_cases hiq : i = q
      · subst hiq
        have hkq : Nat.beq k i = false := by
          cases hx : Nat.beq k i with
          | false => rfl
          | true => exact absurd (Nat.eq_of_beq_eq_true hx).symm hik
        rw [getD_set hi, if_pos rfl, hkq]
        revert hh
        cases vsAt Vs k with
        | c u' => exact fun h => h
        | r R => exact fun h => ⟨fun h' => absurd h' (by simp), h.2⟩
      · have hc0 := hc.chg hiq
        rw [getD_set hi, if_neg hiq]
        have hf := hfirm k
        revert hh hf
        cases vsAt Vs k with
        | c u' => exact fun h _ => h
        | r R => exact fun h hf => ⟨fun hb => hf _ _ _ (h.1 hb) hc0, h.2⟩
  · have hput : ∀ u, listed.getD j0 true = true → a.tmps[d0]? = some u → (a.put o.dst v).tmps[d0]? = some u := fun u hl0 hu => by
      cases hdo : o.dst with
      | none => simpa [Act.put] using hu
      | some d' =>
        have hne : d' ≠ d0 := fun h => by
          subst h
          have := (dsts_spec hdst ho hdo).2 j0 o0 ho0 hd0
          subst this
          rw [hl0] at hun
          cases hun
        simp only [Act.put, Array.getElem?_setIfInBounds_ne hne]
        exact hu
    have hl' : listed.getD j0 true = true → (listed.setIfInBounds i true).getD j0 true = true := fun h => by
      rw [getD_set hi]
      split
      · rfl
      · exact h
    by_cases hiq : i = q
    · obtain ⟨h1, u, h2, h3⟩ := hq hiq o0 d0 ho0 hd0
      exact ⟨hl' h1, u, hput u h1 h2, h3⟩
    · rw [getD_set hi, if_neg hiq] at hlq
      obtain ⟨h1, u, h2, h3⟩ := hM.behind hlq o0 d0 ho0 hd0
      exact ⟨hl' h1, u, hput u h1 h2, hA _ _ _ h3 (hc.chg hiq)⟩

theorem Mid.fits (hdst : dstsOk N l = true) (hM : Mid N q j0 A0 l m Vs e w0 listed a w) {i : Nat} {o : Oper} (ho : l[i]? = some o) (hun : listed.getD i true = false)
    (hpre : ∀ j, (predsOf o).contains j = true → listed.getD j false = true) {val : Nat → Value}
    (hval : ∀ i o d, l[i]? = some o → o.dst = some d → listed.getD i true = true → a.tmps[d]? = some (valOf Vs val i) ∧ Tells (Nat.beq i q || !listed.getD q false) (vsAt Vs i) (valOf Vs val i) w) :
    Fits N (opEnv l Vs e i o val) a := by
  refine ⟨hM.size, hM.defers, fun t v hv => ?_⟩
  unfold opEnv at hv
  rw [look_append] at hv
  cases hp : look (predEnv l Vs val (predsOf o)) t with
  | some u =>
    rw [hp] at hv
    simp at hv
    subst hv
    obtain ⟨j, oj, hj, hoj, hd, rfl⟩ := look_predEnv val _ _ _ hp
    have h1 := hpre j (by simpa using hj)
    have h2 : listed.getD j true = true := by
      have : j < listed.size := by rw [hM.lsize]; exact (List.getElem?_eq_some_iff.1 hoj).1
      simpa [Array.getD_eq_getD_getElem?, this] using h1
    exact (hval j oj t hoj hd h2).1
  | none =>
    rw [hp] at hv
    simp at hv
    obtain ⟨h1, h2⟩ := look_filter hv
    refine hM.old t v h1 (fun k ok hok hd => ?_)
    unfold freeAt at h2
    have h3 := List.all_eq_true.1 h2 (ok, k) (by rw [List.mem_zipIdx_iff_getElem?]; exact hok)
    simp only [hd, Bool.or_eq_true] at h3
    rcases h3 with (h3 | h3) | h3
    · simp at h3
    · cases hlk : listed.getD k true with
      | false => rfl
      | true =>
        have := hM.down k ok hok hlk i h3
        have hi : i < listed.size := by rw [hM.lsize]; exact (List.getElem?_eq_some_iff.1 ho).1
        simp [Array.getD_eq_getD_getElem?, hi] at this hun
        rw [this] at hun; cases hun
    · have : k = i := Nat.eq_of_beq_eq_true h3
      subst this
      exact hun

/-- Once operation m may come up, all front operations have. -/
theorem tail_all (h : tailOk m l = true) (hM : Mid N q j0 A0 l m Vs e w0 listed a w) {o : Oper} (ho : l[m]? = some o) (hpre : ∀ j, (predsOf o).contains j = true → listed.getD j false = true) :
    ∀ k, k < m → listed.getD k false = true := by
  unfold tailOk at h
  rw [ho] at h
  simp only [Bool.and_eq_true] at h
  have hc := h.1.2
  have key : ∀ n k, m - k ≤ n → k < m → listed.getD k false = true := by
    intro n
    induction n with
    | zero => intro k h1 h2; omega
    | succ n ih =>
      intro k h1 h2
      have h3 := List.all_eq_true.1 hc k (by simpa using h2)
      obtain ⟨c, hcm, h4⟩ := List.any_eq_true.1 h3
      simp only [Bool.and_eq_true] at h4
      have hkc : k < c := by simpa [Nat.blt_eq] using h4.1
      have hcm' : c < m + 1 := by simpa using hcm
      cases hoc : l[c]? with
      | none => simp [hoc] at h4
      | some oc =>
        simp only [hoc] at h4
        by_cases hcc : c = m
        · subst hcc
          rw [ho] at hoc; injection hoc with hoc; subst hoc
          exact hpre k h4.2
        · have h5 := ih c (by omega) (by omega)
          have hlt : c < listed.size := by rw [hM.lsize]; exact (List.getElem?_eq_some_iff.1 hoc).1
          have h6 : listed.getD c true = true := by
            simp [Array.getD_eq_getD_getElem?, hlt] at h5 ⊢; exact h5
          exact hM.down c oc hoc h6 k h4.2
  exact fun k hk => key (m - k) k (Nat.le_refl _) hk

theorem Mid.full (hM : Mid N q j0 A0 l m Vs e w0 listed a w) (hall : ∀ k, k < m → listed.getD k true = true) {val : Nat → Value}
    (hval : ∀ i o d, l[i]? = some o → o.dst = some d → listed.getD i true = true → a.tmps[d]? = some (valOf Vs val i) ∧ Tells (Nat.beq i q || !listed.getD q false) (vsAt Vs i) (valOf Vs val i) w) :
    Fits N (frontEnv Vs val 0 m l ++ e) a := by
  refine ⟨hM.size, hM.defers, fun t v hv => ?_⟩
  rw [look_append] at hv
  cases hp : look (frontEnv Vs val 0 m l) t with
  | some u =>
    rw [hp] at hv; simp at hv; subst hv
    obtain ⟨j, o, hj, ho, hd, rfl⟩ := look_frontEnv val _ _ _ _ _ hp
    rw [Nat.zero_add]
    exact (hval j o t ho hd (hall j hj)).1
  | none =>
    rw [hp] at hv; simp at hv
    refine hM.old t v hv (fun i o ho hd => ?_)
    by_cases hi : i < m
    · exact absurd hd (look_front_none l 0 m hp i o hi ho)
    · exact hM.front i (List.getElem?_eq_some_iff.1 ho).1 (by omega)

theorem mid_any {Q : Post} (hdst : dstsOk N l = true) (htl : tailOk m l = true) (hfirm : ∀ i, (vsAt Vs i).firm []) (hA : ∀ v w w', A0 v w → Chg [] w w' → A0 v w') (hqm : q < m) (hpj : ∀ o, l[q]? = some o → (predsOf o).contains j0 = true)
    (hfront : ∀ i o, i < m → l[i]? = some o → FrontOp P N q j0 A0 l Vs e w0 i o)
    (hend : ∀ (val : Nat → Value) (w1 : World), Chg [] w0 w1 → (∀ i, i < m → ∀ o d, l[i]? = some o → o.dst = some d → Tells (Nat.beq i q) (vsAt Vs i) (valOf Vs val i) w1) → (∀ i, i < m → ∀ o, l[i]? = some o → o.dst = none → ∃ v, Tells (Nat.beq i q) (vsAt Vs i) v w1) → (∀ o d, l[j0]? = some o → o.dst = some d → A0 (valOf Vs val j0) w1) → WL P N l.toArray (l.drop m) Q (frontEnv Vs val 0 m l ++ e) w1) :
    ∀ (fuel : Nat) (listed : Array Bool) (a : Act) (w : World), openCount listed l.length = fuel → Mid N q j0 A0 l m Vs e w0 listed a w → wpAny P .any l.toArray (Lift N Q) fuel listed a w := by
  have hml : m ≤ l.length := by
    unfold tailOk at htl
    simp only [Bool.and_eq_true] at htl
    exact Nat.le_of_ble_eq_true htl.1.1
  -- all front operations have come up: the tail
  have hdone : ∀ (listed : Array Bool) (a : Act) (w : World), Mid N q j0 A0 l m Vs e w0 listed a w → (∀ k, k < m → listed.getD k true = true) → wpAny P .any l.toArray (Lift N Q) (l.drop m).length listed a w := by
    intro listed a w hM hall
    obtain ⟨val, hval⟩ := hM.vals
    have hW := hend val w hM.chg (fun i hi o d ho hd => (hval i o d ho hd (hall i hi)).2.less (fun h => by rw [h]; rfl)) (fun i hi o ho hd => let ⟨v, hv⟩ := hM.noval i o ho hd (hall i hi); ⟨v, hv.less (fun h => by rw [h]; rfl)⟩) (fun o d ho hd => by
      have hq0 := hall q hqm
      have hqs : q < listed.size := by rw [hM.lsize]; omega
      obtain ⟨h1, u, h2, h3⟩ := hM.behind (by simp [Array.getD_eq_getD_getElem?, hqs] at hq0 ⊢; exact hq0) o d ho hd
      have h4 := (hval j0 o d ho hd h1).1
      rw [h2] at h4
      injection h4 with h4
      rw [← h4]; exact h3)
    unfold WL at hW
    refine tail_any htl (l.drop m) m listed a w (Nat.le_refl _) rfl hM.lsize (fun k hk => ?_) (hW a (hM.full hall hval))
    by_cases hkm : k < m
    · rw [hall k hkm]; simp [hkm]
    · rw [hM.front k hk (by omega)]; simp [hkm]
  have hcount : ∀ (listed : Array Bool), (∀ k, k < m → listed.getD k true = true) → (∀ i, i < l.length → m ≤ i → listed.getD i true = false) → openCount listed l.length = (l.drop m).length := by
    intro listed h1 h2
    have : ∀ n, n ≤ l.length → openCount listed n = n - m := by
      intro n
      induction n with
      | zero => intro _; simp [openCount]
      | succ n ih =>
        intro hn
        simp only [openCount]
        rw [ih (by omega)]
        by_cases hnm : n < m
        · rw [h1 n hnm]; simp; omega
        · rw [h2 n (by omega) (by omega)]; simp; omega
    rw [this _ (Nat.le_refl _)]; simp
  intro fuel
  induction fuel with
  | zero =>
    intro listed a w hcnt hM
    have hall : ∀ k, k < l.length → listed.getD k true = true := by
      have : ∀ n, openCount listed n = 0 → ∀ k, k < n → listed.getD k true = true := by
        intro n
        induction n with
        | zero => intro _ k hk; omega
        | succ n ih =>
          intro h k hk
          simp only [openCount] at h
          by_cases hkn : k = n
          · subst hkn
            cases hx : listed.getD k true with
            | true => rfl
            | false => rw [hx] at h; simp at h
          · exact ih (by omega) k (by omega)
      exact this _ hcnt
    have hd := hdone listed a w hM (fun k hk => hall k (by omega))
    rw [← hcount listed (fun k hk => hall k (by omega)) hM.front, hcnt] at hd
    exact hd
  | succ fuel ih =>
    intro listed a w hcnt hM
    by_cases hall : ∀ k, k < m → listed.getD k true = true
    · have hd := hdone listed a w hM hall
      rw [← hcount listed hall hM.front, hcnt] at hd
      exact hd
    · -- some front operation is open: the least one may come up; and whatever may come up is a front operation
      have hready : ∀ i, i ∈ Region.ready .any l.toArray listed → i < m := by
        intro i hi
        obtain ⟨o, ho, hun, hpre⟩ := ready_spec hi
        rcases Nat.lt_or_ge i m with h | h
        · exact h
        · exfalso
          have hil := (List.getElem?_eq_some_iff.1 ho).1
          rcases Nat.lt_or_ge m i with h2 | h2
          · have h3 := hpre (i - 1) ((tail_preds htl ho).1 h2)
            have h4 := hM.front (i - 1) (by omega) (by omega)
            have hsz : i - 1 < listed.size := by rw [hM.lsize]; omega
            simp [Array.getD_eq_getD_getElem?, hsz] at h3 h4
            rw [h3] at h4; cases h4
          · have hmi : i = m := by omega
            subst hmi
            refine hall (fun k hk => ?_)
            have h3 := tail_all htl hM ho hpre k hk
            have hsz : k < listed.size := by rw [hM.lsize]; omega
            simp [Array.getD_eq_getD_getElem?, hsz] at h3 ⊢; exact h3
      refine ⟨fun hnil => ?_, fun i hi => ?_⟩
      · exfalso
        have hmin : ∃ k, k < m ∧ listed.getD k true = false ∧ ∀ j, j < k → listed.getD j true = true := by
          have : ∀ n, (∃ k, k < n ∧ ¬ listed.getD k true = true) → ∃ k, k < n ∧ listed.getD k true = false ∧ ∀ j, j < k → listed.getD j true = true := by
            intro n
            induction n with
            | zero => rintro ⟨k, hk, _⟩; omega
            | succ n ih =>
              rintro ⟨k, hk, hx⟩
              by_cases hex : ∃ k, k < n ∧ ¬ listed.getD k true = true
              · obtain ⟨k', h1, h2, h3⟩ := ih hex
                exact ⟨k', by omega, h2, h3⟩
              · have hkn : k = n := by
                  rcases Nat.lt_or_ge k n with h | h
                  · exact absurd ⟨k, h, hx⟩ hex
                  · omega
                subst hkn
                refine ⟨k, by omega, by simpa using hx, fun j hj => ?_⟩
                cases hxj : listed.getD j true with
                | true => rfl
                | false => exact absurd ⟨j, hj, by simp [hxj]⟩ hex
          have hex : ∃ k, k < m ∧ ¬ listed.getD k true = true := by
            refine Classical.byContradiction fun hno => hall fun k hk => ?_
            cases hx : listed.getD k true with
            | true => rfl
            | false => exact absurd ⟨k, hk, by simp [hx]⟩ hno
          exact this m hex
        obtain ⟨k, hkm, hku, hkl⟩ := hmin
        have hkl' : k < l.length := by omega
        have ho : l[k]? = some l[k] := List.getElem?_eq_getElem hkl'
        have : k ∈ Region.ready .any l.toArray listed := by
          unfold Region.ready
          simp only [List.mem_filter, List.mem_range, Bool.and_eq_true, Bool.not_eq_true']
          refine ⟨by simpa using hkl', hku, ?_⟩
          simp [hkl']
          intro q hq
          by_cases hb : Region.binds .any l[k].after[q] = true
          · refine .inr ?_
            have hlt := (tail_preds htl ho).2 (l[k].after[q]).on (by
              simp only [predsOf, List.contains_eq_mem, List.mem_map, List.mem_filter, decide_eq_true_eq]
              exact ⟨l[k].after[q], ⟨by simp, hb⟩, rfl⟩)
            have h2 := hkl (l[k].after[q]).on hlt
            have hsz : (l[k].after[q]).on < listed.size := by rw [hM.lsize]; omega
            simp [Array.getD_eq_getD_getElem?, hsz] at h2 ⊢
            exact h2
          · exact .inl (by simpa using hb)
        rw [hnil] at this; cases this
      · have him := hready i hi
        obtain ⟨o, ho, hun, hpre⟩ := ready_spec hi
        have hlit : l.toArray[i]? = some o := by simpa using ho
        obtain ⟨val, hval⟩ := hM.vals
        have hfit := hM.fits hdst ho hun hpre hval
        have hisz : i < listed.size := by rw [hM.lsize]; exact (List.getElem?_eq_some_iff.1 ho).1
        have hil := (List.getElem?_eq_some_iff.1 ho).1
        have hpv : ∀ j, (predsOf o).contains j = true → ∀ oj, l[j]? = some oj → ∀ d, oj.dst = some d → a.tmps[d]? = some (valOf Vs val j) ∧ Tells (bq l q i) (vsAt Vs j) (valOf Vs val j) w := fun j hj oj hoj d hd => by
          have h1 := hpre j hj
          have hsz : j < listed.size := by rw [hM.lsize]; exact (List.getElem?_eq_some_iff.1 hoj).1
          obtain ⟨h2, h3⟩ := hval j oj d hoj hd (by simp [Array.getD_eq_getD_getElem?, hsz] at h1 ⊢; exact h1)
          refine ⟨h2, h3.less (fun h => ?_)⟩
          have hun' : listed.getD q false = false := by
            unfold bq at h
            rw [Bool.or_eq_true] at h
            rcases h with h | h
            · have hiq : i = q := Nat.eq_of_beq_eq_true h
              subst hiq
              simp [Array.getD_eq_getD_getElem?, hisz] at hun ⊢; exact hun
            · cases hoq : l[q]? with
              | none => rw [hoq] at h; cases h
              | some oq =>
                rw [hoq] at h
                have h : (predsOf oq).contains i = true := h
                cases hlq : listed.getD q false with
                | false => rfl
                | true =>
                  have hqs : q < listed.size := by rw [hM.lsize]; exact (List.getElem?_eq_some_iff.1 hoq).1
                  have h5 := hM.down q oq hoq (by simp [Array.getD_eq_getD_getElem?, hqs] at hlq ⊢; exact hlq) i h
                  simp [Array.getD_eq_getD_getElem?, hisz] at h5 hun; rw [hun] at h5; cases h5
          rw [hun']; simp
        have hF := hfront i o him ho val w hM.chg (fun j hj oj d hoj hd => (hpv j hj oj hoj d hd).2)
        have hgo : ∀ v w', Turns q w0.heap.size i w w' ∧ (vsAt Vs i).holds v w' ∧ (i = q → A0 (valOf Vs val j0) w') → wpAny P .any l.toArray (Lift N Q) fuel (listed.setIfInBounds i true) (a.put o.dst v) w' := fun v w' ⟨hc, hv, ha⟩ =>
          ih _ _ _ (by have := openCount_set hisz hun l.length hil; omega) (hM.step hdst ho him hun hpre hfirm hc hv hA (fun hiq oj d hoj hd => by
            subst hiq
            have hj := hpj o ho
            have h1 := hpre j0 hj
            have hsz : j0 < listed.size := by rw [hM.lsize]; exact (List.getElem?_eq_some_iff.1 hoj).1
            exact ⟨by simp [Array.getD_eq_getD_getElem?, hsz] at h1 ⊢; exact h1, _, (hpv j0 hj oj hoj d hd).1, ha rfl⟩))
        unfold wpOp
        rw [hlit]
        simp only
        cases hg : o.guard with
        | none =>
          rw [hg] at hF
          have hwa : Region.wanted o (yielded l.toArray a.tmps) = true := by simp [Region.wanted, hg]
          rw [if_pos hwa]
          unfold OpW at hF
          exact .inl (hF a hfit _ _ hgo)
        | some g =>
          obtain ⟨j, want⟩ := g
          rw [hg] at hF
          obtain ⟨b, hj, hjd, hb, h1, h2⟩ := hF
          have hwa : Region.wanted o (yielded l.toArray a.tmps) = (b == want) := by
            cases hoj : l[j]? with
            | none => simp [hoj] at hjd
            | some oj =>
              cases hd : oj.dst with
              | none => simp [hoj, hd] at hjd
              | some d =>
                have := (hpv j hj oj hoj d hd).1
                unfold Region.wanted yielded
                rcases hb with hb | ⟨hbw, hb⟩
                · rw [hb] at this
                  simp only [hg, List.getElem?_toArray, hoj, Option.bind_some, hd, this]
                  cases b <;> cases want <;> rfl
                · rw [hb] at this
                  simp only [hg, List.getElem?_toArray, hoj, Option.bind_some, hd, this]
                  subst hbw
                  cases want <;> rfl
          rw [hwa]
          by_cases hbw : b = want
          · subst hbw
            rw [if_pos (by simp)]
            have h3 := h1 rfl
            unfold OpW at h3
            exact .inl (h3 a hfit _ _ hgo)
          · have hbn : b = !want := by cases b <;> cases want <;> first | rfl | exact absurd rfl hbw
            rw [if_neg (by simpa using hbw)]
            exact hgo undef w ⟨Turns.none _ _ _ (Chg.refl _ _), (h2 hbn).1, fun h => absurd h (h2 hbn).2⟩

def Firms : List VS → Prop
  | [] => True
  | s :: r => s.firm [] ∧ Firms r
theorem Firms.at : ∀ {Vs : List VS}, Firms Vs → ∀ i, (vsAt Vs i).firm []
  | [], _, i => by simp [vsAt, VS.firm]
  | s :: r, h, 0 => h.1
  | s :: r, h, i + 1 => Firms.at h.2 i
theorem Firms.snoc {s : VS} : ∀ {Vs : List VS}, Firms Vs → s.firm [] → Firms (Vs ++ [s])
  | [], _, h => ⟨h, trivial⟩
  | a :: A, hf, h => ⟨hf.1, Firms.snoc hf.2 h⟩

/-- **A region that draws its order.** m: how many operations stand in front; Vs: what they leave; -/
theorem W_draw {id : Nat} {Q : Post} (m q j0 : Nat) (A0 : Value → World → Prop) (Vs : List VS) (hfol : P.follows .mixedOrders = true) (hdst : dstsOk N l = true) (htl : tailOk m l = true) (hfirms : Firms Vs) (hA : ∀ v w w', A0 v w → Chg [] w w' → A0 v w') (hqm : q < m) (hpj : ∀ o, l[q]? = some o → (predsOf o).contains j0 = true)
    (hfront : Front P N q j0 A0 l Vs e w 0 m l)
    (hend : ∀ (val : Nat → Value) (w1 : World), Chg [] w w1 → (∀ i, i < m → ∀ o d, l[i]? = some o → o.dst = some d → Tells (Nat.beq i q) (vsAt Vs i) (valOf Vs val i) w1) → (∀ i, i < m → ∀ o, l[i]? = some o → o.dst = none → ∃ v, Tells (Nat.beq i q) (vsAt Vs i) v w1) → (∀ o d, l[j0]? = some o → o.dst = some d → A0 (valOf Vs val j0) w1) → WL P N l.toArray (l.drop m) Q (frontEnv Vs val 0 m l ++ e) w1) :
    W P N (.region id l.toArray true) Q e w := by
  have hfirm : ∀ i, (vsAt Vs i).firm [] := fun i => hfirms.at i
  unfold W
  intro a ha
  refine wp_region_any hfol ?_
  have hc0 : openCount (Array.replicate l.length false) l.length = l.length := by
    have : ∀ n, n ≤ l.length → openCount (Array.replicate l.length false) n = n := by
      intro n
      induction n with
      | zero => intro _; rfl
      | succ n ih =>
        intro hn
        have h1 : (Array.replicate l.length false).getD n true = false := by rw [Array.getD_eq_getD_getElem?, Array.getElem?_replicate, if_pos (by omega)]; rfl
        simp only [openCount]; rw [ih (by omega), h1]; rfl
    exact this _ (Nat.le_refl _)
  have hM : Mid N q j0 A0 l m Vs e w (Array.replicate l.length false) a { w with drawn := w.drawn + 1 } := by
    refine ⟨ha.size, ha.defers, Chg.drawn [] w _, by simp, fun i hi _ => by simp [Array.getD_eq_getD_getElem?, hi], fun i o ho hl => ?_, fun t v hv _ => ha.look t v hv, fun i o d ho _ hl => ?_, fun i o ho _ hl => ?_, fun hlq => ?_⟩
    · have hi := (List.getElem?_eq_some_iff.1 ho).1
      simp [Array.getD_eq_getD_getElem?, hi] at hl
    · have hi := (List.getElem?_eq_some_iff.1 ho).1
      simp [Array.getD_eq_getD_getElem?, hi] at hl
    · have hi := (List.getElem?_eq_some_iff.1 ho).1
      simp [Array.getD_eq_getD_getElem?, hi] at hl
    · exfalso
      by_cases hx : q < l.length <;> simp [Array.getD_eq_getD_getElem?, hx] at hlq
  have := mid_any (P := P) (Q := Q) hdst htl hfirm hA hqm hpj (fun i o him ho => by simpa using Front.get l 0 m hfront i o him ho) hend l.length _ _ _ hc0 hM
  simpa using this

/-! ### The same, walked in the text's order: what an operation leaves is found on the way -/
/-- Operation i, what the elder ones leave being Vs; it leaves s. -/
def StepP (P : Program) (N : Nat) (q j0 : Nat) (A0 : Value → World → Prop) (l : List Oper) (Vs : List VS) (e : Env) (w : World) (i : Nat) (o : Oper) (s : VS) : Prop :=
  ∀ (val : Nat → Value) (w1 : World), Chg [] w w1 → (∀ j, (predsOf o).contains j = true → ∀ oj d, l[j]? = some oj → oj.dst = some d → Tells (bq l q i) (vsAt Vs j) (valOf Vs val j) w1) →
    match o.guard with
    | none => OpW P N o (opEnv l Vs e i o val) w1 (fun v w' => Turns q w.heap.size i w1 w' ∧ s.holds v w' ∧ (i = q → A0 (valOf Vs val j0) w'))
    | some (j, want) => ∃ b, (predsOf o).contains j = true ∧ ((l[j]?).bind (·.dst)).isSome = true ∧ (valOf Vs val j = .bool b ∨ (b = (!want) ∧ valOf Vs val j = undef)) ∧
        (b = want → OpW P N o (opEnv l Vs e i o val) w1 (fun v w' => Turns q w.heap.size i w1 w' ∧ s.holds v w' ∧ (i = q → A0 (valOf Vs val j0) w'))) ∧ (b = !want → s.holds undef w1 ∧ i ≠ q)
def Walk (P : Program) (N : Nat) (q j0 : Nat) (A0 : Value → World → Prop) (l : List Oper) (e : Env) (w : World) (fin : List VS → Prop) : Nat → List Oper → List VS → Prop
  | _, [], Vs => fin Vs
  | i, o :: r, Vs => ∃ s : VS, s.firm [] ∧ StepP P N q j0 A0 l Vs e w i o s ∧ Walk P N q j0 A0 l e w fin (i + 1) r (Vs ++ [s])

theorem walk_front (htl : tailOk m l = true) (hml : m ≤ l.length) (hpj : ∀ o, l[q]? = some o → (predsOf o).contains j0 = true) {fin : List VS → Prop} : ∀ (r : List Oper) (i : Nat) (Vs : List VS), Vs.length = i → (l.take m).drop i = r → Firms Vs → Walk P N q j0 A0 l e w fin i r Vs →
    ∃ rest : List VS, rest.length = r.length ∧ Firms (Vs ++ rest) ∧ fin (Vs ++ rest) ∧ ∀ k o, r[k]? = some o → FrontOp P N q j0 A0 l (Vs ++ rest) e w (i + k) o
  | [], i, Vs, hi, hr, hf, h => ⟨[], rfl, by simpa using hf, by simpa [Walk] using h, fun k o hk => by simp at hk⟩
  | o :: r, i, Vs, hi, hr, hf, h => by
    obtain ⟨s, hs, hst, hw⟩ := h
    have hr' : (l.take m).drop (i + 1) = r := by rw [← List.drop_drop, hr]; rfl
    have hf' : Firms (Vs ++ [s]) := hf.snoc hs
    obtain ⟨rest, hl, h1, h2, h3⟩ := walk_front htl hml hpj r (i + 1) (Vs ++ [s]) (by simp [hi]) hr' hf' hw
    rw [List.append_assoc] at h1 h2 h3
    refine ⟨s :: rest, by simp [hl], h1, h2, fun k ok hk => ?_⟩
    cases k with
    | zero =>
      simp at hk
      subst hk
      rw [Nat.add_zero]
      have ho : l[i]? = some o := by
        have h4 : ((l.take m).drop i)[0]? = some o := by rw [hr]; rfl
        rw [List.getElem?_drop, Nat.add_zero, List.getElem?_take] at h4
        split at h4
        · exact h4
        · cases h4
      have hpl : ∀ j, (predsOf o).contains j = true → j < Vs.length := fun j hj => by rw [hi]; exact (tail_preds htl ho).2 j hj
      have hpe : ∀ val, opEnv l (Vs ++ s :: rest) e i o val = opEnv l Vs e i o val := fun val => by
        unfold opEnv; rw [predEnv_append _ (fun j hj => hpl j (by simpa using hj))]
      have hvs : vsAt (Vs ++ s :: rest) i = s := by rw [← hi]; exact vsAt_at
      intro val w1 hc hp
      have hq := hst val w1 hc (fun j hj oj d h5 h6 => by
        have := hp j hj oj d h5 h6
        rw [vsAt_append (hpl j hj), valOf_append (hpl j hj)] at this; exact this)
      rw [hpe val, hvs]
      have hA0 : ∀ val w', i = q → A0 (valOf Vs val j0) w' → A0 (valOf (Vs ++ s :: rest) val j0) w' := fun val w' hiq h => by
        subst hiq
        rw [valOf_append (hpl j0 (hpj o ho))]; exact h
      cases hg : o.guard with
      | none => rw [hg] at hq; exact OpW_mono' hq (fun v w' hh => ⟨hh.1, hh.2.1, fun hi => hA0 val w' hi (hh.2.2 hi)⟩)
      | some g =>
        obtain ⟨j, want⟩ := g
        rw [hg] at hq
        obtain ⟨b, h5, h6, h7, h8, h9⟩ := hq
        exact ⟨b, h5, h6, by rw [valOf_append (hpl j h5)]; exact h7, fun hb => OpW_mono' (h8 hb) (fun v w' hh => ⟨hh.1, hh.2.1, fun hi => hA0 val w' hi (hh.2.2 hi)⟩), h9⟩
    | succ k =>
      have := h3 k ok (by simpa using hk)
      rw [show i + (k + 1) = i + 1 + k from by omega]; exact this

theorem front_of {Vs : List VS} : ∀ (r : List Oper) (i k : Nat), (∀ j o, j < k → r[j]? = some o → FrontOp P N q j0 A0 l Vs e w (i + j) o) → Front P N q j0 A0 l Vs e w i k r
  | [], i, k, h => by cases k <;> exact trivial
  | o :: r, i, 0, h => trivial
  | o :: r, i, k + 1, h => ⟨h 0 o (by omega) rfl, front_of r (i + 1) k (fun j oj hj hoj => by
      have := h (j + 1) oj (by omega) (by simpa using hoj)
      rw [show i + 1 + j = i + (j + 1) from by omega]; exact this)⟩

/-- **A region that draws, walked in the text's order.** -/
theorem W_walkrf {id : Nat} {Q : Post} (m q j0 : Nat) (A0 : Value → World → Prop) (hA : ∀ v w w', A0 v w → Chg [] w w' → A0 v w') (hqm : q < m) (hpj : ∀ o, l[q]? = some o → (predsOf o).contains j0 = true) (hfol : P.follows .mixedOrders = true) (hdst : dstsOk N l = true) (htl : tailOk m l = true)
    (h : Walk P N q j0 A0 l e w (fun Vs => ∀ (val : Nat → Value) (w1 : World), Chg [] w w1 → (∀ i, i < m → ∀ o d, l[i]? = some o → o.dst = some d → Tells (Nat.beq i q) (vsAt Vs i) (valOf Vs val i) w1) → (∀ i, i < m → ∀ o, l[i]? = some o → o.dst = none → ∃ v, Tells (Nat.beq i q) (vsAt Vs i) v w1) → (∀ o d, l[j0]? = some o → o.dst = some d → A0 (valOf Vs val j0) w1) → WL P N l.toArray (l.drop m) Q (frontEnv Vs val 0 m l ++ e) w1) 0 (l.take m) []) :
    W P N (.region id l.toArray true) Q e w := by
  have hml : m ≤ l.length := by
    have h2 := htl
    unfold tailOk at h2
    simp only [Bool.and_eq_true] at h2
    exact Nat.le_of_ble_eq_true h2.1.1
  obtain ⟨rest, hl, h1, h2, h3⟩ := walk_front htl hml hpj (l.take m) 0 [] rfl (by simp) trivial h
  rw [List.nil_append] at h1 h2 h3
  refine W_draw m q j0 A0 rest hfol hdst htl h1 hA hqm hpj (front_of l 0 m fun j o hj ho => ?_) h2
  exact h3 j o (by rw [List.getElem?_take, if_pos hj]; exact ho)

theorem Walk.mono {fin fin' : List VS → Prop} (hf : ∀ Vs, fin Vs → fin' Vs) : ∀ (r : List Oper) (i : Nat) (Vs : List VS), Walk P N q j0 A0 l e w fin i r Vs → Walk P N q j0 A0 l e w fin' i r Vs
  | [], _, Vs, h => hf Vs h
  | _ :: r, i, Vs, ⟨s, h1, h2, h3⟩ => ⟨s, h1, h2, Walk.mono hf r (i + 1) (Vs ++ [s]) h3⟩
theorem Walk.plain {fin : List VS → Prop} {i : Nat} {r : List Oper} {Vs : List VS} {o : Oper} {v : Value} (hiq : i ≠ q) (hg : o.guard = none)
    (h : ∀ (val : Nat → Value) (w1 : World), Chg [] w w1 → (∀ j, (predsOf o).contains j = true → ∀ oj d, l[j]? = some oj → oj.dst = some d → Tells (bq l q i) (vsAt Vs j) (valOf Vs val j) w1) → OpW P N o (opEnv l Vs e i o val) w1 (fun u w' => Chg [] w1 w' ∧ u = v))
    (hr : Walk P N q j0 A0 l e w fin (i + 1) r (Vs ++ [.c v])) : Walk P N q j0 A0 l e w fin i (o :: r) Vs := by
  refine ⟨.c v, trivial, fun val w1 hc hp => ?_, hr⟩
  rw [hg]
  exact OpW_mono' (h val w1 hc hp) (fun u w' ⟨h1, h2⟩ => ⟨Turns.none _ _ _ h1, h2, fun h => absurd h hiq⟩)
theorem Walk.guardT {fin : List VS → Prop} {i j : Nat} {want : Bool} {r : List Oper} {Vs : List VS} {o : Oper} {v : Value} (hiq : i ≠ q) (hg : o.guard = some (j, want)) (hj : (predsOf o).contains j = true) (hjd : ((l[j]?).bind (·.dst)).isSome = true) (hb : ∀ val, valOf Vs val j = .bool want)
    (h : ∀ (val : Nat → Value) (w1 : World), Chg [] w w1 → (∀ j, (predsOf o).contains j = true → ∀ oj d, l[j]? = some oj → oj.dst = some d → Tells (bq l q i) (vsAt Vs j) (valOf Vs val j) w1) → OpW P N o (opEnv l Vs e i o val) w1 (fun u w' => Chg [] w1 w' ∧ u = v))
    (hr : Walk P N q j0 A0 l e w fin (i + 1) r (Vs ++ [.c v])) : Walk P N q j0 A0 l e w fin i (o :: r) Vs := by
  refine ⟨.c v, trivial, fun val w1 hc hp => ?_, hr⟩
  rw [hg]
  exact ⟨want, hj, hjd, .inl (hb val), (fun _ => OpW_mono' (h val w1 hc hp) (fun u w' ⟨h1, h2⟩ => ⟨Turns.none _ _ _ h1, h2, fun h => absurd h hiq⟩)), (fun hn => by cases want <;> cases hn)⟩
theorem Walk.guardR {fin : List VS → Prop} {i j : Nat} {want : Bool} {r : List Oper} {Vs : List VS} {o : Oper} (R : Value → World → Prop) (hiq : i ≠ q) (hg : o.guard = some (j, want)) (hj : (predsOf o).contains j = true) (hjd : ((l[j]?).bind (·.dst)).isSome = true) (hb : ∀ val, valOf Vs val j = .bool want) (hR : ∀ v w w', R v w → Chg [] w w' → R v w')
    (h : ∀ (val : Nat → Value) (w1 : World), Chg [] w w1 → (∀ j, (predsOf o).contains j = true → ∀ oj d, l[j]? = some oj → oj.dst = some d → Tells (bq l q i) (vsAt Vs j) (valOf Vs val j) w1) → OpW P N o (opEnv l Vs e i o val) w1 (fun u w' => Chg [] w1 w' ∧ R u w'))
    (hr : Walk P N q j0 A0 l e w fin (i + 1) r (Vs ++ [.r R])) : Walk P N q j0 A0 l e w fin i (o :: r) Vs := by
  refine ⟨.r R, hR, fun val w1 hc hp => ?_, hr⟩
  rw [hg]
  exact ⟨want, hj, hjd, .inl (hb val), (fun _ => OpW_mono' (h val w1 hc hp) (fun u w' ⟨h1, h2⟩ => ⟨Turns.none _ _ _ h1, h2, fun h => absurd h hiq⟩)), (fun hn => by cases want <;> cases hn)⟩
/-- The one that turns what the region has made. -/
theorem Walk.guardQ {fin : List VS → Prop} {i j : Nat} {want : Bool} {r : List Oper} {Vs : List VS} {o : Oper} (hi : i = q) (R : Value → World → Prop) (hg : o.guard = some (j, want)) (hj : (predsOf o).contains j = true) (hjd : ((l[j]?).bind (·.dst)).isSome = true) (hb : ∀ val, valOf Vs val j = .bool want) (hR : ∀ v w w', R v w → Chg [] w w' → R v w')
    (h : ∀ (val : Nat → Value) (w1 : World), Chg [] w w1 → (∀ j, (predsOf o).contains j = true → ∀ oj d, l[j]? = some oj → oj.dst = some d → (vsAt Vs j).holds (valOf Vs val j) w1) → OpW P N o (opEnv l Vs e i o val) w1 (fun u w' => (∃ S : List Nat, (∀ k ∈ S, w.heap.size ≤ k) ∧ Chg S w1 w') ∧ R u w' ∧ A0 (valOf Vs val j0) w'))
    (hr : Walk P N q j0 A0 l e w fin (i + 1) r (Vs ++ [.r R])) : Walk P N q j0 A0 l e w fin i (o :: r) Vs := by
  refine ⟨.r R, hR, fun val w1 hc hp => ?_, hr⟩
  rw [hg]
  have hp' : ∀ j, (predsOf o).contains j = true → ∀ oj d, l[j]? = some oj → oj.dst = some d → (vsAt Vs j).holds (valOf Vs val j) w1 := fun j h1 oj d h2 h3 => by
    have h4 := hp j h1 oj d h2 h3
    have hb : bq l q i = true := by rw [hi]; exact bq_self l q
    revert h4
    cases vsAt Vs j with
    | c u => exact fun h => h
    | r R => exact fun h => h.1 hb
  exact ⟨want, hj, hjd, .inl (hb val), (fun _ => OpW_mono' (h val w1 hc hp') (fun u w' ⟨⟨S, h1, h2⟩, h3, h4⟩ => ⟨⟨S, fun k hk => ⟨h1 k hk, hi⟩, h2⟩, h3, fun _ => h4⟩)), (fun hn => by cases want <;> cases hn)⟩
/-- The one that turns what the region has made. -/
theorem Walk.turnQ {fin : List VS → Prop} {i : Nat} {r : List Oper} {Vs : List VS} {o : Oper} (hi : i = q) (R : Value → World → Prop) (hg : o.guard = none) (hR : ∀ v w w', R v w → Chg [] w w' → R v w')
    (h : ∀ (val : Nat → Value) (w1 : World), Chg [] w w1 → (∀ j, (predsOf o).contains j = true → ∀ oj d, l[j]? = some oj → oj.dst = some d → (vsAt Vs j).holds (valOf Vs val j) w1) → OpW P N o (opEnv l Vs e i o val) w1 (fun u w' => (∃ S : List Nat, (∀ k ∈ S, w.heap.size ≤ k) ∧ Chg S w1 w') ∧ R u w' ∧ A0 (valOf Vs val j0) w'))
    (hr : Walk P N q j0 A0 l e w fin (i + 1) r (Vs ++ [.r R])) : Walk P N q j0 A0 l e w fin i (o :: r) Vs := by
  refine ⟨.r R, hR, fun val w1 hc hp => ?_, hr⟩
  rw [hg]
  have hp' : ∀ j, (predsOf o).contains j = true → ∀ oj d, l[j]? = some oj → oj.dst = some d → (vsAt Vs j).holds (valOf Vs val j) w1 := fun j h1 oj d h2 h3 => by
    have h4 := hp j h1 oj d h2 h3
    have hb : bq l q i = true := by rw [hi]; exact bq_self l q
    revert h4
    cases vsAt Vs j with
    | c u => exact fun h => h
    | r R => exact fun h => h.1 hb
  exact OpW_mono' (h val w1 hc hp') (fun u w' ⟨⟨S, h1, h2⟩, h3, h4⟩ => ⟨⟨S, fun k hk => ⟨h1 k hk, hi⟩, h2⟩, h3, fun _ => h4⟩)
theorem Walk.rel {fin : List VS → Prop} {i : Nat} {r : List Oper} {Vs : List VS} {o : Oper} (R : Value → World → Prop) (hiq : i ≠ q) (hg : o.guard = none) (hR : ∀ v w w', R v w → Chg [] w w' → R v w')
    (h : ∀ (val : Nat → Value) (w1 : World), Chg [] w w1 → (∀ j, (predsOf o).contains j = true → ∀ oj d, l[j]? = some oj → oj.dst = some d → Tells (bq l q i) (vsAt Vs j) (valOf Vs val j) w1) → OpW P N o (opEnv l Vs e i o val) w1 (fun u w' => Chg [] w1 w' ∧ R u w'))
    (hr : Walk P N q j0 A0 l e w fin (i + 1) r (Vs ++ [.r R])) : Walk P N q j0 A0 l e w fin i (o :: r) Vs := by
  refine ⟨.r R, hR, fun val w1 hc hp => ?_, hr⟩
  rw [hg]
  exact OpW_mono' (h val w1 hc hp) (fun u w' ⟨h1, h2⟩ => ⟨Turns.none _ _ _ h1, h2, fun h => absurd h hiq⟩)
theorem Walk.fin {fin : List VS → Prop} {i : Nat} {Vs : List VS} (h : fin Vs) : Walk P N q j0 A0 l e w fin i [] Vs := h
attribute [irreducible] Walk
end
end Go.Vc.G
/-! Manifests of the call's own; Commit of an edit that applies. -/
set_option linter.unusedVariables false
namespace Go.Vc
open Go
/-- What a manifest's two rows read as. -/
structure StRd (w : World) (vs vp : Value) (st : StM) : Prop where
  segs : SliceK 6 (RdL segL) w vs st.segs
  pars : SliceK 5 (RdL parSL) w vp st.pars
  prd : ∀ q ∈ st.pars, PRd w q.1
theorem StRd.keep0 {w w' : World} {vs vp : Value} {st : StM} (h : StRd w vs vp st) (hc : Chg [] w w') : StRd w' vs vp st := ⟨h.segs.keepR hc, h.pars.keepR hc, fun q hq => (h.prd q hq).keep0 hc⟩
theorem putK_mem {α : Type} {key : α → Int} {xs L L' : List α} (h : putK key xs L = some L') {x : α} (hx : x ∈ L') : x ∈ L ∨ x ∈ xs := by
  rw [(putK_eq h).1] at hx
  exact List.mem_append.1 hx
theorem applyM_pars {st st' : StM} {e : EditM} {X : List ParS} {first : Bool} (h : applyM st e X first = some st') {q : ParS} (hq : q ∈ st'.pars) : q ∈ st.pars ∨ q ∈ X := by
  unfold applyM at h
  dsimp only at h
  obtain ⟨hc, h⟩ := ite_some h
  subst h
  dsimp only at hq
  cases h2 : putK parKey X ((takeK parKey e.drops st.pars).getD []) with
  | none => rw [h2] at hq; simp at hq
  | some M =>
    rw [h2] at hq
    have hq : q ∈ sortK parKey M := hq
    rcases putK_mem h2 ((sortK_perm parKey M).mem_iff.1 hq) with h3 | h3
    · cases h4 : takeK parKey e.drops st.pars with
      | none => rw [h4] at h3; simp at h3
      | some L => rw [h4] at h3; exact .inl ((takeK_sub h4).mem h3)
    · exact .inr h3
theorem appendM_callsG (s : FsM) (k : Nm) (b : List UInt8) : (appendM s k b).1.calls = s.calls + 1 := by
  unfold appendM; simp only; (repeat' split) <;> rfl
/-- Append, then sync. -/
def commitF (s : FsM) (b : List UInt8) : FsM × Int := if (appendM s manNm b).2 = 0 then syncM (appendM s manNm b).1 manNm else appendM s manNm b
end Go.Vc
namespace Go.Proofs.YtiadjkjlifnopaaGreatDoor.Tryz
open Go Go.Vc
/-- A manifest, and its files, that were made since w0. -/
structure ManO (w0 w : World) (gm g : Nat) (s : FsM) (p : FsP) (st : StM) (cl : Bool) : Prop where
  fs : FsO w0 w g s p
  rows : ∃ vs vp, ManB w gm g vs vp st.next st.seq cl ∧ Firm (gm :: p.fp g) w (fun w => StRd w vs vp st)
  out : gm ∉ p.fp g
  fresh : w0.heap.size ≤ gm
section
variable {w0 w w' : World} {gm g : Nat} {s : FsM} {p p' : FsP} {st : StM} {cl : Bool}
theorem ManO.lt (x : ManO w0 w gm g s p st cl) : gm < w.heap.size := let ⟨_, _, h, _⟩ := x.rows; Blk.lt h
theorem ManO.keep0 (x : ManO w0 w gm g s p st cl) (hc : Chg [] w w') : ManO w0 w' gm g s p st cl := by
  obtain ⟨vs, vp, h1, h2⟩ := x.rows
  exact ⟨x.fs.keep0 hc, ⟨vs, vp, Blk.keep0 h1 hc, h2.step0 hc⟩, x.out, x.fresh⟩
theorem ManO.base {w1 : World} (x : ManO w1 w gm g s p st cl) (hc : Chg [] w0 w1) : ManO w0 w gm g s p st cl := ⟨x.fs.base hc, x.rows, x.out, by have := x.fresh; have := hc.size; omega⟩
theorem firm_grow {φ : World → Prop} (h : Firm (gm :: p.fp g) w φ) (hc : Chg (gm :: p.fp g) w w') (hg : Grows w g p p') : Firm (gm :: p'.fp g) w' φ := fun w1 h1 => h w1 (hc.trans h1 (fun k hk hlt => by
  rcases List.mem_cons.1 hk with rfl | hk
  · simp
  · rcases hg k hk with h | h
    · simp [h]
    · omega))
theorem own_firm {S : List Nat} {t : TypeId} {k n : Nat} {v : Value} {xs : List Value} (h : Own w t k v n xs) (hb : ∀ i, v.ownBlock = some i → i ∉ S) : Firm S w (fun w => Own w t k v n xs) := fun w1 h1 => h.keep h1 (fun i hi hm => hb i hi hm)
end
def a0M (w : World) (st' : StM) (v : Value) (w' : World) : Prop := ∃ g5 ua up, v = .pointer (some ⟨g5, 0, none⟩) ∧ w.heap.size ≤ g5 ∧ Blk w' g5 99 [ua, up, .int .i64 st'.next, .int .i64 st'.seq] ∧ Own w' 26 6 ua st'.segs.length (st'.segs.flatMap segL) ∧ Own w' 70 5 up st'.pars.length (st'.pars.flatMap parSL) ∧ (∀ g, ua.ownBlock = some g → w.heap.size ≤ g) ∧ ∀ g, up.ownBlock = some g → w.heap.size ≤ g
def stV (w : World) (st' : StM) (v : Value) (w' : World) : Prop := ∃ ua up, v = .agg #[ua, up, .int .i64 st'.next, .int .i64 st'.seq] ∧ Own w' 26 6 ua st'.segs.length (st'.segs.flatMap segL) ∧ Own w' 70 5 up st'.pars.length (st'.pars.flatMap parSL) ∧ (∀ g, ua.ownBlock = some g → w.heap.size ≤ g) ∧ ∀ g, up.ownBlock = some g → w.heap.size ≤ g
theorem stV_firm {w : World} {st' : StM} (v : Value) (w1 w2 : World) (h : stV w st' v w1) (hc : Chg [] w1 w2) : stV w st' v w2 := by
  obtain ⟨ua, up, h1, h2, h3, h4⟩ := h
  exact ⟨ua, up, h1, h2.keep0 hc, h3.keep0 hc, h4⟩
theorem a0M_firm {w : World} {st' : StM} (v : Value) (w1 w2 : World) (h : a0M w st' v w1) (hc : Chg [] w1 w2) : a0M w st' v w2 := by
  obtain ⟨g5, ua, up, h1, h0, hb, h2, h3, h4⟩ := h
  exact ⟨g5, ua, up, h1, h0, hb.keep0 hc, h2.keep0 hc, h3.keep0 hc, h4⟩
set_option maxHeartbeats 4000000 in
theorem commit_has {w0 w : World} {gm g : Nat} {s : FsM} {p : FsP} {st st' : StM} (x : ManO w0 w gm g s p st false) {e : EditM} {xa xd xp xr : Value} {X : List ParS} (hI : EdI e) (hr : Firm (gm :: p.fp g) w (fun w => ERd w ⟨e, xa, xd, xp, xr, X.map (·.1)⟩))
    (hn1 : (st.segs.map numK).Nodup) (hn2 : (st.pars.map parKey).Nodup) (hb1 : st.segs.length ≤ 1000) (hb2 : st.pars.length ≤ 1000) (hap : applyM st e X false = some st') (hcalls : s.calls < 1000000000 - 10) :
    Has Go.Proofs.Tryz.prog 21 #[.pointer (some ⟨gm, 0, none⟩), .agg #[.int .i64 e.next, .int .i64 e.seq, xa, xd, xp, xr]] w (fun v w' => v = .int .i64 (commitF s (encE e).1).2 ∧ Chg (gm :: p.fp g) w w' ∧ ∃ p', Grows w g p p' ∧ ManO w0 w' gm g (commitF s (encE e).1).1 p' (if (commitF s (encE e).1).2 = 0 then st' else st) (decide ((commitF s (encE e).1).2 ≠ 0))) := by
  obtain ⟨vs, vp, hm, hst⟩ := x.rows
  refine enter Go.Proofs.Tryz.func21 rfl rfl (by decide) rfl (e := [(0, .pointer (some ⟨gm, 0, none⟩)), (1, .agg #[.int .i64 e.next, .int .i64 e.seq, xa, xd, xp, xr])]) ⟨rfl, rfl, trivial⟩ ?_
  unfold ManB at hm
  refine run ?_
  refine go T 2 rfl ?_
  refine o1 rfl ?_
  refine op_box rfl rfl (fun g3 w1 hs1 hc1 hg3 => ?_)
  have hg3 : Blk w1 g3 49 [.int .i64 e.next, .int .i64 e.seq, xa, xd, xp, xr] := hg3
  have hgl := hm.lt
  replace hm := hm.keep0 hc1
  replace hst := hst.step0 hc1
  replace hr := hr.step0 hc1
  have xf := x.fs.keep0 hc1
  refine go T 12 rfl ?_
  refine ldB T hm rfl rfl rfl rfl rfl rfl ?_
  refine go T 7 rfl ?_
  refine G.W_walkrf 11 10 9 (a0M w1 st') (fun v a b h hc => a0M_firm v a b h hc) (by decide) (by intro o ho; cases ho; rfl) fol (by kernel_rfl) (by kernel_rfl) ?_
  refine G.Walk.plain (v := .pointer (some ⟨gm, 0, none⟩)) (by decide) rfl (by intro val w_ hR hp; exact op_move rfl rfl ⟨Chg.refl _ _, rfl⟩) ?_; dsimp only [List.nil_append, List.cons_append]
  refine G.Walk.plain (v := .pointer (some ⟨gm, 0, none⟩)) (by decide) rfl (by intro val w_ hR hp; exact op_nilCheck rfl rfl ⟨Chg.refl _ _, rfl⟩) ?_; dsimp only [List.nil_append, List.cons_append]
  refine G.Walk.plain (v := .pointer (some ⟨gm, 1, none⟩)) (by decide) rfl (by intro val w_ hR hp; exact op_fieldAddr T rfl rfl rfl rfl rfl rfl rfl rfl ⟨Chg.refl _ _, rfl⟩) ?_; dsimp only [List.nil_append, List.cons_append]
  refine G.Walk.plain (v := .agg #[vs, vp, .int .i64 st.next, .int .i64 st.seq]) (by decide) rfl (by intro val w_ hR hp; exact op_load_agg T rfl rfl rfl rfl (hm.keep0 hR) (by exact Nat.le_of_ble_eq_true rfl) (by exact rfl) ⟨Chg.refl _ _, rfl⟩) ?_; dsimp only [List.nil_append, List.cons_append]
  refine G.Walk.plain (v := .agg #[.int .i64 e.next, .int .i64 e.seq, xa, xd, xp, xr]) (by decide) rfl (by intro val w_ hR hp; exact op_load_agg T rfl rfl rfl rfl (hg3.keep0 hR) (by exact Nat.le_of_ble_eq_true rfl) (by exact rfl) ⟨Chg.refl _ _, rfl⟩) ?_; dsimp only [List.nil_append, List.cons_append]
  refine G.Walk.rel (fun v w' => ∃ u, v = .tuple #[u, .bool true] ∧ stV w1 st' u w') (by decide) rfl (fun v a b h hab => let ⟨u, h1, h2⟩ := h; ⟨u, h1, stV_firm u a b h2 hab⟩) ?_ ?_
  · intro val w_ hR hp
    have h0 := hst.now
    have hcall := apply_has st vs vp ⟨e, xa, xd, xp, xr, X.map (·.1)⟩ X false w_ (h0.segs.keepR hR) (h0.pars.keepR hR) hI (hr.now.keep0 hR) rfl hb1 hb2 hn1 hn2
    refine op_call rfl rfl rfl hcall ?_
    rintro v w' ⟨h1, _, h2⟩
    obtain ⟨ua, up, h3, h4, h5, h6, h7⟩ := h2 st' hap
    have hz := hR.size
    exact ⟨h1, _, h3, ua, up, rfl, h4, h5, fun k hk => by have := h6 k hk; omega, fun k hk => by have := h7 k hk; omega⟩
  dsimp only [List.nil_append, List.cons_append]
  refine G.Walk.rel (fun v w' => ∃ u, v = .tuple #[u, .bool true] ∧ stV w1 st' u w') (by decide) rfl (fun v a b h hab => let ⟨u, h1, h2⟩ := h; ⟨u, h1, stV_firm u a b h2 hab⟩) ?_ ?_
  · intro val w_ hR hp
    obtain ⟨h5, _⟩ := hp 5 rfl _ _ rfl rfl
    exact op_move rfl rfl ⟨Chg.refl _ _, h5 rfl⟩
  dsimp only [List.nil_append, List.cons_append]
  refine G.Walk.rel (stV w1 st') (by decide) rfl (fun v a b h hab => stV_firm v a b h hab) ?_ ?_
  · intro val w_ hR hp
    obtain ⟨h6, _⟩ := hp 6 rfl _ _ rfl rfl
    obtain ⟨u, h1, h2⟩ := h6 rfl
    have h1 : val 6 = .tuple #[u, .bool true] := h1
    exact op_extract rfl (show some (val 6) = _ by rw [h1]) rfl ⟨Chg.refl _ _, h2⟩
  dsimp only [List.nil_append, List.cons_append]
  refine G.Walk.plain (v := .bool true) (by decide) rfl ?_ ?_
  · intro val w_ hR hp
    obtain ⟨_, w2, h6⟩ := hp 6 rfl _ _ rfl rfl
    obtain ⟨u, h1, h2⟩ := h6
    have h1 : val 6 = .tuple #[u, .bool true] := h1
    exact op_extract rfl (show some (val 6) = _ by rw [h1]) rfl ⟨Chg.refl _ _, rfl⟩
  dsimp only [List.nil_append, List.cons_append]
  refine G.Walk.rel (fun v w' => ∃ g5, v = .pointer (some ⟨g5, 0, none⟩) ∧ w1.heap.size ≤ g5 ∧ Blk w' g5 99 [.slice none 0 0, .slice none 0 0, .int .i64 0, .int .i64 0]) (by decide) rfl (fun v a b h hab => let ⟨g5, h1, h2, h3⟩ := h; ⟨g5, h1, h2, h3.keep0 hab⟩) ?_ ?_
  · intro val w_ hR hp
    refine op_alloc T rfl rfl (fun g5 w5 hs5 hc5 hg5 => ⟨hc5, g5, rfl, by have := hR.size; omega, hg5⟩)
  dsimp only [List.nil_append, List.cons_append]
  refine G.Walk.turnQ rfl (fun _ _ => True) rfl (fun _ _ _ _ _ => trivial) ?_ ?_
  · intro val w_ hR hp
    obtain ⟨ua, up, h7, h8, h9, h10, h11⟩ := hp 7 rfl _ _ rfl rfl
    obtain ⟨g5, h12, h13, h14⟩ := hp 9 rfl _ _ rfl rfl
    have h7 : val 7 = .agg #[ua, up, .int .i64 st'.next, .int .i64 st'.seq] := h7
    have h12 : val 9 = .pointer (some ⟨g5, 0, none⟩) := h12
    have hall : ([ua, up, Value.int .i64 st'.next, Value.int .i64 st'.seq].all (·.oneCell')) = true := by
      simp only [List.all_cons, List.all_nil, own_one h8, own_one h9, Bool.true_and]; rfl
    refine op_store_agg T rfl (show some (val 9) = some (.pointer (some ⟨g5, 0, none⟩)) by rw [h12]) (show some (val 7) = some (.agg #[ua, up, .int .i64 st'.next, .int .i64 st'.seq]) by rw [h7]) rfl rfl hall h14 (by exact Nat.le_of_ble_eq_true rfl) (fun w6 hc6 hn _ => ?_)
    refine ⟨⟨[g5], fun k hk => by simp at hk; omega, hc6⟩, trivial, g5, ua, up, h12, h13, hn, ?_, ?_, h10, h11⟩
    · refine h8.keep hc6 (fun k hk hm => ?_)
      obtain ⟨c1, hr1⟩ := h8.row hk
      simp only [List.mem_singleton] at hm
      subst hm
      exact hr1.ne_ h14 (by decide) rfl
    · refine h9.keep hc6 (fun k hk hm => ?_)
      obtain ⟨c1, hr1⟩ := h9.row hk
      simp only [List.mem_singleton] at hm
      subst hm
      exact hr1.ne_ h14 (by decide) rfl
  dsimp only [List.nil_append, List.cons_append]
  refine G.Walk.fin ?_
  intro val w2 hc2 hp1 hp2 hA0
  clear hp1 hp2
  obtain ⟨g5, ua, up, hv9, hs5, hg5, ho1, ho2, hf1, hf2⟩ := hA0 _ _ rfl rfl
  have hv9 : val 9 = .pointer (some ⟨g5, 0, none⟩) := hv9
  refine WL_sub (e' := [(0, .pointer (some ⟨gm, 0, none⟩)), (3, .pointer (some ⟨g3, 0, none⟩)), (5, .pointer (some ⟨g5, 0, none⟩)), (26, .bool true)]) ⟨rfl, rfl, congrArg some hv9, rfl, trivial⟩ ?_
  have hg3l := hg3.lt
  replace hm := hm.keep0 hc2
  replace hst := hst.step0 hc2
  replace hr := hr.step0 hc2
  replace hg3 := hg3.keep0 hc2
  replace xf := xf.keep0 hc2
  have hc02 := hc1.trans' hc2
  clear hA0 hv9 hc2 hc1
  refine runL ?_
  refine go T 15 rfl ?_
  refine o1 rfl (op_load_agg T rfl rfl rfl rfl hg3 (by exact Nat.le_of_ble_eq_true rfl) (by exact rfl) ?_)
  refine o1 rfl ?_
  have hcall := encodeE_has (w := w2) ⟨e, xa, xd, xp, xr, X.map (·.1)⟩ hI hr.now
  dsimp only at hcall
  generalize encE e = en at *
  obtain ⟨b, er⟩ := en
  dsimp only at hcall ⊢
  refine op_call rfl rfl rfl hcall ?_
  rintro _ w3 ⟨u, rfl, m3, hbl⟩
  obtain ⟨Au, cu, rfl, _, _⟩ := m3.form
  have hfirm := m3.firm (fun k (hk : k ∈ p.fp g) => by have := xf.at_.lt k hk; omega)
  have hc3 := m3.chg
  have hz23 := hc3.size
  have hg5l := hg5.lt
  have hg32 := hg3.lt
  have hgm2 := hm.lt
  replace hm := hm.keep0 hc3
  replace hst := hst.step0 hc3
  replace hr := hr.step0 hc3
  replace hg5 := hg5.keep0 hc3
  replace xf := xf.keep0 hc3
  replace ho1 := ho1.keep0 hc3
  replace ho2 := ho2.keep0 hc3
  have hc03 := hc02.trans' hc3
  have hz03 := hc03.size
  clear hcall m3
  refine go T 12 rfl ?_
  refine ldB T hm rfl rfl rfl rfl rfl rfl ?_
  refine go T 1 rfl ?_
  refine o1 rfl ?_
  refine op_call rfl rfl rfl (append_has g s p manNm Au b.length cu b w3 xf.at_ hfirm (by omega) (by omega)) ?_
  intro v4 w4 hd4
  obtain ⟨hv4, hc4, p4, x4, hg4⟩ := fsDoneO xf hd4
  have hnew : Firm (gm :: p.fp g) w3 (fun w => StRd w ua up st') := fun w1 h1 => by
    have hin : ∀ i, w.heap.size ≤ i → i ∉ gm :: p.fp g := fun i hi hm' => by
      rcases List.mem_cons.1 hm' with rfl | hm'
      · omega
      · have := x.fs.at_.lt i hm'; omega
    refine ⟨(own_firm ho1 (fun i hi => hin i (by have := hf1 i hi; omega)) w1 h1).readsK (fun s => rfl), (own_firm ho2 (fun i hi => hin i (by have := hf2 i hi; omega)) w1 h1).readsK (fun s => rfl), fun q hq => ?_⟩
    rcases applyM_pars hap hq with h | h
    · exact (hst w1 h1).prd q h
    · exact (hr w1 h1).prd q.1 (List.mem_map.2 ⟨q, h, rfl⟩)
  have hc4' : Chg (gm :: p.fp g) w3 w4 := hc4.mono (fun k hk _ => by simp [hk])
  have hout4 : gm ∉ p4.fp g := fun h => by
    rcases hg4 gm h with h | h
    · exact x.out h
    · omega
  replace hm := hm.keep hc4 x.out
  replace hg5 := hg5.keep hc4 (fun h => by have := x.fs.at_.lt g5 h; omega)
  have hst4 := firm_grow hst hc4' hg4
  have hnew4 := firm_grow hnew hc4' hg4
  by_cases ha : (appendM s manNm b).2 = 0
  · have hcf : commitF s b = syncM (appendM s manNm b).1 manNm := by unfold commitF; rw [if_pos ha]
    rw [ha] at hv4
    subst hv4
    refine go T 7 rfl ?_
    refine eqT rfl rfl rfl rfl (by omega) ?_
    refine go T 7 rfl ?_
    refine ldB T hm rfl rfl rfl rfl rfl rfl ?_
    refine o1 rfl ?_
    refine op_call rfl rfl rfl (sync_has g _ p4 manNm w4 x4.at_ (by rw [appendM_callsG]; omega)) ?_
    intro v5 w5 hd5
    obtain ⟨hv5, hc5, p5, x5, hg5'⟩ := fsDoneO x4 hd5
    rw [hcf]
    have hc5' : Chg (gm :: p4.fp g) w4 w5 := hc5.mono (fun k hk _ => by simp [hk])
    have hz4 := hc4.size
    have hout5 : gm ∉ p5.fp g := fun h => by
      rcases hg5' gm h with h | h
      · exact hout4 h
      · omega
    have hg5p : g5 ∉ p4.fp g := fun h => by
      rcases hg4 g5 h with h | h
      · have := x.fs.at_.lt g5 h; omega
      · have := hg5.lt; omega
    replace hm := hm.keep hc5 hout4
    replace hg5 := hg5.keep hc5 hg5p
    have hst5 := firm_grow hst4 hc5' hg5'
    have hnew5 := firm_grow hnew4 hc5' hg5'
    have hgr : Grows w g p p5 := fun k hk => by
      rcases hg5' k hk with h | h
      · rcases hg4 k h with h | h
        · exact .inl h
        · exact .inr (by omega)
      · exact .inr (by omega)
    have hc05 : Chg (gm :: p.fp g) w w5 := ((hc03.mono (fun k hk _ => by cases hk)).trans hc4' (fun k hk _ => hk)).trans hc5' (fun k hk hlt => by
      rcases List.mem_cons.1 hk with rfl | hk
      · simp
      · rcases hg4 k hk with h | h
        · simp [h]
        · omega)
    have hz5 := hc5.size
    generalize (syncM (appendM s manNm b).1 manNm) = r5 at *
    obtain ⟨s5, e5⟩ := r5
    dsimp only at hv5 x5 ⊢
    subst hv5
    by_cases h5 : e5 = 0
    · subst h5
      refine go T 7 rfl ?_
      refine neF rfl rfl rfl rfl (by omega) ?_
      refine go T 8 rfl ?_
      refine o1 rfl (op_load_agg T rfl rfl rfl rfl hg5 (by exact Nat.le_of_ble_eq_true rfl) (by exact rfl) ?_)
      refine go T 2 rfl ?_
      refine op0 rfl rfl ?_
      have hall : ([ua, up, Value.int .i64 st'.next, Value.int .i64 st'.seq].all (·.oneCell')) = true := by
        simp only [List.all_cons, List.all_nil, own_one ho1, own_one ho2, Bool.true_and]; rfl
      refine op_store_agg T rfl rfl rfl rfl rfl hall hm (by exact Nat.le_of_ble_eq_true rfl) (fun w6 hc6 hn6 _ => ?_)
      refine go T 8 rfl ?_
      have hc6' : Chg (gm :: p5.fp g) w5 w6 := hc6.mono (fun k hk _ => by simp at hk; simp [hk])
      refine post1 (.inl rfl) rfl rfl ⟨rfl, hc05.trans hc6 (fun k hk _ => by simp at hk; simp [hk]), p5, hgr, ?_⟩
      refine ⟨⟨x5.chg.trans hc6 (fun k hk hlt => by simp at hk; have := x.fresh; omega), x5.at_.keep hc6 (fun k hk hm => by simp at hm; subst hm; exact hout5 hk), x5.fresh⟩, ⟨ua, up, hn6, hnew5.step hc6 (fun k hk _ => by simp at hk; simp [hk])⟩, hout5, x.fresh⟩
    · refine go T 7 rfl ?_
      refine neT rfl rfl rfl rfl (by omega) ?_
      refine go T 8 rfl ?_
      refine op0 rfl rfl ?_
      refine op_store T rfl rfl rfl rfl rfl rfl hm (by simp) (fun w6 hc6 hn6 _ => ?_)
      refine go T 10 rfl ?_
      rw [if_neg h5, decide_eq_true h5]
      refine post1 (.inl rfl) rfl rfl ⟨rfl, hc05.trans hc6 (fun k hk _ => by simp at hk; simp [hk]), p5, hgr, ?_⟩
      refine ⟨⟨x5.chg.trans hc6 (fun k hk hlt => by simp at hk; have := x.fresh; omega), x5.at_.keep hc6 (fun k hk hm => by simp at hm; subst hm; exact hout5 hk), x5.fresh⟩, ⟨vs, vp, hn6, hst5.step hc6 (fun k hk _ => by simp at hk; simp [hk])⟩, hout5, x.fresh⟩
  · have hcf : commitF s b = appendM s manNm b := by unfold commitF; rw [if_neg ha]
    rw [hcf]
    have hgr : Grows w g p p4 := fun k hk => by
      rcases hg4 k hk with h | h
      · exact .inl h
      · exact .inr (by omega)
    have hc05 : Chg (gm :: p.fp g) w w4 := (hc03.mono (fun k hk _ => by cases hk)).trans hc4' (fun k hk _ => hk)
    have hz5 := hc4.size
    generalize (appendM s manNm b) = r5 at *
    obtain ⟨s5, e5⟩ := r5
    dsimp only at hv4 x4 ha ⊢
    subst hv4
    refine go T 7 rfl ?_
    refine eqF rfl rfl rfl rfl (by omega) ?_
    refine go T 9 rfl ?_
    refine neT rfl rfl rfl rfl (by omega) ?_
    refine go T 8 rfl ?_
    refine op0 rfl rfl ?_
    refine op_store T rfl rfl rfl rfl rfl rfl hm (by simp) (fun w6 hc6 hn6 _ => ?_)
    refine go T 10 rfl ?_
    rw [if_neg ha, decide_eq_true ha]
    refine post1 (.inl rfl) rfl rfl ⟨rfl, hc05.trans hc6 (fun k hk _ => by simp at hk; simp [hk]), p4, hgr, ?_⟩
    refine ⟨⟨x4.chg.trans hc6 (fun k hk hlt => by simp at hk; have := x.fresh; omega), x4.at_.keep hc6 (fun k hk hm => by simp at hm; subst hm; exact hout4 hk), x4.fresh⟩, ⟨vs, vp, hn6, hst4.step hc6 (fun k hk _ => by simp at hk; simp [hk])⟩, hout4, x.fresh⟩
end Go.Proofs.YtiadjkjlifnopaaGreatDoor.Tryz
/-! Manifests in plain words: what a state keeps; the edit that makes it; what is loaded. -/
set_option linter.unusedVariables false
namespace Go.Vc
open Go
structure POk (st : PSt) : Prop where
  segs : ∀ x ∈ st.segs, SegOk x ∧ x.sum < 4294967296
  pars : ∀ x ∈ st.pars, ParOk x ∧ x.sum < 4294967296
  ns : (st.segs.map numK).Nodup
  np : (st.pars.map gKey).Nodup
  ls : st.segs.length ≤ 60
  lp : st.pars.length ≤ 60
  next : 1 ≤ st.next ∧ st.next ≤ 1125899906842624
  seq : 1 ≤ st.seq ∧ st.seq ≤ 1125899906842624
  below : ∀ x ∈ st.segs, x.num < st.next
  belowP : ∀ x ∈ st.pars, x.group < st.next
  ss : st.segs.Pairwise fun x y => numK x ≤ numK y
  sp : st.pars.Pairwise fun x y => gKey x ≤ gKey y
/-- An edit that makes a state of none. -/
def wholeP (st : PSt) : EditM := { next := st.next, seq := st.seq, adds := st.segs, dels := [], pars := st.pars, drops := [] }
def p0 : PSt := ⟨[], [], 1, 1⟩
theorem p0_ok : POk p0 := ⟨by simp [p0], by simp [p0], by simp [p0], by simp [p0], by simp [p0], by simp [p0], by simp [p0], by simp [p0], by simp [p0], by simp [p0], by simp [p0], by simp [p0]⟩
theorem wholeP_ok {st : PSt} (h : POk st) : EditOk (wholeP st) := by
  refine ⟨?_, ?_, h.ls, by simp [wholeP], h.lp, by simp [wholeP], by simp [wholeP], by simp [wholeP], fun s hs => (h.segs s hs).1, fun s hs => (h.pars s hs).1⟩
  · have := h.next; unfold wholeP; dsimp only; omega
  · have := h.seq; unfold wholeP; dsimp only; omega
theorem wholeP_sums {st : PSt} (h : POk st) : Sums (wholeP st) := ⟨fun s hs => (h.segs s hs).2, fun s hs => (h.pars s hs).2⟩
theorem took_mem {α : Type} {key : α → Int} {ns : List Int} {L : List α} {x : α} (h : x ∈ (takeK key ns L).getD []) : x ∈ L := by
  cases ht : takeK key ns L with
  | none => rw [ht] at h; simp at h
  | some L' => rw [ht] at h; exact (takeK_sub ht).mem h
theorem puts_mem {α : Type} {key : α → Int} {xs M : List α} {x : α} (h : x ∈ ((putK key xs M).map (sortK key)).getD []) : x ∈ M ∨ x ∈ xs := by
  cases ht : putK key xs M with
  | none => rw [ht] at h; simp at h
  | some M' =>
    rw [ht] at h
    have h : x ∈ sortK key M' := h
    rw [(sortK_perm key M').mem_iff, (putK_eq ht).1] at h
    exact List.mem_append.1 h
theorem sortK_sorted {α : Type} (key : α → Int) (L : List α) : (sortK key L).Pairwise (fun x y => key x ≤ key y) :=
  (isM_sorted (le := leK key) (fun x y => by unfold leK; simp; omega) (fun x y z h1 h2 => by unfold leK at *; simp at *; omega) L).imp (fun h => by unfold leK at h; simpa using h)
theorem puts_sorted {α : Type} {key : α → Int} {xs M : List α} : (((putK key xs M).map (sortK key)).getD []).Pairwise (fun x y => key x ≤ key y) := by
  cases putK key xs M with
  | none => exact List.Pairwise.nil
  | some M' => exact sortK_sorted key M'
theorem later_le {was is_ : Int} (h : (laterM was is_).2 = true) : was ≤ (laterM was is_).1 := by
  unfold laterM at *
  split
  · omega
  · rename_i h0
    rw [if_neg h0] at h
    simpa using h
theorem later_most {was is_ m : Int} (h1 : was ≤ m) (h2 : is_ ≤ m) : (laterM was is_).1 ≤ m := by
  unfold laterM
  split
  · exact h1
  · exact h2
theorem applyP_ok {st st' : PSt} {e : EditM} {first : Bool} (h : POk st) (hs : Sums e) (ha : applyP st e first = some st') : POk st' := by
  unfold applyP at ha
  dsimp only at ha
  obtain ⟨hc, ha⟩ := ite_some ha
  simp only [Bool.and_eq_true] at hc
  obtain ⟨hB, ht1, hp1, ht2, hp2, hn, hq, hf⟩ := hc
  have hE := editB_ok.1 hB
  have hn1 := later_le hn
  have hn2 := later_most (was := st.next) (is_ := e.next) h.next.2 hE.next.2
  have hq1 := later_le hq
  have hq2 := later_most (was := st.seq) (is_ := e.seq) h.seq.2 hE.seq.2
  have h1 := h.next.1
  have h2 := h.seq.1
  unfold finePM at hf
  simp only [Bool.and_eq_true, decide_eq_true_eq, Bool.not_eq_true', List.any_eq_false] at hf
  obtain ⟨_, hl, hb1, hb2⟩ := hf
  have g1 : (((putK numK e.adds ((takeK numK e.dels st.segs).getD [])).map (sortK numK)).getD []).map numK |>.Nodup := puts_nodup (took_nodup h.ns)
  have g2 : (((putK gKey e.pars ((takeK gKey e.drops st.pars).getD [])).map (sortK gKey)).getD []).map gKey |>.Nodup := puts_nodup (took_nodup h.np)
  have o1 := puts_sorted (key := numK) (xs := e.adds) (M := (takeK numK e.dels st.segs).getD [])
  have o2 := puts_sorted (key := gKey) (xs := e.pars) (M := (takeK gKey e.drops st.pars).getD [])
  have m1 : ∀ x ∈ ((putK numK e.adds ((takeK numK e.dels st.segs).getD [])).map (sortK numK)).getD [], SegOk x ∧ x.sum < 4294967296 := fun x hx => by
    rcases puts_mem hx with h3 | h3
    · exact h.segs x (took_mem h3)
    · exact ⟨hE.adds1 x h3, hs.1 x h3⟩
  have m2 : ∀ x ∈ ((putK gKey e.pars ((takeK gKey e.drops st.pars).getD [])).map (sortK gKey)).getD [], ParOk x ∧ x.sum < 4294967296 := fun x hx => by
    rcases puts_mem hx with h3 | h3
    · exact h.pars x (took_mem h3)
    · exact ⟨hE.pars1 x h3, hs.2 x h3⟩
  generalize ((putK numK e.adds ((takeK numK e.dels st.segs).getD [])).map (sortK numK)).getD [] = S at *
  generalize ((putK gKey e.pars ((takeK gKey e.drops st.pars).getD [])).map (sortK gKey)).getD [] = Q at *
  generalize (laterM st.next e.next).1 = nx at *
  generalize (laterM st.seq e.seq).1 = sq at *
  subst ha
  refine ⟨m1, m2, g1, g2, by dsimp only; omega, by dsimp only; omega, by dsimp only; omega, by dsimp only; omega, fun x hx => ?_, fun x hx => ?_, o1, o2⟩
  · have := hb1 x hx
    simp at this
    exact this
  · have := hb2 x hx
    simp at this
    exact this
/-! ### What is loaded -/
def loadP : List EditM → Bool → PSt → Bool → PSt × Bool
  | [], _, st, ok => (st, ok)
  | e :: l, first, st, ok => match applyP st e first with
    | some st' => loadP l false st' ok
    | none => loadP l false st false
def loadM (b : List UInt8) : Option PSt :=
  if (loadP (scanE b).1 true p0 (scanE b).2.2).2 = true ∧ (scanE b).1 ≠ [] then some (loadP (scanE b).1 true p0 (scanE b).2.2).1 else none
theorem loadP_snoc : ∀ (l : List EditM) (e : EditM) (first : Bool) (st : PSt) (ok : Bool), loadP (l ++ [e]) first st ok = (match applyP (loadP l first st ok).1 e (first && l.isEmpty) with
    | some st' => (st', (loadP l first st ok).2)
    | none => ((loadP l first st ok).1, false))
  | [], e, first, st, ok => by
    rw [List.nil_append, loadP, loadP]
    simp only [List.isEmpty_nil, Bool.and_true]
    cases applyP st e first <;> rfl
  | a :: l, e, first, st, ok => by
    rw [List.cons_append, loadP, loadP]
    simp only [List.isEmpty_cons, Bool.and_false]
    cases applyP st a first with
    | none => simp only; rw [loadP_snoc l e false st false]; simp only [Bool.false_and]
    | some st' => simp only; rw [loadP_snoc l e false st' ok]; simp only [Bool.false_and]
theorem loadP_ok : ∀ {l : List EditM} {first : Bool} {st : PSt} {ok : Bool}, POk st → (∀ e ∈ l, Sums e) → POk (loadP l first st ok).1
  | [], first, st, ok, h, _ => h
  | e :: l, first, st, ok, h, hs => by
    rw [loadP]
    cases ha : applyP st e first with
    | none => exact loadP_ok h (fun x hx => hs x (by simp [hx]))
    | some st' => exact loadP_ok (applyP_ok h (hs e (by simp)) ha) (fun x hx => hs x (by simp [hx]))
end Go.Vc
/-! Manifests: Load. -/
set_option linter.unusedVariables false
namespace Go.Vc
open Go
theorem wholeM_plain (st : StM) : wholeM st.segs (st.pars.map (·.1)) st.next st.seq = wholeP st.plain := by
  unfold wholeM wholeP StM.plain
  rw [List.map_map]; rfl
theorem encE_whole {st : PSt} (h : POk st) : encE (wholeP st) = (sealM (textE (wholeP st)), 0) := by unfold encE; rw [if_pos (editB_ok.2 (wholeP_ok h))]
theorem plain_keys {st : StM} (h : POk st.plain) : (st.segs.map numK).Nodup ∧ (st.pars.map parKey).Nodup ∧ st.segs.length ≤ 60 ∧ st.pars.length ≤ 60 := by
  refine ⟨h.ns, ?_, h.ls, ?_⟩
  · have := h.np
    unfold StM.plain at this
    dsimp only at this
    rw [List.map_map] at this
    exact this
  · have := h.lp
    unfold StM.plain at this
    dsimp only at this
    rw [List.length_map] at this
    exact this
end Go.Vc
namespace Go.Proofs.YtiadjkjlifnopaaGreatDoor.Tryz
open Go Go.Vc
theorem wholeP_I {st : PSt} (h : POk st) : EdI (wholeP st) := by
  have h1 := h.next
  have h2 := h.seq
  refine ⟨⟨?_, ?_⟩, ⟨?_, ?_⟩, fun s hs => ?_, fun q hq => ?_⟩
  · unfold wholeP; dsimp only; omega
  · unfold wholeP; dsimp only; omega
  · unfold wholeP; dsimp only; omega
  · unfold wholeP; dsimp only; omega
  · obtain ⟨⟨a, b, c, d⟩, e⟩ := h.segs s hs
    exact ⟨⟨by omega, by omega⟩, ⟨by omega, by omega⟩, ⟨by omega, by omega⟩, ⟨by omega, by omega⟩, e⟩
  · obtain ⟨a, e⟩ := h.pars q hq
    have b := a.group
    have c := a.size
    exact ⟨⟨by omega, by omega⟩, ⟨by omega, by omega⟩, e⟩
theorem EdI.sums {e : EditM} (h : EdI e) : Sums e := ⟨fun s hs => (h.adds s hs).sum, fun q hq => (h.pars q hq).sum⟩
/-- A state as a value. -/
def stF (S : List Nat) (st : StM) (v : Value) (w : World) : Prop := ∃ ua up, v = .agg #[ua, up, .int .i64 st.next, .int .i64 st.seq] ∧ ua.oneCell' = true ∧ up.oneCell' = true ∧ Firm S w (fun w => StRd w ua up st)
theorem stF_step {S S' : List Nat} {st : StM} {v : Value} {w w' : World} (h : stF S st v w) (hc : Chg S' w w') (hs : ∀ k ∈ S', k < w.heap.size → k ∈ S) : stF S st v w' := by
  obtain ⟨ua, up, h1, h2, h3, h4⟩ := h
  exact ⟨ua, up, h1, h2, h3, h4.step hc hs⟩
theorem loadNone_has {w0 w : World} {g : Nat} {s : FsM} {p : FsP} (x : FsO w0 w g s p) (hread : readM s manNm = none) :
    Has Go.Proofs.Tryz.prog 25 #[ptrV g] w (fun v w' => v = .tuple #[.pointer none, .int .i64 3] ∧ Chg [] w w') := by
  refine enter Go.Proofs.Tryz.func25 rfl rfl (by decide) rfl (e := [(0, ptrV g)]) ⟨rfl, trivial⟩ ?_
  unfold ptrV
  refine run ?_
  refine go T 9 rfl ?_
  refine o1 rfl ?_
  refine op_call rfl rfl rfl (readO_has x manNm) ?_
  rintro v1 w1 ⟨x1, hc1, h1⟩
  rw [hread] at h1
  obtain rfl : v1 = .tuple #[.slice none 0 0, .int .i64 3] := h1
  refine go T 11 rfl ?_
  refine neT rfl rfl rfl rfl (by omega) ?_
  refine go T 12 rfl ?_
  exact post2 (.inl rfl) rfl rfl rfl ⟨rfl, hc1⟩
set_option maxHeartbeats 8000000 in
theorem load_has {w0 w : World} {g : Nat} {s : FsM} {p : FsP} (x : FsO w0 w g s p) {b : List UInt8} (hread : readM s manNm = some b) (hb : b.length ≤ 4194304) (hcalls : s.calls < 1000000000 - 10) :
    Has Go.Proofs.Tryz.prog 25 #[ptrV g] w (fun v w' =>
      (loadM b = none → v = .tuple #[.pointer none, .int .i64 6] ∧ Chg [] w w') ∧
      ∀ q, loadM b = some q → POk q ∧
        (((scanE b).2.1 < b.length → ∃ p', Chg (p.fp g) w w' ∧ Grows w g p p' ∧ FsO w0 w' g (writeM s manNm neuNm (encE (wholeP q)).1).1 p' ∧
          ((writeM s manNm neuNm (encE (wholeP q)).1).2 ≠ 0 → v = .tuple #[.pointer none, .int .i64 (writeM s manNm neuNm (encE (wholeP q)).1).2]) ∧
          ((writeM s manNm neuNm (encE (wholeP q)).1).2 = 0 → ∃ gm st, v = .tuple #[.pointer (some ⟨gm, 0, none⟩), .int .i64 0] ∧ w.heap.size ≤ gm ∧ st.plain = q ∧ ManO w0 w' gm g (writeM s manNm neuNm (encE (wholeP q)).1).1 p' st false)) ∧
        (¬ (scanE b).2.1 < b.length → ∃ gm st, v = .tuple #[.pointer (some ⟨gm, 0, none⟩), .int .i64 0] ∧ w.heap.size ≤ gm ∧ st.plain = q ∧ Chg [] w w' ∧ ManO w0 w' gm g s p st false))) := by
  refine enter Go.Proofs.Tryz.func25 rfl rfl (by decide) rfl (e := [(0, ptrV g)]) ⟨rfl, trivial⟩ ?_
  unfold ptrV
  refine run ?_
  refine go T 9 rfl ?_
  refine o1 rfl ?_
  refine op_call rfl rfl rfl (readO_has x manNm) ?_
  rintro v1 w1 ⟨x1, hc1, h1⟩
  rw [hread] at h1
  obtain ⟨ub, rfl, hob, hfb⟩ : ∃ u, v1 = .tuple #[u, .int .i64 0] ∧ Own w1 5 1 u b.length (u8s b) ∧ ∀ h, u.ownBlock = some h → _ ≤ h := h1
  have hsb := hob.bytes
  obtain ⟨Ab, cb, rfl, _, _⟩ := hsb.form
  refine go T 11 rfl ?_
  refine neF rfl rfl rfl rfl (by omega) ?_
  refine go T 8 rfl ?_
  refine o1 rfl ?_
  refine op_call rfl rfl rfl (escan_has Ab b.length cb b w1 hsb hb) ?_
  rintro _ w2 ⟨u, E, rfl, hc2, hE, hEe⟩
  have x2 := x1.keep0 hc2
  have hc02 := hc1.trans' hc2
  have hsum : ∀ e ∈ (scanE b).1, Sums e := fun e he => by
    rw [← hEe] at he
    obtain ⟨xe, h1, rfl⟩ := List.mem_map.1 he
    exact (hE.each xe h1).2.1.sums
  have hq := loadP_ok (l := (scanE b).1) (first := true) (ok := (scanE b).2.2) p0_ok hsum
  have hlm : ∀ r, loadM b = r ↔ r = if (loadP (scanE b).1 true p0 (scanE b).2.2).2 = true ∧ (scanE b).1 ≠ [] then some (loadP (scanE b).1 true p0 (scanE b).2.2).1 else none := fun r => by unfold loadM; exact eq_comm
  generalize scanE b = sc at *
  obtain ⟨es, en, ok0⟩ := sc
  dsimp only at *
  have hEs := hE.own.readsK edL_len
  obtain ⟨Ae, ce, rfl, hel1, hel2⟩ := hEs.form
  unfold maxLen at hel2
  have hEone : ∀ xe ∈ E, ((edL xe).toArray.toList.all (·.oneCell')) = true := fun xe h => (hE.each xe h).1.oneA
  have hEI : ∀ xe ∈ E, EdI xe.e := fun xe h => (hE.each xe h).2.1
  refine go T 12 rfl ?_
  refine o1 rfl (op_build T rfl rfl rfl rfl rfl rfl ?_)
  refine o1 rfl (op_build T rfl rfl rfl rfl rfl rfl ?_)
  refine o1 rfl ?_
  refine op_box rfl rfl (fun gm w3 hs3 hc3 hgm => ?_)
  have hgm : Blk w3 gm 101 [.pointer (some ⟨g, 0, none⟩), .slice none 0 0, .slice none 0 0, .int .i64 1, .int .i64 1, .bool false] := hgm
  have hs3 : w2.heap.size ≤ gm := hs3
  have x3 := x2.keep0 hc3
  have hout : gm ∉ p.fp g := fun h => by have := x2.at_.lt gm h; omega
  have hgml := hgm.lt
  have hEf : ∀ xe ∈ E, Firm (gm :: p.fp g) w3 (fun w => EOwn w xe) := fun xe h w4 h4 => by
    have hc24 : Chg (p.fp g) w2 w4 := (hc3.mono (fun k hk _ => by cases hk)).trans h4 (fun k hk hlt => by
      rcases List.mem_cons.1 hk with rfl | hk
      · omega
      · exact hk)
    exact (hE.each xe h).1.keepB (hE.each xe h).2.2 hc24 (fun k hk => by have := x1.at_.lt k hk; omega)
  have hEs3 := hEs.keepR hc3
  have hst0 : Firm (gm :: p.fp g) w3 (fun w => StRd w (.slice none 0 0) (.slice none 0 0) ⟨[], [], 1, 1⟩) := fun w4 _ => ⟨SliceK.nil _ _ _, SliceK.nil _ _ _, fun q hq => by cases hq⟩
  have hz2 := hc02.size
  refine go T 12 rfl ?_
  refine W_loop (σ := Nat × StM × Bool) (fun t => [(4, .slice Ab b.length cb), (6, .slice Ae E.length ce), (7, .int .i64 (en : Nat)), (8, .bool t.2.2), (9, .pointer (some ⟨gm, 0, none⟩)), (32, .slice Ae E.length ce), (33, .int .i64 (E.length : Nat)), (34, .int .i64 (t.1 : Nat))])
    (fun t w' => t.1 ≤ E.length ∧ Chg [gm] w3 w' ∧ (t.2.1.plain, t.2.2) = loadP (es.take t.1) true p0 ok0 ∧ ∃ vs vp, Blk w' gm 101 [.pointer (some ⟨g, 0, none⟩), vs, vp, .int .i64 t.2.1.next, .int .i64 t.2.1.seq, .bool false] ∧ Firm (gm :: p.fp g) w' (fun w => StRd w vs vp t.2.1))
    (fun t => E.length - t.1) (0, ⟨[], [], 1, 1⟩, ok0) ⟨rfl, rfl, rfl, rfl, rfl, rfl, rfl, rfl, trivial⟩ ⟨Nat.zero_le _, Chg.refl _ _, rfl, _, _, hgm, hst0⟩ ?_
  rintro ⟨i, st, ok⟩ w4 ⟨hi, hc34, hlp, vs, vp, hgm4, hst⟩
  dsimp only at hi hlp hgm4 hst ⊢
  have hEl : E.length = es.length := by rw [← hEe, List.length_map]
  have hpok : POk st.plain := by
    have := loadP_ok (l := es.take i) (first := true) (ok := ok0) p0_ok (fun e he => hsum e (List.mem_of_mem_take he))
    rw [← hlp] at this
    exact this
  have hgm4l := hgm4.lt
  refine run ?_
  refine go T 2 rfl ?_
  refine ltS rfl rfl rfl rfl (fun hcmp => ?_) (fun hcmp => ?_)
  · have hlt : i < E.length := by omega
    have hx := List.getElem?_eq_getElem hlt
    have hmem : E[i] ∈ E := List.getElem_mem _
    have hes : es[i]? = some E[i].e := by rw [← hEe, List.getElem?_map, hx]; rfl
    have hIx := hEI _ hmem
    have hFx := (hEf _ hmem).step hc34 (fun k hk _ => by simp at hk; simp [hk])
    have hone := hEone _ hmem
    have hEs4 : SliceK 6 (RdL edL) w4 (.slice Ae E.length ce) E := hEs.keepR ((hc3.trans hc34 (S := []) (fun k hk hlt => by simp at hk; omega)))
    obtain ⟨ad, rfl, helx⟩ := hEs4.at hx
    generalize E[i] = xe at *
    obtain ⟨e, xa, xd, xp, xr, Q⟩ := xe
    dsimp only [edL] at *
    obtain ⟨X, rfl⟩ := parS_of Q (fun q hq => ⟨own_one (hFx.now.prd q hq).nums, own_one (hFx.now.prd q hq).sizes⟩)
    refine go T 11 rfl ?_
    refine o1 rfl (op_indexK T rfl rfl rfl rfl rfl (by omega) ?_)
    refine o1 rfl (op_loadE T helx rfl rfl rfl rfl rfl ?_)
    refine o1 rfl ?_
    refine op_alloc T rfl rfl (fun g11 w5 hs5 hc5 hg11 => ?_)
    have hg11 : Blk w5 g11 49 [.int .i64 0, .int .i64 0, .slice none 0 0, .slice none 0 0, .slice none 0 0, .slice none 0 0] := hg11
    have hs5 : w4.heap.size ≤ g11 := hs5
    refine go T 1 rfl ?_
    refine op0 rfl rfl ?_
    refine op_store_agg T rfl rfl rfl rfl rfl hone hg11 (by exact Nat.le_of_ble_eq_true rfl) (fun w6 hc6 hg11 _ => ?_)
    replace hg11 : Blk w6 g11 49 [.int .i64 e.next, .int .i64 e.seq, xa, xd, xp, xr] := hg11
    have hc46 : Chg [] w4 w6 := hc5.trans hc6 (fun k hk hlt => by simp at hk; omega)
    have hne : g11 ≠ gm := by omega
    have hgm6 := hgm4.keep0 hc46
    have hst6 := hst.step0 hc46
    have hF6 := hFx.step0 hc46
    obtain ⟨k1, k2, k3, k4⟩ := plain_keys hpok
    obtain ⟨Avs, cvs, rfl, _, _⟩ := hst6.now.segs.form
    obtain ⟨Avp, cvp, rfl, _, _⟩ := hst6.now.pars.form
    have hXe : X.map (·.1.p) = e.pars := by
      have := hF6.now.parsE
      dsimp only at this
      rw [← this, List.map_map]; rfl
    refine go T 8 rfl ?_
    refine Q.W_walkf 15 14 [gm] fol (by kernel_rfl) (by kernel_rfl) ?_
    refine Q.Walk.plain rfl rfl (by intro val w_ hR hp; exact op_move rfl rfl ⟨Chg.refl _ _, rfl⟩) ?_; dsimp only [List.nil_append, List.cons_append]
    refine Q.Walk.plain rfl rfl (by intro val w_ hR hp; exact op_move rfl rfl ⟨Chg.refl _ _, rfl⟩) ?_; dsimp only [List.nil_append, List.cons_append]
    refine Q.Walk.plain rfl rfl (by intro val w_ hR hp; exact op_nilCheck rfl rfl ⟨Chg.refl _ _, rfl⟩) ?_; dsimp only [List.nil_append, List.cons_append]
    refine Q.Walk.plain rfl rfl (by intro val w_ hR hp; exact op_fieldAddr T rfl rfl rfl rfl rfl rfl rfl rfl ⟨Chg.refl _ _, rfl⟩) ?_; dsimp only [List.nil_append, List.cons_append]
    refine Q.Walk.plainP (v := .agg #[.slice Avs st.segs.length cvs, .slice Avp st.pars.length cvp, .int .i64 st.next, .int .i64 st.seq]) rfl rfl rfl (by intro val w_ hR hp; exact op_load_agg T rfl rfl rfl rfl (hgm6.keep0 hR) (by exact Nat.le_of_ble_eq_true rfl) (by exact rfl) ⟨Chg.refl _ _, rfl⟩) ?_; dsimp only [List.nil_append, List.cons_append]
    refine Q.Walk.plain (v := .agg #[.int .i64 e.next, .int .i64 e.seq, xa, xd, xp, xr]) rfl rfl (by intro val w_ hR hp; exact op_load_agg T rfl rfl rfl rfl (hg11.keep hR (by simpa using hne)) (by exact Nat.le_of_ble_eq_true rfl) (by exact rfl) ⟨Chg.refl _ _, rfl⟩) ?_; dsimp only [List.nil_append, List.cons_append]
    refine Q.Walk.plain rfl rfl (by intro val w_ hR hp; exact op_move rfl rfl ⟨Chg.refl _ _, rfl⟩) ?_; dsimp only [List.nil_append, List.cons_append]
    refine Q.Walk.plain (v := .bool (decide (i = 0))) rfl rfl (by intro val w_ hR hp; exact op_eql rfl rfl rfl (fun h => ⟨Chg.refl _ _, by rw [decide_eq_true (by omega)]⟩) (fun h => ⟨Chg.refl _ _, by rw [decide_eq_false (by omega)]⟩)) ?_; dsimp only [List.nil_append, List.cons_append]
    refine Q.Walk.rel rfl (fun v w' => ∃ u, v = .tuple #[u, .bool (applyM st e X (decide (i = 0))).isSome] ∧ stF (gm :: p.fp g) ((applyM st e X (decide (i = 0))).getD st) u w') rfl (fun v a b h hab => let ⟨u, h1, h2⟩ := h; ⟨u, h1, stF_step h2 hab (fun k hk _ => by simp at hk; simp [hk])⟩) ?_ ?_
    · intro val w_ hR hp
      have hst_ := hst6.step hR (fun k hk _ => by simp at hk; simp [hk])
      have hF_ := hF6.step hR (fun k hk _ => by simp at hk; simp [hk])
      have hcall := apply_has st (.slice Avs st.segs.length cvs) (.slice Avp st.pars.length cvp) ⟨e, xa, xd, xp, xr, X.map (·.1)⟩ X (decide (i = 0)) w_ hst_.now.segs hst_.now.pars hIx hF_.now.rd rfl (by omega) (by omega) k1 k2
      refine op_call rfl rfl rfl hcall ?_
      rintro v w' ⟨h1, h2, h3⟩
      refine ⟨h1, ?_⟩
      cases hap : applyM st e X (decide (i = 0)) with
      | none => exact ⟨_, h2 hap, _, _, rfl, rfl, rfl, hst_.step0 h1⟩
      | some st' =>
        obtain ⟨ua, up, h4, h5, h6, h7, h8⟩ := h3 st' hap
        refine ⟨_, h4, ua, up, rfl, own_one h5, own_one h6, fun w1 hw1 => ?_⟩
        have hz4 := hc46.size
        have hz5 := hR.size
        have hin : ∀ k, w_.heap.size ≤ k → k ∉ gm :: p.fp g := fun k hk hm => by
          rcases List.mem_cons.1 hm with rfl | hm
          · omega
          · have := x1.at_.lt k hm; have := hc2.size; omega
        refine ⟨(own_firm h5 (fun k hk => hin k (h7 k hk)) w1 hw1).readsK segL_len, (own_firm h6 (fun k hk => hin k (h8 k hk)) w1 hw1).readsK parS_len, fun q hq => ?_⟩
        rcases applyM_pars hap hq with h | h
        · exact (hst_.step0 h1 w1 hw1).prd q h
        · exact ((hF_.step0 h1 w1 hw1).prd q.1 (List.mem_map.2 ⟨q, h, rfl⟩)).rd
    dsimp only [List.nil_append, List.cons_append]
    refine Q.Walk.rel rfl (fun v w' => ∃ u, v = .tuple #[u, .bool (applyM st e X (decide (i = 0))).isSome] ∧ stF (gm :: p.fp g) ((applyM st e X (decide (i = 0))).getD st) u w') rfl (fun v a b h hab => let ⟨u, h1, h2⟩ := h; ⟨u, h1, stF_step h2 hab (fun k hk _ => by simp at hk; simp [hk])⟩) ?_ ?_
    · intro val w_ hR hp
      exact op_move rfl rfl ⟨Chg.refl _ _, hp 8 rfl _ _ rfl rfl⟩
    dsimp only [List.nil_append, List.cons_append]
    refine Q.Walk.rel rfl (stF (gm :: p.fp g) ((applyM st e X (decide (i = 0))).getD st)) rfl (fun v a b h hab => stF_step h hab (fun k hk _ => by simp at hk; simp [hk])) ?_ ?_
    · intro val w_ hR hp
      obtain ⟨u, h1, h2⟩ := hp 9 rfl _ _ rfl rfl
      have h1 : val 9 = _ := h1
      exact op_extract rfl (show some (val 9) = _ by rw [h1]) rfl ⟨Chg.refl _ _, h2⟩
    dsimp only [List.nil_append, List.cons_append]
    refine Q.Walk.plain (v := .bool (applyM st e X (decide (i = 0))).isSome) rfl rfl ?_ ?_
    · intro val w_ hR hp
      obtain ⟨u, h1, h2⟩ := hp 9 rfl _ _ rfl rfl
      have h1 : val 9 = _ := h1
      exact op_extract rfl (show some (val 9) = _ by rw [h1]) rfl ⟨Chg.refl _ _, rfl⟩
    dsimp only [List.nil_append, List.cons_append]
    refine Q.Walk.plain rfl rfl (by intro val w_ hR hp; exact op_nilCheck rfl rfl ⟨Chg.refl _ _, rfl⟩) ?_; dsimp only [List.nil_append, List.cons_append]
    refine Q.Walk.plain rfl rfl (by intro val w_ hR hp; exact op_fieldAddr T rfl rfl rfl rfl rfl rfl rfl rfl ⟨Chg.refl _ _, rfl⟩) ?_; dsimp only [List.nil_append, List.cons_append]
    refine Q.Walk.turn rfl (fun _ w' => ∃ ua up, Blk w' gm 101 [.pointer (some ⟨g, 0, none⟩), ua, up, .int .i64 ((applyM st e X (decide (i = 0))).getD st).next, .int .i64 ((applyM st e X (decide (i = 0))).getD st).seq, .bool false] ∧ Firm (gm :: p.fp g) w' (fun w => StRd w ua up ((applyM st e X (decide (i = 0))).getD st))) rfl (fun _ _ _ h hab => let ⟨ua, up, h1, h2⟩ := h; ⟨ua, up, h1.keep0 hab, h2.step0 hab⟩) ?_ ?_
    · intro val w_ hR hp
      obtain ⟨ua, up, h1, h2, h3, h4⟩ := hp 10 rfl _ _ rfl rfl
      have h1 : val 10 = .agg #[ua, up, .int .i64 ((applyM st e X (decide (i = 0))).getD st).next, .int .i64 ((applyM st e X (decide (i = 0))).getD st).seq] := h1
      have hall : ([ua, up, Value.int .i64 ((applyM st e X (decide (i = 0))).getD st).next, Value.int .i64 ((applyM st e X (decide (i = 0))).getD st).seq].all (·.oneCell')) = true := by
        simp only [List.all_cons, List.all_nil, h2, h3, Bool.true_and]; rfl
      exact op_store_agg T rfl rfl (show some (val 10) = _ by rw [h1]) rfl rfl hall (hgm6.keep0 hR) (by exact Nat.le_of_ble_eq_true rfl) (fun w7 hc7 hn _ => ⟨hc7, ua, up, hn, h4.step hc7 (fun k hk _ => by simp at hk; simp [hk])⟩)
    refine Q.Walk.fin ?_
    intro val w7 hc67 _ hn
    obtain ⟨_, ua, up, hgm7, hst7⟩ := hn 14 (by omega) _ rfl rfl
    have hc37 : Chg [gm] w3 w7 := (hc34.trans' hc46).trans hc67 (fun k hk _ => hk)
    have hnext : (((applyM st e X (decide (i = 0))).getD st).plain, ok && (applyM st e X (decide (i = 0))).isSome) = loadP (es.take (i + 1)) true p0 ok0 := by
      have htk : es.take (i + 1) = es.take i ++ [e] := by rw [List.take_add_one, hes]; rfl
      have hem : (true && (es.take i).isEmpty) = decide (i = 0) := by
        rw [Bool.true_and]
        cases i with
        | zero => simp
        | succ i =>
          have : es.take (i + 1) ≠ [] := fun h => by
            have h5 := congrArg List.length h
            rw [List.length_take] at h5
            have := (List.getElem?_eq_some_iff.1 hes).1
            simp only [List.length_nil] at h5
            omega
          rw [show decide (i + 1 = 0) = false from by simp]
          simpa using this
      rw [htk, loadP_snoc, ← hlp, hem]
      dsimp only
      rw [← applyM_plain hXe]
      cases applyM st e X (decide (i = 0)) with
      | none => simp
      | some st' => simp
    generalize (applyM st e X (decide (i = 0))).isSome = sm at *
    generalize (applyM st e X (decide (i = 0))).getD st = st' at *
    refine WL_sub (e' := [(4, .slice Ab b.length cb), (6, .slice (some ad) E.length ce), (7, .int .i64 (en : Nat)), (8, .bool ok), (9, .pointer (some ⟨gm, 0, none⟩)), (32, .slice (some ad) E.length ce), (33, .int .i64 (E.length : Nat)), (34, .int .i64 (i : Nat)), (50, .bool sm)]) ⟨rfl, rfl, rfl, rfl, rfl, rfl, rfl, rfl, rfl, trivial⟩ ?_
    cases ok with
    | true =>
      cases sm with
      | true =>
        refine runL ?_
        refine go T 13 rfl ?_
        refine adI rfl rfl rfl rfl (by omega) (by omega) ?_
        refine go T 2 rfl ?_
        exact Round_n (i + 1, st', true) ⟨rfl, rfl, rfl, rfl, rfl, rfl, rfl, rfl, trivial⟩ ⟨by dsimp only; omega, hc37, hnext, ua, up, hgm7, hst7⟩ (by dsimp only; omega)
      | false =>
        refine runL ?_
        refine go T 13 rfl ?_
        refine adI rfl rfl rfl rfl (by omega) (by omega) ?_
        refine go T 2 rfl ?_
        exact Round_n (i + 1, st', false) ⟨rfl, rfl, rfl, rfl, rfl, rfl, rfl, rfl, trivial⟩ ⟨by dsimp only; omega, hc37, hnext, ua, up, hgm7, hst7⟩ (by dsimp only; omega)
    | false =>
      refine runL ?_
      refine go T 13 rfl ?_
      refine adI rfl rfl rfl rfl (by omega) (by omega) ?_
      refine go T 2 rfl ?_
      exact Round_n (i + 1, st', false) ⟨rfl, rfl, rfl, rfl, rfl, rfl, rfl, rfl, trivial⟩ ⟨by dsimp only; omega, hc37, hnext, ua, up, hgm7, hst7⟩ (by dsimp only; omega)
  · obtain rfl : i = E.length := by omega
    rw [hEl, List.take_length] at hlp
    have hlm2 : ∀ r, loadM b = r ↔ r = if ok = true ∧ es ≠ [] then some st.plain else none := fun r => by rw [hlm, ← hlp]
    have hend : Chg [] w w4 := (hc02.trans' hc3).trans hc34 (fun k hk hlt => by simp at hk; omega)
    have x4 : FsO w0 w4 g s p := ⟨x3.chg.trans hc34 (fun k hk hlt => by simp at hk; have := x.chg.size; omega), x3.at_.keep hc34 (fun k hk hm => by simp at hm; subst hm; exact hout hk), x3.fresh⟩
    cases ok with
    | false =>
      refine go T 6 rfl ?_
      refine rndX ?_
      refine go T 23 rfl ?_
      exact post2 (.inl rfl) rfl rfl rfl ⟨fun _ => ⟨rfl, hend⟩, fun q h => by rw [hlm2] at h; simp at h⟩
    | true =>
      by_cases hn : E.length = 0
      · have hes : es = [] := List.eq_nil_of_length_eq_zero (by omega)
        refine go T 6 rfl ?_
        refine rndX ?_
        refine go T 10 rfl ?_
        refine eqT rfl rfl rfl rfl (by omega) ?_
        refine go T 12 rfl ?_
        exact post2 (.inl rfl) rfl rfl rfl ⟨fun _ => ⟨rfl, hend⟩, fun q h => by rw [hlm2, hes] at h; simp at h⟩
      · have hes : es ≠ [] := fun h => by rw [h] at hEl; simp only [List.length_nil] at hEl; omega
        have hsome : loadM b = some st.plain := by rw [hlm2, if_pos ⟨rfl, hes⟩]
        rw [hsome]
        have hfr : w0.heap.size ≤ gm := by have := x.chg.size; omega
        have hman : ManO w0 w4 gm g s p st false := ⟨x4, ⟨vs, vp, hgm4, hst⟩, hout, hfr⟩
        by_cases hlt : en < b.length
        · obtain ⟨Avs, cvs, rfl, _, _⟩ := hst.now.segs.form
          obtain ⟨Avp, cvp, rfl, _, _⟩ := hst.now.pars.form
          have hQ : SliceK 5 (RdL parL) w4 (.slice Avp (st.pars.map (·.1)).length cvp) (st.pars.map (·.1)) := by rw [List.length_map]; exact par_reads hst.now.pars
          have hm' : ManB w4 gm g (.slice Avs st.segs.length cvs) (.slice Avp (st.pars.map (·.1)).length cvp) st.next st.seq false := by unfold ManB; rw [List.length_map]; exact hgm4
          have hlay := lay_has x4.at_ hm' hst.now.segs hQ (fun q hq => by obtain ⟨q', h1, rfl⟩ := List.mem_map.1 hq; exact hst.now.prd q' h1) (by rw [wholeM_plain]; exact wholeP_I hpok) hcalls
          refine go T 6 rfl ?_
          refine rndX ?_
          refine go T 10 rfl ?_
          refine eqF rfl rfl rfl rfl (by omega) ?_
          refine go T 12 rfl ?_
          refine ltT rfl rfl rfl rfl (by omega) ?_
          refine go T 6 rfl ?_
          refine o1 rfl ?_
          refine op_call rfl rfl rfl hlay ?_
          rintro v5 w5 ⟨_, hd⟩
          rw [wholeM_plain] at hd
          have hd := hd (by rw [encE_whole hpok])
          obtain ⟨hv5, hc5, p5, x5, hg5⟩ := fsDoneO x4 hd
          have hc45 : Chg (gm :: p.fp g) w4 w5 := hc5.mono (fun k hk _ => by simp [hk])
          have hc05 : Chg (p.fp g) w w5 := (hend.mono (fun k hk _ => by cases hk)).trans hc5 (fun k hk _ => hk)
          have hgr : Grows w g p p5 := fun k hk => (hg5 k hk).imp id (fun h => by have := hend.size; omega)
          have hm5 := hgm4.keep hc5 hout
          have hst5 := firm_grow hst hc45 hg5
          have hout5 : gm ∉ p5.fp g := fun h => by
            rcases hg5 gm h with h | h
            · exact hout h
            · omega
          generalize hr5 : writeM s manNm neuNm (encE (wholeP st.plain)).1 = r5 at *
          obtain ⟨s5, e5⟩ := r5
          dsimp only at hv5 x5
          subst hv5
          by_cases hz : e5 = 0
          · subst hz
            refine go T 6 rfl ?_
            refine neF rfl rfl rfl rfl (by omega) ?_
            refine go T 13 rfl ?_
            refine post2 (.inl rfl) rfl rfl rfl ⟨fun h => (by cases h), fun q h => ?_⟩
            injection h with h
            subst h
            rw [hr5]
            exact ⟨hpok, fun _ => ⟨p5, hc05, hgr, x5, fun h => absurd rfl h, fun _ => ⟨gm, st, rfl, by omega, rfl, x5, ⟨_, _, hm5, hst5⟩, hout5, hfr⟩⟩, fun h => absurd hlt h⟩
          · refine go T 6 rfl ?_
            refine neT rfl rfl rfl rfl (by omega) ?_
            refine go T 12 rfl ?_
            refine post2 (.inl rfl) rfl rfl rfl ⟨fun h => (by cases h), fun q h => ?_⟩
            injection h with h
            subst h
            rw [hr5]
            exact ⟨hpok, fun _ => ⟨p5, hc05, hgr, x5, fun _ => rfl, fun h => absurd h hz⟩, fun h => absurd hlt h⟩
        · refine go T 6 rfl ?_
          refine rndX ?_
          refine go T 10 rfl ?_
          refine eqF rfl rfl rfl rfl (by omega) ?_
          refine go T 12 rfl ?_
          refine ltF rfl rfl rfl rfl (by omega) ?_
          refine go T 13 rfl ?_
          refine post2 (.inl rfl) rfl rfl rfl ⟨fun h => (by cases h), fun q h => ?_⟩
          injection h with h
          subst h
          exact ⟨hpok, fun h => absurd h hlt, fun _ => ⟨gm, st, rfl, by omega, rfl, hend, hman⟩⟩
end Go.Proofs.YtiadjkjlifnopaaGreatDoor.Tryz
/-! Files that have one file, in plain words; a file of other bytes takes its place. -/
set_option linter.unusedVariables false
namespace Go.Vc
open Go
/-! ### Files that have one file -/
structure OneAt (s : FsM) (room calls : Int) (nm : Nm) (b : List UInt8) (sy i : Nat) : Prop where
  room : s.room = room
  calls : s.calls = calls
  fail : s.fail = -1
  dir : s.dir = [(nm, i)]
  file : s.files[i]? = some ⟨b, sy⟩
/-- .. whose directory lasts. -/
structure Lasts (s : FsM) (nm : Nm) (i : Nat) : Prop where
  last : s.lasts = [(nm, i)]
  wait : s.waits = []
section
variable {s : FsM} {room calls : Int} {nm : Nm} {b c : List UInt8} {sy i : Nat}
theorem OneAt.lt (h : OneAt s room calls nm b sy i) : i < s.files.length := (List.getElem?_eq_some_iff.1 h.file).1
theorem OneAt.nofail (h : OneAt s room calls nm b sy i) : failsM s = false := by unfold failsM; rw [h.fail]; rfl
theorem OneAt.used (h : OneAt s room calls nm b sy i) : usedM s = b.length := by simp [usedM, h.dir, lenOf, h.file]
theorem OneAt.looks (h : OneAt s room calls nm b sy i) : Go.Vc.looks s.dir nm = some i := by rw [h.dir]; simp [Go.Vc.looks]
theorem OneAt.read (h : OneAt s room calls nm b sy i) : readM s nm = some b := by simp [readM, h.looks, h.file]
theorem one_made (n : Int) (hn : mayM nm = true) : (createM (newM n) nm).2 = 0 ∧ OneAt (createM (newM n) nm).1 (roomM n) 1 nm [] 0 0 := by
  have e : createM (newM n) nm = (changeM { callM (newM n) with files := [⟨[], 0⟩] } ⟨0, nm, [], some 0⟩, 0) := by
    unfold createM
    dsimp only
    rw [show failsM (newM n) = false from rfl, if_neg (by simp), hn, if_neg (by simp), if_neg (by simp [newM, callM])]
    rfl
  rw [e]
  exact ⟨rfl, rfl, rfl, rfl, rfl, rfl⟩
theorem one_append (h : OneAt s room calls nm b sy i) (hr : (b.length : Int) + c.length ≤ room) : (appendM s nm c).2 = 0 ∧ OneAt (appendM s nm c).1 room (calls + 1) nm (b ++ c) sy i ∧ (∀ j, Lasts s nm j → Lasts (appendM s nm c).1 nm j) := by
  have hu : usedM (callM s) = b.length := h.used
  have hl : Go.Vc.looks (callM s).dir nm = some i := h.looks
  have hrm : (callM s).room = room := h.room
  have e : appendM s nm c = ({ callM s with files := (callM s).files.modify i fun f => { f with b := f.b ++ c } }, 0) := by
    unfold appendM
    dsimp only
    rw [h.nofail, hl, hu]
    dsimp only
    rw [if_neg (by simp), if_neg (by rw [hrm]; omega)]
  rw [e]
  refine ⟨rfl, ⟨h.room, by show s.calls + 1 = _; rw [h.calls], by show max (s.fail - 1) (-1) = -1; rw [h.fail]; rfl, h.dir, ?_⟩, fun j hj => ⟨hj.last, hj.wait⟩⟩
  show (s.files.modify i _)[i]? = _
  rw [List.getElem?_modify, h.file]; simp
theorem one_sync (h : OneAt s room calls nm b sy i) : (syncM s nm).2 = 0 ∧ OneAt (syncM s nm).1 room (calls + 1) nm b b.length i ∧ (∀ j, Lasts s nm j → Lasts (syncM s nm).1 nm j) := by
  have hl : Go.Vc.looks (callM s).dir nm = some i := h.looks
  have e : syncM s nm = ({ callM s with files := (callM s).files.modify i fun f => { f with synced := f.b.length } }, 0) := by
    unfold syncM
    dsimp only
    rw [h.nofail, hl]
    dsimp only
    rw [if_neg (by simp)]
  rw [e]
  refine ⟨rfl, ⟨h.room, by show s.calls + 1 = _; rw [h.calls], by show max (s.fail - 1) (-1) = -1; rw [h.fail]; rfl, h.dir, ?_⟩, fun j hj => ⟨hj.last, hj.wait⟩⟩
  show (s.files.modify i _)[i]? = _
  rw [List.getElem?_modify, h.file]; simp
theorem one_syncDir (h : OneAt s room calls nm b sy i) : (syncDirM s).2 = 0 ∧ OneAt (syncDirM s).1 room (calls + 1) nm b sy i ∧ Lasts (syncDirM s).1 nm i := by
  have e : syncDirM s = ({ callM s with lasts := (callM s).dir, waits := [] }, 0) := by
    unfold syncDirM
    dsimp only
    rw [h.nofail, if_neg (by simp)]
  rw [e]
  exact ⟨rfl, ⟨h.room, by show s.calls + 1 = _; rw [h.calls], by show max (s.fail - 1) (-1) = -1; rw [h.fail]; rfl, h.dir, h.file⟩, h.dir, rfl⟩
theorem one_again (h : OneAt s room calls nm b sy i) (hn : mayM nm = true) : (createM s nm).2 = 0 ∧ OneAt (createM s nm).1 room (calls + 1) nm [] 0 s.files.length := by
  have e : createM s nm = (changeM { callM s with files := (callM s).files ++ [⟨[], 0⟩] } ⟨0, nm, [], some (callM s).files.length⟩, 0) := by
    unfold createM
    dsimp only
    rw [h.nofail, if_neg (by simp), hn, if_neg (by simp), if_neg (by simp [show (callM s).dir = [(nm, i)] from h.dir])]
  rw [e]
  refine ⟨rfl, h.room, by show s.calls + 1 = _; rw [h.calls], by show max (s.fail - 1) (-1) = -1; rw [h.fail]; rfl, ?_, ?_⟩
  · show ins s.dir nm s.files.length = _
    rw [h.dir]
    simp [ins, nm_lt_irrefl]
  · show (s.files ++ [⟨[], 0⟩])[s.files.length]? = _
    rw [List.getElem?_append_right (Nat.le_refl _), Nat.sub_self]; rfl
theorem one_crash (h : OneAt s room calls nm b sy i) (hl : Lasts s nm i) : OneAt (crashM s 0 []) room 0 nm (b.take sy) sy 0 := by
  have ed : crashDir s 0 = [(nm, i)] := by unfold crashDir; rw [hl.last]; rfl
  unfold crashM
  rw [ed]
  refine ⟨h.room, rfl, rfl, rfl, ?_⟩
  simp [crashFiles, h.file, cutM, tailOf]
/-- Files that have at most this one. -/
def AtMost (s : FsM) (nm : Nm) (u : Nat) : Prop := (s.dir = [] ∧ u = 0) ∨ ∃ i f, s.dir = [(nm, i)] ∧ s.files[i]? = some f ∧ f.b.length = u
theorem OneAt.most (h : OneAt s room calls nm b sy i) : AtMost s nm b.length := .inr ⟨i, _, h.dir, h.file, rfl⟩
/-- A file of other bytes takes its place. -/
theorem most_write {u : Nat} (h0 : AtMost s nm u) (hr0 : s.room = room) (hc0 : s.calls = calls) (hf0 : s.fail = -1) (bes : Nm) (hne : nm ≠ bes) (hm1 : mayM nm = true) (hm2 : mayM bes = true) (hr : (u : Int) + c.length ≤ room) : (writeM s nm bes c).2 = 0 ∧ OneAt (writeM s nm bes c).1 room (calls + 5) nm c c.length s.files.length ∧ Lasts (writeM s nm bes c).1 nm s.files.length := by
  have hfl : ∀ t : FsM, t.fail = -1 → failsM t = false := fun t e => by unfold failsM; rw [e]; rfl
  have hcf : ∀ t : FsM, t.fail = -1 → (callM t).fail = -1 := fun t e => by show max (t.fail - 1) (-1) = -1; rw [e]; rfl
  have hne' : ¬ bes = nm := fun e => hne e.symm
  have hfew : (callM s).dir.length < 150 := by
    show s.dir.length < 150
    rcases h0 with ⟨h, _⟩ | ⟨i, f, h, _⟩ <;> rw [h] <;> simp
  -- made
  have e1 : createM s bes = (changeM { callM s with files := (callM s).files ++ [⟨[], 0⟩] } ⟨0, bes, [], some (callM s).files.length⟩, 0) := by
    unfold createM
    dsimp only
    rw [hfl s hf0, if_neg (by simp), hm2, if_neg (by simp), if_neg (by simp; omega)]
  obtain ⟨s1, hs1⟩ : ∃ s1, s1 = changeM { callM s with files := (callM s).files ++ [⟨[], 0⟩] } ⟨0, bes, [], some (callM s).files.length⟩ := ⟨_, rfl⟩
  rw [← hs1] at e1
  have d1 : s1.dir = ins s.dir bes s.files.length := by rw [hs1]; rfl
  have f1 : s1.files = s.files ++ [⟨[], 0⟩] := by rw [hs1]; rfl
  have r1 : s1.room = room := by rw [hs1]; exact hr0
  have c1 : s1.calls = calls + 1 := by rw [hs1]; show s.calls + 1 = _; rw [hc0]
  have l1 : s1.fail = -1 := by rw [hs1]; exact hcf s hf0
  have fn1 : s1.files[s.files.length]? = some ⟨[], 0⟩ := by rw [f1, List.getElem?_append_right (Nat.le_refl _), Nat.sub_self]; rfl
  have u1 : usedM s1 = u := by
    rcases h0 with ⟨h, hu⟩ | ⟨i, f, h, hf, hu⟩
    · simp [usedM, d1, h, ins, lenOf, fn1, hu]
    · have fi1 : s1.files[i]? = some f := by rw [f1, List.getElem?_append_left (List.getElem?_eq_some_iff.1 hf).1]; exact hf
      rw [usedM, d1, h]
      simp only [ins, if_neg hne]
      split
      · simp [lenOf, fi1, fn1, hu]
      · simp [lenOf, fi1, fn1, hu]
  have k1 : Go.Vc.looks s1.dir bes = some s.files.length := by
    rw [d1]
    rcases h0 with ⟨h, hu⟩ | ⟨i, f, h, hf, hu⟩
    · simp [h, ins, Go.Vc.looks]
    · rw [h]
      simp only [ins, if_neg hne]
      split
      · simp [Go.Vc.looks]
      · simp [Go.Vc.looks, hne]
  have dd : doM s1.dir ⟨1, bes, nm, none⟩ = [(nm, s.files.length)] := by
    have k1' := k1
    unfold doM
    dsimp only
    rw [if_neg (by decide), if_pos rfl, k1']
    dsimp only
    rw [d1]
    rcases h0 with ⟨h, hu⟩ | ⟨i, f, h, hf, hu⟩
    · simp [h, ins, del]
    · rw [h]
      simp only [ins, if_neg hne]
      split
      · simp [del, ins, hne, nm_lt_irrefl]
      · simp [del, ins, hne, nm_lt_irrefl]
  clear hs1
  generalize s.files.length = n at *
  -- appended
  have e2 : appendM s1 bes c = ({ callM s1 with files := (callM s1).files.modify n fun f => { f with b := f.b ++ c } }, 0) := by
    unfold appendM
    dsimp only
    rw [hfl s1 l1, show Go.Vc.looks (callM s1).dir bes = some n from k1, show usedM (callM s1) = u from u1]
    dsimp only
    rw [if_neg (by simp), if_neg (by show ¬ s1.room - _ < _; rw [r1]; omega)]
  obtain ⟨s2, hs2⟩ : ∃ s2, s2 = { callM s1 with files := (callM s1).files.modify n fun f => { f with b := f.b ++ c } } := ⟨_, rfl⟩
  rw [← hs2] at e2
  have d2 : s2.dir = s1.dir := by rw [hs2]; rfl
  have r2 : s2.room = room := by rw [hs2]; exact r1
  have c2 : s2.calls = calls + 2 := by rw [hs2]; show s1.calls + 1 = _; rw [c1]; omega
  have l2 : s2.fail = -1 := by rw [hs2]; exact hcf s1 l1
  have fn2 : s2.files[n]? = some ⟨c, 0⟩ := by
    rw [hs2]
    show (s1.files.modify n _)[n]? = _
    rw [List.getElem?_modify, fn1]; simp
  clear hs2
  -- synced
  have e3 : syncM s2 bes = ({ callM s2 with files := (callM s2).files.modify n fun f => { f with synced := f.b.length } }, 0) := by
    unfold syncM
    dsimp only
    rw [hfl s2 l2, show Go.Vc.looks (callM s2).dir bes = some n from by show Go.Vc.looks s2.dir bes = _; rw [d2]; exact k1]
    dsimp only
    rw [if_neg (by simp)]
  obtain ⟨s3, hs3⟩ : ∃ s3, s3 = { callM s2 with files := (callM s2).files.modify n fun f => { f with synced := f.b.length } } := ⟨_, rfl⟩
  rw [← hs3] at e3
  have d3 : s3.dir = s1.dir := by rw [hs3]; exact d2
  have r3 : s3.room = room := by rw [hs3]; exact r2
  have c3 : s3.calls = calls + 3 := by rw [hs3]; show s2.calls + 1 = _; rw [c2]; omega
  have l3 : s3.fail = -1 := by rw [hs3]; exact hcf s2 l2
  have fn3 : s3.files[n]? = some ⟨c, c.length⟩ := by
    rw [hs3]
    show (s2.files.modify n _)[n]? = _
    rw [List.getElem?_modify, fn2]; simp
  clear hs3
  -- named
  have e4 : renameM s3 bes nm = (changeM (callM s3) ⟨1, bes, nm, none⟩, 0) := by
    unfold renameM
    dsimp only
    rw [hfl s3 l3, if_neg (by simp), show Go.Vc.looks (callM s3).dir bes = some n from by show Go.Vc.looks s3.dir bes = _; rw [d3]; exact k1, if_neg (by simp), hm1, if_neg (by simp)]
  obtain ⟨s4, hs4⟩ : ∃ s4, s4 = changeM (callM s3) ⟨1, bes, nm, none⟩ := ⟨_, rfl⟩
  rw [← hs4] at e4
  have o4 : OneAt s4 room (calls + 4) nm c c.length n := by
    refine ⟨by rw [hs4]; exact r3, by rw [hs4]; show s3.calls + 1 = _; rw [c3]; omega, by rw [hs4]; exact hcf s3 l3, ?_, by rw [hs4]; exact fn3⟩
    rw [hs4]
    show doM s3.dir ⟨1, bes, nm, none⟩ = _
    rw [d3]; exact dd
  obtain ⟨a5, o5, las5⟩ := one_syncDir o4
  have e : writeM s nm bes c = syncDirM s4 := by
    unfold writeM
    simp [writeG, writeK, e1, e2, e3, e4, a5]
    rw [← a5]
  rw [e]
  refine ⟨a5, ?_, las5⟩
  rw [show calls + 5 = calls + 4 + 1 from by omega]
  exact o5
end
end Go.Vc
/-! Manifests in plain words: what is laid is loaded. -/
set_option linter.unusedVariables false
namespace Go.Vc
open Go
def fileE (l : List EditM) : List UInt8 := l.flatMap fun e => sealM (textE e)
structure EdGood (e : EditM) : Prop where
  ok : EditOk e
  sums : Sums e
  len : (textE e).length ≤ 100000
theorem fileE_cons (e : EditM) (l : List EditM) : fileE (e :: l) = sealM (textE e) ++ fileE l := rfl
theorem fileE_snoc (l : List EditM) (e : EditM) : fileE (l ++ [e]) = fileE l ++ sealM (textE e) := by unfold fileE; rw [List.flatMap_append]; simp
theorem scanM_file : ∀ {l : List EditM}, (∀ e ∈ l, EdGood e) → scanM (fileE l) = (l.map textE, (fileE l).length, true)
  | [], _ => scanM_nil
  | e :: l, h => by
    have he := (h e (by simp)).len
    rw [fileE_cons, scanM_sealM _ _ (by omega), scanM_file (fun x hx => h x (by simp [hx]))]
    simp [sealM_length]
theorem edGo_file : ∀ {l : List EditM} (k : Nat) (cut : Bool), (∀ e ∈ l, EdGood e) → edGo (l.map textE) k cut = (l, k + (fileE l).length, cut)
  | [], k, cut, _ => rfl
  | e :: l, k, cut, h => by
    have he := h e (by simp)
    rw [List.map_cons, edGo, decE_textE he.ok he.sums, edGo_file _ _ (fun x hx => h x (by simp [hx])), fileE_cons, List.length_append]
    simp; omega
theorem scanE_file {l : List EditM} (h : ∀ e ∈ l, EdGood e) : scanE (fileE l) = (l, (fileE l).length, true) := by
  unfold scanE
  rw [scanM_file h, edGo_file _ _ h]
  simp
/-- A manifest's file says a state. -/
def FileOk (b : List UInt8) (st : PSt) : Prop := ∃ l, l ≠ [] ∧ (∀ e ∈ l, EdGood e) ∧ b = fileE l ∧ loadP l true p0 true = (st, true)
theorem FileOk.load {b : List UInt8} {st : PSt} (h : FileOk b st) : loadM b = some st ∧ (scanE b).2.1 = b.length := by
  obtain ⟨l, h1, h2, rfl, h4⟩ := h
  unfold loadM
  rw [scanE_file h2]
  dsimp only
  rw [h4]
  exact ⟨if_pos ⟨rfl, h1⟩, rfl⟩
theorem encE_good {e : EditM} (h : EdGood e) : encE e = (sealM (textE e), 0) := by unfold encE; rw [if_pos (editB_ok.2 h.ok)]
theorem FileOk.commit {b : List UInt8} {st st' : PSt} {e : EditM} (h : FileOk b st) (he : EdGood e) (ha : applyP st e false = some st') : FileOk (b ++ (encE e).1) st' := by
  obtain ⟨l, h1, h2, rfl, h4⟩ := h
  refine ⟨l ++ [e], by simp, fun x hx => ?_, ?_, ?_⟩
  · rcases List.mem_append.1 hx with hx | hx
    · exact h2 x hx
    · rw [List.mem_singleton.1 hx]; exact he
  · rw [fileE_snoc, encE_good he]
  · rw [loadP_snoc, h4]
    have : (true && l.isEmpty) = false := by simpa using h1
    rw [this, ha]
theorem putK_all {α : Type} {key : α → Int} : ∀ {xs L : List α}, ((L ++ xs).map key).Nodup → putK key xs L = some (L ++ xs)
  | [], L, _ => by simp [putK]
  | x :: xs, L, h => by
    rw [putK, if_neg, putK_all (by simpa using h)]
    · simp
    · intro hc
      obtain ⟨y, hy, hk⟩ := List.any_eq_true.1 hc
      simp at hk
      rw [List.map_append, List.nodup_append] at h
      exact h.2.2 _ (List.mem_map.2 ⟨y, hy, rfl⟩) _ (List.mem_map.2 ⟨x, by simp, rfl⟩) hk.symm
theorem sortK_id {α : Type} {key : α → Int} {L : List α} (hn : (L.map key).Nodup) (hs : L.Pairwise (fun x y => key x ≤ key y)) : sortK key L = L := (sortK_unique hn (List.Perm.refl _) hs).symm
theorem apply_whole {st : PSt} (h : POk st) : applyP p0 (wholeP st) true = some st := by
  have h1 : putK numK st.segs [] = some st.segs := by rw [putK_all (by simpa using h.ns)]; simp
  have h2 : putK gKey st.pars [] = some st.pars := by rw [putK_all (by simpa using h.np)]; simp
  have hn := h.next
  have hq := h.seq
  have l1 : laterM 1 st.next = (st.next, true) := by unfold laterM; rw [if_neg (by omega), decide_eq_true (by omega)]
  have l2 : laterM 1 st.seq = (st.seq, true) := by unfold laterM; rw [if_neg (by omega), decide_eq_true (by omega)]
  have hf : finePM st.segs st.pars st.next [] = true := by
    unfold finePM
    simp only [List.all_nil, Bool.true_and, Bool.and_eq_true, decide_eq_true_eq, Bool.not_eq_true', List.any_eq_false]
    have := h.ls
    have := h.lp
    refine ⟨by omega, fun x hx => ?_, fun x hx => ?_⟩
    · have := h.below x hx; simp; omega
    · have := h.belowP x hx; simp; omega
  have hB : editB (wholeP st) = true := editB_ok.2 (wholeP_ok h)
  unfold applyP
  rw [hB]
  unfold wholeP p0
  dsimp only [takeK, Option.getD]
  rw [h1, h2, l1, l2]
  dsimp only [Option.map, Option.isSome]
  simp only [sortK_id h.ns h.ss, sortK_id h.np h.sp, if_true, hf]
  simp
theorem flat_len {α : Type} {f : α → List UInt8} {m : Nat} : ∀ {l : List α}, (∀ x ∈ l, (f x).length ≤ m) → (l.flatMap f).length ≤ m * l.length
  | [], _ => by simp
  | x :: l, h => by
    have h1 := h x (by simp)
    have h2 := flat_len (l := l) (fun y hy => h y (by simp [hy]))
    rw [List.flatMap_cons, List.length_append, List.length_cons, Nat.mul_add]
    omega
theorem pairE_len : ∀ (ns zs : List Int), (∀ n ∈ ns, n < 18446744073709551616) → (∀ n ∈ zs, n < 18446744073709551616) → (pairE ns zs).length ≤ 20 * ns.length
  | [], zs, _, _ => by simp [pairE]
  | n :: ns, [], _, _ => by simp [pairE]
  | n :: ns, z :: zs, h1, h2 => by
    have i := pairE_len ns zs (fun x hx => h1 x (by simp [hx])) (fun x hx => h2 x (by simp [hx]))
    have k := numsE_len [n, z] (fun x hx => by
      simp only [List.mem_cons, List.not_mem_nil, or_false] at hx
      rcases hx with rfl | rfl
      · exact h1 _ (by simp)
      · exact h2 _ (by simp))
    rw [pairE, List.length_append, List.length_cons]
    simp only [List.length_cons, List.length_nil] at k
    omega
theorem textE_len {e : EditM} (h : EditOk e) (hs : Sums e) : (textE e).length ≤ 100000 := by
  have a := flat_len (f := segE) (m := 60) (l := e.adds) (fun s hx => by
    obtain ⟨⟨a, a'⟩, ⟨b, b'⟩, ⟨c, c'⟩, ⟨d, d'⟩⟩ := h.adds1 s hx
    have hsum := hs.1 s hx
    have ht : truthI s.sealed ≤ 1 := by unfold truthI; split <;> omega
    have := numsE_len [s.num, truthI s.sealed, s.group, s.member, s.size, s.sum] (fun x hx => by
      simp only [List.mem_cons, List.not_mem_nil, or_false] at hx
      rcases hx with rfl | rfl | rfl | rfl | rfl | rfl <;> omega)
    simpa [segE] using this)
  have b := flat_len (f := parE) (m := 100) (l := e.pars) (fun p hx => by
    have ho := h.pars1 p hx
    have hsum := hs.2 p hx
    have h1 := ho.group
    have h2 := ho.size
    have h3 := ho.len3
    have k1 := numsE_len [p.group, p.nums.length] (fun x hx => by
      simp only [List.mem_cons, List.not_mem_nil, or_false] at hx
      rcases hx with rfl | rfl <;> omega)
    have k2 := numsE_len [p.size, p.sum] (fun x hx => by
      simp only [List.mem_cons, List.not_mem_nil, or_false] at hx
      rcases hx with rfl | rfl <;> omega)
    have k3 := pairE_len p.nums p.sizes (fun n hn => by have := ho.nums n hn; omega) (fun n hn => by have := ho.sizes n hn; omega)
    simp only [List.length_cons, List.length_nil] at k1 k2
    unfold parE
    rw [List.length_append, List.length_append]
    omega)
  have c := numsE_len e.dels (fun n hn => by have := h.dels1 n hn; omega)
  have d := numsE_len e.drops (fun n hn => by have := h.drops1 n hn; omega)
  have h1 := h.next
  have h2 := h.seq
  have h3 := h.adds
  have h4 := h.dels
  have h5 := h.pars
  have h6 := h.drops
  have k1 := numsE_len [e.next, e.seq, e.adds.length] (fun x hx => by
    simp only [List.mem_cons, List.not_mem_nil, or_false] at hx
    rcases hx with rfl | rfl | rfl <;> omega)
  have one : ∀ n : Int, n < 18446744073709551616 → (numsE [n]).length ≤ 10 := fun n hn => by
    have := numsE_len [n] (fun x hx => by rw [List.mem_singleton.1 hx]; exact hn)
    simpa using this
  have k2 := one e.dels.length (by omega)
  have k3 := one e.pars.length (by omega)
  have k4 := one e.drops.length (by omega)
  simp only [List.length_cons, List.length_nil] at k1
  unfold textE
  simp only [List.length_append]
  omega
theorem edGood {e : EditM} (h : EditOk e) (hs : Sums e) : EdGood e := ⟨h, hs, textE_len h hs⟩
theorem FileOk.lay {st : PSt} (h : POk st) : FileOk (encE (wholeP st)).1 st := by
  have hg : EdGood (wholeP st) := edGood (wholeP_ok h) (wholeP_sums h)
  refine ⟨[wholeP st], by simp, fun x hx => by rw [List.mem_singleton.1 hx]; exact hg, ?_, ?_⟩
  · rw [encE_good hg]; simp [fileE]
  · rw [loadP, apply_whole h]; rfl
end Go.Vc
/-! Manifests: files that have a manifest alone; begun. -/
set_option linter.unusedVariables false
namespace Go.Vc
open Go
/-- Files that have just a manifest, which says q, all synced. -/
structure MSt (s : FsM) (calls : Int) (b : List UInt8) (i : Nat) (q : PSt) : Prop where
  one : OneAt s 1048576 calls manNm b b.length i
  last : Lasts s manNm i
  file : FileOk b q
  ok : POk q
theorem man0_whole : man0 = wholeP p0 := rfl
theorem encE_len {e : EditM} (h : EditOk e) (hs : Sums e) : (encE e).1.length ≤ 100012 := by
  rw [encE_good (edGood h hs)]
  have := textE_len h hs
  rw [sealM_length]; omega
theorem mst_new : (writeM (newM 1048576) manNm neuNm (encE man0).1).2 = 0 ∧ MSt (writeM (newM 1048576) manNm neuNm (encE man0).1).1 5 (encE man0).1 0 p0 := by
  have hl := encE_len (wholeP_ok p0_ok) (wholeP_sums p0_ok)
  rw [man0_whole]
  obtain ⟨h1, h2, h3⟩ := most_write (s := newM 1048576) (room := 1048576) (calls := 0) (nm := manNm) (c := (encE (wholeP p0)).1) (u := 0) (.inl ⟨rfl, rfl⟩) rfl rfl rfl neuNm (by decide) (by decide) (by decide) (by omega)
  exact ⟨h1, h2, h3, FileOk.lay p0_ok, p0_ok⟩
section
variable {s : FsM} {calls : Int} {b : List UInt8} {i : Nat} {q q' : PSt} {e : EditM}
theorem MSt.commit (h : MSt s calls b i q) (hg : EdGood e) (ha : applyP q e false = some q') (hr : (b.length : Int) + (encE e).1.length ≤ 1048576) : (commitF s (encE e).1).2 = 0 ∧ MSt (commitF s (encE e).1).1 (calls + 2) (b ++ (encE e).1) i q' := by
  obtain ⟨h1, h2, h3⟩ := one_append h.one hr
  obtain ⟨h4, h5, h6⟩ := one_sync h2
  unfold commitF
  rw [if_pos h1]
  refine ⟨h4, ?_, h6 _ (h3 _ h.last), h.file.commit hg ha, applyP_ok h.ok hg.sums ha⟩
  rw [show calls + 2 = calls + 1 + 1 from by omega]
  exact h5
theorem MSt.lay (h : MSt s calls b i q) (hr : b.length ≤ 900000) : (writeM s manNm neuNm (encE (wholeP q)).1).2 = 0 ∧ MSt (writeM s manNm neuNm (encE (wholeP q)).1).1 (calls + 5) (encE (wholeP q)).1 s.files.length q := by
  have hl := encE_len (wholeP_ok h.ok) (wholeP_sums h.ok)
  obtain ⟨h1, h2, h3⟩ := most_write (c := (encE (wholeP q)).1) h.one.most h.one.room h.one.calls h.one.fail neuNm (by decide) (by decide) (by decide) (by omega)
  exact ⟨h1, h2, h3, FileOk.lay h.ok, h.ok⟩
theorem MSt.crash (h : MSt s calls b i q) : MSt (crashM s 0 []) 0 b 0 q := by
  have h1 := one_crash h.one h.last
  rw [List.take_length] at h1
  exact ⟨h1, ⟨h1.dir, rfl⟩, h.file, h.ok⟩
end
end Go.Vc
namespace Go.Proofs.YtiadjkjlifnopaaGreatDoor.Tryz
open Go Go.Vc
def stM0 : StM := ⟨[], [], 1, 1⟩
/-- Create where there are no files. -/
theorem createNew_has {w0 w : World} {g : Nat} {p : FsP} (x : FsO w0 w g (newM 1048576) p) :
    Has Go.Proofs.Tryz.prog 19 #[ptrV g] w (fun v w' => ∃ gm p' s, v = .tuple #[.pointer (some ⟨gm, 0, none⟩), .int .i64 0] ∧ Chg (p.fp g) w w' ∧ ManO w0 w' gm g s p' stM0 false ∧ MSt s 5 (encE man0).1 0 p0 ∧ Grows w g p p') :=
  (createMan_has x (by decide) rfl mst_new.1).mono fun v w' ⟨gm, p', h1, h2, h3, h4, h5, h6, h7⟩ => ⟨gm, p', _, h1, h2, ⟨h3, ⟨_, _, h5, fun w1 _ => ⟨SliceK.nil _ _ _, SliceK.nil _ _ _, fun q hq => by cases hq⟩⟩, h6, by have := x.chg.size; omega⟩, mst_new.2, h4⟩
/-- Load of a manifest that stands alone. -/
theorem loadOk_has {w0 w : World} {g : Nat} {s : FsM} {p : FsP} {b : List UInt8} {q : PSt} (x : FsO w0 w g s p) (hread : readM s manNm = some b) (hf : FileOk b q) (hb : b.length ≤ 4194304) (hcalls : s.calls < 1000000000 - 10) :
    Has Go.Proofs.Tryz.prog 25 #[ptrV g] w (fun v w' => ∃ gm st, v = .tuple #[.pointer (some ⟨gm, 0, none⟩), .int .i64 0] ∧ w.heap.size ≤ gm ∧ st.plain = q ∧ Chg [] w w' ∧ ManO w0 w' gm g s p st false) :=
  (load_has x hread hb hcalls).mono fun v w' ⟨_, h2⟩ => by
    obtain ⟨h3, h4⟩ := hf.load
    exact ((h2 q h3).2.2) (by omega)
/-- Commit of an edit that applies, where the files take it. -/
theorem commitOk_has {w0 w : World} {gm g : Nat} {s : FsM} {p : FsP} {st : StM} {q' : PSt} (x : ManO w0 w gm g s p st false) (hok : POk st.plain) {e : EditM} {xa xd xp xr : Value} {X : List ParS} (hI : EdI e) (hr : Firm (gm :: p.fp g) w (fun w => ERd w ⟨e, xa, xd, xp, xr, X.map (·.1)⟩)) (hap : applyP st.plain e false = some q') (hz : (commitF s (encE e).1).2 = 0) (hcalls : s.calls < 1000000000 - 10) :
    Has Go.Proofs.Tryz.prog 21 #[.pointer (some ⟨gm, 0, none⟩), .agg #[.int .i64 e.next, .int .i64 e.seq, xa, xd, xp, xr]] w (fun v w' => v = .int .i64 0 ∧ Chg (gm :: p.fp g) w w' ∧ ∃ p' st', Grows w g p p' ∧ st'.plain = q' ∧ ManO w0 w' gm g (commitF s (encE e).1).1 p' st' false) := by
  have hX : X.map (·.1.p) = e.pars := by
    have := hr.now.parsE
    dsimp only at this
    rw [← this, List.map_map]; rfl
  obtain ⟨k1, k2, k3, k4⟩ := plain_keys hok
  have h1 := applyM_plain (st := st) (first := false) hX
  rw [hap] at h1
  cases ha : applyM st e X false with
  | none => rw [ha] at h1; cases h1
  | some st' =>
    rw [ha] at h1
    injection h1 with h1
    refine (commit_has x hI hr k1 k2 (by omega) (by omega) ha hcalls).mono fun v w' ⟨h2, h3, p', h4, h5⟩ => ?_
    rw [hz] at h2 h5
    exact ⟨h2, h3, p', st', h4, h1, h5⟩
/-- A row of a literal reads so, whatever else turns. -/
theorem row_firm {α : Type} {f : α → List Value} {k : Nat} (hk : ∀ x, (f x).length = k) {w : World} {S : List Nat} {gb : Nat} {t : TypeId} {L : List α} (hb : Blk w gb t (L.flatMap f)) (hl : L.length ≤ 1000000) (hS : gb ∉ S) : Firm S w (fun w => SliceK k (RdL f) w (.slice (some ⟨gb, 0, none⟩) L.length L.length) L) := fun w1 h1 => by
  have h2 := hb.keep h1 hS
  refine (Own.mk h2 (Nat.le_refl _) (by unfold maxLen; omega) (by rw [rk_len hk]) (by rw [List.take_of_length_le (by rw [rk_len hk]; exact Nat.le_refl _)])).readsK hk
end Go.Proofs.YtiadjkjlifnopaaGreatDoor.Tryz
/-! Manifests: begun. -/
set_option linter.unusedVariables false
namespace Go.Vc
open Go
def ed19 : EditM := { next := 5, seq := 0, adds := [⟨3, false, 0, 0, 0, 0⟩], dels := [], pars := [], drops := [] }
def p19 : PSt := ⟨[⟨3, false, 0, 0, 0, 0⟩], [], 5, 1⟩
theorem ed19_ok : EditOk ed19 := editB_ok.1 (by decide)
theorem ed19_sums : Sums ed19 := ⟨fun s hs => by simp [ed19] at hs; subst hs; decide, fun s hs => by simp [ed19] at hs⟩
theorem ed19_apply : applyP p0 ed19 false = some p19 := by rfl
theorem mst_19 {s : FsM} (h : MSt s 5 (encE man0).1 0 p0) : (commitF s (encE ed19).1).2 = 0 ∧ MSt (commitF s (encE ed19).1).1 7 ((encE man0).1 ++ (encE ed19).1) 0 p19 := by
  have h1 := encE_len (wholeP_ok p0_ok) (wholeP_sums p0_ok)
  have h2 := encE_len ed19_ok ed19_sums
  exact h.commit (edGood ed19_ok ed19_sums) ed19_apply (by rw [man0_whole]; omega)
end Go.Vc
namespace Go.Proofs.YtiadjkjlifnopaaGreatDoor.Tryz
open Go Go.Vc
theorem ed19_I : EdI ed19 := ⟨⟨by decide, by decide⟩, ⟨by decide, by decide⟩, fun s hs => by simp [ed19] at hs; subst hs; exact ⟨⟨by decide, by decide⟩, ⟨by decide, by decide⟩, ⟨by decide, by decide⟩, ⟨by decide, by decide⟩, by decide⟩, fun q hq => by simp [ed19] at hq⟩
set_option maxHeartbeats 2000000 in
theorem begun19_has (w : World) : Has Go.Proofs.Tryz.prog 17 #[] w (fun v w' => Chg [] w w' ∧ v = .bool true) := by
  refine enter Go.Proofs.Tryz.func17 rfl rfl (by decide) rfl (e := []) trivial ?_
  refine run ?_
  refine go T 7 rfl ?_
  refine o1 rfl ?_
  refine op_call rfl rfl rfl (newO_has 1048576 w) ?_
  rintro _ w1 ⟨g, p1, rfl, x1⟩
  unfold ptrV
  refine go T 6 rfl ?_
  refine o1 rfl ?_
  refine op_call rfl rfl rfl (createNew_has x1) ?_
  rintro _ w2 ⟨gm, p2, s2, rfl, hc2, x2, m2, hg2⟩
  refine go T 11 rfl ?_
  refine neF rfl rfl rfl rfl (by omega) ?_
  refine go T 12 rfl ?_
  refine o1 rfl (op_build T rfl rfl rfl rfl rfl rfl ?_)
  refine o1 rfl ?_
  refine op_buildSlice T rfl rfl rfl rfl rfl rfl rfl (fun gb w3 hs3 hc3 hg3 => ?_)
  have hg3 : Blk w3 gb 26 ([(⟨3, false, 0, 0, 0, 0⟩ : SegM)].flatMap segL) := hg3
  have x3 := x2.keep0 hc3
  have hgb : gb ∉ gm :: p2.fp g := fun h => by
    rcases List.mem_cons.1 h with h | h
    · have := x2.lt; omega
    · have := x2.fs.at_.lt gb h; omega
  have hr := row_firm segL_len hg3 (by decide) hgb
  obtain ⟨hz, m4⟩ := mst_19 m2
  refine o1 rfl (op_build T rfl rfl rfl rfl rfl rfl ?_)
  refine o1 rfl ?_
  refine op_call rfl rfl rfl (commitOk_has x3 (show POk stM0.plain from p0_ok) (e := ed19) (xa := .slice (some ⟨gb, 0, none⟩) 1 1) (xd := .slice none 0 0) (xp := .slice none 0 0) (xr := .slice none 0 0) (X := []) ed19_I (fun w1 h1 => ⟨hr w1 h1, SliceOf.nil _ _, SliceK.nil _ _ _, rfl, fun q hq => (by cases hq), SliceOf.nil _ _⟩) ed19_apply hz (by rw [m2.one.calls]; decide)) ?_
  rintro _ w4 ⟨rfl, hc4, p4, st4, hg4, hp4, x4⟩
  generalize (commitF s2 (encE ed19).1).1 = s4 at *
  refine go T 6 rfl ?_
  refine o1 rfl ?_
  refine op_call rfl rfl rfl (crashO_has x4.fs 0 (SliceOf.nil _ _) (by rw [m4.one.calls]; decide)) ?_
  rintro _ w5 ⟨x5f, hc5, gc, pc, rfl, y5⟩
  have x5 := x4.keep0 hc5
  have m5 := m4.crash
  have hb5 : ((encE man0).1 ++ (encE ed19).1).length ≤ 4194304 := by
    have h1 := encE_len (wholeP_ok p0_ok) (wholeP_sums p0_ok)
    have h2 := encE_len ed19_ok ed19_sums
    rw [List.length_append, man0_whole]; omega
  unfold ptrV
  refine o1 rfl ?_
  refine op_call rfl rfl rfl (loadOk_has y5 m5.one.read m5.file hb5 (by rw [m5.one.calls]; decide)) ?_
  rintro _ w6 ⟨gn, st6, rfl, hs6, hp6, hc6, z6⟩
  have x6 := x5.keep0 hc6
  refine go T 10 rfl ?_
  refine o1 rfl ?_
  refine op_call rfl rfl rfl (createThere_has x6.fs _ m4.one.read) ?_
  rintro _ w7 ⟨hc7, rfl⟩
  have z7 := z6.keep0 hc7
  refine go T 9 rfl ?_
  refine o1 rfl ?_
  refine op_call rfl rfl rfl (newO_has 100 w7) ?_
  rintro _ w8 ⟨g8, p8, rfl, x8⟩
  have z8 := z7.keep0 x8.chg
  unfold ptrV
  refine o1 rfl ?_
  refine op_call rfl rfl rfl (loadNone_has x8 rfl) ?_
  rintro _ w9 ⟨rfl, hc9⟩
  have z9 := z8.keep0 hc9
  obtain ⟨vs, vp, hm9, hst9⟩ := z9.rows
  have hsg : st6.segs = p19.segs := by rw [← hp6]; rfl
  have hnx : st6.next = 5 := by rw [show st6.next = st6.plain.next from rfl, hp6]; rfl
  refine go T 10 rfl ?_
  refine eqT rfl rfl rfl rfl (by omega) ?_
  refine go T 2 rfl ?_
  refine eqT rfl rfl rfl rfl (by omega) ?_
  refine go T 3 rfl ?_
  refine o1 rfl ?_
  refine op_call rfl rfl rfl (segsM_has hm9 st6.segs hst9.now.segs (by rw [hsg]; decide)) ?_
  rintro v10 w10 ⟨hc10, ho10, _⟩
  obtain ⟨A, c, rfl, _, _⟩ := ho10.form
  rw [show st6.segs.length = 1 from by rw [hsg]; rfl]
  have hm10 := Blk.keep0 hm9 hc10
  refine go T 1 rfl ?_
  refine eqT rfl rfl rfl rfl (by omega) ?_
  refine go T 3 rfl ?_
  refine o1 rfl ?_
  refine op_call rfl rfl rfl (nextM_has hm10) ?_
  rintro _ _ ⟨rfl, rfl⟩
  rw [hnx]
  refine eqT rfl rfl rfl rfl (by omega) ?_
  refine go T 3 rfl ?_
  refine eqT rfl rfl rfl rfl (by omega) ?_
  refine go T 3 rfl ?_
  refine eqT rfl rfl rfl rfl (by omega) ?_
  refine go T 5 rfl ?_
  exact post1 (.inl rfl) rfl rfl ⟨(((x6.fs.chg.trans' hc7).trans' x8.chg).trans' hc9).trans' hc10, rfl⟩
end Go.Proofs.YtiadjkjlifnopaaGreatDoor.Tryz
/-! Names of files: numbers below a hundred. -/
set_option linter.unusedVariables false
namespace Go.Vc
open Go
def dig2 (n : Nat) : List UInt8 := if n < 10 then [UInt8.ofNat (48 + n)] else [UInt8.ofNat (48 + n / 10), UInt8.ofNat (48 + n % 10)]
def decs : List UInt8 := [48, 48, 48, 49, 48, 50, 48, 51, 48, 52, 48, 53, 48, 54, 48, 55, 48, 56, 48, 57, 49, 48, 49, 49, 49, 50, 49, 51, 49, 52, 49, 53, 49, 54, 49, 55, 49, 56, 49, 57, 50, 48, 50, 49, 50, 50, 50, 51, 50, 52, 50, 53, 50, 54, 50, 55, 50, 56, 50, 57, 51, 48, 51, 49, 51, 50, 51, 51, 51, 52, 51, 53, 51, 54, 51, 55, 51, 56, 51, 57, 52, 48, 52, 49, 52, 50, 52, 51, 52, 52, 52, 53, 52, 54, 52, 55, 52, 56, 52, 57, 53, 48, 53, 49, 53, 50, 53, 51, 53, 52, 53, 53, 53, 54, 53, 55, 53, 56, 53, 57, 54, 48, 54, 49, 54, 50, 54, 51, 54, 52, 54, 53, 54, 54, 54, 55, 54, 56, 54, 57, 55, 48, 55, 49, 55, 50, 55, 51, 55, 52, 55, 53, 55, 54, 55, 55, 55, 56, 55, 57, 56, 48, 56, 49, 56, 50, 56, 51, 56, 52, 56, 53, 56, 54, 56, 55, 56, 56, 56, 57, 57, 48, 57, 49, 57, 50, 57, 51, 57, 52, 57, 53, 57, 54, 57, 55, 57, 56, 57, 57]
theorem decs_len : decs.length = 200 := by decide +kernel
theorem decs_at {n : Nat} (hn : n < 100) (h : ¬ n < 10) : (decs.take (2 * n + 2)).drop (2 * n) = dig2 n := by
  have key : ∀ a : Fin 100, ¬ a.val < 10 → (decs.take (2 * a.val + 2)).drop (2 * a.val) = dig2 a.val := by decide +kernel
  exact key ⟨n, hn⟩ h
def endRaw : List UInt8 := [46, 114, 97, 119]
def endSeg : List UInt8 := [46, 115, 101, 103]
def endPar : List UInt8 := [46, 112, 97, 114]
theorem dig2_len (n : Nat) : 1 ≤ (dig2 n).length ∧ (dig2 n).length ≤ 2 := by unfold dig2; split <;> simp
theorem dig2_inj {n m : Nat} (hn : n < 100) (hm : m < 100) (h : dig2 n = dig2 m) : n = m := by
  have key : ∀ a b : Fin 100, dig2 a = dig2 b → a = b := by decide +kernel
  have := key ⟨n, hn⟩ ⟨m, hm⟩ h
  injection this
end Go.Vc
namespace Go.Proofs.YtiadjkjlifnopaaGreatDoor.Tryz
open Go Go.Vc
theorem small2_has (n : Nat) (w : World) (hn : n < 100) : Has Go.Proofs.Tryz.prog 171 #[.int .i64 (n : Int)] w (fun v w' => w' = w ∧ v = .string (str (dig2 n))) := by
  by_cases h10 : n < 10
  · exact (small_has n w h10).mono fun v w' ⟨h1, h2⟩ => ⟨h1, by rw [h2]; unfold dig2; rw [if_pos h10]⟩
  refine enter Go.Proofs.Tryz.func171 rfl rfl (by decide) rfl (e := [(0, .int .i64 (n : Int))]) ⟨rfl, trivial⟩ ?_
  refine run ?_
  refine go T 9 rfl ?_
  refine ltF rfl rfl rfl rfl (by omega) ?_
  refine go T 8 rfl ?_
  refine o1 rfl (op_mul rfl rfl rfl (wrap_i64_in (by omega) (by omega)) ?_)
  refine go T 1 rfl ?_
  refine o1 rfl (op_mul rfl rfl rfl (wrap_i64_in (by omega) (by omega)) ?_)
  refine adI rfl rfl rfl rfl (by omega) (by omega) ?_
  refine o1 rfl ?_
  refine op_slice_str (s := decs) T (l := 2 * n) (h' := 2 * n + 2) rfl rfl rfl (some_int (by omega)) (some_int (by omega)) (by omega) (by rw [decs_len]; omega) ?_
  refine go T 4 rfl ?_
  refine post1 (.inl rfl) rfl rfl ⟨rfl, ?_⟩
  rw [decs_at hn h10]
theorem formatInt2_has' (n : Nat) (w : World) (hn : n < 100) : Has Go.Proofs.Tryz.prog 130 #[.int .i64 (n : Int), .int .i64 10] w (fun v w' => w' = w ∧ v = .string (str (dig2 n))) := by
  refine enter Go.Proofs.Tryz.func130 rfl rfl (by decide) rfl (e := [(0, .int .i64 (n : Int)), (1, .int .i64 10)]) ⟨rfl, rfl, trivial⟩ ?_
  refine run ?_
  refine go T 9 rfl ?_
  refine eqT rfl rfl rfl rfl (by omega) ?_
  refine go T 7 rfl ?_
  refine leT rfl rfl rfl rfl (by omega) ?_
  refine go T 2 rfl ?_
  refine ltT rfl rfl rfl rfl (by omega) ?_
  refine go T 7 rfl ?_
  refine o1 rfl ?_
  refine op_call rfl rfl rfl (small2_has n w hn) ?_
  rintro _ _ ⟨rfl, rfl⟩
  refine go T 6 rfl ?_
  exact post1 (.inl rfl) rfl rfl ⟨rfl, rfl⟩
theorem formatInt2_has (n : Nat) (w : World) (hn : n < 100) : Has Go.Proofs.Tryz.prog 84 #[.int .i64 (n : Int), .int .i64 10] w (fun v w' => w' = w ∧ v = .string (str (dig2 n))) := by
  refine enter Go.Proofs.Tryz.func84 rfl rfl (by decide) rfl (e := [(0, .int .i64 (n : Int)), (1, .int .i64 10)]) ⟨rfl, rfl, trivial⟩ ?_
  refine run ?_
  refine go T 9 rfl ?_
  refine o1 rfl ?_
  refine op_call rfl rfl rfl (formatInt2_has' n w hn) ?_
  rintro _ _ ⟨rfl, rfl⟩
  refine go T 4 rfl ?_
  exact post1 (.inl rfl) rfl rfl ⟨rfl, rfl⟩
theorem rawName2_has (n : Nat) (w : World) (hn : n < 100) : Has Go.Proofs.Tryz.prog 83 #[.int .i64 (n : Int)] w (fun v w' => w' = w ∧ v = .string (str (dig2 n ++ endRaw))) := by
  have hl := dig2_len n
  refine enter Go.Proofs.Tryz.func83 rfl rfl (by decide) rfl (e := [(0, .int .i64 (n : Int))]) ⟨rfl, trivial⟩ ?_
  refine run ?_
  refine go T 8 rfl ?_
  refine o1 rfl ?_
  refine op_call rfl rfl rfl (formatInt2_has n w hn) ?_
  rintro _ _ ⟨rfl, rfl⟩
  refine o1 rfl ?_
  refine op_str_add (a := dig2 n) (b := endRaw) rfl rfl rfl (by simp [endRaw]; omega) ?_
  refine go T 4 rfl ?_
  exact post1 (.inl rfl) rfl rfl ⟨rfl, rfl⟩
theorem segName2_has (n : Nat) (w : World) (hn : n < 100) : Has Go.Proofs.Tryz.prog 82 #[.int .i64 (n : Int)] w (fun v w' => w' = w ∧ v = .string (str (dig2 n ++ endSeg))) := by
  have hl := dig2_len n
  refine enter Go.Proofs.Tryz.func82 rfl rfl (by decide) rfl (e := [(0, .int .i64 (n : Int))]) ⟨rfl, trivial⟩ ?_
  refine run ?_
  refine go T 8 rfl ?_
  refine o1 rfl ?_
  refine op_call rfl rfl rfl (formatInt2_has n w hn) ?_
  rintro _ _ ⟨rfl, rfl⟩
  refine o1 rfl ?_
  refine op_str_add (a := dig2 n) (b := endSeg) rfl rfl rfl (by simp [endSeg]; omega) ?_
  refine go T 4 rfl ?_
  exact post1 (.inl rfl) rfl rfl ⟨rfl, rfl⟩
theorem parName2_has (n : Nat) (w : World) (hn : n < 100) : Has Go.Proofs.Tryz.prog 46 #[.int .i64 (n : Int)] w (fun v w' => w' = w ∧ v = .string (str (dig2 n ++ endPar))) := by
  have hl := dig2_len n
  refine enter Go.Proofs.Tryz.func46 rfl rfl (by decide) rfl (e := [(0, .int .i64 (n : Int))]) ⟨rfl, trivial⟩ ?_
  refine run ?_
  refine go T 8 rfl ?_
  refine o1 rfl ?_
  refine op_call rfl rfl rfl (formatInt2_has n w hn) ?_
  rintro _ _ ⟨rfl, rfl⟩
  refine o1 rfl ?_
  refine op_str_add (a := dig2 n) (b := endPar) rfl rfl rfl (by simp [endPar]; omega) ?_
  refine go T 4 rfl ?_
  exact post1 (.inl rfl) rfl rfl ⟨rfl, rfl⟩
end Go.Proofs.YtiadjkjlifnopaaGreatDoor.Tryz
/-! Strings: Index, Contains, DeleteFunc. -/
set_option linter.unusedVariables false
namespace Go.Vc
open Go
/-- A string as one cell. -/
def strL (x : Nm) : List Value := [.string (str x)]
theorem strL_len (x : Nm) : (strL x).length = 1 := rfl
theorem strL_flat : ∀ L : List Nm, L.flatMap strL = L.map fun x => .string (str x)
  | [] => rfl
  | x :: L => by rw [List.flatMap_cons, strL_flat L]; rfl
theorem str_reads {w : World} {t : TypeId} {v : Value} {L : List Nm} (h : Own w t 1 v L.length (L.flatMap strL)) : SliceOf RstrL w v L := by
  rw [strL_flat] at h
  refine h.reads rfl (fun i x u hx hu => ?_)
  rw [List.getElem?_map, hx] at hu
  injection hu with hu
  exact hu.symm
theorem idxM_pre {α : Type} {p : α → Bool} : ∀ (l : List α) (k : Nat), idxM p l = (k : Int) → ∀ x ∈ l.take k, p x = false
  | [], k, h, x, hx => by simp at hx
  | a :: l, k, h, x, hx => by
    unfold idxM at h
    split at h
    · obtain rfl : k = 0 := by omega
      simp at hx
    · rename_i h1
      split at h
      · omega
      · obtain ⟨k', rfl⟩ : ∃ k', k = k' + 1 := ⟨k - 1, by omega⟩
        rw [List.take_succ_cons] at hx
        rcases List.mem_cons.1 hx with rfl | hx
        · simpa using h1
        · exact idxM_pre l k' (by omega) x hx
theorem rk_take {α : Type} {f : α → List Value} {k : Nat} (hf : ∀ x, (f x).length = k) (R : List α) {i : Nat} (hi : i ≤ R.length) (ys : List Value) : (R.flatMap f ++ ys).take (i * k) = (R.take i).flatMap f := by
  have h1 : R.flatMap f ++ ys = (R.take i).flatMap f ++ ((R.drop i).flatMap f ++ ys) := by
    rw [← List.append_assoc, ← List.flatMap_append, List.take_append_drop]
  rw [h1]
  refine List.take_left' ?_
  rw [rk_len hf, List.length_take, Nat.min_eq_left hi]
theorem strL_set (R : List Nm) (rest : List Value) (i : Nat) (y : Nm) (hi : i < R.length) : (R.flatMap strL ++ rest).set i (.string (str y)) = (R.set i y).flatMap strL ++ rest := by
  rw [strL_flat, strL_flat, List.set_append_left _ _ (by rw [List.length_map]; exact hi), List.map_set]
end Go.Vc
namespace Go.Proofs.YtiadjkjlifnopaaGreatDoor.Tryz
open Go Go.Vc
set_option maxHeartbeats 1000000 in
theorem indexNm_has (A : Option Addr) (n c : Nat) (L : List Nm) (b : Nm) (w : World) (hs : SliceOf RstrL w (.slice A n c) L) :
    Has Go.Proofs.Tryz.prog 108 #[.slice A n c, .string (str b)] w (fun v w' => w' = w ∧ v = .int .i64 (idxM (fun x => decide (b = x)) L)) := by
  obtain ⟨rfl, hl1, hl2⟩ := hs.len
  unfold maxLen at hl2
  refine enter Go.Proofs.Tryz.func108 rfl rfl (by decide) rfl (e := [(0, .slice A L.length c), (1, .string (str b))]) ⟨rfl, rfl, trivial⟩ ?_
  refine run ?_
  refine go T 14 rfl ?_
  refine W_loop (σ := Nat) (fun i => [(0, .slice A L.length c), (1, .string (str b)), (7, .int .i64 L.length), (8, .int .i64 i)])
    (fun (i : Nat) w' => i ≤ L.length ∧ (∀ (j : Nat) y, j < i → L[j]? = some y → decide (b = y) = false) ∧ w' = w) (fun i => L.length - i) 0 ⟨rfl, rfl, rfl, rfl, trivial⟩ ⟨by omega, fun j y hj => by omega, rfl⟩ ?_
  rintro i w1 ⟨hi, hb, rfl⟩
  refine run ?_
  refine go T 2 rfl ?_
  refine ltS rfl rfl rfl rfl (fun hcmp => ?_) (fun hcmp => ?_)
  · have hlt : i < L.length := by omega
    have hx := List.getElem?_eq_getElem hlt
    obtain ⟨ad, u, rfl, hu, hur⟩ := hs.get hx
    generalize L[i] = y at *
    obtain rfl : u = .string (str y) := hur
    refine go T 19 rfl ?_
    refine o1 rfl (op_index_nat T rfl rfl rfl rfl rfl rfl (by omega) ?_)
    refine o1 rfl (op_load T rfl rfl rfl rfl (by assumption) ?_)
    refine o1 rfl ?_
    refine op_str_eql rfl rfl rfl (fun h => ?_) (fun h => ?_)
    · rw [idxM_stop (p := fun x => decide (b = x)) hx (decide_eq_true h) hb]
      refine go T 12 rfl ?_
      refine rndR ?_
      refine go T 2 rfl ?_
      exact post1 (.inl rfl) rfl rfl ⟨rfl, rfl⟩
    · refine go T 7 rfl ?_
      refine adI rfl rfl rfl rfl (by omega) (by omega) ?_
      refine go T 2 rfl ?_
      refine Round_n (i + 1) ⟨rfl, rfl, rfl, rfl, trivial⟩ ⟨by omega, fun j z hj hz => ?_, rfl⟩ (by omega)
      by_cases hji : j = i
      · subst hji; rw [hx] at hz; injection hz with hz; subst hz; exact decide_eq_false h
      · exact hb j z (by omega) hz
  · rw [idxM_none (p := fun x => decide (b = x)) (l := L) (fun x hx => by
      obtain ⟨j, hj⟩ := List.getElem?_of_mem hx
      have := (List.getElem?_eq_some_iff.1 hj).1
      exact hb j x (by omega) hj)]
    refine go T 6 rfl ?_
    refine rndX ?_
    refine go T 8 rfl ?_
    exact post1 (.inl rfl) rfl rfl ⟨rfl, rfl⟩
theorem hasNm_has (A : Option Addr) (n c : Nat) (L : List Nm) (b : Nm) (w : World) (hs : SliceOf RstrL w (.slice A n c) L) :
    Has Go.Proofs.Tryz.prog 62 #[.slice A n c, .string (str b)] w (fun v w' => w' = w ∧ v = .bool (L.any (fun x => decide (b = x)))) := by
  refine enter Go.Proofs.Tryz.func62 rfl rfl (by decide) rfl (e := [(0, .slice A n c), (1, .string (str b))]) ⟨rfl, rfl, trivial⟩ ?_
  refine run ?_
  refine go T 9 rfl ?_
  refine o1 rfl ?_
  refine op_call rfl rfl rfl (indexNm_has A n c L b w hs) ?_
  rintro _ w ⟨rfl, rfl⟩
  rw [any_idxM]
  by_cases h : 0 ≤ idxM (fun x => decide (b = x)) L
  · rw [decide_eq_true h]
    refine geT rfl rfl rfl rfl (by omega) ?_
    refine go T 4 rfl ?_
    exact post1 (.inl rfl) rfl rfl ⟨rfl, rfl⟩
  · rw [decide_eq_false h]
    refine geF rfl rfl rfl rfl (by omega) ?_
    refine go T 4 rfl ?_
    exact post1 (.inl rfl) rfl rfl ⟨rfl, rfl⟩
set_option maxHeartbeats 4000000 in
theorem deleteNm_has (v : Value) (L : List Nm) (fn : Nat) (cv : Array Value) (p : Nm → Bool) (w : World) (hown : Own w 9 1 v L.length (L.flatMap strL)) (hlim : L.length ≤ 1000000)
    (hf : ∀ w1 x, Chg v.ownBlock.toList w w1 → Has Go.Proofs.Tryz.prog fn (#[] ++ #[.string (str x)] ++ cv) w1 (fun u w' => Chg [] w1 w' ∧ u = .bool (p x))) :
    Has Go.Proofs.Tryz.prog 59 #[v, .func (.func fn) #[] cv] w (fun u w' => Chg v.ownBlock.toList w w' ∧ u.ownBlock = v.ownBlock ∧ Own w' 9 1 u (L.filter (fun x => !p x)).length ((L.filter (fun x => !p x)).flatMap strL)) := by
  obtain ⟨A, c, rfl, hl1, hl2⟩ := hown.form
  unfold maxLen at hl2
  refine enter Go.Proofs.Tryz.func59 rfl rfl (by decide) rfl (e := [(0, .slice A L.length c), (1, .func (.func fn) #[] cv)]) ⟨rfl, rfl, trivial⟩ ?_
  refine run ?_
  refine go T 9 rfl ?_
  refine o1 rfl ?_
  refine op_call rfl rfl rfl (indexStr_has A _ c L fn cv p (str_reads hown) (fun w1 x hc _ => hf w1 x (hc.mono (fun k hk _ => by cases hk)))) ?_
  rintro _ w1 ⟨hc1, rfl⟩
  by_cases hneg : idxM p L < 0
  · have h1 : idxM p L = -1 := by have := idxM_lt p L; omega
    have h2 : L.filter (fun x => !p x) = L := List.filter_eq_self.2 (fun x hx => by rw [idxM_neg hneg x hx]; rfl)
    rw [h1, h2]
    refine go T 7 rfl ?_
    refine eqT rfl rfl rfl rfl (by omega) ?_
    refine go T 11 rfl ?_
    exact post1 (.inl rfl) rfl rfl ⟨hc1.mono (fun k hk _ => by cases hk), rfl, hown.keep0 hc1⟩
  obtain ⟨k, hk⟩ := Int.eq_ofNat_of_zero_le (show 0 ≤ idxM p L by omega)
  obtain ⟨x0, hx0, hpx0⟩ := idxM_at hneg
  rw [hk, Int.toNat_natCast] at hx0
  have hkl : k < L.length := (List.getElem?_eq_some_iff.1 hx0).1
  obtain ⟨g, rfl⟩ := hown.addr (by omega)
  obtain ⟨rest, hrow, hrl⟩ := hown.rowB
  have hpre : (L.take k).filter (fun x => !p x) = L.take k := by
    exact List.filter_eq_self.2 (fun x hx => by rw [idxM_pre L k hk x hx]; rfl)
  rw [hk]
  replace hrow := hrow.keep0 hc1
  refine go T 7 rfl ?_
  refine eqF rfl rfl rfl rfl (by omega) ?_
  refine go T 9 rfl ?_
  refine adI rfl rfl rfl rfl (by omega) (by omega) ?_
  refine go T 4 rfl ?_
  refine W_loop (σ := Nat × Nat × List Nm) (fun s => [(0, .slice (some ⟨g, 0, none⟩) L.length c), (1, .func (.func fn) #[] cv), (5, .int .i64 s.2.1), (6, .int .i64 s.1)])
    (fun s w' => s.1 ≤ L.length ∧ s.2.1 < s.1 ∧ s.2.2.length = L.length ∧ s.2.2.take s.2.1 = (L.take s.1).filter (fun x => !p x) ∧ s.2.2.drop s.1 = L.drop s.1 ∧ Chg [g] w w' ∧ RowB w' g 9 strL s.2.2 rest)
    (fun s => L.length - s.1) (k + 1, k, L) ⟨rfl, rfl, rfl, rfl, trivial⟩ ⟨by dsimp only; omega, by dsimp only; omega, rfl, ?_, rfl, hc1.mono (fun k hk _ => by cases hk), hrow⟩ ?_
  · dsimp only
    rw [List.take_add_one, List.filter_append, hpre, hx0]
    simp [hpx0]
  clear hrow
  rintro ⟨j, i, R⟩ w2 ⟨hj, hij, hRl, hRt, hRd, hc, hrow⟩
  dsimp only at hj hij hRl hRt hRd hrow ⊢
  refine run ?_
  refine go T 6 rfl ?_
  refine ltS rfl rfl rfl rfl (fun hcmp => ?_) (fun hcmp => ?_)
  · have hlt : j < L.length := by omega
    have hx := List.getElem?_eq_getElem hlt
    have hxR : R[j]? = some L[j] := by
      have := congrArg (fun l => l[0]?) hRd
      simp only [List.getElem?_drop, Nat.add_zero] at this
      rw [this, hx]
    have htk : (L.take (j + 1)).filter (fun x => !p x) = (L.take j).filter (fun x => !p x) ++ [L[j]].filter (fun x => !p x) := by rw [List.take_add_one, hx, List.filter_append]; rfl
    have hdr : R.drop (j + 1) = L.drop (j + 1) := by
      have := congrArg (List.drop 1) hRd
      rw [List.drop_drop, List.drop_drop] at this
      exact this
    generalize L[j] = y at *
    have hcell : w2.cell? ⟨g, j, none⟩ = some (.string (str y)) := by
      refine Blk.cell hrow ?_
      rw [strL_flat, List.getElem?_append_left (by rw [List.length_map]; omega), List.getElem?_map, hxR]; rfl
    refine go T 11 rfl ?_
    refine o1 rfl (op_index_own T rfl rfl rfl rfl rfl rfl (by omega) ?_)
    refine o1 rfl (op_load T rfl rfl rfl rfl (by assumption) ?_)
    refine go T 7 rfl ?_
    refine o1 rfl ?_
    refine op_callf rfl rfl rfl (hf w2 y hc) ?_
    rintro _ w5 ⟨hc5, rfl⟩
    have hrow5 := hrow.keep0 hc5
    have hc05 := hc.trans' hc5
    cases hp : p y with
    | true =>
      refine go T 9 rfl ?_
      refine adI rfl rfl rfl rfl (by omega) (by omega) ?_
      refine go T 2 rfl ?_
      exact Round_n (j + 1, i, R) ⟨rfl, rfl, rfl, rfl, trivial⟩ ⟨by dsimp only; omega, by dsimp only; omega, hRl, by rw [htk, ← hRt]; simp [hp], hdr, hc05, hrow5⟩ (by dsimp only; omega)
    | false =>
      unfold RowB at hrow5
      refine go T 9 rfl ?_
      refine o1 rfl (op_index_own T rfl rfl rfl rfl rfl rfl (by omega) ?_)
      refine op0 rfl rfl ?_
      refine op_store T rfl rfl rfl rfl rfl rfl hrow5 (by rw [List.length_append, rk_len strL_len]; omega) (fun w6 hc6 hr6 _ => ?_)
      rw [strL_set R rest i y (by omega)] at hr6
      refine go T 4 rfl ?_
      refine adI rfl rfl rfl rfl (by omega) (by omega) ?_
      refine go T 6 rfl ?_
      refine adI rfl rfl rfl rfl (by omega) (by omega) ?_
      refine go T 2 rfl ?_
      refine Round_n (j + 1, i + 1, R.set i y) ⟨rfl, rfl, rfl, rfl, trivial⟩ ⟨by dsimp only; omega, by dsimp only; omega, by dsimp only; rw [List.length_set]; exact hRl, ?_, ?_, hc05.trans hc6 (fun k hk _ => hk), hr6⟩ (by dsimp only; omega)
      · dsimp only
        rw [htk, ← hRt, List.take_add_one, List.take_set, List.set_eq_of_length_le (by rw [List.length_take]; omega), List.getElem?_set_self (by omega)]
        simp [hp]
      · dsimp only
        rw [List.drop_set_of_lt (by omega)]
        exact hdr
  obtain rfl : j = L.length := by omega
  rw [List.take_length] at hRt
  have hil : i = (L.filter (fun x => !p x)).length := by rw [← hRt, List.length_take]; omega
  have hcut : R.take i = L.filter (fun x => !p x) := hRt
  have hRll : (R.flatMap strL ++ rest).length = c * 1 := by
    rw [List.length_append, rk_len strL_len, hRl, ← hrl, List.length_append, rk_len strL_len]
  refine go T 5 rfl ?_
  refine rndX ?_
  refine go T 6 rfl ?_
  refine o1 rfl ?_
  refine op_slice (l := i) (h' := L.length) T rfl rfl rfl rfl ⟨_, rfl⟩ rfl (by omega) (by omega) ?_
  rw [if_neg (show ¬ c = i by omega)]
  refine op0 rfl rfl ?_
  refine op_clear (g := g) (off := i * 1) (tb := 9) (cs := R.flatMap strL ++ rest) T rfl rfl rfl rfl rfl rfl rfl (.inr ?_) hrow (by rw [hRll]; show i * 1 + (L.length - i) * 1 ≤ c * 1; omega) (fun w3 rest' hc3 hb3 hl3 => ?_)
  · show some ((⟨g, 0, none⟩ : Addr).add (i * 1)) = _
    rw [add_plain]
  refine go T 6 rfl ?_
  refine o1 rfl ?_
  refine op_slice (l := 0) (h' := i) T rfl rfl rfl rfl rfl ⟨_, rfl⟩ (by omega) (by omega) ?_
  rw [if_neg (show ¬ c = 0 by omega)]
  have e1 : (⟨g, 0, none⟩ : Addr).add (0 * 1) = ⟨g, 0, none⟩ := by rw [Nat.zero_mul]; exact add_plain g 0
  refine go T 4 rfl ?_
  refine post1 (.inl rfl) rfl rfl ⟨hc.trans hc3 (fun k hk _ => hk), ?_, ?_⟩
  · show (Value.slice (some ((⟨g, 0, none⟩ : Addr).add (0 * 1))) (i - 0) (c - 0)).ownBlock = _
    rw [e1]; rfl
  · show Own w3 9 1 (Value.slice (some ((⟨g, 0, none⟩ : Addr).add (0 * 1))) i c) _ _
    rw [e1, ← hil]
    refine Own.mk hb3 (by omega) (by unfold maxLen; omega) (by rw [hl3, hRll]) ?_
    have h9 : ((R.flatMap strL ++ rest).take (i * 1)).length = i * 1 := by rw [List.length_take, hRll]; omega
    rw [List.take_left' h9, rk_take strL_len R (by omega), hcut]
end Go.Proofs.YtiadjkjlifnopaaGreatDoor.Tryz
/-! Manifests: File, Old. -/
set_option linter.unusedVariables false
namespace Go.Vc
open Go
def fileNm (s : SegM) : Nm := dig2 s.num.toNat ++ (if s.sealed = true then endSeg else endRaw)
def parNm (q : ParM) : Nm := dig2 q.group.toNat ++ endPar
def neededM (S : List SegM) (Q : List ParM) : List Nm := [[77, 65, 78, 73, 70, 69, 83, 84]] ++ S.map fileNm ++ Q.map parNm
def oldM (d : Dir) (S : List SegM) (Q : List ParM) : List Nm := (d.map (·.1)).filter fun n => !(neededM S Q).any fun x => decide (n = x)
theorem strL_one (x : Nm) : ∀ u ∈ strL x, u.oneCell' = true := fun u hu => by
  rw [show u = _ from List.mem_singleton.1 hu]; rfl
end Go.Vc
namespace Go.Proofs.YtiadjkjlifnopaaGreatDoor.Tryz
open Go Go.Vc
theorem file_has (s : SegM) (w : World) (h0 : 0 ≤ s.num) (h1 : s.num < 100) : Has Go.Proofs.Tryz.prog 45 #[.agg (segL s).toArray] w (fun v w' => Chg [] w w' ∧ v = .string (str (fileNm s))) := by
  obtain ⟨num, sl, gr, me, sz, su⟩ := s
  dsimp only at h0 h1
  obtain ⟨n, rfl⟩ := Int.eq_ofNat_of_zero_le h0
  refine enter Go.Proofs.Tryz.func45 rfl rfl (by decide) rfl (e := [(0, .agg #[.int .i64 (n : Int), .bool sl, .int .i64 gr, .int .i64 me, .int .i64 sz, .int .u32 (su : Int)])]) ⟨rfl, trivial⟩ ?_
  refine run ?_
  refine go T 2 rfl ?_
  refine o1 rfl ?_
  refine op_box rfl rfl (fun g1 w1 hs1 hc1 hg1 => ?_)
  have hg1 : Blk w1 g1 26 [.int .i64 (n : Int), .bool sl, .int .i64 gr, .int .i64 me, .int .i64 sz, .int .u32 (su : Int)] := hg1
  unfold fileNm
  dsimp only
  rw [Int.toNat_natCast]
  cases sl with
  | true =>
    refine go T 7 rfl ?_
    refine ldB T hg1 rfl rfl rfl rfl rfl rfl ?_
    refine go T 6 rfl ?_
    refine ldB T hg1 rfl rfl rfl rfl rfl rfl ?_
    refine o1 rfl ?_
    refine op_call rfl rfl rfl (segName2_has n w1 (by omega)) ?_
    rintro _ _ ⟨rfl, rfl⟩
    refine go T 5 rfl ?_
    exact post1 (.inl rfl) rfl rfl ⟨hc1, rfl⟩
  | false =>
    refine go T 7 rfl ?_
    refine ldB T hg1 rfl rfl rfl rfl rfl rfl ?_
    refine go T 8 rfl ?_
    refine ldB T hg1 rfl rfl rfl rfl rfl rfl ?_
    refine o1 rfl ?_
    refine op_call rfl rfl rfl (rawName2_has n w1 (by omega)) ?_
    rintro _ _ ⟨rfl, rfl⟩
    refine go T 4 rfl ?_
    exact post1 (.inl rfl) rfl rfl ⟨hc1, rfl⟩
theorem oldC_has {w : World} {g3 : Nat} {A : Option Addr} {n c : Nat} {L : List Nm} (hg : Blk w g3 50 [.slice A n c]) (hs : SliceOf RstrL w (.slice A n c) L) (b : Nm) :
    Has Go.Proofs.Tryz.prog 61 #[.string (str b), .pointer (some ⟨g3, 0, none⟩)] w (fun v w' => Chg [] w w' ∧ v = .bool (L.any fun x => decide (b = x))) := by
  refine enter Go.Proofs.Tryz.func61 rfl rfl (by decide) rfl (e := [(0, .string (str b)), (1, .pointer (some ⟨g3, 0, none⟩))]) ⟨rfl, rfl, trivial⟩ ?_
  refine run ?_
  refine go T 7 rfl ?_
  refine ldB T hg rfl rfl rfl rfl rfl rfl ?_
  refine go T 1 rfl ?_
  refine o1 rfl ?_
  refine op_call rfl rfl rfl (hasNm_has A n c L b w hs) ?_
  rintro _ _ ⟨rfl, rfl⟩
  refine go T 4 rfl ?_
  exact post1 (.inl rfl) rfl rfl ⟨Chg.refl _ _, rfl⟩
set_option maxHeartbeats 8000000 in
theorem old_has {w : World} {gm g : Nat} {s : FsM} {p : FsP} {vs vp : Value} {nx sq : Int} {cl : Bool} {S : List SegM} {Qs : List ParS} (x : FsAt w g s p) (hm : ManB w gm g vs vp nx sq cl) (hS : SliceK 6 (RdL segL) w vs S) (hQ : SliceK 5 (RdL parSL) w vp Qs)
    (hnS : ∀ y ∈ S, 0 ≤ y.num ∧ y.num < 100) (hnQ : ∀ q ∈ Qs, 0 ≤ q.1.p.group ∧ q.1.p.group < 100) (hlS : S.length ≤ 1000) (hlQ : Qs.length ≤ 1000) :
    Has Go.Proofs.Tryz.prog 22 #[.pointer (some ⟨gm, 0, none⟩)] w (fun v w' => Chg [] w w' ∧ Own w' 9 1 v (oldM s.dir S (Qs.map (·.1.p))).length ((oldM s.dir S (Qs.map (·.1.p))).flatMap strL) ∧ ∀ h, v.ownBlock = some h → w.heap.size ≤ h) := by
  obtain ⟨As, cs, rfl, _, _⟩ := hS.form
  obtain ⟨Aq, cq, rfl, _, _⟩ := hQ.form
  refine enter Go.Proofs.Tryz.func22 rfl rfl (by decide) rfl (e := [(0, .pointer (some ⟨gm, 0, none⟩))]) ⟨rfl, trivial⟩ ?_
  unfold ManB at hm
  have hm0 := hm
  have hgl := hm.lt
  refine run ?_
  refine go T 17 rfl ?_
  refine o1 rfl ?_
  refine op_buildSlice T rfl rfl rfl rfl rfl rfl rfl (fun gb w1 hs1 hc1 hg1 => ?_)
  have hg1 : Blk w1 gb 9 (strL [77, 65, 78, 73, 70, 69, 83, 84]) := hg1
  have hs1 : w.heap.size ≤ gb := hs1
  refine o1 rfl ?_
  refine op_alloc T rfl rfl (fun g3 w2 hs2 hc2 hg3 => ?_)
  have hs2 : w1.heap.size ≤ g3 := hs2
  have hgb := hg1.lt
  replace hg1 := hg1.keep0 hc2
  have ho1 : Own w2 9 1 (.slice (some ⟨gb, 0, none⟩) 1 1) ([[77, 65, 78, 73, 70, 69, 83, 84]] : List Nm).length (([[77, 65, 78, 73, 70, 69, 83, 84]] : List Nm).flatMap strL) := Own.mk hg1 (Nat.le_refl _) (by decide) rfl rfl
  refine op0 rfl rfl ?_
  refine op_store T rfl rfl rfl rfl rfl rfl hg3 (by simp; decide) (fun w3 hc3 hg3n _ => ?_)
  replace hg3 : Blk w3 g3 50 [.slice (some ⟨gb, 0, none⟩) 1 1] := hg3n
  clear hg3n
  replace ho1 := ho1.keep hc3 (fun k hk hm' => by simp [Value.ownBlock] at hk hm'; omega)
  have hc03 : Chg [] w w3 := (hc1.trans' hc2).trans hc3 (fun k hk hlt => by simp at hk; have := hc1.size; omega)
  have hz1 := hc1.size
  replace hm := hm.keep0 hc03
  have hz3 := hc03.size
  have hw3 : w.heap.size ≤ g3 := by omega
  clear hg1 hc1 hc2 hc3
  refine go T 9 rfl ?_
  refine ldB T hm rfl rfl rfl rfl rfl rfl ?_
  refine go T 5 rfl ?_
  refine W_loop (σ := Nat × Value) (fun t => [(0, .pointer (some ⟨gm, 0, none⟩)), (3, .pointer (some ⟨g3, 0, none⟩)), (15, .slice As S.length cs), (16, .int .i64 S.length), (17, .int .i64 t.1)])
    (fun t w' => t.1 ≤ S.length ∧ Chg [] w w' ∧ Blk w' g3 50 [t.2] ∧ Own w' 9 1 t.2 (neededM (S.take t.1) []).length ((neededM (S.take t.1) []).flatMap strL) ∧ ∀ h, t.2.ownBlock = some h → w.heap.size ≤ h)
    (fun t => S.length - t.1) (0, .slice (some ⟨gb, 0, none⟩) 1 1) ⟨rfl, rfl, rfl, rfl, rfl, trivial⟩ ⟨Nat.zero_le _, hc03, hg3, ho1, fun k hk => by simp [Value.ownBlock] at hk; omega⟩ ?_
  clear hg3 ho1 hm hc03
  rintro ⟨i, u⟩ w4 ⟨hi, hc04, hg3, ho, hf⟩
  dsimp only at hi hg3 ho hf ⊢
  refine run ?_
  refine go T 2 rfl ?_
  refine ltS rfl rfl rfl rfl (fun hcmp => ?_) (fun hcmp => ?_)
  · have hlt : i < S.length := by omega
    have hx := List.getElem?_eq_getElem hlt
    obtain ⟨hn0, hn1⟩ := hnS _ (List.getElem_mem hlt)
    obtain ⟨ad, rfl, he⟩ := (hS.keepR hc04).at hx
    have hnx : neededM (S.take (i + 1)) [] = neededM (S.take i) [] ++ [fileNm S[i]] := by
      unfold neededM; rw [List.take_add_one, hx]; simp only [Option.toList, List.map_append, List.map_cons, List.map_nil, List.append_assoc, List.append_nil]
    have hnl : (neededM (S.take i) []).length ≤ 1001 := by unfold neededM; simp; omega
    generalize S[i] = y at *
    refine go T 10 rfl ?_
    refine o1 rfl (op_indexK T rfl rfl rfl rfl rfl (by omega) ?_)
    refine o1 rfl (op_loadE T he rfl rfl rfl rfl rfl ?_)
    refine o1 rfl ?_
    refine op_alloc T rfl rfl (fun g5 w5 hs5 hc5 hg5 => ?_)
    have hg5 : Blk w5 g5 26 [.int .i64 0, .bool false, .int .i64 0, .int .i64 0, .int .i64 0, .int .u32 0] := hg5
    have hs5 : w4.heap.size ≤ g5 := hs5
    refine op0 rfl rfl ?_
    refine op_store_agg T rfl rfl rfl rfl rfl rfl hg5 (by exact Nat.le_of_ble_eq_true rfl) (fun w6 hc6 hg5n _ => ?_)
    replace hg5 : Blk w6 g5 26 (segL y) := hg5n
    have hc46 : Chg [] w4 w6 := hc5.trans hc6 (fun k hk hlt => by simp at hk; omega)
    have hg3l := hg3.lt
    clear hg5n he
    replace hg3 := hg3.keep0 hc46
    replace ho := ho.keep0 hc46
    have hc06 := hc04.trans' hc46
    have hz6 := hc06.size
    have h3u : g3 ∉ u.ownBlock.toList := out_of hg3 ho (by decide)
    have h5u : g5 ∉ u.ownBlock.toList := out_of hg5 ho (by decide)
    refine go T 2 rfl ?_
    refine Q.W_walkq 5 4 u.ownBlock.toList fol (by kernel_rfl) (by kernel_rfl) ?_
    refine Q.Walk.plain (v := u) rfl rfl (by intro val w_ hR hp; exact op_load T rfl rfl rfl rfl ((hg3.keep hR h3u).cell rfl) ⟨Chg.refl _ _, rfl⟩) ?_; dsimp only [List.nil_append, List.cons_append]
    refine Q.Walk.plain (v := .agg (segL y).toArray) rfl rfl (by intro val w_ hR hp; exact op_load_agg T rfl rfl rfl rfl (hg5.keep hR h5u) (by exact Nat.le_of_ble_eq_true rfl) (by exact rfl) ⟨Chg.refl _ _, rfl⟩) ?_; dsimp only [List.nil_append, List.cons_append]
    refine Q.Walk.plain (v := .string (str (fileNm y))) rfl rfl (by intro val w_ hR hp; exact op_call rfl rfl rfl (file_has y w_ hn0 hn1) (fun v w' h => h)) ?_; dsimp only [List.nil_append, List.cons_append]
    refine Q.Walk.rel rfl (fun v w' => ∃ g7, v = .slice (some ⟨g7, 0, none⟩) 1 1 ∧ Blk w' g7 9 (strL (fileNm y)) ∧ w6.heap.size ≤ g7) rfl (fun v a b ⟨g7, h1, h2, h3⟩ hab => ⟨g7, h1, h2.keep hab (fun hm => by have := ho.lt (show u.ownBlock = some g7 by simpa using hm); omega), h3⟩) ?_ ?_
    · intro val w_ hR hp
      exact op_buildSlice T rfl rfl rfl rfl rfl rfl rfl (fun g7 w7 hs7 hc7 hg7 => ⟨hc7, g7, rfl, hg7, by have := hR.size; omega⟩)
    dsimp only [List.nil_append, List.cons_append]
    refine Q.Walk.turn rfl (fun v w' => Own w' 9 1 v (neededM (S.take i) [] ++ [fileNm y]).length ((neededM (S.take i) [] ++ [fileNm y]).flatMap strL) ∧ (v.ownBlock = u.ownBlock ∨ ∃ h, v.ownBlock = some h ∧ w6.heap.size ≤ h)) rfl (fun v a b h hab => ⟨h.1.keep0 hab, h.2⟩) ?_ ?_
    · intro val w_ hR hp
      obtain ⟨g7, he7, hg7, hs7⟩ : ∃ g7, val 3 = .slice (some ⟨g7, 0, none⟩) 1 1 ∧ Blk w_ g7 9 (strL (fileNm y)) ∧ w6.heap.size ≤ g7 := hp 3 rfl _ _ rfl rfl
      exact op_appendK T strL_len rfl rfl rfl (congrArg some he7) rfl rfl rfl rfl rfl rfl (ho.keep0 hR) hg7 (strL_one _) (by omega) (fun v w8 hu8 hc8 hb8 => ⟨hc8, hu8, hb8.imp id (fun ⟨h, h1, h2⟩ => ⟨h, h1, by have := hR.size; omega⟩)⟩)
    dsimp only [List.nil_append, List.cons_append]
    refine Q.Walk.fin ?_
    intro val w8 hc8 hp
    obtain ⟨ho8, hb8⟩ : Own w8 9 1 (val 4) (neededM (S.take i) [] ++ [fileNm y]).length ((neededM (S.take i) [] ++ [fileNm y]).flatMap strL) ∧ ((val 4).ownBlock = u.ownBlock ∨ ∃ h, (val 4).ownBlock = some h ∧ w6.heap.size ≤ h) := hp 4 (by omega) _ _ rfl rfl
    clear hp
    refine WL_sub (e' := [(0, .pointer (some ⟨gm, 0, none⟩)), (3, .pointer (some ⟨g3, 0, none⟩)), (15, .slice (some ad) S.length cs), (16, .int .i64 S.length), (17, .int .i64 i), (25, val 4)]) ⟨rfl, rfl, rfl, rfl, rfl, rfl, trivial⟩ ?_
    generalize val 4 = u8 at ho8 hb8
    replace hg3 := hg3.keep hc8 h3u
    have hf8 : ∀ h, u8.ownBlock = some h → w.heap.size ≤ h := fun h hh => by
      rcases hb8 with h1 | ⟨h2, h3, h4⟩
      · exact hf h (by rw [← h1]; exact hh)
      · rw [h3] at hh; injection hh with hh; omega
    have h3u8 : g3 ∉ u8.ownBlock.toList := out_of hg3 ho8 (by decide)
    obtain ⟨A8, c8, rfl, _, _⟩ := ho8.form
    have hc08 : Chg [] w w8 := hc06.trans hc8 (fun k hk hlt => by have := hf k (by simpa using hk); omega)
    refine runL ?_
    refine op0 rfl rfl ?_
    refine op_store T rfl rfl rfl rfl rfl rfl hg3 (by simp) (fun w9 hc9 hg9 _ => ?_)
    refine go T 4 rfl ?_
    refine adI rfl rfl rfl rfl (by omega) (by omega) ?_
    refine go T 2 rfl ?_
    refine Round_n (i + 1, _) ⟨rfl, rfl, rfl, rfl, rfl, trivial⟩ ⟨by dsimp only; omega, hc08.trans hc9 (fun k hk hlt => by simp at hk; omega), hg9, ?_, hf8⟩ (by dsimp only; omega)
    dsimp only
    rw [hnx]
    exact ho8.keep hc9 (fun k hk hm' => by simp at hm'; subst hm'; exact h3u8 (by simpa using hk))
  obtain rfl : i = S.length := by omega
  rw [List.take_length] at ho
  have hm4 := hm0.keep0 hc04
  refine go T 6 rfl ?_
  refine rndX ?_
  refine go T 9 rfl ?_
  refine ldB T hm4 rfl rfl rfl rfl rfl rfl ?_
  refine go T 5 rfl ?_
  refine W_loop (σ := Nat × Value) (fun t => [(0, .pointer (some ⟨gm, 0, none⟩)), (3, .pointer (some ⟨g3, 0, none⟩)), (31, .slice Aq Qs.length cq), (32, .int .i64 Qs.length), (33, .int .i64 t.1)])
    (fun t w' => t.1 ≤ Qs.length ∧ Chg [] w w' ∧ Blk w' g3 50 [t.2] ∧ Own w' 9 1 t.2 (neededM S ((Qs.take t.1).map (·.1.p))).length ((neededM S ((Qs.take t.1).map (·.1.p))).flatMap strL) ∧ ∀ h, t.2.ownBlock = some h → w.heap.size ≤ h)
    (fun t => Qs.length - t.1) (0, u) ⟨rfl, rfl, rfl, rfl, rfl, trivial⟩ ⟨Nat.zero_le _, hc04, hg3, ho, hf⟩ ?_
  clear hg3 ho hc04 hm4 hf u w4
  rintro ⟨i, u⟩ w4 ⟨hi, hc04, hg3, ho, hf⟩
  dsimp only at hi hg3 ho hf ⊢
  refine run ?_
  refine go T 2 rfl ?_
  refine ltS rfl rfl rfl rfl (fun hcmp => ?_) (fun hcmp => ?_)
  · have hlt : i < Qs.length := by omega
    have hx := List.getElem?_eq_getElem hlt
    obtain ⟨hn0, hn1⟩ := hnQ _ (List.getElem_mem hlt)
    obtain ⟨ad, rfl, he⟩ := (hQ.keepR hc04).at hx
    have hnx : neededM S ((Qs.take (i + 1)).map (·.1.p)) = neededM S ((Qs.take i).map (·.1.p)) ++ [parNm Qs[i].1.p] := by
      unfold neededM; rw [List.take_add_one, hx]; simp only [Option.toList, List.map_append, List.map_cons, List.map_nil, List.append_assoc]
    have hnl : (neededM S ((Qs.take i).map (·.1.p))).length ≤ 2001 := by unfold neededM; simp; omega
    generalize Qs[i] = y at *
    have hone : ((parSL y).toArray.toList.all (·.oneCell')) = true := parS_all y
    refine go T 10 rfl ?_
    refine o1 rfl (op_indexK T rfl rfl rfl rfl rfl (by omega) ?_)
    refine o1 rfl (op_loadE T he rfl rfl rfl rfl rfl ?_)
    refine o1 rfl ?_
    refine op_alloc T rfl rfl (fun g5 w5 hs5 hc5 hg5 => ?_)
    have hg5 : Blk w5 g5 70 [.int .i64 0, .slice none 0 0, .slice none 0 0, .int .i64 0, .int .u32 0] := hg5
    have hs5 : w4.heap.size ≤ g5 := hs5
    refine op0 rfl rfl ?_
    refine op_store_agg T rfl rfl rfl rfl rfl hone hg5 (by exact Nat.le_of_ble_eq_true rfl) (fun w6 hc6 hg5n _ => ?_)
    replace hg5 : Blk w6 g5 70 [.int .i64 y.1.p.group, y.1.vn, y.1.vs, .int .i64 y.1.p.size, .int .u32 (y.1.p.sum : Int)] := hg5n
    have hc46 : Chg [] w4 w6 := hc5.trans hc6 (fun k hk hlt => by simp at hk; omega)
    have hg3l := hg3.lt
    clear hg5n he
    replace hg3 := hg3.keep0 hc46
    replace ho := ho.keep0 hc46
    have hc06 := hc04.trans' hc46
    have hz6 := hc06.size
    have h3u : g3 ∉ u.ownBlock.toList := out_of hg3 ho (by decide)
    have h5u : g5 ∉ u.ownBlock.toList := out_of hg5 ho (by decide)
    obtain ⟨k, hk⟩ := Int.eq_ofNat_of_zero_le hn0
    have hpn : parNm y.1.p = dig2 k ++ endPar := by unfold parNm; rw [hk, Int.toNat_natCast]
    rw [hk] at hg5 hn1
    rw [hpn] at hnx
    refine go T 2 rfl ?_
    refine Q.W_walkq 6 5 u.ownBlock.toList fol (by kernel_rfl) (by kernel_rfl) ?_
    refine Q.Walk.plain (v := u) rfl rfl (by intro val w_ hR hp; exact op_load T rfl rfl rfl rfl ((hg3.keep hR h3u).cell rfl) ⟨Chg.refl _ _, rfl⟩) ?_; dsimp only [List.nil_append, List.cons_append]
    refine Q.Walk.plain rfl rfl (by intro val w_ hR hp; exact op_fieldAddr T rfl rfl rfl rfl rfl rfl rfl rfl ⟨Chg.refl _ _, rfl⟩) ?_; dsimp only [List.nil_append, List.cons_append]
    refine Q.Walk.plain (v := .int .i64 (k : Int)) rfl rfl (by intro val w_ hR hp; exact op_load T rfl rfl rfl rfl ((hg5.keep hR h5u).cell rfl) ⟨Chg.refl _ _, rfl⟩) ?_; dsimp only [List.nil_append, List.cons_append]
    refine Q.Walk.plain (v := .string (str (dig2 k ++ endPar))) rfl rfl (by intro val w_ hR hp; exact op_call rfl rfl rfl (parName2_has k w_ (by omega)) (fun v w' h => ⟨by rw [h.1]; exact Chg.refl _ _, h.2⟩)) ?_; dsimp only [List.nil_append, List.cons_append]
    refine Q.Walk.rel rfl (fun v w' => ∃ g7, v = .slice (some ⟨g7, 0, none⟩) 1 1 ∧ Blk w' g7 9 (strL (dig2 k ++ endPar)) ∧ w6.heap.size ≤ g7) rfl (fun v a b ⟨g7, h1, h2, h3⟩ hab => ⟨g7, h1, h2.keep hab (fun hm => by have := ho.lt (show u.ownBlock = some g7 by simpa using hm); omega), h3⟩) ?_ ?_
    · intro val w_ hR hp
      exact op_buildSlice T rfl rfl rfl rfl rfl rfl rfl (fun g7 w7 hs7 hc7 hg7 => ⟨hc7, g7, rfl, hg7, by have := hR.size; omega⟩)
    dsimp only [List.nil_append, List.cons_append]
    refine Q.Walk.turn rfl (fun v w' => Own w' 9 1 v (neededM S ((Qs.take i).map (·.1.p)) ++ [dig2 k ++ endPar]).length ((neededM S ((Qs.take i).map (·.1.p)) ++ [dig2 k ++ endPar]).flatMap strL) ∧ (v.ownBlock = u.ownBlock ∨ ∃ h, v.ownBlock = some h ∧ w6.heap.size ≤ h)) rfl (fun v a b h hab => ⟨h.1.keep0 hab, h.2⟩) ?_ ?_
    · intro val w_ hR hp
      obtain ⟨g7, he7, hg7, hs7⟩ : ∃ g7, val 4 = .slice (some ⟨g7, 0, none⟩) 1 1 ∧ Blk w_ g7 9 (strL (dig2 k ++ endPar)) ∧ w6.heap.size ≤ g7 := hp 4 rfl _ _ rfl rfl
      exact op_appendK T strL_len rfl rfl rfl (congrArg some he7) rfl rfl rfl rfl rfl rfl (ho.keep0 hR) hg7 (strL_one _) (by omega) (fun v w8 hu8 hc8 hb8 => ⟨hc8, hu8, hb8.imp id (fun ⟨h, h1, h2⟩ => ⟨h, h1, by have := hR.size; omega⟩)⟩)
    dsimp only [List.nil_append, List.cons_append]
    refine Q.Walk.fin ?_
    intro val w8 hc8 hp
    obtain ⟨ho8, hb8⟩ : Own w8 9 1 (val 5) (neededM S ((Qs.take i).map (·.1.p)) ++ [dig2 k ++ endPar]).length ((neededM S ((Qs.take i).map (·.1.p)) ++ [dig2 k ++ endPar]).flatMap strL) ∧ ((val 5).ownBlock = u.ownBlock ∨ ∃ h, (val 5).ownBlock = some h ∧ w6.heap.size ≤ h) := hp 5 (by omega) _ _ rfl rfl
    clear hp
    refine WL_sub (e' := [(0, .pointer (some ⟨gm, 0, none⟩)), (3, .pointer (some ⟨g3, 0, none⟩)), (31, .slice (some ad) Qs.length cq), (32, .int .i64 Qs.length), (33, .int .i64 i), (42, val 5)]) ⟨rfl, rfl, rfl, rfl, rfl, rfl, trivial⟩ ?_
    generalize val 5 = u8 at ho8 hb8
    replace hg3 := hg3.keep hc8 h3u
    have hf8 : ∀ h, u8.ownBlock = some h → w.heap.size ≤ h := fun h hh => by
      rcases hb8 with h1 | ⟨h2, h3, h4⟩
      · exact hf h (by rw [← h1]; exact hh)
      · rw [h3] at hh; injection hh with hh; omega
    have h3u8 : g3 ∉ u8.ownBlock.toList := out_of hg3 ho8 (by decide)
    obtain ⟨A8, c8, rfl, _, _⟩ := ho8.form
    have hc08 : Chg [] w w8 := hc06.trans hc8 (fun k hk hlt => by have := hf k (by simpa using hk); omega)
    refine runL ?_
    refine op0 rfl rfl ?_
    refine op_store T rfl rfl rfl rfl rfl rfl hg3 (by simp) (fun w9 hc9 hg9 _ => ?_)
    refine go T 4 rfl ?_
    refine adI rfl rfl rfl rfl (by omega) (by omega) ?_
    refine go T 2 rfl ?_
    refine Round_n (i + 1, _) ⟨rfl, rfl, rfl, rfl, rfl, trivial⟩ ⟨by dsimp only; omega, hc08.trans hc9 (fun k hk hlt => by simp at hk; omega), hg9, ?_, hf8⟩ (by dsimp only; omega)
    dsimp only
    rw [hnx]
    exact ho8.keep hc9 (fun k hk hm' => by simp at hm'; subst hm'; exact h3u8 (by simpa using hk))
  obtain rfl : i = Qs.length := by omega
  rw [List.take_length] at ho
  have hm4 := hm0.keep0 hc04
  have x4 := x.keep0 hc04
  refine go T 6 rfl ?_
  refine rndX ?_
  refine go T 7 rfl ?_
  refine ldB T hm4 rfl rfl rfl rfl rfl rfl ?_
  refine o1 rfl ?_
  refine op_call rfl rfl rfl (names_has _ _ _ _ x4) ?_
  rintro v5 w5 ⟨hc5, ho5, hf5⟩
  have ho5' : Own w5 9 1 v5 (s.dir.map (·.1)).length ((s.dir.map (·.1)).flatMap strL) := by
    rw [strL_flat, List.length_map]; exact ho5
  have hult : ∀ k, u.ownBlock = some k → k < w4.heap.size := fun k hk => ho.lt hk
  replace hg3 := hg3.keep0 hc5
  replace ho := ho.keep0 hc5
  have hc05 := hc04.trans' hc5
  have hsl := str_reads ho
  obtain ⟨Au, cu, rfl, _, _⟩ := ho.form
  have hz5 := hc05.size
  refine o1 rfl ?_
  refine op_makeFunc (fv := #[]) (cv := #[.pointer (some ⟨g3, 0, none⟩)]) rfl rfl rfl ?_
  refine o1 rfl ?_
  have hdl := x.ok.dir.few
  have h3v : g3 ∉ v5.ownBlock.toList := out_of hg3 ho5' (by decide)
  refine op_call rfl rfl rfl (deleteNm_has v5 _ _ _ (fun n => (neededM S (Qs.map (·.1.p))).any fun x => decide (n = x)) w5 ho5' (by rw [List.length_map]; omega) (fun w6 y hc6 => ?_)) ?_
  · refine oldC_has (hg3.keep hc6 h3v) (str_reads (ho.keep hc6 (fun k hk hm' => ?_))) y
    have h1 := hult k hk
    have h2 := hf5 k (by simpa using hm')
    omega
  rintro v6 w6 ⟨hc6, hb6, ho6⟩
  refine go T 4 rfl ?_
  refine post1 (.inl rfl) rfl rfl ⟨hc05.trans hc6 (fun k hk hlt => by have := hf5 k (by simpa using hk); have := hc04.size; omega), ho6, fun h hh => by rw [hb6] at hh; have := hf5 h hh; have := hc04.size; omega⟩
end Go.Proofs.YtiadjkjlifnopaaGreatDoor.Tryz
/-! Ways that meet again, in a walk by evaluation. -/
set_option linter.unusedVariables false
namespace Go.Vc
open Go
section
variable {P : Program} {N : Nat} {Q : Post} {e : Env} {w : World}
/-- The ways through a piece of code (an if) meet behind it. -/
theorem meetC {σ : Type} (E : σ → Env) (M : σ → World → Prop) {c : Code} {ks : List Fr} (h : Run P N (Meet E M (PostOf P N Q ks)) (.code c []) e w) (hk : ∀ s w, M s w → Run P N Q (.out .normal ks) (E s) w) : Run P N Q (.code c ks) e w := W_meet E M h hk
theorem meetN {σ : Type} {E : σ → Env} {M : σ → World → Prop} (s : σ) (hs : SubL e (E s)) (hm : M s w) : Run P N (Meet E M Q) (.out .normal []) e w := Meet_n s hs hm
end
end Go.Vc
/-! Manifests of the call's own: Rewrite, Segs, Next, Old. -/
set_option linter.unusedVariables false
namespace Go.Proofs.YtiadjkjlifnopaaGreatDoor.Tryz
open Go Go.Vc
section
variable {w0 w : World} {gm g : Nat} {s : FsM} {p : FsP} {st : StM}
theorem rewriteOk_has (x : ManO w0 w gm g s p st false) (hok : POk st.plain) (hz : (writeM s manNm neuNm (encE (wholeP st.plain)).1).2 = 0) (hcalls : s.calls < 1000000000 - 10) :
    Has Go.Proofs.Tryz.prog 24 #[.pointer (some ⟨gm, 0, none⟩)] w (fun v w' => v = .int .i64 0 ∧ Chg (gm :: p.fp g) w w' ∧ ∃ p', Grows w g p p' ∧ ManO w0 w' gm g (writeM s manNm neuNm (encE (wholeP st.plain)).1).1 p' st false) := by
  obtain ⟨vs, vp, hm, hst⟩ := x.rows
  obtain ⟨Avs, cvs, rfl, _, _⟩ := hst.now.segs.form
  obtain ⟨Avp, cvp, rfl, _, _⟩ := hst.now.pars.form
  have hQ : SliceK 5 (RdL parL) w (.slice Avp (st.pars.map (·.1)).length cvp) (st.pars.map (·.1)) := by rw [List.length_map]; exact par_reads hst.now.pars
  have hm' : ManB w gm g (.slice Avs st.segs.length cvs) (.slice Avp (st.pars.map (·.1)).length cvp) st.next st.seq false := by rw [List.length_map]; exact hm
  have h := rewriteMan_has x.fs hm' hst.now.segs hQ (fun q hq => by obtain ⟨q', h1, rfl⟩ := List.mem_map.1 hq; exact hst.now.prd q' h1) (by rw [wholeM_plain]; exact wholeP_I hok) hcalls x.out x.fresh (by rw [wholeM_plain, encE_whole hok]) (by rw [wholeM_plain]; exact hz)
  rw [wholeM_plain] at h
  refine h.mono fun v w' ⟨h1, h2, p', h3, h4, h5, h6⟩ => ⟨h1, h2, p', h4, ⟨h3, ⟨_, _, ?_, firm_grow hst h2 h4⟩, h6, x.fresh⟩⟩
  rw [List.length_map] at h5
  exact h5
theorem segsO_has (x : ManO w0 w gm g s p st false) (hb : st.segs.length ≤ 1000000) : Has Go.Proofs.Tryz.prog 27 #[.pointer (some ⟨gm, 0, none⟩)] w (fun v w' => Chg [] w w' ∧ Own w' 26 6 v st.segs.length (st.segs.flatMap segL) ∧ ∀ h, v.ownBlock = some h → w.heap.size ≤ h) := by
  obtain ⟨vs, vp, hm, hst⟩ := x.rows
  exact segsM_has hm st.segs hst.now.segs hb
theorem nextO_has (x : ManO w0 w gm g s p st false) : Has Go.Proofs.Tryz.prog 28 #[.pointer (some ⟨gm, 0, none⟩)] w (fun v w' => w' = w ∧ v = .int .i64 st.next) := by
  obtain ⟨vs, vp, hm, hst⟩ := x.rows
  exact nextM_has hm
theorem oldO_has (x : ManO w0 w gm g s p st false) (hok : POk st.plain) (hn : st.next ≤ 100) : Has Go.Proofs.Tryz.prog 22 #[.pointer (some ⟨gm, 0, none⟩)] w (fun v w' => Chg [] w w' ∧ Own w' 9 1 v (oldM s.dir st.plain.segs st.plain.pars).length ((oldM s.dir st.plain.segs st.plain.pars).flatMap strL) ∧ ∀ h, v.ownBlock = some h → w.heap.size ≤ h) := by
  obtain ⟨vs, vp, hm, hst⟩ := x.rows
  obtain ⟨_, _, k3, k4⟩ := plain_keys hok
  refine old_has x.fs.at_ hm hst.now.segs hst.now.pars (fun y hy => ?_) (fun q hq => ?_) (show st.segs.length ≤ 1000 by omega) (show st.pars.length ≤ 1000 by omega)
  · have h1 := (hok.segs y hy).1.num
    have h2 := hok.below y hy
    have h3 : st.plain.next = st.next := rfl
    omega
  · have hq' : q.1.p ∈ st.plain.pars := List.mem_map.2 ⟨q, hq, rfl⟩
    have h1 := (hok.pars _ hq').1.group
    have h2 := hok.belowP _ hq'
    have h3 : st.plain.next = st.next := rfl
    omega
end
end Go.Proofs.YtiadjkjlifnopaaGreatDoor.Tryz
/-! Manifests: the files of ManifestOld, in plain words. -/
set_option linter.unusedVariables false
namespace Go.Vc
open Go
theorem createM_callsG (s : FsM) (k : Nm) : (createM s k).1.calls = s.calls + 1 := by
  unfold createM; simp only; (repeat' split) <;> rfl
def rawN (j : Nat) : Nm := dig2 (j + 1) ++ endRaw
def segN (j : Nat) : Nm := dig2 (j + 1) ++ endSeg
def strayN : Nm := [115, 116, 114, 97, 121]
/-- The files behind i rounds. -/
def oS : Nat → FsM
  | 0 => (writeM (newM 1048576) manNm neuNm (encE man0).1).1
  | i + 1 => (createM (createM (oS i) (rawN i)).1 (segN i)).1
def oN (i : Nat) : List Nm := (List.range i).flatMap fun j => [rawN j, segN j]
theorem oS_dir {i : Nat} (hi : i < 10) : (createM (oS i) strayN).1.dir.map (·.1) = oN i ++ [manNm, strayN] := by
  have key : ∀ i : Fin 10, (createM (oS i.val) strayN).1.dir.map (·.1) = oN i.val ++ [manNm, strayN] := by decide +kernel
  exact key ⟨i, hi⟩
theorem oS_calls {i : Nat} (hi : i < 10) : (oS i).calls = 5 + 2 * (i : Int) := by
  have key : ∀ i : Fin 10, (oS i.val).calls = 5 + 2 * (i.val : Int) := by decide +kernel
  exact key ⟨i, hi⟩
theorem oS_end {i : Nat} (hi : i < 10) : (createM (oS i) strayN).1.fail = -1 ∧ (looks (createM (oS i) strayN).1.dir manNm).isSome = true ∧ (createM (oS i) strayN).1.room = 1048576 ∧ usedM (createM (oS i) strayN).1 ≤ 1000 ∧ (createM (oS i) strayN).1.calls = 6 + 2 * (i : Int) := by
  have key : ∀ i : Fin 10, (createM (oS i.val) strayN).1.fail = -1 ∧ (looks (createM (oS i.val) strayN).1.dir manNm).isSome = true ∧ (createM (oS i.val) strayN).1.room = 1048576 ∧ usedM (createM (oS i.val) strayN).1 ≤ 1000 ∧ (createM (oS i.val) strayN).1.calls = 6 + 2 * (i.val : Int) := by decide +kernel
  exact key ⟨i, hi⟩
/-- Append and sync where nothing fails. -/
theorem commit_fine {s : FsM} {b : List UInt8} (hf : s.fail = -1) (hl : (looks s.dir manNm).isSome = true) (hr : (usedM s : Int) + b.length ≤ s.room) : (commitF s b).2 = 0 := by
  obtain ⟨i, hi⟩ := Option.isSome_iff_exists.1 hl
  have hfl : ∀ t : FsM, t.fail = -1 → failsM t = false := fun t e => by unfold failsM; rw [e]; rfl
  have e : appendM s manNm b = ({ callM s with files := (callM s).files.modify i fun f => { f with b := f.b ++ b } }, 0) := by
    unfold appendM
    dsimp only
    rw [hfl s hf, show looks (callM s).dir manNm = some i from hi]
    dsimp only
    rw [if_neg (by simp), if_neg (by show ¬ (s.room - (usedM s : Int) < (b.length : Int)); omega)]
  unfold commitF
  rw [e, if_pos rfl]
  unfold syncM
  dsimp only
  rw [hfl _ (by show max (s.fail - 1) (-1) = -1; rw [hf]; rfl), if_neg (by simp)]
  show (match looks (callM _).dir manNm with | none => _ | some i => _ : FsM × Int).2 = 0
  rw [show looks (callM { callM s with files := (callM s).files.modify i fun f => { f with b := f.b ++ b } }).dir manNm = some i from hi]
theorem commit_dir (s : FsM) (b : List UInt8) : (commitF s b).1.dir = s.dir := by
  have h1 : (appendM s manNm b).1.dir = s.dir := by unfold appendM; dsimp only; (repeat' split) <;> rfl
  have h2 : ∀ t : FsM, (syncM t manNm).1.dir = t.dir := fun t => by unfold syncM; dsimp only; (repeat' split) <;> rfl
  unfold commitF
  split
  · rw [h2, h1]
  · exact h1
theorem flatMap_eq {α β : Type} {f g : α → List β} : ∀ {l : List α}, (∀ x ∈ l, f x = g x) → l.flatMap f = l.flatMap g
  | [], _ => rfl
  | x :: l, h => by rw [List.flatMap_cons, List.flatMap_cons, h x (by simp), flatMap_eq (fun y hy => h y (by simp [hy]))]
section
variable (inn sl : Nat → Bool)
/-- What is added, what is wanted, of rounds. -/
def oA (i : Nat) : List SegM := (List.range i).flatMap fun j => if inn j = true then [⟨(j : Int) + 1, sl j, 0, 0, 0, 0⟩] else []
def oW (i : Nat) : List Nm := (List.range i).flatMap fun j => (if (!inn j || sl j) = true then [rawN j] else []) ++ (if (!inn j || !sl j) = true then [segN j] else [])
def oE (i : Nat) : EditM := { next := 50, seq := 0, adds := oA inn sl i, dels := [], pars := [], drops := [] }
theorem oA_succ (i : Nat) : oA inn sl (i + 1) = oA inn sl i ++ if inn i = true then [⟨(i : Int) + 1, sl i, 0, 0, 0, 0⟩] else [] := by unfold oA; rw [List.range_succ, List.flatMap_append]; simp
theorem oW_succ (i : Nat) : oW inn sl (i + 1) = oW inn sl i ++ ((if (!inn i || sl i) = true then [rawN i] else []) ++ (if (!inn i || !sl i) = true then [segN i] else [])) := by unfold oW; rw [List.range_succ, List.flatMap_append]; simp
theorem oW_len : ∀ i : Nat, (oW inn sl i).length ≤ 2 * i
  | 0 => by simp [oW]
  | i + 1 => by
    have := oW_len i
    rw [oW_succ, List.length_append, List.length_append]
    split <;> split <;> simp <;> omega
theorem oA_mem {i : Nat} {s : SegM} (h : s ∈ oA inn sl i) : ∃ j, j < i ∧ inn j = true ∧ s = ⟨(j : Int) + 1, sl j, 0, 0, 0, 0⟩ := by
  unfold oA at h
  obtain ⟨j, hj, h⟩ := List.mem_flatMap.1 h
  split at h
  · rename_i hin
    exact ⟨j, List.mem_range.1 hj, hin, List.mem_singleton.1 h⟩
  · cases h
theorem oA_len : ∀ i : Nat, (oA inn sl i).length ≤ i
  | 0 => by simp [oA]
  | i + 1 => by
    have := oA_len i
    rw [oA_succ, List.length_append]
    split <;> simp <;> omega
theorem oA_up : ∀ i : Nat, (oA inn sl i).Pairwise fun x y => numK x < numK y
  | 0 => by simp [oA]
  | i + 1 => by
    rw [oA_succ, List.pairwise_append]
    refine ⟨oA_up i, by split <;> simp, fun x hx y hy => ?_⟩
    obtain ⟨j, hj, _, rfl⟩ := oA_mem inn sl hx
    split at hy
    · rw [List.mem_singleton.1 hy]; unfold numK; dsimp only; omega
    · cases hy
theorem oE_ok {i : Nat} (hi : i < 10) : EditOk (oE inn sl i) := by
  have hl := oA_len inn sl i
  refine ⟨by unfold oE; dsimp only; omega, by unfold oE; dsimp only; omega, by show (oA inn sl i).length ≤ 60; omega, by simp [oE], by simp [oE], by simp [oE], by simp [oE], by simp [oE], fun s hs => ?_, by simp [oE]⟩
  obtain ⟨j, hj, _, rfl⟩ := oA_mem inn sl hs
  exact ⟨by dsimp only; omega, by dsimp only; omega, by dsimp only; omega, by dsimp only; omega⟩
theorem oE_sums (i : Nat) : Sums (oE inn sl i) := ⟨fun s hs => by obtain ⟨j, hj, _, rfl⟩ := oA_mem inn sl hs; show (0 : Nat) < 4294967296; decide, fun q hq => by cases hq⟩
def oQ (i : Nat) : PSt := ⟨oA inn sl i, [], 50, 1⟩
theorem oE_apply {i : Nat} (hi : i < 10) : applyP p0 (oE inn sl i) false = some (oQ inn sl i) := by
  have hB : editB (oE inn sl i) = true := editB_ok.2 (oE_ok inn sl hi)
  have hup := oA_up inn sl i
  have hnd : ((oA inn sl i).map numK).Nodup := by
    unfold List.Nodup
    rw [List.pairwise_map]
    exact hup.imp (fun h => by omega)
  have h1 : putK numK (oA inn sl i) [] = some (oA inn sl i) := by rw [putK_all (by simpa using hnd)]; simp
  have h2 : sortK numK (oA inn sl i) = oA inn sl i := sortK_id hnd (hup.imp (fun h => by omega))
  have hf : finePM (oA inn sl i) [] 50 [] = true := by
    have hl := oA_len inn sl i
    unfold finePM
    simp only [List.all_nil, Bool.true_and, Bool.and_eq_true, decide_eq_true_eq, Bool.not_eq_true', List.any_eq_false]
    refine ⟨by simp; omega, fun s hs => ?_, fun q hq => by cases hq⟩
    obtain ⟨j, hj, _, rfl⟩ := oA_mem inn sl hs
    dsimp only
    simp; omega
  unfold applyP
  rw [hB]
  unfold oE oQ p0
  dsimp only [takeK, Option.getD]
  rw [h1]
  dsimp only [Option.map, Option.isSome, putK, laterM]
  simp only [h2]
  show (if (true && (true && (true && (true && (true && (true && (true && finePM (oA inn sl i) [] 50 []))))))) = true then some _ else none) = _
  rw [hf]
  rfl
/-- What is old. -/
theorem oOld {i : Nat} (hi : i < 10) {d : Dir} (hd : d.map (·.1) = oN i ++ [manNm, strayN]) : oldM d (oQ inn sl i).segs (oQ inn sl i).pars = oW inn sl i ++ [strayN] := by
  have hinj : ∀ j k : Fin 9, (rawN j.val = rawN k.val → j = k) ∧ (segN j.val = segN k.val → j = k) ∧ rawN j.val ≠ segN k.val ∧ rawN j.val ≠ manNm ∧ segN j.val ≠ manNm ∧ rawN j.val ≠ strayN ∧ segN j.val ≠ strayN := by decide +kernel
  have hnm : ∀ j : Nat, fileNm ⟨(j : Int) + 1, sl j, 0, 0, 0, 0⟩ = if sl j = true then segN j else rawN j := fun j => by
    unfold fileNm rawN segN
    dsimp only
    rw [show ((j : Int) + 1).toNat = j + 1 from by omega]
    split <;> rfl
  have hneed : ∀ n, n ≠ manNm → ((neededM (oA inn sl i) []).any (fun x => decide (n = x)) = true ↔ ∃ j, j < i ∧ inn j = true ∧ n = if sl j = true then segN j else rawN j) := fun n hn => by
    unfold neededM
    simp only [List.any_eq_true, decide_eq_true_eq, List.mem_append, List.mem_map, List.map_nil, List.not_mem_nil, or_false, List.mem_singleton]
    constructor
    · rintro ⟨x, h | ⟨s, hs, rfl⟩, rfl⟩
      · exact absurd h hn
      · obtain ⟨j, hj, h1, rfl⟩ := oA_mem inn sl hs
        exact ⟨j, hj, h1, hnm j⟩
    · rintro ⟨j, hj, h1, h2⟩
      refine ⟨_, .inr ⟨⟨(j : Int) + 1, sl j, 0, 0, 0, 0⟩, ?_, rfl⟩, by rw [hnm]; exact h2⟩
      unfold oA
      exact List.mem_flatMap.2 ⟨j, List.mem_range.2 hj, by rw [if_pos h1]; simp⟩
  have hman : (neededM (oA inn sl i) []).any (fun x => decide (manNm = x)) = true := by unfold neededM; simp [manNm]
  have hraw : ∀ j, j < i → (!(neededM (oA inn sl i) []).any (fun x => decide (rawN j = x))) = (!inn j || sl j) := fun j hj => by
    have hne := (hinj ⟨j, by omega⟩ ⟨j, by omega⟩).2.2.2.1
    rw [Bool.eq_iff_iff, Bool.not_eq_true', ← Bool.not_eq_true, hneed _ hne]
    constructor
    · intro h
      cases h1 : inn j with
      | false => rfl
      | true =>
        cases h2 : sl j with
        | true => rfl
        | false => exact absurd ⟨j, hj, h1, by rw [h2]; rfl⟩ h
    · rintro h ⟨k, hk, h1, h2⟩
      split at h2
      · exact (hinj ⟨j, by omega⟩ ⟨k, by omega⟩).2.2.1 h2
      · rename_i h3
        have := (hinj ⟨j, by omega⟩ ⟨k, by omega⟩).1 h2
        injection this with this
        subst this
        rw [h1] at h
        simp at h
        exact h3 h
  have hseg : ∀ j, j < i → (!(neededM (oA inn sl i) []).any (fun x => decide (segN j = x))) = (!inn j || !sl j) := fun j hj => by
    have hne := (hinj ⟨j, by omega⟩ ⟨j, by omega⟩).2.2.2.2.1
    rw [Bool.eq_iff_iff, Bool.not_eq_true', ← Bool.not_eq_true, hneed _ hne]
    constructor
    · intro h
      cases h1 : inn j with
      | false => rfl
      | true =>
        cases h2 : sl j with
        | false => rfl
        | true => exact absurd ⟨j, hj, h1, by rw [h2]; rfl⟩ h
    · rintro h ⟨k, hk, h1, h2⟩
      split at h2
      · rename_i h3
        have := (hinj ⟨j, by omega⟩ ⟨k, by omega⟩).2.1 h2
        injection this with this
        subst this
        rw [h1, h3] at h
        simp at h
      · exact (hinj ⟨k, by omega⟩ ⟨j, by omega⟩).2.2.1 h2.symm
  have hstray : (!(neededM (oA inn sl i) []).any (fun x => decide (strayN = x))) = true := by
    rw [Bool.not_eq_true', ← Bool.not_eq_true, hneed _ (by decide)]
    rintro ⟨k, hk, h1, h2⟩
    split at h2
    · exact (hinj ⟨k, by omega⟩ ⟨k, by omega⟩).2.2.2.2.2.2 h2.symm
    · exact (hinj ⟨k, by omega⟩ ⟨k, by omega⟩).2.2.2.2.2.1 h2.symm
  unfold oldM
  rw [hd, List.filter_append]
  show (oN i).filter (fun n => !(neededM (oA inn sl i) []).any fun x => decide (n = x)) ++ [manNm, strayN].filter (fun n => !(neededM (oA inn sl i) []).any fun x => decide (n = x)) = _
  congr 1
  · unfold oN oW
    rw [List.filter_flatMap]
    refine flatMap_eq (fun j hj => ?_)
    have hj := List.mem_range.1 hj
    rw [show [rawN j, segN j] = [rawN j] ++ [segN j] from rfl, List.filter_append]
    simp only [List.filter_cons, List.filter_nil, hraw j hj, hseg j hj]
  · simp only [List.filter_cons, List.filter_nil, hman, hstray]
    rfl
end
end Go.Vc
/-! Manifests: ManifestOld. -/
set_option linter.unusedVariables false
namespace Go.Proofs.YtiadjkjlifnopaaGreatDoor.Tryz
open Go Go.Vc
section
variable {w0 w w' : World} {gm g : Nat} {s s' : FsM} {p p' : FsP} {st : StM} {cl : Bool}
/-- A call of the files turns nothing of a manifest's. -/
theorem ManO.step (x : ManO w0 w gm g s p st cl) (hc : Chg (p.fp g) w w') (x' : FsO w0 w' g s' p') (hg : Grows w g p p') : ManO w0 w' gm g s' p' st cl := by
  obtain ⟨vs, vp, hm, hst⟩ := x.rows
  have hl := Blk.lt hm
  exact ⟨x', ⟨vs, vp, Blk.keep hm hc x.out, firm_grow hst (hc.mono (fun k hk _ => by simp [hk])) hg⟩, fun h => by
    rcases hg gm h with h | h
    · exact x.out h
    · omega, x.fresh⟩
theorem sliceK_nil {α : Type} {k : Nat} {R : World → List Value → α → Prop} {w w' : World} {v : Value} (h : SliceK k R w v ([] : List α)) : SliceK k R w' v [] := by
  unfold SliceK at *
  obtain ⟨A, c, h1, h2, h3, _⟩ := h
  exact ⟨A, c, h1, h2, h3, fun i x hx => by simp at hx⟩
/-- Blocks beside an empty manifest turn. -/
theorem ManO.beside (x : ManO w0 w gm g s p stM0 cl) {S : List Nat} (hc : Chg S w w') (hS : ∀ k ∈ S, k ∉ gm :: p.fp g) (hS0 : ∀ k ∈ S, w0.heap.size ≤ k) : ManO w0 w' gm g s p stM0 cl := by
  obtain ⟨vs, vp, hm, hst⟩ := x.rows
  refine ⟨⟨x.fs.chg.trans hc (fun k hk hlt => by have := hS0 k hk; omega), x.fs.at_.keep hc (fun k hk hm => hS k hm (by simp [hk])), x.fs.fresh⟩, ⟨vs, vp, Blk.keep hm hc (fun h => hS gm h (by simp)), fun w1 _ => ?_⟩, x.out, x.fresh⟩
  have h := hst.now
  exact ⟨sliceK_nil h.segs, sliceK_nil h.pars, fun q hq => by cases hq⟩
end
theorem createOs_has {w0 w : World} {g : Nat} {p : FsP} (x : FsO w0 w g (newM 1048576) p) :
    Has Go.Proofs.Tryz.prog 19 #[ptrV g] w (fun v w' => ∃ gm p', v = .tuple #[.pointer (some ⟨gm, 0, none⟩), .int .i64 0] ∧ ManO w0 w' gm g (oS 0) p' stM0 false) :=
  (createMan_has x (by decide) rfl mst_new.1).mono fun v w' ⟨gm, p', h1, h2, h3, h4, h5, h6, h7⟩ => ⟨gm, p', h1, ⟨h3, ⟨_, _, h5, fun w1 _ => ⟨SliceK.nil _ _ _, SliceK.nil _ _ _, fun q hq => by cases hq⟩⟩, h6, by have := x.chg.size; omega⟩⟩
/-- What the law keeps beside the manifest: an edit, what is added, what is wanted. -/
structure OMid (w w' : World) (gm g : Nat) (s : FsM) (p : FsP) (g9 : Nat) (vx vw : Value) (L : List SegM) (M : List Nm) : Prop where
  man : ManO w w' gm g s p stM0 false
  edit : Blk w' g9 49 [.int .i64 50, .int .i64 0, vx, .slice none 0 0, .slice none 0 0, .slice none 0 0]
  adds : Own w' 26 6 vx L.length (L.flatMap segL)
  want : Own w' 9 1 vw M.length (M.flatMap strL)
  out9 : g9 ∉ gm :: p.fp g
  outx : ∀ k, vx.ownBlock = some k → k ∉ gm :: p.fp g
  outw : ∀ k, vw.ownBlock = some k → k ∉ gm :: p.fp g
  fr9 : w.heap.size ≤ g9
  frx : ∀ k, vx.ownBlock = some k → w.heap.size ≤ k
  frw : ∀ k, vw.ownBlock = some k → w.heap.size ≤ k
section
variable {w w1 w2 : World} {gm g : Nat} {s s' : FsM} {p p' : FsP} {g9 : Nat} {vx vw : Value} {L : List SegM} {M : List Nm}
theorem OMid.keep0 (x : OMid w w1 gm g s p g9 vx vw L M) (hc : Chg [] w1 w2) : OMid w w2 gm g s p g9 vx vw L M :=
  ⟨x.man.keep0 hc, x.edit.keep0 hc, x.adds.keep0 hc, x.want.keep0 hc, x.out9, x.outx, x.outw, x.fr9, x.frx, x.frw⟩
theorem OMid.fs (x : OMid w w1 gm g s p g9 vx vw L M) (hc : Chg (p.fp g) w1 w2) (x' : FsO w w2 g s' p') (hg : Grows w1 g p p') : OMid w w2 gm g s' p' g9 vx vw L M := by
  have out : ∀ k, k < w1.heap.size → k ∉ gm :: p.fp g → k ∉ gm :: p'.fp g := fun k hk hn h => by
    rcases List.mem_cons.1 h with h | h
    · exact hn (by simp [h])
    · rcases hg k h with h | h
      · exact hn (by simp [h])
      · omega
  have out' : ∀ {k}, k ∉ gm :: p.fp g → k ∉ p.fp g := fun h hm => h (by simp [hm])
  exact ⟨x.man.step hc x' hg, x.edit.keep hc (out' x.out9), x.adds.keep hc (fun k hk hm => out' (x.outx k hk) hm), x.want.keep hc (fun k hk hm => out' (x.outw k hk) hm),
    out _ x.edit.lt x.out9, fun k hk => out k (x.adds.lt hk) (x.outx k hk), fun k hk => out k (x.want.lt hk) (x.outw k hk), x.fr9, x.frx, x.frw⟩
/-- More is wanted. -/
theorem OMid.push (x : OMid w w1 gm g s p g9 vx vw L M) {u : Value} {M' : List Nm} (ho : Own w2 9 1 u M'.length (M'.flatMap strL)) (hc : Chg vw.ownBlock.toList w1 w2) (hb : u.ownBlock = vw.ownBlock ∨ ∃ h, u.ownBlock = some h ∧ w1.heap.size ≤ h) : OMid w w2 gm g s p g9 vx u L M' := by
  have hz := x.man.fs.chg.size
  have hk9 : g9 ∉ vw.ownBlock.toList := out_of x.edit x.want (by decide)
  have hx : ∀ k, vx.ownBlock = some k → k ∉ vw.ownBlock.toList := fun k hk hm => by
    obtain ⟨c1, h1⟩ := x.adds.row hk
    obtain ⟨c2, h2⟩ := x.want.row (show vw.ownBlock = some k by simpa using hm)
    exact h1.ne_ h2 (by decide) rfl
  refine ⟨x.man.beside hc (fun k hk => x.outw k (by simpa using hk)) (fun k hk => x.frw k (by simpa using hk)), x.edit.keep hc hk9, x.adds.keep hc hx, ho, x.out9, x.outx, fun k hk => ?_, x.fr9, x.frx, fun k hk => ?_⟩
  · rcases hb with h | ⟨h', h1, h2⟩
    · exact x.outw k (by rw [← h]; exact hk)
    · rw [h1] at hk; injection hk with hk; subst hk
      intro hm
      rcases List.mem_cons.1 hm with h | h
      · have := x.man.lt; omega
      · have := x.man.fs.at_.lt _ h; omega
  · rcases hb with h | ⟨h', h1, h2⟩
    · exact x.frw k (by rw [← h]; exact hk)
    · rw [h1] at hk; injection hk with hk; omega
/-- More is added. -/
theorem OMid.add (x : OMid w w1 gm g s p g9 vx vw L M) {w3 : World} {u : Value} {L' : List SegM} (ho : Own w2 26 6 u L'.length (L'.flatMap segL)) (hc : Chg vx.ownBlock.toList w1 w2) (hb : u.ownBlock = vx.ownBlock ∨ ∃ h, u.ownBlock = some h ∧ w1.heap.size ≤ h)
    (hc3 : Chg [g9] w2 w3) (h9 : Blk w3 g9 49 [.int .i64 50, .int .i64 0, u, .slice none 0 0, .slice none 0 0, .slice none 0 0]) : OMid w w3 gm g s p g9 u vw L' M := by
  have hz := x.man.fs.chg.size
  have hw : ∀ k, vw.ownBlock = some k → k ∉ vx.ownBlock.toList := fun k hk hm => by
    obtain ⟨c1, h1⟩ := x.want.row hk
    obtain ⟨c2, h2⟩ := x.adds.row (show vx.ownBlock = some k by simpa using hm)
    exact h1.ne_ h2 (by decide) rfl
  have hk9 : g9 ∉ vx.ownBlock.toList := out_of x.edit x.adds (by decide)
  have h92 := x.edit.keep hc hk9
  have w9 : ∀ k, vw.ownBlock = some k → k ∉ [g9] := fun k hk hm => by
    rw [List.mem_singleton.1 hm] at hk
    obtain ⟨c1, h1⟩ := x.want.row hk
    exact h1.ne_ x.edit (by decide) rfl
  have u9 : ∀ k, u.ownBlock = some k → k ∉ [g9] := fun k hk hm => by
    rw [List.mem_singleton.1 hm] at hk
    obtain ⟨c1, h1⟩ := ho.row hk
    exact h1.ne_ h92 (by decide) rfl
  have hman := x.man.beside hc (fun k hk => x.outx k (by simpa using hk)) (fun k hk => x.frx k (by simpa using hk))
  have hman3 := hman.beside hc3 (fun k hk => by rw [List.mem_singleton.1 hk]; exact x.out9) (fun k hk => by rw [List.mem_singleton.1 hk]; exact x.fr9)
  refine ⟨hman3, h9, ho.keep hc3 u9, (x.want.keep hc hw).keep hc3 w9, x.out9, fun k hk => ?_, x.outw, x.fr9, fun k hk => ?_, x.frw⟩
  · rcases hb with h | ⟨h', h1, h2⟩
    · exact x.outx k (by rw [← h]; exact hk)
    · rw [h1] at hk; injection hk with hk; subst hk
      intro hm
      rcases List.mem_cons.1 hm with h | h
      · have := x.man.lt; omega
      · have := x.man.fs.at_.lt _ h; omega
  · rcases hb with h | ⟨h', h1, h2⟩
    · exact x.frx k (by rw [← h]; exact hk)
    · rw [h1] at hk; injection hk with hk; omega
end
end Go.Proofs.YtiadjkjlifnopaaGreatDoor.Tryz
/-! Manifests: ManifestOld, walked. -/
set_option linter.unusedVariables false
namespace Go.Proofs.YtiadjkjlifnopaaGreatDoor.Tryz
open Go Go.Vc
theorem oE_I (inn sl : Nat → Bool) {i : Nat} (hi : i < 10) : EdI (oE inn sl i) := by
  have z : I64 0 := ⟨by decide, by decide⟩
  have z5 : I64 50 := ⟨by decide, by decide⟩
  refine ⟨z5, z, fun s hs => ?_, fun q hq => by cases hq⟩
  obtain ⟨j, hj, _, rfl⟩ := oA_mem inn sl hs
  exact ⟨⟨by show -9223372036854775808 ≤ (j : Int) + 1; omega, by show (j : Int) + 1 ≤ 9223372036854775807; omega⟩, z, z, z, by show (0 : Nat) < 4294967296; decide⟩
theorem dig1 {i : Nat} (hi : i < 9) : dig2 (i + 1) = [UInt8.ofNat (49 + i)] := by unfold dig2; rw [if_pos (by omega), show 48 + (i + 1) = 49 + i from by omega]
set_option maxHeartbeats 16000000 in
theorem manifestOld_has (A0 : Option Addr) (n0 c0 : Nat) (l0 : List Bool) (A1 : Option Addr) (n1 c1 : Nat) (l1 : List Bool) (w : World) (hs0 : SliceOf Rbool w (.slice A0 n0 c0) l0) (hs1 : SliceOf Rbool w (.slice A1 n1 c1) l1) :
    Has Go.Proofs.Tryz.prog 5 #[.slice A0 n0 c0, .slice A1 n1 c1] w (fun v w' => Chg [] w w' ∧ v = .bool true) := by
  obtain ⟨rfl, hl01, hl02⟩ := hs0.len
  obtain ⟨rfl, hl11, hl12⟩ := hs1.len
  unfold maxLen at hl02 hl12
  refine enter Go.Proofs.Tryz.func5 rfl rfl (by decide) rfl (e := [(0, .slice A0 l0.length c0), (1, .slice A1 l1.length c1)]) ⟨rfl, rfl, trivial⟩ ?_
  refine run ?_
  refine go T 7 rfl ?_
  refine o1 rfl ?_
  refine op_call rfl rfl rfl (begun19_has w) ?_
  rintro _ w1 ⟨hc1, rfl⟩
  refine go T 15 rfl ?_
  refine o1 rfl ?_
  refine op_call rfl rfl rfl (newO_has 1048576 w1) ?_
  rintro _ w2 ⟨g, p2, rfl, x2⟩
  unfold ptrV
  refine go T 6 rfl ?_
  refine o1 rfl ?_
  refine op_call rfl rfl rfl (createOs_has (x2.base hc1)) ?_
  rintro _ w3 ⟨gm, p3, rfl, x3⟩
  refine go T 11 rfl ?_
  refine neF rfl rfl rfl rfl (by omega) ?_
  refine go T 7 rfl ?_
  refine o1 rfl (op_build T rfl rfl rfl rfl rfl rfl ?_)
  refine o1 rfl ?_
  refine op_alloc T rfl rfl (fun g9 w4 hs4 hc4 hg9 => ?_)
  have hs4 : w3.heap.size ≤ g9 := hs4
  refine op0 rfl rfl ?_
  refine op_store_agg T rfl rfl rfl rfl rfl rfl hg9 (by exact Nat.le_of_ble_eq_true rfl) (fun w5 hc5 hg9n _ => ?_)
  replace hg9 : Blk w5 g9 49 [.int .i64 50, .int .i64 0, .slice none 0 0, .slice none 0 0, .slice none 0 0, .slice none 0 0] := hg9n
  clear hg9n
  have hc35 : Chg [] w3 w5 := hc4.trans hc5 (fun k hk hlt => by simp at hk; omega)
  have x5 := x3.keep0 hc35
  have hout9 : g9 ∉ gm :: p3.fp g := fun h => by
    rcases List.mem_cons.1 h with h | h
    · have := x3.lt; omega
    · have := x3.fs.at_.lt _ h; omega
  have hfr9 : w.heap.size ≤ g9 := by have := x3.fs.chg.size; omega
  obtain ⟨inn, hinn⟩ : ∃ f : Nat → Bool, f = fun j => l1[j]?.getD false := ⟨_, rfl⟩
  obtain ⟨sl, hsl⟩ : ∃ f : Nat → Bool, f = fun j => l0[j]?.getD false := ⟨_, rfl⟩
  refine go T 14 rfl ?_
  refine W_loop (σ := Nat × FsP × Value × Value) (fun t => [(0, .slice A0 l0.length c0), (1, .slice A1 l1.length c1), (6, .pointer (some ⟨g, 0, none⟩)), (7, .pointer (some ⟨gm, 0, none⟩)), (9, .pointer (some ⟨g9, 0, none⟩)), (10, t.2.2.2), (11, .int .i64 (t.1 : Int))])
    (fun t w' => t.1 ≤ 9 ∧ t.1 ≤ l0.length ∧ OMid w w' gm g (oS t.1) t.2.1 g9 t.2.2.1 t.2.2.2 (oA inn sl t.1) (oW inn sl t.1))
    (fun t => 9 - t.1) (0, p3, .slice none 0 0, .slice none 0 0) ⟨rfl, rfl, rfl, rfl, rfl, rfl, rfl, trivial⟩ ⟨by dsimp only; omega, Nat.zero_le _, ⟨x5, hg9, Own.nil _ _ _, Own.nil _ _ _, hout9, fun k hk => by simp [Value.ownBlock] at hk, fun k hk => by simp [Value.ownBlock] at hk, hfr9, fun k hk => by simp [Value.ownBlock] at hk, fun k hk => by simp [Value.ownBlock] at hk⟩⟩ ?_
  clear x3 x5 x2 hg9 hout9 hc35 hc4 hc5 hc1
  rintro ⟨i, p, vx, vw⟩ w6 ⟨hi9, hil, x⟩
  dsimp only at hi9 hil x ⊢
  refine run ?_
  refine go T 2 rfl ?_
  refine meetC (σ := Unit) (fun _ => [(0, .slice A0 l0.length c0), (1, .slice A1 l1.length c1), (6, .pointer (some ⟨g, 0, none⟩)), (7, .pointer (some ⟨gm, 0, none⟩)), (9, .pointer (some ⟨g9, 0, none⟩)), (10, vw), (11, .int .i64 (i : Int)), (35, .bool (decide (i < 9 ∧ i < l0.length)))]) (fun _ w' => w' = w6) ?_ ?_
  · by_cases h9 : i < 9
    · by_cases hlt : i < l0.length
      · rw [decide_eq_true (show i < 9 ∧ i < l0.length from ⟨h9, hlt⟩)]
        refine go T 2 rfl ?_
        refine ltT rfl rfl rfl rfl (by omega) ?_
        refine go T 4 rfl ?_
        refine ltT rfl rfl rfl rfl (by omega) ?_
        refine go T 2 rfl ?_
        exact meetN () ⟨rfl, rfl, rfl, rfl, rfl, rfl, rfl, rfl, trivial⟩ rfl
      · rw [decide_eq_false (show ¬ (i < 9 ∧ i < l0.length) from fun h => hlt h.2)]
        refine go T 2 rfl ?_
        refine ltT rfl rfl rfl rfl (by omega) ?_
        refine go T 4 rfl ?_
        refine ltF rfl rfl rfl rfl (by omega) ?_
        refine go T 2 rfl ?_
        exact meetN () ⟨rfl, rfl, rfl, rfl, rfl, rfl, rfl, rfl, trivial⟩ rfl
    · rw [decide_eq_false (show ¬ (i < 9 ∧ i < l0.length) from fun h => h9 h.1)]
      refine go T 2 rfl ?_
      refine ltF rfl rfl rfl rfl (by omega) ?_
      refine go T 7 rfl ?_
      exact meetN () ⟨rfl, rfl, rfl, rfl, rfl, rfl, rfl, rfl, trivial⟩ rfl
  rintro _ w6 rfl
  by_cases hend : i < 9 ∧ i < l0.length
  · rw [decide_eq_true hend]
    obtain ⟨h9, hlt⟩ := hend
    have hi10 : i < 10 := by omega
    have hcal := oS_calls hi10
    have hdg := dig1 h9
    refine go T 9 rfl ?_
    refine adI rfl rfl rfl rfl (by omega) (by omega) ?_
    refine o1 rfl (op_convert_fit T rfl rfl rfl rfl (wrap_u8_in (by omega) (by omega)) ?_)
    refine o1 rfl ?_
    refine op_buildSlice T rfl rfl rfl rfl rfl rfl rfl (fun gd w7 hs7 hc7 hgd => ?_)
    have hcv : (49 + (i : Int)) = ((UInt8.ofNat (49 + i)).toNat : Int) := by
      rw [UInt8.toNat_ofNat']; omega
    have hgd : Blk w7 gd 5 [.int .u8 (49 + (i : Int))] := hgd
    rw [hcv] at hgd
    have hsd := one_u8 _ hgd
    replace x := x.keep0 hc7
    refine o1 rfl ?_
    refine op_string T rfl rfl rfl rfl rfl hsd ?_
    rw [← hdg]
    have hd2 := dig2_len (i + 1)
    refine go T 7 rfl ?_
    refine o1 rfl ?_
    refine op_str_add (a := dig2 (i + 1)) (b := endRaw) rfl rfl rfl (by simp [endRaw]; omega) ?_
    have hln : (dig2 (i + 1) ++ endRaw).length ≤ maxLen := by unfold maxLen; simp [endRaw]; omega
    have hln2 : (dig2 (i + 1) ++ endSeg).length ≤ maxLen := by unfold maxLen; simp [endSeg]; omega
    refine o1 rfl ?_
    refine op_call rfl rfl rfl (create_has g (oS i) p (dig2 (i + 1) ++ endRaw) w7 x.man.fs.at_ hln (by omega)) ?_
    intro v8 w8 hd8
    obtain ⟨_, hc8, p8, x8, hg8⟩ := fsDoneO x.man.fs hd8
    replace x := x.fs hc8 x8 hg8
    clear hd8 hc8 x8 hg8
    refine go T 6 rfl ?_
    refine o1 rfl ?_
    refine op_str_add (a := dig2 (i + 1)) (b := endSeg) rfl rfl rfl (by simp [endSeg]; omega) ?_
    refine o1 rfl ?_
    refine op_call rfl rfl rfl (create_has g _ p8 (dig2 (i + 1) ++ endSeg) w8 x.man.fs.at_ hln2 (by rw [createM_callsG]; omega)) ?_
    intro v9 w9 hd9
    obtain ⟨_, hc9, p9, x9, hg9⟩ := fsDoneO x.man.fs hd9
    replace x := x.fs hc9 x9 hg9
    clear hd9 hc9 x9 hg9
    change OMid w w9 gm g (oS (i + 1)) p9 g9 vx vw (oA inn sl i) (oW inn sl i) at x
    refine go T 3 rfl ?_
    refine meetC (σ := Unit) (fun _ => [(0, .slice A0 l0.length c0), (1, .slice A1 l1.length c1), (6, .pointer (some ⟨g, 0, none⟩)), (7, .pointer (some ⟨gm, 0, none⟩)), (9, .pointer (some ⟨g9, 0, none⟩)), (10, vw), (11, .int .i64 (i : Int)), (12, .string (str (dig2 (i + 1)))), (13, .bool (inn i))]) (fun _ w' => w' = w9) ?_ ?_
    · by_cases h1 : i < l1.length
      · obtain ⟨ad, u, rfl, hu, hur⟩ := (SliceOf.kept Rbool.kept _ _ _ _ x.man.fs.chg hs1).get (List.getElem?_eq_getElem h1)
        obtain rfl : u = .bool l1[i] := hur
        have hin : inn i = l1[i] := by rw [hinn]; simp [List.getElem?_eq_getElem h1]
        rw [← hin] at hu
        refine go T 4 rfl ?_
        refine ltT rfl rfl rfl rfl (by omega) ?_
        refine go T 3 rfl ?_
        refine o1 rfl (op_index_nat T rfl rfl rfl rfl rfl rfl (by omega) ?_)
        refine o1 rfl (op_load T rfl rfl rfl rfl (by assumption) ?_)
        refine go T 3 rfl ?_
        exact meetN () ⟨rfl, rfl, rfl, rfl, rfl, rfl, rfl, rfl, rfl, trivial⟩ rfl
      · have hin : inn i = false := by
          rw [hinn]
          show (l1[i]?).getD false = false
          rw [List.getElem?_eq_none (by omega)]; rfl
        rw [hin]
        refine go T 4 rfl ?_
        refine ltF rfl rfl rfl rfl (by omega) ?_
        refine go T 8 rfl ?_
        exact meetN () ⟨rfl, rfl, rfl, rfl, rfl, rfl, rfl, rfl, rfl, trivial⟩ rfl
    rintro _ w9 rfl
    have hsl0 : sl i = l0[i] := by rw [hsl]; simp [List.getElem?_eq_getElem hlt]
    have hA := oA_succ inn sl i
    have hW := oW_succ inn sl i
    have hla := oA_len inn sl i
    have hlw := oW_len inn sl i
    generalize hLa : oA inn sl i = La at *
    generalize hLa1 : oA inn sl (i + 1) = La1 at *
    generalize hLw : oW inn sl i = Lw at *
    generalize hLw1 : oW inn sl (i + 1) = Lw1 at *
    clear hLa hLw
    refine go T 2 rfl ?_
    refine meetC (σ := Value) (fun _ => [(0, .slice A0 l0.length c0), (1, .slice A1 l1.length c1), (6, .pointer (some ⟨g, 0, none⟩)), (7, .pointer (some ⟨gm, 0, none⟩)), (9, .pointer (some ⟨g9, 0, none⟩)), (10, vw), (11, .int .i64 (i : Int)), (12, .string (str (dig2 (i + 1)))), (13, .bool (inn i))]) (fun u w' => OMid w w' gm g (oS (i + 1)) p9 g9 u vw La1 Lw) ?_ ?_
    · cases hin : inn i with
      | false =>
        rw [hin] at hA
        simp only [Bool.false_eq_true, if_false, List.append_nil] at hA
        subst hA
        refine go T 7 rfl ?_
        exact meetN vx ⟨rfl, rfl, rfl, rfl, rfl, rfl, rfl, rfl, rfl, trivial⟩ x
      | true =>
        rw [hin, if_pos rfl] at hA
        obtain ⟨ad, u, rfl, hu, hur⟩ := hs0.get (List.getElem?_eq_getElem hlt)
        obtain rfl : u = .bool l0[i] := hur
        rw [← hsl0] at hu
        have hu9 := x.man.fs.chg.cell0 hu
        have hk9 : g9 ∉ vx.ownBlock.toList := out_of x.edit x.adds (by decide)
        have h9b := x.edit
        have hua : ∀ {w1}, Chg vx.ownBlock.toList w9 w1 → w1.cell? (ad.add i) = some (.bool (sl i)) := fun {w1} hc => by
          have h2 : Chg [] w w1 := x.man.fs.chg.trans hc (fun k hk hlt => by have := x.frx k (by simpa using hk); omega)
          exact h2.cell0 hu
        refine go T 6 rfl ?_
        refine Q.W_walkq 11 10 vx.ownBlock.toList fol (by kernel_rfl) (by kernel_rfl) ?_
        refine Q.Walk.plain rfl rfl (by intro val w_ hR hp; exact op_fieldAddr T rfl rfl rfl rfl rfl rfl rfl rfl ⟨Chg.refl _ _, rfl⟩) ?_; dsimp only [List.nil_append, List.cons_append]
        refine Q.Walk.plain (v := vx) rfl rfl (by intro val w_ hR hp; exact op_load T rfl rfl rfl rfl ((h9b.keep hR hk9).cell rfl) ⟨Chg.refl _ _, rfl⟩) ?_; dsimp only [List.nil_append, List.cons_append]
        refine Q.Walk.plain rfl rfl (by intro val w_ hR hp; exact op_move rfl rfl ⟨Chg.refl _ _, rfl⟩) ?_; dsimp only [List.nil_append, List.cons_append]
        refine Q.Walk.plain rfl rfl (by intro val w_ hR hp; exact op_add rfl rfl rfl (wrap_i64_in (by omega) (by omega)) ⟨Chg.refl _ _, rfl⟩) ?_; dsimp only [List.nil_append, List.cons_append]
        refine Q.Walk.plain rfl rfl (by intro val w_ hR hp; exact op_move rfl rfl ⟨Chg.refl _ _, rfl⟩) ?_; dsimp only [List.nil_append, List.cons_append]
        refine Q.Walk.plain rfl rfl (by intro val w_ hR hp; exact op_move rfl rfl ⟨Chg.refl _ _, rfl⟩) ?_; dsimp only [List.nil_append, List.cons_append]
        refine Q.Walk.plain rfl rfl (by intro val w_ hR hp; exact op_index_nat T rfl rfl rfl rfl rfl rfl (by omega) ⟨Chg.refl _ _, rfl⟩) ?_; dsimp only [List.nil_append, List.cons_append]
        refine Q.Walk.plain (v := .bool (sl i)) rfl rfl (by intro val w_ hR hp; exact op_load T rfl rfl rfl rfl (hua hR) ⟨Chg.refl _ _, rfl⟩) ?_; dsimp only [List.nil_append, List.cons_append]
        refine Q.Walk.plain (v := .agg (segL ⟨(i : Int) + 1, sl i, 0, 0, 0, 0⟩).toArray) rfl rfl (by intro val w_ hR hp; exact op_build T rfl rfl rfl rfl rfl rfl ⟨Chg.refl _ _, rfl⟩) ?_; dsimp only [List.nil_append, List.cons_append]
        refine Q.Walk.rel rfl (fun v w' => ∃ g7, v = .slice (some ⟨g7, 0, none⟩) 1 1 ∧ Blk w' g7 26 (segL ⟨(i : Int) + 1, sl i, 0, 0, 0, 0⟩) ∧ w9.heap.size ≤ g7) rfl (fun v a b ⟨g7, h1, h2, h3⟩ hab => ⟨g7, h1, h2.keep hab (fun hm => by have := x.adds.lt (show vx.ownBlock = some g7 by simpa using hm); omega), h3⟩) ?_ ?_
        · intro val w_ hR hp
          exact op_buildSlice T rfl rfl rfl rfl rfl rfl rfl (fun g7 w7 hs7 hc7 hg7 => ⟨hc7, g7, rfl, hg7, by have := hR.size; omega⟩)
        dsimp only [List.nil_append, List.cons_append]
        refine Q.Walk.turn rfl (fun v w' => Own w' 26 6 v (La ++ [(⟨(i : Int) + 1, sl i, 0, 0, 0, 0⟩ : SegM)]).length ((La ++ [(⟨(i : Int) + 1, sl i, 0, 0, 0, 0⟩ : SegM)]).flatMap segL) ∧ (v.ownBlock = vx.ownBlock ∨ ∃ h, v.ownBlock = some h ∧ w9.heap.size ≤ h)) rfl (fun v a b h hab => ⟨h.1.keep0 hab, h.2⟩) ?_ ?_
        · intro val w_ hR hp
          obtain ⟨g7, he7, hg7, hs7⟩ : ∃ g7, val 9 = .slice (some ⟨g7, 0, none⟩) 1 1 ∧ Blk w_ g7 26 (segL ⟨(i : Int) + 1, sl i, 0, 0, 0, 0⟩) ∧ w9.heap.size ≤ g7 := hp 9 rfl _ _ rfl rfl
          exact op_appendK T segL_len rfl rfl rfl (congrArg some he7) rfl rfl rfl rfl rfl rfl (x.adds.keep0 hR) hg7 (segL_one _) (by omega) (fun v w8 hu8 hc8 hb8 => ⟨hc8, hu8, hb8.imp id (fun ⟨h, h1, h2⟩ => ⟨h, h1, by have := hR.size; omega⟩)⟩)
        dsimp only [List.nil_append, List.cons_append]
        refine Q.Walk.fin ?_
        intro val w10 hc10 hp
        obtain ⟨ho10, hb10⟩ : Own w10 26 6 (val 10) (La ++ [(⟨(i : Int) + 1, sl i, 0, 0, 0, 0⟩ : SegM)]).length ((La ++ [(⟨(i : Int) + 1, sl i, 0, 0, 0, 0⟩ : SegM)]).flatMap segL) ∧ ((val 10).ownBlock = vx.ownBlock ∨ ∃ h, (val 10).ownBlock = some h ∧ w9.heap.size ≤ h) := hp 10 (by omega) _ _ rfl rfl
        clear hp
        refine WL_sub (e' := [(0, .slice (some ad) l0.length c0), (1, .slice A1 l1.length c1), (6, .pointer (some ⟨g, 0, none⟩)), (7, .pointer (some ⟨gm, 0, none⟩)), (9, .pointer (some ⟨g9, 0, none⟩)), (10, vw), (11, .int .i64 (i : Int)), (12, .string (str (dig2 (i + 1)))), (13, .bool true), (72, val 10)]) ⟨rfl, rfl, rfl, rfl, rfl, rfl, rfl, rfl, rfl, rfl, trivial⟩ ?_
        generalize val 10 = u10 at ho10 hb10
        have h10 := h9b.keep hc10 hk9
        obtain ⟨A10, c10, rfl, _, _⟩ := ho10.form
        refine runL ?_
        refine go T 1 rfl ?_
        refine op0 rfl rfl ?_
        refine op_store T rfl rfl rfl rfl rfl rfl h10 (by simp) (fun w11 hc11 hn11 _ => ?_)
        refine go T 1 rfl ?_
        rw [hA]
        exact meetN _ ⟨rfl, rfl, rfl, rfl, rfl, rfl, rfl, rfl, rfl, trivial⟩ (x.add ho10 hc10 hb10 hc11 hn11)
    clear x
    rintro vx2 w10 x
    refine go T 2 rfl ?_
    refine meetC (σ := Value) (fun u_ => [(0, .slice A0 l0.length c0), (1, .slice A1 l1.length c1), (6, .pointer (some ⟨g, 0, none⟩)), (7, .pointer (some ⟨gm, 0, none⟩)), (9, .pointer (some ⟨g9, 0, none⟩)), (10, u_), (11, .int .i64 (i : Int)), (12, .string (str (dig2 (i + 1)))), (13, .bool (inn i))]) (fun u w' => OMid w w' gm g (oS (i + 1)) p9 g9 vx2 u La1 (Lw ++ if (!inn i || sl i) = true then [rawN i] else [])) ?_ ?_
    · cases hin : inn i with
      | false =>
        rw [if_pos (show (!false || sl i) = true from rfl)]
        refine go T 16 rfl ?_
        refine o1 rfl ?_
        refine op_str_add (a := dig2 (i + 1)) (b := endRaw) rfl rfl rfl (by simp [endRaw]; omega) ?_
        refine o1 rfl ?_
        refine op_buildSlice T rfl rfl rfl rfl rfl rfl rfl (fun g7 wa hs7 hc7 hg7 => ?_)
        have hg7 : Blk wa g7 9 (strL (rawN i)) := hg7
        have x7 := x.keep0 hc7
        refine o1 rfl ?_
        refine op_appendK T strL_len rfl rfl rfl rfl rfl rfl rfl rfl rfl rfl x7.want hg7 (strL_one _) (by omega) (fun v wb hu hc hb => ?_)
        refine go T 2 rfl ?_
        exact meetN v ⟨rfl, rfl, rfl, rfl, rfl, rfl, rfl, rfl, rfl, trivial⟩ (x7.push hu hc hb)
      | true =>
        obtain ⟨ad, u, rfl, hu, hur⟩ := (SliceOf.kept Rbool.kept _ _ _ _ x.man.fs.chg hs0).get (List.getElem?_eq_getElem hlt)
        obtain rfl : u = .bool l0[i] := hur
        rw [← hsl0] at hu
        cases hsi : sl i with
        | true =>
          rw [hsi] at hu
          rw [if_pos (show (!true || true) = true from rfl)]
          refine go T 7 rfl ?_
          refine o1 rfl (op_index_nat T rfl rfl rfl rfl rfl rfl (by omega) ?_)
          refine o1 rfl (op_load T rfl rfl rfl rfl (by assumption) ?_)
          refine go T 7 rfl ?_
          refine o1 rfl ?_
          refine op_str_add (a := dig2 (i + 1)) (b := endRaw) rfl rfl rfl (by simp [endRaw]; omega) ?_
          refine o1 rfl ?_
          refine op_buildSlice T rfl rfl rfl rfl rfl rfl rfl (fun g7 wa hs7 hc7 hg7 => ?_)
          have hg7 : Blk wa g7 9 (strL (rawN i)) := hg7
          have x7 := x.keep0 hc7
          refine o1 rfl ?_
          refine op_appendK T strL_len rfl rfl rfl rfl rfl rfl rfl rfl rfl rfl x7.want hg7 (strL_one _) (by omega) (fun v wb hu hc hb => ?_)
          refine go T 2 rfl ?_
          exact meetN v ⟨rfl, rfl, rfl, rfl, rfl, rfl, rfl, rfl, rfl, trivial⟩ (x7.push hu hc hb)
        | false =>
          rw [hsi] at hu
          rw [if_neg (show ¬ (!true || false) = true from by decide), List.append_nil]
          refine go T 7 rfl ?_
          refine o1 rfl (op_index_nat T rfl rfl rfl rfl rfl rfl (by omega) ?_)
          refine o1 rfl (op_load T rfl rfl rfl rfl (by assumption) ?_)
          refine go T 5 rfl ?_
          exact meetN vw ⟨rfl, rfl, rfl, rfl, rfl, rfl, rfl, rfl, rfl, trivial⟩ x
    clear x
    rintro vw2 w11 x
    have hlw2 : (Lw ++ if (!inn i || sl i) = true then [rawN i] else []).length ≤ 100 := by rw [List.length_append]; split <;> simp <;> omega
    rw [← List.append_assoc] at hW
    generalize (Lw ++ if (!inn i || sl i) = true then [rawN i] else []) = Lw2 at *
    refine go T 1 rfl ?_
    refine meetC (σ := Value) (fun u_ => [(0, .slice A0 l0.length c0), (1, .slice A1 l1.length c1), (6, .pointer (some ⟨g, 0, none⟩)), (7, .pointer (some ⟨gm, 0, none⟩)), (9, .pointer (some ⟨g9, 0, none⟩)), (10, u_), (11, .int .i64 (i : Int)), (12, .string (str (dig2 (i + 1)))), (13, .bool (inn i))]) (fun u w' => OMid w w' gm g (oS (i + 1)) p9 g9 vx2 u La1 (Lw2 ++ if (!inn i || !sl i) = true then [segN i] else [])) ?_ ?_
    · cases hin : inn i with
      | false =>
        rw [if_pos (show (!false || !sl i) = true from rfl)]
        refine go T 17 rfl ?_
        refine o1 rfl ?_
        refine op_str_add (a := dig2 (i + 1)) (b := endSeg) rfl rfl rfl (by simp [endSeg]; omega) ?_
        refine o1 rfl ?_
        refine op_buildSlice T rfl rfl rfl rfl rfl rfl rfl (fun g7 wa hs7 hc7 hg7 => ?_)
        have hg7 : Blk wa g7 9 (strL (segN i)) := hg7
        have x7 := x.keep0 hc7
        refine o1 rfl ?_
        refine op_appendK T strL_len rfl rfl rfl rfl rfl rfl rfl rfl rfl rfl x7.want hg7 (strL_one _) (by omega) (fun v wb hu hc hb => ?_)
        refine go T 2 rfl ?_
        exact meetN v ⟨rfl, rfl, rfl, rfl, rfl, rfl, rfl, rfl, rfl, trivial⟩ (x7.push hu hc hb)
      | true =>
        obtain ⟨ad, u, rfl, hu, hur⟩ := (SliceOf.kept Rbool.kept _ _ _ _ x.man.fs.chg hs0).get (List.getElem?_eq_getElem hlt)
        obtain rfl : u = .bool l0[i] := hur
        rw [← hsl0] at hu
        cases hsi : sl i with
        | false =>
          rw [hsi] at hu
          rw [if_pos (show (!true || !false) = true from rfl)]
          refine go T 7 rfl ?_
          refine o1 rfl (op_index_nat T rfl rfl rfl rfl rfl rfl (by omega) ?_)
          refine o1 rfl (op_load T rfl rfl rfl rfl (by assumption) ?_)
          refine go T 8 rfl ?_
          refine o1 rfl ?_
          refine op_str_add (a := dig2 (i + 1)) (b := endSeg) rfl rfl rfl (by simp [endSeg]; omega) ?_
          refine o1 rfl ?_
          refine op_buildSlice T rfl rfl rfl rfl rfl rfl rfl (fun g7 wa hs7 hc7 hg7 => ?_)
          have hg7 : Blk wa g7 9 (strL (segN i)) := hg7
          have x7 := x.keep0 hc7
          refine o1 rfl ?_
          refine op_appendK T strL_len rfl rfl rfl rfl rfl rfl rfl rfl rfl rfl x7.want hg7 (strL_one _) (by omega) (fun v wb hu hc hb => ?_)
          refine go T 2 rfl ?_
          exact meetN v ⟨rfl, rfl, rfl, rfl, rfl, rfl, rfl, rfl, rfl, trivial⟩ (x7.push hu hc hb)
        | true =>
          rw [hsi] at hu
          rw [if_neg (show ¬ (!true || !true) = true from by decide), List.append_nil]
          refine go T 7 rfl ?_
          refine o1 rfl (op_index_nat T rfl rfl rfl rfl rfl rfl (by omega) ?_)
          refine o1 rfl (op_load T rfl rfl rfl rfl (by assumption) ?_)
          refine go T 6 rfl ?_
          exact meetN vw2 ⟨rfl, rfl, rfl, rfl, rfl, rfl, rfl, rfl, rfl, trivial⟩ x
    clear x
    rintro vw3 w12 x
    rw [← hW] at x
    refine go T 4 rfl ?_
    refine adI rfl rfl rfl rfl (by omega) (by omega) ?_
    refine go T 2 rfl ?_
    refine Round_n (i + 1, p9, vx2, vw3) ⟨rfl, rfl, rfl, rfl, rfl, rfl, rfl, trivial⟩ ⟨by dsimp only; omega, by dsimp only; omega, ?_⟩ (by dsimp only; omega)
    dsimp only
    rw [hLa1, hLw1]
    exact x
  · rw [decide_eq_false hend]
    have hi10 : i < 10 := by omega
    have hcal := oS_calls hi10
    have hold := fun d hd => oOld inn sl hi10 (d := d) hd
    have hdir := oS_dir hi10
    obtain ⟨he1, he2, he3, he4, he5⟩ := oS_end hi10
    have hlw := oW_len inn sl i
    have hap := oE_apply inn sl hi10
    have hI := oE_I inn sl hi10
    have hel := encE_len (oE_ok inn sl hi10) (oE_sums inn sl i)
    refine go T 4 rfl ?_
    refine rndX ?_
    refine go T 5 rfl ?_
    refine o1 rfl ?_
    refine op_call rfl rfl rfl (create_has g (oS i) p strayN w6 x.man.fs.at_ (by decide) (by omega)) ?_
    intro v8 w8 hd8
    obtain ⟨_, hc8, p8, x8, hg8⟩ := fsDoneO x.man.fs hd8
    replace x := x.fs hc8 x8 hg8
    clear hd8 hc8 x8 hg8
    generalize (createM (oS i) strayN).1 = s8 at *
    refine go T 5 rfl ?_
    refine o1 rfl ?_
    refine op_buildSlice T rfl rfl rfl rfl rfl rfl rfl (fun g7 wa hs7 hc7 hg7 => ?_)
    have hg7 : Blk wa g7 9 (strL strayN) := hg7
    have x7 := x.keep0 hc7
    refine o1 rfl ?_
    refine op_appendK T strL_len rfl rfl rfl rfl rfl rfl rfl rfl rfl rfl x7.want hg7 (strL_one _) (by omega) (fun v wb hu hc hb => ?_)
    have x9 := x7.push hu hc hb
    have hed := x9.edit
    clear x x7 hu hc hb hg7
    refine go T 7 rfl ?_
    refine o1 rfl (op_load_agg T rfl rfl rfl rfl hed (by exact Nat.le_of_ble_eq_true rfl) (by exact rfl) ?_)
    refine o1 rfl ?_
    refine op_call rfl rfl rfl (commitOk_has x9.man (show POk stM0.plain from p0_ok) (e := oE inn sl i) (xa := vx) (xd := .slice none 0 0) (xp := .slice none 0 0) (xr := .slice none 0 0) (X := []) hI (fun w1 h1 => ⟨(own_firm x9.adds x9.outx w1 h1).readsK segL_len, SliceOf.nil _ _, SliceK.nil _ _ _, rfl, fun q hq => (by cases hq), SliceOf.nil _ _⟩) hap (commit_fine he1 he2 (by rw [he3]; omega)) (by rw [he5]; omega)) ?_
    rintro _ wc ⟨rfl, hcc, pc, stc, hgc, hpc, xc⟩
    have hwant := x9.want.keep hcc x9.outw
    refine neF rfl rfl rfl rfl (by omega) ?_
    refine go T 8 rfl ?_
    refine o1 rfl ?_
    have hokc : POk stc.plain := by rw [hpc]; exact applyP_ok p0_ok (oE_sums inn sl i) hap
    have hnx : stc.next = 50 := by
      have : stc.plain.next = 50 := by rw [hpc]; rfl
      exact this
    refine op_call rfl rfl rfl (oldO_has xc hokc (by omega)) ?_
    rintro vg wg ⟨hcg, hog, _⟩
    rw [hpc, hold _ (by rw [commit_dir]; exact hdir)] at hog
    replace hwant := hwant.keep0 hcg
    have hchg := xc.fs.chg.trans' hcg
    generalize oW inn sl i ++ [strayN] = L at *
    have hsg := str_reads hog
    have hsw := str_reads hwant
    obtain ⟨Ag, cg, rfl, hlg1, hlg2⟩ := hog.form
    obtain ⟨Aw, cw, rfl, _, _⟩ := hwant.form
    unfold maxLen at hlg2
    clear x9 xc hed
    refine go T 10 rfl ?_
    refine neF rfl rfl rfl rfl (by omega) ?_
    refine go T 12 rfl ?_
    refine W_loop (σ := Nat) (fun j => [(10, .slice Aw L.length cw), (14, .slice Ag L.length cg), (15, .int .i64 (j : Int))]) (fun j w' => j ≤ L.length ∧ Chg [] wg w') (fun j => L.length - j) 0 ⟨rfl, rfl, rfl, trivial⟩ ⟨Nat.zero_le _, Chg.refl _ _⟩ ?_
    rintro j wj ⟨hj, hcj⟩
    refine run ?_
    refine go T 6 rfl ?_
    refine ltS rfl rfl rfl rfl (fun hcmp => ?_) (fun hcmp => ?_)
    · have hjl : j < L.length := by omega
      obtain ⟨ad, u, rfl, hu, hur⟩ := hsg.get (List.getElem?_eq_getElem hjl)
      obtain rfl : u = .string (str L[j]) := hur
      obtain ⟨ad', u', rfl, hu', hur'⟩ := hsw.get (List.getElem?_eq_getElem hjl)
      obtain rfl : u' = .string (str L[j]) := hur'
      have hu := hcj.cell0 hu
      have hu' := hcj.cell0 hu'
      refine go T 8 rfl ?_
      refine W_walk 8 [] fol (by kernel_rfl) (by kernel_rfl) ?_
      refine Walk.plain rfl (by intro val w_ hR hp; exact op_move rfl rfl ⟨Chg.refl _ _, rfl⟩) ?_; dsimp only [List.nil_append, List.cons_append]
      refine Walk.plain rfl (by intro val w_ hR hp; exact op_move rfl rfl ⟨Chg.refl _ _, rfl⟩) ?_; dsimp only [List.nil_append, List.cons_append]
      refine Walk.plain rfl (by intro val w_ hR hp; exact op_index_nat T rfl rfl rfl rfl rfl rfl (by omega) ⟨Chg.refl _ _, rfl⟩) ?_; dsimp only [List.nil_append, List.cons_append]
      refine Walk.plain rfl (by intro val w_ hR hp; exact op_load T rfl rfl rfl rfl (hR.cell0 (by assumption)) ⟨Chg.refl _ _, rfl⟩) ?_; dsimp only [List.nil_append, List.cons_append]
      refine Walk.plain rfl (by intro val w_ hR hp; exact op_move rfl rfl ⟨Chg.refl _ _, rfl⟩) ?_; dsimp only [List.nil_append, List.cons_append]
      refine Walk.plain rfl (by intro val w_ hR hp; exact op_move rfl rfl ⟨Chg.refl _ _, rfl⟩) ?_; dsimp only [List.nil_append, List.cons_append]
      refine Walk.plain rfl (by intro val w_ hR hp; exact op_index_nat T rfl rfl rfl rfl rfl rfl (by omega) ⟨Chg.refl _ _, rfl⟩) ?_; dsimp only [List.nil_append, List.cons_append]
      refine Walk.plain rfl (by intro val w_ hR hp; exact op_load T rfl rfl rfl rfl (hR.cell0 (by assumption)) ⟨Chg.refl _ _, rfl⟩) ?_; dsimp only [List.nil_append, List.cons_append]
      skip
      refine Walk.fin ?_
      intro val wk hck hp
      clear hp
      replace hcj := hcj.trans' hck
      replace hu := hck.cell0 hu
      replace hu' := hck.cell0 hu'
      refine runL ?_
      refine o1 rfl ?_
      refine op_str_neq rfl rfl rfl (fun h => absurd rfl h) (fun _ => ?_)
      refine go T 8 rfl ?_
      refine adI rfl rfl rfl rfl (by omega) (by omega) ?_
      refine go T 2 rfl ?_
      exact Round_n (j + 1) ⟨rfl, rfl, rfl, trivial⟩ ⟨by omega, hcj⟩ (by omega)
    · refine go T 5 rfl ?_
      refine rndX ?_
      refine go T 8 rfl ?_
      exact post1 (.inl rfl) rfl rfl ⟨hchg.trans' hcj, rfl⟩
end Go.Proofs.YtiadjkjlifnopaaGreatDoor.Tryz
/-! From a law's walk to its row: arguments opened by their types' shape; arguments stay; the contract. -/
set_option linter.unusedVariables false
set_option linter.unusedSimpArgs false
namespace Go.Vc
open Go Go.RowKit Go.ChangeShapes Go.WideShapes Go.ChangeAt

/-- A reading of one cell at type t gives some a with R. -/
def Opens (P : Program) (t : TypeId) {α : Type} (R : World → Value → α → Prop) : Prop :=
  ∀ {H : Type} (enc : TypeId × Value → H) (w : World) (base : Nat) (spare : Nat → Bool) (held : Bool) (fuel : Nat) (cs : List Value) (x : DataW H × List MemPlace),
    DataW.trod enc P w base spare held fuel t cs = some x → ∃ u a, cs = [u] ∧ R w u a

theorem list_of {α : Type} {p : Nat → α → Prop} : ∀ n, (∀ i, i < n → ∃ a, p i a) → ∃ L : List α, L.length = n ∧ ∀ i a, L[i]? = some a → p i a
  | 0, _ => ⟨[], rfl, fun i a h => by simp at h⟩
  | n + 1, h => by
    obtain ⟨L, hl, hp⟩ := list_of n (fun i hi => h i (by omega))
    obtain ⟨a, ha⟩ := h n (by omega)
    refine ⟨L ++ [a], by simp [hl], fun i b hb => ?_⟩
    by_cases hi : i < L.length
    · rw [List.getElem?_append_left hi] at hb; exact hp i b hb
    · have : i = L.length := by have := (List.getElem?_eq_some_iff.1 hb).1; simp at this; omega
      subst this
      rw [List.getElem?_append_right (Nat.le_refl _)] at hb
      simp at hb; subst hb; rw [hl]; exact ha

theorem Opens.slice {P : Program} {t e : TypeId} {α : Type} {R : World → Value → α → Prop} (ht : P.underlying t = some (.slice e)) (hc : P.cellsOf e = 1) (hR : Opens P e R) : Opens P t (SliceOf R) := by
  intro H enc w base spare held fuel cs x h
  rcases Go.Deep.open_slice1 ht hc h with ⟨rfl, _⟩ | ⟨a, len, cap, m, n, V, D, Pl, rfl, hb, hl, hm, hmm, _, hx⟩
  · exact ⟨_, [], rfl, SliceOf.nil _ _⟩
  · have hlm : len ≤ m := by rw [hmm]; split <;> omega
    obtain ⟨L, hlen, hL⟩ := list_of (p := fun i a' => R w (V i) a') len (fun i hi => by
      obtain ⟨_, htr⟩ := hx i (by omega)
      obtain ⟨u, a', hu, hr⟩ := hR enc w base spare held n _ _ htr
      injection hu with hu _
      subst hu
      exact ⟨a', hr⟩)
    refine ⟨_, L, rfl, SliceOf.mk hlen.symm (by omega) hm fun i a' ha => ?_⟩
    have hi : i < len := by have := (List.getElem?_eq_some_iff.1 ha).1; omega
    exact ⟨a, V i, rfl, (hx i (by omega)).1, hL i a' ha⟩

theorem Opens.u8 {P : Program} {t : TypeId} (ht : P.underlying t = some (.int .u8)) : Opens P t Ru8 := by
  intro H enc w base spare held fuel cs x h
  obtain ⟨n, rfl, _, hw⟩ := DataW.trod_int ht h
  have hb : 0 ≤ n ∧ n ≤ 255 := by simp [Lit.wf, IntKind.min, IntKind.max, IntKind.signed, IntKind.bits] at hw; omega
  refine ⟨_, UInt8.ofNat n.toNat, rfl, ?_⟩
  unfold Ru8
  have : ((UInt8.ofNat n.toNat).toNat : Int) = n := by
    rw [UInt8.toNat_ofNat']; omega
  rw [this]
theorem Opens.i64 {P : Program} {t : TypeId} (ht : P.underlying t = some (.int .i64)) : Opens P t Ri64 := by
  intro H enc w base spare held fuel cs x h
  obtain ⟨n, rfl, _, hw⟩ := DataW.trod_int ht h
  have hb : -9223372036854775808 ≤ n ∧ n ≤ 9223372036854775807 := by simp [Lit.wf, IntKind.min, IntKind.max, IntKind.signed, IntKind.bits] at hw; omega
  exact ⟨_, n, rfl, rfl, hb.1, hb.2⟩
theorem Opens.bool {P : Program} {t : TypeId} (ht : P.underlying t = some .bool) : Opens P t Rbool := by
  intro H enc w base spare held fuel cs x h
  obtain ⟨b, rfl, _⟩ := DataW.trod_bool ht h
  exact ⟨_, b, rfl, rfl⟩
theorem Opens.str {P : Program} {t : TypeId} (ht : P.underlying t = some .string) : Opens P t Rstr := by
  intro H enc w base spare held fuel cs x h
  obtain ⟨s, rfl, _, hs⟩ := DataW.trod_string ht h
  exact ⟨_, s, rfl, rfl, hs⟩

/-- An argument, opened. -/
theorem Opens.arg {P : Program} {t : TypeId} {α : Type} {R : World → Value → α → Prop} (h : Opens P t R) {w : World} {r : Reach} {base : Nat} {v : Value} {H : Type} {enc : TypeId × Value → H} {sp : Nat → Bool} {held : Bool} {d : DataW H} {ps : List MemPlace} {b0 : Nat}
    (hd : P.underlying t = some .bool ∨ P.underlying t = some .string ∨ (∃ k, P.underlying t = some (.int k)) ∨ ∃ e, P.underlying t = some (.slice e))
    (hval : Value.okWide P w r base t v) (ht : DataW.Trod enc P w b0 sp held t v d ps) : ∃ a, R w v a := by
  obtain ⟨fuel, hf⟩ := ht
  obtain ⟨u, a, hu, hr⟩ := h enc w b0 sp held fuel _ _ hf
  have hv : v.cells = #[v] := by
    rcases hd with hd | hd | ⟨k, hd⟩ | ⟨e, hd⟩
    · obtain ⟨b, rfl⟩ := okWide_bool hd hval; rfl
    · obtain ⟨b, rfl⟩ := okWide_string hd hval; rfl
    · obtain ⟨b, rfl⟩ := okWide_int hd hval; rfl
    · obtain ⟨a, l, c, rfl⟩ := okWide_slice hd hval; rfl
  rw [hv] at hu
  simp at hu
  subst hu
  exact ⟨a, hr⟩

theorem args_stay {H : Type} {enc : TypeId × Value → H} {P : Program} (hl : laidOutB P = true) {W W' : World} (hb : Below W.heap.size W W') :
    ∀ (ts : List TypeId) (vs : List Value) (ds : List (DataW H)) (ps : List MemPlace), (∀ t ∈ ts, P.readableRec t = true ∧ t < P.types.size) → DataW.TrodAll enc P W 0 (fun _ => true) true ts vs ds ps → (∀ x ∈ ps, x.block < W.heap.size) →
      DataW.TrodAll enc P W' 0 (fun b => decide (b < W.heap.size)) true ts vs ds ps
  | [], vs, ds, ps, _, h, _ => by
    obtain ⟨rfl, rfl, rfl⟩ := trodAll_nil h
    exact trodAll_mk0
  | t :: ts, vs, ds, ps, ht, h, hlt => by
    obtain ⟨v, vs', d, ds', p, q, rfl, rfl, rfl, h0, r0⟩ := trodAll_cons h
    exact trodAll_cons_mk (Below.trod hl (ht t (by simp)).1 (ht t (by simp)).2 h0 hb (fun x hx => hlt x (by simp [hx])))
      (args_stay hl hb ts vs' ds' q (fun t' h' => ht t' (by simp [h'])) r0 (fun x hx => hlt x (by simp [hx])))

/-- The contract of a law's row, from its walk. -/
theorem law_lifted {C : Checked} {os : Os} {f : FuncId} {fn : Func} {s : ChangeSpec} {H : Type} {enc : TypeId × Value → H} {tb : TypeId}
    (own : ownKnob C.prog.godebug = none) (laid : laidOutB C.prog = true) (started : os.Started) (noInit : C.prog.inits.idxOf? f = none) (hfn : C.prog.funcs[f]? = some fn)
    (hvars : s.vars = []) (hres : fn.resultTypes = #[tb]) (htb : C.prog.underlying tb = some .bool)
    (hparams : ∀ t ∈ fn.params.toList, C.prog.readableRec t = true ∧ t < C.prog.types.size)
    (hspec : ∀ ds : List (DataW H), ds.length = fn.params.size → s.fn H ds = { results := [.lit (.bool true)], args := ds })
    (witness : ∃ (w : World) (tape : Tape) (i : Input), w.os = os ∧ (w.forCall tape i).Shaped C.prog ∧ i.vars = [] ∧ Input.okWide C.prog (w.forCall tape i) .any w.heap.size f i ∧
      s.pre6 enc C.prog fn [] false (w.forCall tape i).memory i.args ∧ ({} : Assume).holds C.prog (lone (Frame.enter C.prog f i.args .normal) [] (w.forCall tape i)))
    (walk : ∀ (W : World) (base : Nat) (args : Array Value) (ds : List (DataW H)) (ps : List MemPlace), (∀ (j : Nat) t v, fn.params[j]? = some t → args[j]? = some v → Value.okWide C.prog W .any base t v) →
      DataW.TrodAll enc C.prog W 0 (fun _ => true) true fn.params.toList args.toList ds ps → Calls C.prog f args W fun e W' => e = .returned (.bool true) ∧ Chg [] W W') :
    ReturnsInHanded {} C os f .any (s.pre6 enc C.prog fn [] false) (s.post enc C.prog fn false true false false) := by
  refine returnsInHanded_of_change own started noInit hfn witness ?_
  intro W base args ds gs before hval hW _ _
  have hW' := hW
  obtain ⟨p, q, hA, hV, rfl, hfz, hnd⟩ := hW
  rw [hvars] at hV
  obtain ⟨rfl, rfl⟩ := trodVars_none hV
  refine (walk W base args ds p hval hA).mono fun e W' ⟨he, hc⟩ => ?_
  subst he
  have bel := hc.below
  have hlen : ds.length = fn.params.size := by
    have := trodAll_length hA
    have h2 := this.1; have h3 := this.2
    simp at h2 h3 ⊢
    omega
  have hsp := hspec ds hlen
  refine ⟨_, rfl, ds, [], p ++ [], [], p, [], hW', ?_, ?_, ?_, bel.frame _, fun h => by cases h⟩
  · rw [List.append_nil, hsp, hres]
    exact trodAll_mk1 (shut_bool htb _)
  · rw [List.append_nil, hsp]
    exact args_stay laid bel _ _ _ _ hparams hA (fun x hx => hW'.lt x (by simp [hx]))
  · rw [hvars, List.append_nil, hsp]; exact rfl
end Go.Vc
/-! From a walk to a row whose list of laid variables is not empty. -/
set_option linter.unusedVariables false
namespace Go.Vc
open Go Go.ChangeShapes Go.WideShapes Go.ChangeAt Go.RowKit
theorem law_laid {C : Checked} {os : Os} {f : FuncId} {fn : Func} {s : ChangeSpec} {H : Type} {enc : TypeId × Value → H} {tb : TypeId} {L : List (String × DataW Unit)}
    (own : ownKnob C.prog.godebug = none) (laid : laidOutB C.prog = true) (started : os.Started) (noInit : C.prog.inits.idxOf? f = none) (hfn : C.prog.funcs[f]? = some fn)
    (hvars : s.vars = []) (hres : fn.resultTypes = #[tb]) (htb : C.prog.underlying tb = some .bool)
    (hparams : ∀ t ∈ fn.params.toList, C.prog.readableRec t = true ∧ t < C.prog.types.size)
    (hspec : ∀ ds : List (DataW H), ds.length = fn.params.size → s.fn H ds = { results := [.lit (.bool true)], args := ds })
    (witness : ∃ (w : World) (tape : Tape) (i : Input), w.os = os ∧ (w.forCall tape i).Shaped C.prog ∧ i.vars = [] ∧ Input.okWide C.prog (w.forCall tape i) .any w.heap.size f i ∧
      ((s.pre enc C.prog fn [] false (w.forCall tape i).memory i.args ∧ laidMetH C.prog L (w.forCall tape i).memory) ∧ sizedMet enc C.prog fn (OpenSpec.ofChange s) false (w.forCall tape i).memory i.args) ∧ ({} : Assume).holds C.prog (lone (Frame.enter C.prog f i.args .normal) [] (w.forCall tape i)))
    (walk : ∀ (W : World) (base : Nat) (args : Array Value) (ds : List (DataW H)) (ps : List MemPlace), (∀ (j : Nat) t v, fn.params[j]? = some t → args[j]? = some v → Value.okWide C.prog W .any base t v) →
      DataW.TrodAll enc C.prog W 0 (fun _ => true) true fn.params.toList args.toList ds ps → Calls C.prog f args W fun e W' => e = .returned (.bool true) ∧ Chg [] W W') :
    ReturnsInHanded {} C os f .any (fun w args => (s.pre enc C.prog fn [] false w args ∧ laidMetH C.prog L w) ∧ sizedMet enc C.prog fn (OpenSpec.ofChange s) false w args) (s.post enc C.prog fn false true false false) := by
  refine returnsInHanded_of_change_and (X := fun w _ => laidMetH C.prog L w) (fun _ _ _ hh h => h.of_heap hh) own started noInit hfn witness ?_
  intro W base args ds gs before hval hW _ _ _ _
  have hW' := hW
  obtain ⟨p, q, hA, hV, rfl, hfz, hnd⟩ := hW
  rw [hvars] at hV
  obtain ⟨rfl, rfl⟩ := trodVars_none hV
  refine (walk W base args ds p hval hA).mono fun e W' ⟨he, hc⟩ => ?_
  subst he
  have bel := hc.below
  have hlen : ds.length = fn.params.size := by
    have := trodAll_length hA
    have h2 := this.1; have h3 := this.2
    simp at h2 h3 ⊢
    omega
  have hsp := hspec ds hlen
  refine ⟨_, rfl, ds, [], p ++ [], [], p, [], hW', ?_, ?_, ?_, bel.frame _, fun h => by cases h⟩
  · rw [List.append_nil, hsp, hres]
    exact trodAll_mk1 (shut_bool htb _)
  · rw [List.append_nil, hsp]
    exact args_stay laid bel _ _ _ _ hparams hA (fun x hx => hW'.lt x (by simp [hx]))
  · rw [hvars, List.append_nil, hsp]; exact rfl
end Go.Vc
/- ManifestOld: whatever the arguments that can be read as data, in whatever memory, the call returns true and leaves what was there as it was. No condition. -/
set_option linter.unusedVariables false
namespace Go.Proofs.YtiadjkjlifnopaaGreatDoor
open Go Go.Vc Go.ChangeShapes Go.WideShapes Go.ChangeAt Go.RowKit
theorem manifestOld_own : ownKnob Go.Proofs.Tryz.prog.godebug = none := by kernel_rfl
theorem manifestOld_laid : laidOutB Go.Proofs.Tryz.prog = true := by kernel_rfl
set_option maxRecDepth 100000 in
theorem manifestOld_walk (W : World) (base : Nat) (args : Array Value) {H : Type} {enc : TypeId × Value → H} (ds : List (DataW H)) (ps : List MemPlace) (hval0 : ∀ (j : Nat) t v, Go.Proofs.Tryz.f5.params[j]? = some t → args[j]? = some v → Value.okWide Go.Proofs.Tryz.prog W .any base t v)
    (hA : DataW.TrodAll enc Go.Proofs.Tryz.prog W 0 (fun _ => true) true Go.Proofs.Tryz.f5.params.toList args.toList ds ps) : Calls Go.Proofs.Tryz.prog 5 args W fun e W' => e = .returned (.bool true) ∧ Chg [] W W' := by
  have hval := hval0
  rw [Go.Proofs.Tryz.params5] at hA hval
  obtain ⟨v0, vs0, d0, ds0, p0, q0, hargs, rfl, rfl, h0, r0⟩ := trodAll_cons hA
  obtain ⟨v1, vs1, d1, ds1, p1, q1, rfl, rfl, rfl, h1, r1⟩ := trodAll_cons r0
  obtain ⟨rfl, rfl, rfl⟩ := trodAll_nil r1
  obtain rfl : args = #[v0, v1] := by cases args; simp_all
  obtain ⟨a0, x0⟩ := Opens.arg (Opens.slice Go.Proofs.Tryz.underlying43 (by kernel_rfl : Go.Proofs.Tryz.prog.cellsOf 4 = 1) (Opens.bool Go.Proofs.Tryz.underlying4)) (.inr (.inr (.inr ⟨_, Go.Proofs.Tryz.underlying43⟩))) (hval 0 _ v0 rfl rfl) h0
  obtain ⟨a1, x1⟩ := Opens.arg (Opens.slice Go.Proofs.Tryz.underlying43 (by kernel_rfl : Go.Proofs.Tryz.prog.cellsOf 4 = 1) (Opens.bool Go.Proofs.Tryz.underlying4)) (.inr (.inr (.inr ⟨_, Go.Proofs.Tryz.underlying43⟩))) (hval 1 _ v1 rfl rfl) h1
  obtain ⟨A, c, rfl, _⟩ := SliceOf.form x0; obtain ⟨A2, c2, rfl, _⟩ := SliceOf.form x1
  refine (Tryz.manifestOld_has A _ c a0 A2 _ c2 a1 W x0 x1).2.mono ?_
  rintro e W' ⟨v, rfl, hc, rfl⟩
  exact ⟨rfl, hc⟩
theorem manifestOld_door (os : Os) (args : Array Value) : laidMetH Go.Proofs.Tryz.prog Rows.manifestOldRow.laid ((World.doorLaid Go.Proofs.Tryz.prog 400 os).forCall (fun _ _ => 0) ⟨#[], args, []⟩).memory :=
  laidMetH_of_parts3 (fuel := 8) (laidMet_of_run' 8 (by kernel_rfl) (by kernel_rfl)) (by kernel_rfl) (by kernel_rfl)
set_option maxRecDepth 100000 in
theorem manifestOld_lifted (os : Os) (started : os.Started) (H : Type) (enc : TypeId × Value → H) :
    ReturnsInHanded {} Go.Proofs.Tryz.checked os 5 .any (fun w args => (Rows.manifestOldSpec.pre enc Go.Proofs.Tryz.prog Go.Proofs.Tryz.f5 [] false w args ∧ laidMetH Go.Proofs.Tryz.prog Rows.manifestOldRow.laid w) ∧ sizedMet enc Go.Proofs.Tryz.prog Go.Proofs.Tryz.f5 (OpenSpec.ofChange Rows.manifestOldSpec) false w args) (Rows.manifestOldSpec.post enc Go.Proofs.Tryz.prog Go.Proofs.Tryz.f5 false true false false) := by
  refine law_laid (C := Go.Proofs.Tryz.checked) (tb := 4) (L := Rows.manifestOldRow.laid) manifestOld_own manifestOld_laid started (by kernel_rfl) Go.Proofs.Tryz.func5 rfl rfl Go.Proofs.Tryz.underlying4 ?_ ?_
    (ChangeSpec.witness_shaped (enc := enc) (C := Go.Proofs.Tryz.checked) (os := os) (X := fun w _ => laidMetH Go.Proofs.Tryz.prog Rows.manifestOldRow.laid w) false (World.doorLaid Go.Proofs.Tryz.prog 400 os) #[.slice none 0 0, .slice none 0 0] 8 rfl (World.shaped_of_RefB (by kernel_rfl) (by kernel_rfl)) (by kernel_rfl) (by kernel_rfl) (by kernel_rfl) (manifestOld_door os _)) (fun W base args ds ps hval hA => manifestOld_walk W base args ds ps hval hA)
  · intro t ht
    rw [Go.Proofs.Tryz.params5] at ht
    simp only [List.mem_cons, List.not_mem_nil, or_false] at ht
    rcases ht with rfl | rfl
    all_goals exact ⟨by kernel_rfl, of_decide_eq_true (by kernel_rfl)⟩
  · intro ds hd
    rw [Go.Proofs.Tryz.params5] at hd
    match ds, hd with
    | [d0, d1], _ => rfl
theorem manifestOld_holds : Rows.ManifestOldSaid :=
  OpenClaim.holds_of_wide 5 Go.Proofs.Tryz.f5 rfl rfl rfl rfl rfl rfl rfl ⟨rfl, rfl, rfl, rfl, rfl⟩ rfl rfl rfl rfl rfl (by kernel_rfl) Go.Proofs.Tryz.func5 (by kernel_rfl)
    (of_decide_eq_true (by kernel_rfl)) (by unfold Func.isWrapper; first | (rw [if_pos (by decide +kernel)]; kernel_rfl) | (rw [if_neg (by decide +kernel)]; exact ⟨rfl, rfl⟩))
    (fun os started H enc _ => manifestOld_lifted os started H enc)
theorem manifestOld_card : Rows.ManifestOldCardSaid :=
  Claim7.holds_tied_plain_at .later [] [.data, .data, .data] true (true, "02b64a9935b2fbb4c7b399fd1a7305423e9169164337d0f06e6b342f00c016f9") true
    manifestOld_holds (fun _ h => by cases h) (by kernel_rfl) (fun _ h => by cases h) manifestOld_row_tie rfl ⟨rfl, rfl⟩ (by kernel_rfl) rfl
    (fun f fn hf hfn => by
      obtain rfl : f = 5 := Option.some.inj ((show Go.Proofs.Tryz.prog.funcNamed Rows.manifestOldRow.func = some 5 by kernel_rfl).symm.trans hf) |>.symm
      obtain rfl : fn = Go.Proofs.Tryz.f5 := (Option.some.inj (Go.Proofs.Tryz.func5.symm.trans hfn)).symm
      exact ⟨by kernel_rfl, fun j t ht => by
        rw [Go.Proofs.Tryz.params5] at ht
        have hall : (Go.Proofs.Tryz.f5.params.toList.all fun u => !Go.Proofs.Tryz.prog.wantsStandIn u) = true := by kernel_rfl
        have hm : t ∈ Go.Proofs.Tryz.f5.params.toList := by rw [Go.Proofs.Tryz.params5]; exact List.mem_of_getElem? (by simpa using ht)
        exact (show Go.Proofs.Tryz.prog.wantsStandIn t = false by simpa using List.all_eq_true.1 hall t hm)⟩)
    (by kernel_rfl)
#print axioms manifestOld_card
end Go.Proofs.YtiadjkjlifnopaaGreatDoor
