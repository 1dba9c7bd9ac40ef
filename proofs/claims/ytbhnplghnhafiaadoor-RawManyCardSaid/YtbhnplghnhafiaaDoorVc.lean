import Derived.WalkKit
import Derived.Scope
import Derived.Orders
/-! Environments in place of frames: a walk over a partial map from slots to values; straight code by first-order steps. -/
namespace Go.Vc
open Go

abbrev Env := List (Nat × Value)

def look : Env → Nat → Option Value
  | [], _ => none
  | (k, v) :: e, t => match Nat.beq k t with
    | true => some v
    | false => look e t

def ev (e : Env) : Operand → Option Value
  | .tmp t => look e t
  | .const v => some v
  | .global g => some (.pointer (some ⟨g, 0, none⟩))
  | .func f => some (.func (.func f) #[] #[])

structure Fits (N : Nat) (e : Env) (a : Act) : Prop where
  size : a.tmps.size = N
  defers : a.defers = []
  look : ∀ t v, look e t = some v → a.tmps[t]? = some v

def SubL (e : Env) : Env → Prop
  | [] => True
  | (k, v) :: r => look e k = some v ∧ SubL e r

theorem SubL.look {e e' : Env} (h : SubL e e') : ∀ t v, Vc.look e' t = some v → Vc.look e t = some v := by
  induction e' with
  | nil => intro t v h; simp [Vc.look] at h
  | cons p r ih =>
    obtain ⟨k, u⟩ := p
    obtain ⟨h1, h2⟩ := h
    intro t v hv
    simp only [Vc.look] at hv
    split at hv
    · rename_i hk
      have : k = t := Nat.eq_of_beq_eq_true hk
      subst this
      rw [h1]; exact hv
    · exact ih h2 t v hv

theorem Fits.sub {N : Nat} {e e' : Env} {a : Act} (h : Fits N e a) (hs : SubL e e') : Fits N e' a :=
  ⟨h.size, h.defers, fun t v hv => h.look t v (hs.look t v hv)⟩

theorem Fits.ev {N : Nat} {e : Env} {a : Act} (h : Fits N e a) {x : Operand} {v : Value} (hx : ev e x = some v) : a.eval x = v := by
  cases x with
  | tmp t => simp only [Vc.ev] at hx; have := h.look t v hx; simp [Act.eval, Array.getD_eq_getD_getElem?, this]
  | const c => simpa [Vc.ev, Act.eval] using hx
  | global g => simpa [Vc.ev, Act.eval] using hx
  | func f => simpa [Vc.ev, Act.eval] using hx

def put (e : Env) : Option Tmp → Value → Env
  | some d, v => (d, v) :: e
  | none, _ => e

def dstOk (N : Nat) : Option Tmp → Bool
  | some d => Nat.blt d N
  | none => true

theorem Fits.put {N : Nat} {e : Env} {a : Act} (h : Fits N e a) {d : Option Tmp} (hd : dstOk N d = true) (v : Value) : Fits N (put e d v) (a.put d v) := by
  cases d with
  | none => exact h
  | some d =>
    have hd' : d < N := by simpa [dstOk, Nat.blt_eq] using hd
    refine ⟨by simp [Act.put, h.size], h.defers, fun t u hu => ?_⟩
    simp only [Vc.put, Vc.look] at hu
    split at hu
    · rename_i hk
      have : d = t := Nat.eq_of_beq_eq_true hk
      subst this
      simp [Act.put, h.size, hd']
      simpa using hu
    · rename_i hk
      have hne : d ≠ t := fun e => by subst e; simp at hk
      simp only [Act.put, Array.getElem?_setIfInBounds_ne hne]
      exact h.look t u hu

/-! ### The judgement -/
abbrev Post := Exit → Env → World → Prop

def Lift (N : Nat) (Q : Post) : Exit → Act → World → Prop := fun x a w => ∃ e, Fits N e a ∧ Q x e w

def W (P : Program) (N : Nat) (c : Code) (Q : Post) (e : Env) (w : World) : Prop := ∀ a, Fits N e a → c.wp P (Lift N Q) a w

def Then (K : Env → World → Prop) (Q : Post) : Post
  | .normal, e, w => K e w
  | x, e, w => Q x e w
def InBlock (id : Nat) (Q : Post) : Post
  | .exit i, e, w => if i = id then Q .normal e w else Q (.exit i) e w
  | x, e, w => Q x e w
def NoGoto (Q : Post) : Post
  | .goto _, _, _ => False
  | x, e, w => Q x e w

section
variable {P : Program} {N : Nat} {Q : Post} {e : Env} {w : World}

theorem W_sub {c : Code} {e' : Env} (hs : SubL e e') (h : W P N c Q e' w) : W P N c Q e w := fun a ha => h a (ha.sub hs)
theorem W_skip (h : Q .normal e w) : W P N .skip Q e w := fun _ ha => wp_skip ⟨e, ha, h⟩
theorem W_label {l : Nat} (h : Q .normal e w) : W P N (.label l) Q e w := fun _ ha => wp_label ⟨e, ha, h⟩
theorem W_exit {i : Nat} (h : Q (.exit i) e w) : W P N (.exit i) Q e w := fun _ ha => wp_exit ⟨e, ha, h⟩
theorem W_ret (h : Q .ret e w) : W P N .ret Q e w := fun _ ha => wp_ret ⟨e, ha, h⟩

theorem W_seq {x y : Code} (h : W P N x (Then (fun e w => W P N y Q e w) Q) e w) : W P N (.seq x y) Q e w := by
  intro a ha
  refine wp_seq (wp_mono (h a ha) ?_)
  rintro x a w ⟨e', hf, hq⟩
  cases x with
  | normal => exact hq a hf
  | _ => exact ⟨e', hf, hq⟩

theorem W_cond {c : Operand} {x y : Code} {b : Bool} (hc : ev e c = some (.bool b)) (h1 : b = true → W P N x Q e w) (h2 : b = false → W P N y Q e w) : W P N (.cond c x y) Q e w :=
  fun a ha => wp_cond_split (ha.ev hc) (fun hb => h1 hb a ha) (fun hb => h2 hb a ha)

theorem W_condT {c : Operand} {x y : Code} (hc : ev e c = some (.bool true)) (h1 : W P N x Q e w) : W P N (.cond c x y) Q e w :=
  W_cond hc (fun _ => h1) (fun h => by cases h)
theorem W_condF {c : Operand} {x y : Code} (hc : ev e c = some (.bool false)) (h1 : W P N y Q e w) : W P N (.cond c x y) Q e w :=
  W_cond hc (fun h => by cases h) (fun _ => h1)

theorem W_block {id : Nat} {c : Code} (h : W P N c (InBlock id Q) e w) : W P N (.block id c) Q e w := by
  intro a ha
  refine wp_block (wp_mono (h a ha) ?_)
  rintro x a w ⟨e', hf, hq⟩
  cases x with
  | exit i =>
    simp only [InBlock] at hq
    simp only [Exit.inBlock]
    split
    · rename_i hi; rw [if_pos hi] at hq; exact ⟨e', hf, hq⟩
    · rename_i hi; rw [if_neg hi] at hq; exact ⟨e', hf, hq⟩
  | _ => exact ⟨e', hf, hq⟩

theorem W_scope {c : Code} (h : W P N c (NoGoto Q) e w) : W P N (.scope c) Q e w := by
  intro a ha
  refine wp_scope_straight (wp_mono (h a ha) ?_)
  rintro x a w ⟨e', hf, hq⟩
  cases x with
  | goto l => exact hq.elim
  | _ => exact ⟨e', hf, hq⟩

/-- Any number of exits of a piece of code meet again: at one environment, for some ghost s. -/
def Meet {σ : Type} (E : σ → Env) (M : σ → World → Prop) (Q : Post) : Post
  | .normal, e, w => ∃ s, SubL e (E s) ∧ M s w
  | x, e, w => Q x e w

theorem W_meet {σ : Type} (E : σ → Env) (M : σ → World → Prop) {c : Code} (h : W P N c (Meet E M Q) e w) (hk : ∀ s w, M s w → Q .normal (E s) w) : W P N c Q e w := by
  intro a ha
  refine wp_mono (h a ha) ?_
  rintro x a w ⟨e', hf, hq⟩
  cases x with
  | normal => obtain ⟨s, hs, hm⟩ := hq; exact ⟨E s, hf.sub hs, hk s w hm⟩
  | _ => exact ⟨e', hf, hq⟩

/-- A loop: ghost state s, environment E s, invariant I, measure μ. -/
def Round {σ : Type} (E : σ → Env) (I : σ → World → Prop) (lt : σ → Prop) (Q : Post) : Post
  | .normal, e, w => ∃ s, SubL e (E s) ∧ I s w ∧ lt s
  | x, e, w => Q x e w

theorem W_loop {σ : Type} (E : σ → Env) (I : σ → World → Prop) (μ : σ → Nat) {c : Code} (s0 : σ) (hs : SubL e (E s0)) (h0 : I s0 w)
    (h : ∀ s w, I s w → W P N c (Round E I (fun s' => μ s' < μ s) Q) (E s) w) : W P N (.loop c) Q e w := by
  intro a ha
  -- the measure of a frame: by the ghost that fits; so the kit's rule is used with a ghost-carrying invariant by strong induction
  intro b k cs
  have key : ∀ n s a w, μ s = n → I s w → Fits N (E s) a →
      ∃ x a' w', (Lift N Q) x a' w' ∧ Arrives P (lone (b.at a (.code c :: .inLoop c :: k)) cs w) b k cs x a' w' := by
    intro n
    induction n using Nat.strongRecOn with
    | _ n ih =>
      intro s a w hn hI hf
      obtain ⟨x, a₁, w₁, ⟨e₁, hf₁, hq⟩, harr⟩ := h s w hI a hf b (.inLoop c :: k) cs
      cases x with
      | normal =>
        obtain ⟨s', hs', hI', hlt⟩ := hq
        obtain ⟨x₂, a₂, w₂, hq₂, harr₂⟩ := ih (μ s') (hn ▸ hlt) s' a₁ w₁ rfl hI' (hf₁.sub hs')
        exact ⟨x₂, a₂, w₂, hq₂, .of_steps (Steps.trans harr (.one step_inLoop)) harr₂⟩
      | exit id => exact ⟨_, a₁, w₁, ⟨e₁, hf₁, hq⟩, .pass (x := .inLoop c) rfl (fun _ _ => .inl (by simp)) harr⟩
      | goto l => exact ⟨_, a₁, w₁, ⟨e₁, hf₁, hq⟩, .pass (x := .inLoop c) rfl (fun _ _ => .inl (by simp)) harr⟩
      | ret => exact ⟨_, a₁, w₁, ⟨e₁, hf₁, hq⟩, .pass (x := .inLoop c) rfl (fun _ _ => .inl (by simp)) harr⟩
      | panic ch => exact ⟨_, a₁, w₁, ⟨e₁, hf₁, hq⟩, .pass (x := .inLoop c) rfl (fun _ _ => .inl (by simp)) harr⟩
      | outgrown => exact ⟨_, a₁, w₁, ⟨e₁, hf₁, hq⟩, .pass (x := .inLoop c) rfl (fun _ _ => .inl (by simp)) harr⟩
  obtain ⟨x, a', w', hq, harr⟩ := key _ s0 a w rfl h0 (ha.sub hs)
  exact ⟨x, a', w', hq, .of_steps (.one step_loop) harr⟩

/-! ### Ways out -/
theorem Then_n {K : Env → World → Prop} (h : K e w) : Then K Q .normal e w := h
theorem Then_x {K : Env → World → Prop} {i : Nat} (h : Q (.exit i) e w) : Then K Q (.exit i) e w := h
theorem Then_r {K : Env → World → Prop} (h : Q .ret e w) : Then K Q .ret e w := h
theorem InBlock_n {id : Nat} (h : Q .normal e w) : InBlock id Q .normal e w := h
theorem InBlock_hit {id : Nat} (h : Q .normal e w) : InBlock id Q (.exit id) e w := by simpa [InBlock] using h
theorem InBlock_miss {id i : Nat} (hi : Nat.beq i id = false) (h : Q (.exit i) e w) : InBlock id Q (.exit i) e w := by
  have : i ≠ id := fun e => by subst e; simp at hi
  simpa [InBlock, this] using h
theorem InBlock_r {id : Nat} (h : Q .ret e w) : InBlock id Q .ret e w := h
theorem NoGoto_n (h : Q .normal e w) : NoGoto Q .normal e w := h
theorem NoGoto_x {i : Nat} (h : Q (.exit i) e w) : NoGoto Q (.exit i) e w := h
theorem NoGoto_r (h : Q .ret e w) : NoGoto Q .ret e w := h
theorem Meet_x {σ : Type} {E : σ → Env} {M : σ → World → Prop} {i : Nat} (h : Q (.exit i) e w) : Meet E M Q (.exit i) e w := h
theorem Meet_r {σ : Type} {E : σ → Env} {M : σ → World → Prop} (h : Q .ret e w) : Meet E M Q .ret e w := h
theorem Meet_n {σ : Type} {E : σ → Env} {M : σ → World → Prop} (s : σ) (hs : SubL e (E s)) (hm : M s w) : Meet E M Q .normal e w := ⟨s, hs, hm⟩
theorem Round_x {σ : Type} {E : σ → Env} {I : σ → World → Prop} {lt : σ → Prop} {i : Nat} (h : Q (.exit i) e w) : Round E I lt Q (.exit i) e w := h
theorem Round_r {σ : Type} {E : σ → Env} {I : σ → World → Prop} {lt : σ → Prop} (h : Q .ret e w) : Round E I lt Q .ret e w := h
theorem Round_n {σ : Type} {E : σ → Env} {I : σ → World → Prop} {lt : σ → Prop} (s : σ) (hs : SubL e (E s)) (hi : I s w) (hl : lt s) : Round E I lt Q .normal e w := ⟨s, hs, hi, hl⟩

/-! ### Regions -/
def WL (P : Program) (N : Nat) (ops : Array Oper) (l : List Oper) (Q : Post) (e : Env) (w : World) : Prop := ∀ a, Fits N e a → wpList P ops (Lift N Q) l a w

/-- One operation: it yields a value, and goes on. -/
def OpW (P : Program) (N : Nat) (o : Oper) (e : Env) (w : World) (K : Value → World → Prop) : Prop :=
  ∀ a, Fits N e a → ∀ (K' : Act → World → Prop) (Q' : Exit → Act → World → Prop), (∀ v w', K v w' → K' (a.put o.dst v) w') → o.wp P a w K' Q'

theorem W_region {id : Nat} {l : List Oper} (h : WL P N l.toArray l Q e w) : W P N (.region id l.toArray false) Q e w :=
  fun a ha => wp_region_lit (h a ha)

variable {ops : Array Oper} {rest : List Oper} {o : Oper}
theorem WL_sub {l : List Oper} {e' : Env} (hs : SubL e e') (h : WL P N ops l Q e' w) : WL P N ops l Q e w := fun a ha => h a (ha.sub hs)
theorem WL_nil (h : Q .normal e w) : WL P N ops [] Q e w := fun _ ha => wpList_nil ⟨e, ha, h⟩
theorem WL_op (hg : o.guard = none) (hd : dstOk N o.dst = true) (h : OpW P N o e w (fun v w' => WL P N ops rest Q (put e o.dst v) w')) : WL P N ops (o :: rest) Q e w :=
  fun a ha => wpList_plain hg fun K hK => h a ha K _ fun v _ hv => hK _ _ (hv _ (ha.put hd v))

theorem WL_some {d : Nat} (hg : o.guard = none) (hdst : o.dst = some d) (hd : Nat.blt d N = true) (h : OpW P N o e w (fun v w' => WL P N ops rest Q ((d, v) :: e) w')) : WL P N ops (o :: rest) Q e w :=
  WL_op hg (by rw [hdst]; exact hd) (by rw [hdst]; exact h)
theorem WL_none (hg : o.guard = none) (hdst : o.dst = none) (h : OpW P N o e w (fun _ w' => WL P N ops rest Q e w')) : WL P N ops (o :: rest) Q e w :=
  WL_op hg (by rw [hdst]; rfl) (by rw [hdst]; exact h)

def guardVal (ops : Array Oper) (e : Env) (j : Nat) : Option Value :=
  match (ops[j]?).bind (·.dst) with
  | some d => look e d
  | none => none

theorem wanted_of {a : Act} (ha : Fits N e a) {j : Nat} {want b : Bool} (hg : o.guard = some (j, want)) (hv : guardVal ops e j = some (.bool b)) :
    Region.wanted o (yielded ops a.tmps) = (b == want) := by
  unfold guardVal at hv
  unfold Region.wanted yielded
  rw [hg]
  cases hd : (ops[j]?).bind (·.dst) with
  | none => simp [hd] at hv
  | some d =>
    simp only [hd] at hv
    have := ha.look d _ hv
    simp only [hd, Option.bind_some, this]
    cases b <;> cases want <;> rfl

theorem WL_guard {j : Nat} {want b : Bool} (hg : o.guard = some (j, want)) (hv : guardVal ops e j = some (.bool b)) (hd : dstOk N o.dst = true)
    (h1 : b = want → OpW P N o e w (fun v w' => WL P N ops rest Q (put e o.dst v) w'))
    (h2 : b = !want → WL P N ops rest Q (put e o.dst undef) w) : WL P N ops (o :: rest) Q e w := by
  intro a ha
  have hw := wanted_of (o := o) ha hg hv
  unfold wpList
  rw [hw]
  by_cases hb : b = want
  · subst hb
    simp only [beq_self_eq_true, if_true]
    exact .inl (h1 rfl a ha _ _ fun v _ hv => hv _ (ha.put hd v))
  · have : b = !want := by cases b <;> cases want <;> simp_all
    have h3 : (b == want) = false := by simpa using hb
    simp only [h3, Bool.false_eq_true, if_false]
    exact h2 this _ (ha.put hd undef)

theorem WL_guardT {j d : Nat} {want : Bool} (hg : o.guard = some (j, want)) (hv : guardVal ops e j = some (.bool want)) (hdst : o.dst = some d) (hd : Nat.blt d N = true)
    (h1 : OpW P N o e w (fun v w' => WL P N ops rest Q ((d, v) :: e) w')) : WL P N ops (o :: rest) Q e w :=
  WL_guard hg hv (by rw [hdst]; exact hd) (fun _ => by rw [hdst]; exact h1) (fun h => by cases want <;> cases h)
theorem WL_guardF {j d : Nat} {want b : Bool} (hg : o.guard = some (j, want)) (hv : guardVal ops e j = some (.bool b)) (hb : b = !want) (hdst : o.dst = some d) (hd : Nat.blt d N = true)
    (h2 : WL P N ops rest Q ((d, undef) :: e) w) : WL P N ops (o :: rest) Q e w :=
  WL_guard hg hv (by rw [hdst]; exact hd) (fun h => by subst hb; cases want <;> cases h) (fun _ => by rw [hdst]; exact h2)

theorem OpW_run {v : Value} {w' : World} {K : Value → World → Prop} (h : ∀ a, Fits N e a → (execOp a.eval o).run P w = .ok (.value v) w') (hK : K v w') : OpW P N o e w K := by
  intro a ha K' Q' hk
  unfold Oper.wp
  rw [h a ha, Oper.upon_value]
  exact hk _ _ hK
theorem OpW_skip {w' : World} {K : Value → World → Prop} (h : ∀ a, Fits N e a → (execOp a.eval o).run P w = .ok .skip w') (hK : K undef w') : OpW P N o e w K := by
  intro a ha K' Q' hk
  unfold Oper.wp
  rw [h a ha, Oper.upon_skip]
  exact hk _ _ hK
end
attribute [irreducible] W WL OpW Then InBlock NoGoto Meet Round
end Go.Vc
