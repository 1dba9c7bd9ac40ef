/- Part 1 of the texts that the law of the last one leans on: steps of the walk and contracts of functions. Its conditions stand in each theorem. -/
import Derived.WalkKit
import Derived.Scope
import Derived.Orders
import Derived.Lib.Hide
import Derived.Deep.Draws
import Derived.Maps.AppendAt
import Derived.Laws.MakeOwn
import Derived.Laws.OwnMore
import Derived.Laws.CopyOwn
import Derived.Lib.SliceRun
import Derived.Lib.ConvBytes
import Derived.Lib.SmallJoins
import Derived.MapKept
import Derived.Maps.RangeRun
import Derived.Laws.ResultCell
import Derived.Sort.Walk0
import Derived.Lib.AppendStr
import Derived.OwnWalk
import Derived.Test.YtiadjkjlifnopaaGreatDoorProg
import Derived.KernelRfl
set_option linter.unusedVariables false
set_option linter.unusedSimpArgs false
/-! Environments in place of frames: a walk over a partial map from slots to values; straight code by first-order steps. -/
namespace Go.Vc
open Go
abbrev Env := List (Nat × Value)
def look : Env → Nat → Option Value
 | [], _ => none
 | (k, v) :: e, t => match Nat.beq k t with
  | true => some v
  | false => look e t
def ev (e : Env) : Operand → Option Value
 | .tmp t => look e t
 | .const v => some v
 | .global g => some (.pointer (some ⟨g, 0, none⟩))
 | .func f => some (.func (.func f) #[] #[])
structure Fits (N : Nat) (e : Env) (a : Act) : Prop where
 size : a.tmps.size = N
 defers : a.defers = []
 look : ∀ t v, look e t = some v → a.tmps[t]? = some v
def SubL (e : Env) : Env → Prop
 | [] => True
 | (k, v) :: r => look e k = some v ∧ SubL e r
theorem SubL.look {e e' : Env} (h : SubL e e') : ∀ t v, Vc.look e' t = some v → Vc.look e t = some v := by
 induction e' with
 | nil => intro t v h; simp [Vc.look] at h
 | cons p r ih =>
  obtain ⟨k, u⟩ := p
  obtain ⟨h1, h2⟩ := h
  intro t v hv
  simp only [Vc.look] at hv
  split at hv
  ·rename_i hk
   have : k = t := Nat.eq_of_beq_eq_true hk
   subst this
   rw [h1]; exact hv
  ·exact ih h2 t v hv
theorem Fits.sub {N : Nat} {e e' : Env} {a : Act} (h : Fits N e a) (hs : SubL e e') : Fits N e' a :=
 ⟨h.size, h.defers, fun t v hv => h.look t v (hs.look t v hv)⟩
theorem Fits.ev {N : Nat} {e : Env} {a : Act} (h : Fits N e a) {x : Operand} {v : Value} (hx : ev e x = some v) : a.eval x = v := by
 cases x with
 | tmp t => simp only [Vc.ev] at hx; have := h.look t v hx; simp [Act.eval, Array.getD_eq_getD_getElem?, this]
 | const c => simpa [Vc.ev, Act.eval] using hx
 | global g => simpa [Vc.ev, Act.eval] using hx
 | func f => simpa [Vc.ev, Act.eval] using hx
def put (e : Env) : Option Tmp → Value → Env
 | some d, v => (d, v) :: e
 | none, _ => e
def dstOk (N : Nat) : Option Tmp → Bool
 | some d => Nat.blt d N
 | none => true
theorem Fits.put {N : Nat} {e : Env} {a : Act} (h : Fits N e a) {d : Option Tmp} (hd : dstOk N d = true) (v : Value) : Fits N (put e d v) (a.put d v) := by
 cases d with
 | none => exact h
 | some d =>
  have hd' : d < N := by simpa [dstOk, Nat.blt_eq] using hd
  refine ⟨by simp [Act.put, h.size], h.defers, fun t u hu => ?_⟩
  simp only [Vc.put, Vc.look] at hu
  split at hu
  ·rename_i hk
   have : d = t := Nat.eq_of_beq_eq_true hk
   subst this
   simp [Act.put, h.size, hd']
   simpa using hu
  ·rename_i hk
   have hne : d ≠ t := fun e => by subst e; simp at hk
   simp only [Act.put, Array.getElem?_setIfInBounds_ne hne]
   exact h.look t u hu
/-! ### The judgement -/
abbrev Post := Exit → Env → World → Prop
def Lift (N : Nat) (Q : Post) : Exit → Act → World → Prop := fun x a w => ∃ e, Fits N e a ∧ Q x e w
def W (P : Program) (N : Nat) (c : Code) (Q : Post) (e : Env) (w : World) : Prop := ∀ a, Fits N e a → c.wp P (Lift N Q) a w
def Then (K : Env → World → Prop) (Q : Post) : Post
 | .normal, e, w => K e w
 | x, e, w => Q x e w
def InBlock (id : Nat) (Q : Post) : Post
 | .exit i, e, w => if i = id then Q .normal e w else Q (.exit i) e w
 | x, e, w => Q x e w
def NoGoto (Q : Post) : Post
 | .goto _, _, _ => False
 | x, e, w => Q x e w
section
variable {P : Program} {N : Nat} {Q : Post} {e : Env} {w : World}
theorem W_skip (h : Q .normal e w) : W P N .skip Q e w := fun _ ha => wp_skip ⟨e, ha, h⟩
theorem W_label {l : Nat} (h : Q .normal e w) : W P N (.label l) Q e w := fun _ ha => wp_label ⟨e, ha, h⟩
theorem W_exit {i : Nat} (h : Q (.exit i) e w) : W P N (.exit i) Q e w := fun _ ha => wp_exit ⟨e, ha, h⟩
theorem W_ret (h : Q .ret e w) : W P N .ret Q e w := fun _ ha => wp_ret ⟨e, ha, h⟩
theorem W_seq {x y : Code} (h : W P N x (Then (fun e w => W P N y Q e w) Q) e w) : W P N (.seq x y) Q e w := by
 intro a ha
 refine wp_seq (wp_mono (h a ha) ?_)
 rintro x a w ⟨e', hf, hq⟩
 cases x with
 | normal => exact hq a hf
 | _ => exact ⟨e', hf, hq⟩
theorem W_cond {c : Operand} {x y : Code} {b : Bool} (hc : ev e c = some (.bool b)) (h1 : b = true → W P N x Q e w) (h2 : b = false → W P N y Q e w) : W P N (.cond c x y) Q e w :=
 fun a ha => wp_cond_split (ha.ev hc) (fun hb => h1 hb a ha) (fun hb => h2 hb a ha)
theorem W_condT {c : Operand} {x y : Code} (hc : ev e c = some (.bool true)) (h1 : W P N x Q e w) : W P N (.cond c x y) Q e w :=
 W_cond hc (fun _ => h1) (fun h => by cases h)
theorem W_condF {c : Operand} {x y : Code} (hc : ev e c = some (.bool false)) (h1 : W P N y Q e w) : W P N (.cond c x y) Q e w :=
 W_cond hc (fun h => by cases h) (fun _ => h1)
theorem W_block {id : Nat} {c : Code} (h : W P N c (InBlock id Q) e w) : W P N (.block id c) Q e w := by
 intro a ha
 refine wp_block (wp_mono (h a ha) ?_)
 rintro x a w ⟨e', hf, hq⟩
 cases x with
 | exit i =>
  simp only [InBlock] at hq
  simp only [Exit.inBlock]
  split
  ·rename_i hi; rw [if_pos hi] at hq; exact ⟨e', hf, hq⟩
  ·rename_i hi; rw [if_neg hi] at hq; exact ⟨e', hf, hq⟩
 | _ => exact ⟨e', hf, hq⟩
theorem W_scope {c : Code} (h : W P N c (NoGoto Q) e w) : W P N (.scope c) Q e w := by
 intro a ha
 refine wp_scope_straight (wp_mono (h a ha) ?_)
 rintro x a w ⟨e', hf, hq⟩
 cases x with
 | goto l => exact hq.elim
 | _ => exact ⟨e', hf, hq⟩
def Meet {σ : Type} (E : σ → Env) (M : σ → World → Prop) (Q : Post) : Post
 | .normal, e, w => ∃ s, SubL e (E s) ∧ M s w
 | x, e, w => Q x e w
theorem W_meet {σ : Type} (E : σ → Env) (M : σ → World → Prop) {c : Code} (h : W P N c (Meet E M Q) e w) (hk : ∀ s w, M s w → Q .normal (E s) w) : W P N c Q e w := by
 intro a ha
 refine wp_mono (h a ha) ?_
 rintro x a w ⟨e', hf, hq⟩
 cases x with
 | normal => obtain ⟨s, hs, hm⟩ := hq; exact ⟨E s, hf.sub hs, hk s w hm⟩
 | _ => exact ⟨e', hf, hq⟩
def Round {σ : Type} (E : σ → Env) (I : σ → World → Prop) (lt : σ → Prop) (Q : Post) : Post
 | .normal, e, w => ∃ s, SubL e (E s) ∧ I s w ∧ lt s
 | x, e, w => Q x e w
theorem W_loop {σ : Type} (E : σ → Env) (I : σ → World → Prop) (μ : σ → Nat) {c : Code} (s0 : σ) (hs : SubL e (E s0)) (h0 : I s0 w)
  (h : ∀ s w, I s w → W P N c (Round E I (fun s' => μ s' < μ s) Q) (E s) w) : W P N (.loop c) Q e w := by
 intro a ha
 -- the measure of a frame: by the ghost that fits; so the kit's rule is used with a ghost-carrying invariant by strong induction
 intro b k cs
 have key : ∀ n s a w, μ s = n → I s w → Fits N (E s) a →
   ∃ x a' w', (Lift N Q) x a' w' ∧ Arrives P (lone (b.at a (.code c :: .inLoop c :: k)) cs w) b k cs x a' w' := by
  intro n
  induction n using Nat.strongRecOn with
  | _ n ih =>
   intro s a w hn hI hf
   obtain ⟨x, a₁, w₁, ⟨e₁, hf₁, hq⟩, harr⟩ := h s w hI a hf b (.inLoop c :: k) cs
   cases x with
   | normal =>
    obtain ⟨s', hs', hI', hlt⟩ := hq
    obtain ⟨x₂, a₂, w₂, hq₂, harr₂⟩ := ih (μ s') (hn ▸ hlt) s' a₁ w₁ rfl hI' (hf₁.sub hs')
    exact ⟨x₂, a₂, w₂, hq₂, .of_steps (Steps.trans harr (.one step_inLoop)) harr₂⟩
   | exit id => exact ⟨_, a₁, w₁, ⟨e₁, hf₁, hq⟩, .pass (x := .inLoop c) rfl (fun _ _ => .inl (by simp)) harr⟩
   | goto l => exact ⟨_, a₁, w₁, ⟨e₁, hf₁, hq⟩, .pass (x := .inLoop c) rfl (fun _ _ => .inl (by simp)) harr⟩
   | ret => exact ⟨_, a₁, w₁, ⟨e₁, hf₁, hq⟩, .pass (x := .inLoop c) rfl (fun _ _ => .inl (by simp)) harr⟩
   | panic ch => exact ⟨_, a₁, w₁, ⟨e₁, hf₁, hq⟩, .pass (x := .inLoop c) rfl (fun _ _ => .inl (by simp)) harr⟩
   | outgrown => exact ⟨_, a₁, w₁, ⟨e₁, hf₁, hq⟩, .pass (x := .inLoop c) rfl (fun _ _ => .inl (by simp)) harr⟩
 obtain ⟨x, a', w', hq, harr⟩ := key _ s0 a w rfl h0 (ha.sub hs)
 exact ⟨x, a', w', hq, .of_steps (.one step_loop) harr⟩
/-! ### Ways out -/
theorem Then_n {K : Env → World → Prop} (h : K e w) : Then K Q .normal e w := h
theorem Then_x {K : Env → World → Prop} {i : Nat} (h : Q (.exit i) e w) : Then K Q (.exit i) e w := h
theorem Then_r {K : Env → World → Prop} (h : Q .ret e w) : Then K Q .ret e w := h
theorem InBlock_n {id : Nat} (h : Q .normal e w) : InBlock id Q .normal e w := h
theorem InBlock_hit {id : Nat} (h : Q .normal e w) : InBlock id Q (.exit id) e w := by simpa [InBlock] using h
theorem InBlock_miss {id i : Nat} (hi : Nat.beq i id = false) (h : Q (.exit i) e w) : InBlock id Q (.exit i) e w := by
 have : i ≠ id := fun e => by subst e; simp at hi
 simpa [InBlock, this] using h
theorem InBlock_r {id : Nat} (h : Q .ret e w) : InBlock id Q .ret e w := h
theorem NoGoto_n (h : Q .normal e w) : NoGoto Q .normal e w := h
theorem NoGoto_x {i : Nat} (h : Q (.exit i) e w) : NoGoto Q (.exit i) e w := h
theorem NoGoto_r (h : Q .ret e w) : NoGoto Q .ret e w := h
theorem Meet_x {σ : Type} {E : σ → Env} {M : σ → World → Prop} {i : Nat} (h : Q (.exit i) e w) : Meet E M Q (.exit i) e w := h
theorem Meet_r {σ : Type} {E : σ → Env} {M : σ → World → Prop} (h : Q .ret e w) : Meet E M Q .ret e w := h
theorem Meet_n {σ : Type} {E : σ → Env} {M : σ → World → Prop} (s : σ) (hs : SubL e (E s)) (hm : M s w) : Meet E M Q .normal e w := ⟨s, hs, hm⟩
theorem Round_x {σ : Type} {E : σ → Env} {I : σ → World → Prop} {lt : σ → Prop} {i : Nat} (h : Q (.exit i) e w) : Round E I lt Q (.exit i) e w := h
theorem Round_r {σ : Type} {E : σ → Env} {I : σ → World → Prop} {lt : σ → Prop} (h : Q .ret e w) : Round E I lt Q .ret e w := h
theorem Round_n {σ : Type} {E : σ → Env} {I : σ → World → Prop} {lt : σ → Prop} (s : σ) (hs : SubL e (E s)) (hi : I s w) (hl : lt s) : Round E I lt Q .normal e w := ⟨s, hs, hi, hl⟩
/-! ### Regions -/
def WL (P : Program) (N : Nat) (ops : Array Oper) (l : List Oper) (Q : Post) (e : Env) (w : World) : Prop := ∀ a, Fits N e a → wpList P ops (Lift N Q) l a w
def OpW (P : Program) (N : Nat) (o : Oper) (e : Env) (w : World) (K : Value → World → Prop) : Prop :=
 ∀ a, Fits N e a → ∀ (K' : Act → World → Prop) (Q' : Exit → Act → World → Prop), (∀ v w', K v w' → K' (a.put o.dst v) w') → o.wp P a w K' Q'
theorem W_region {id : Nat} {l : List Oper} (h : WL P N l.toArray l Q e w) : W P N (.region id l.toArray false) Q e w :=
 fun a ha => wp_region_lit (h a ha)
variable {ops : Array Oper} {rest : List Oper} {o : Oper}
theorem WL_sub {l : List Oper} {e' : Env} (hs : SubL e e') (h : WL P N ops l Q e' w) : WL P N ops l Q e w := fun a ha => h a (ha.sub hs)
theorem WL_nil (h : Q .normal e w) : WL P N ops [] Q e w := fun _ ha => wpList_nil ⟨e, ha, h⟩
theorem WL_op (hg : o.guard = none) (hd : dstOk N o.dst = true) (h : OpW P N o e w (fun v w' => WL P N ops rest Q (put e o.dst v) w')) : WL P N ops (o :: rest) Q e w :=
 fun a ha => wpList_plain hg fun K hK => h a ha K _ fun v _ hv => hK _ _ (hv _ (ha.put hd v))
theorem WL_some {d : Nat} (hg : o.guard = none) (hdst : o.dst = some d) (hd : Nat.blt d N = true) (h : OpW P N o e w (fun v w' => WL P N ops rest Q ((d, v) :: e) w')) : WL P N ops (o :: rest) Q e w :=
 WL_op hg (by rw [hdst]; exact hd) (by rw [hdst]; exact h)
theorem WL_none (hg : o.guard = none) (hdst : o.dst = none) (h : OpW P N o e w (fun _ w' => WL P N ops rest Q e w')) : WL P N ops (o :: rest) Q e w :=
 WL_op hg (by rw [hdst]; rfl) (by rw [hdst]; exact h)
def guardVal (ops : Array Oper) (e : Env) (j : Nat) : Option Value :=
 match (ops[j]?).bind (·.dst) with
 | some d => look e d
 | none => none
theorem wanted_of {a : Act} (ha : Fits N e a) {j : Nat} {want b : Bool} (hg : o.guard = some (j, want)) (hv : guardVal ops e j = some (.bool b)) :
  Region.wanted o (yielded ops a.tmps) = (b == want) := by
 unfold guardVal at hv
 unfold Region.wanted yielded
 rw [hg]
 cases hd : (ops[j]?).bind (·.dst) with
 | none => simp [hd] at hv
 | some d =>
  simp only [hd] at hv
  have := ha.look d _ hv
  simp only [hd, Option.bind_some, this]
  cases b <;> cases want <;> rfl
theorem WL_guard {j : Nat} {want b : Bool} (hg : o.guard = some (j, want)) (hv : guardVal ops e j = some (.bool b)) (hd : dstOk N o.dst = true)
  (h1 : b = want → OpW P N o e w (fun v w' => WL P N ops rest Q (put e o.dst v) w'))
  (h2 : b = !want → WL P N ops rest Q (put e o.dst undef) w) : WL P N ops (o :: rest) Q e w := by
 intro a ha
 have hw := wanted_of (o := o) ha hg hv
 unfold wpList
 rw [hw]
 by_cases hb : b = want
 ·subst hb
  simp only [beq_self_eq_true, if_true]
  exact .inl (h1 rfl a ha _ _ fun v _ hv => hv _ (ha.put hd v))
 ·have : b = !want := by cases b <;> cases want <;> simp_all
  have h3 : (b == want) = false := by simpa using hb
  simp only [h3, Bool.false_eq_true, if_false]
  exact h2 this _ (ha.put hd undef)
theorem WL_guardT {j d : Nat} {want : Bool} (hg : o.guard = some (j, want)) (hv : guardVal ops e j = some (.bool want)) (hdst : o.dst = some d) (hd : Nat.blt d N = true)
  (h1 : OpW P N o e w (fun v w' => WL P N ops rest Q ((d, v) :: e) w')) : WL P N ops (o :: rest) Q e w :=
 WL_guard hg hv (by rw [hdst]; exact hd) (fun _ => by rw [hdst]; exact h1) (fun h => by cases want <;> cases h)
theorem WL_guardF {j d : Nat} {want b : Bool} (hg : o.guard = some (j, want)) (hv : guardVal ops e j = some (.bool b)) (hb : b = !want) (hdst : o.dst = some d) (hd : Nat.blt d N = true)
  (h2 : WL P N ops rest Q ((d, undef) :: e) w) : WL P N ops (o :: rest) Q e w :=
 WL_guard hg hv (by rw [hdst]; exact hd) (fun h => by subst hb; cases want <;> cases h) (fun _ => by rw [hdst]; exact h2)
theorem OpW_run {v : Value} {w' : World} {K : Value → World → Prop} (h : ∀ a, Fits N e a → (execOp a.eval o).run P w = .ok (.value v) w') (hK : K v w') : OpW P N o e w K := by
 intro a ha K' Q' hk
 unfold Oper.wp
 rw [h a ha, Oper.upon_value]
 exact hk _ _ hK
theorem OpW_skip {w' : World} {K : Value → World → Prop} (h : ∀ a, Fits N e a → (execOp a.eval o).run P w = .ok .skip w') (hK : K undef w') : OpW P N o e w K := by
 intro a ha K' Q' hk
 unfold Oper.wp
 rw [h a ha, Oper.upon_skip]
 exact hk _ _ hK
end
attribute [irreducible] W WL OpW Then InBlock NoGoto Meet Round
end Go.Vc
/-! Steps: one lemma an operation. -/
namespace Go.Vc
open Go
structure TInfo where
 desc : TypeDesc
 fields : Option (List (TypeId × Nat))
 zero : Value
 size : Nat
 bytes : Nat
def TInfo.ok (P : Program) (t : TypeId) (i : TInfo) : Prop :=
 (match i.fields with
  | none => P.underlying t = some i.desc
  | some l => ∃ fs : Array Field, P.underlying t = some (.struct fs) ∧ fs.toList.map (fun f => (f.type, f.offset)) = l) ∧
 (P.info? t).map (fun j => (j.zero, j.size, j.bytes)) = some (some i.zero, i.size, i.bytes)
structure Types (P : Program) where
 tbl : TypeId → Option TInfo
 good : ∀ t i, tbl t = some i → i.ok P t
def seek : List (Nat × TInfo) → Nat → Option TInfo
 | [], _ => none
 | (k, v) :: e, t => match Nat.beq k t with
  | true => some v
  | false => seek e t
def AllOk (P : Program) : List (Nat × TInfo) → Prop
 | [] => True
 | (t, i) :: r => i.ok P t ∧ AllOk P r
theorem AllOk.seek {P : Program} : ∀ {L : List (Nat × TInfo)}, AllOk P L → ∀ t i, Vc.seek L t = some i → i.ok P t
 | [], _, t, i, h => by simp [Vc.seek] at h
 | (k, v) :: L, hl, t, i, h => by
  simp only [Vc.seek] at h
  split at h
  ·rename_i hk
   have : k = t := Nat.eq_of_beq_eq_true hk
   subst this
   injection h with h
   subst h
   exact hl.1
  ·exact AllOk.seek hl.2 t i h
def Types.of {P : Program} (L : List (Nat × TInfo)) (h : AllOk P L) : Types P := ⟨seek L, h.seek⟩
def Types.d {P : Program} (T : Types P) (t : TypeId) : Option TypeDesc := match T.tbl t with
 | some ⟨d, none, _, _, _⟩ => some d
 | _ => none
theorem Types.und' {P : Program} (T : Types P) {t : TypeId} {d : TypeDesc} (h : T.d t = some d) : P.underlying t = some d := by
 unfold Types.d at h
 split at h
 ·rename_i d' z s b hi
  injection h with h
  subst h
  exact (T.good t _ hi).1
 ·cases h
theorem Types.fs {P : Program} (T : Types P) {t : TypeId} {i : TInfo} {l : List (TypeId × Nat)} (h : T.tbl t = some i) (hl : i.fields = some l) : ∃ fs : Array Field, P.underlying t = some (.struct fs) ∧ fs.toList.map (fun f => (f.type, f.offset)) = l := by
 have := (T.good t i h).1
 rw [hl] at this
 exact this
theorem Types.inf {P : Program} (T : Types P) : ∀ t i, T.tbl t = some i → ∃ j, P.info? t = some j ∧ j.zero = some i.zero ∧ j.size = i.size ∧ j.bytes = i.bytes := by
 intro t i h
 have h2 := (T.good t i h).2
 cases hj : P.info? t with
 | none => simp [hj] at h2
 | some j => simp [hj] at h2; exact ⟨j, rfl, h2.1, h2.2.1, h2.2.2⟩
section
variable {P : Program} {N : Nat} {e : Env} {w : World} {o : Oper} {K : Value → World → Prop}
theorem op_move {x : Operand} {v : Value} (hop : o.op = .move x) (hx : ev e x = some v) (h : K v w) : OpW P N o e w K :=
 OpW_run (fun a ha => by simp [execOp, hop, ha.ev hx]) h
theorem op_assign {x : Operand} {v : Value} (hop : o.op = .assign x) (hx : ev e x = some v) (h : K v w) : OpW P N o e w K :=
 OpW_run (fun a ha => by simp [execOp, hop, ha.ev hx]) h
theorem op_pick {c x y : Operand} {b : Bool} {u v : Value} (hop : o.op = .pick c x y) (hc : ev e c = some (.bool b)) (hx : ev e (if b then x else y) = some u) (hv : u = v) (h : K v w) : OpW P N o e w K := by
 subst hv
 refine OpW_run (v := u) (w' := w) (fun a ha => ?_) h
 cases b
 ·have := ha.ev (show ev e y = some u from hx); simp [execOp, hop, ha.ev hc, asBool, this]
 ·have := ha.ev (show ev e x = some u from hx); simp [execOp, hop, ha.ev hc, asBool, this]
section
variable {x y : Operand} {t ty : TypeId} {k : IntKind} {m n : Int}
theorem bin_run {op : BinOp} {v : Value} (hop : o.op = .binOp op t x y ty) (hx : ev e x = some (.int k m)) (hy : ev e y = some (.int k n))
  (hr : (binOp op t (.int k m) (.int k n)).run P w = .ok v w) (h : K v w) : OpW P N o e w K :=
 OpW_run (fun a ha => by
  cases op <;> simp [execOp, hop, ha.ev hx, ha.ev hy, hr, eqGuard]) h
theorem op_lss (hop : o.op = .binOp .lss t x y ty) (hx : ev e x = some (.int k m)) (hy : ev e y = some (.int k n)) (h1 : m < n → K (.bool true) w) (h2 : ¬ m < n → K (.bool false) w) : OpW P N o e w K := by
 by_cases hc : m < n
 ·exact bin_run (v := .bool true) hop hx hy (by simp [binOp, Op.intCmp, hc]) (h1 hc)
 ·exact bin_run (v := .bool false) hop hx hy (by simp [binOp, Op.intCmp, hc]) (h2 hc)
theorem op_leq (hop : o.op = .binOp .leq t x y ty) (hx : ev e x = some (.int k m)) (hy : ev e y = some (.int k n)) (h1 : m ≤ n → K (.bool true) w) (h2 : ¬ m ≤ n → K (.bool false) w) : OpW P N o e w K := by
 by_cases hc : m ≤ n
 ·exact bin_run (v := .bool true) hop hx hy (by simp [binOp, Op.intCmp, hc]) (h1 hc)
 ·exact bin_run (v := .bool false) hop hx hy (by simp [binOp, Op.intCmp, hc]) (h2 hc)
theorem op_gtr (hop : o.op = .binOp .gtr t x y ty) (hx : ev e x = some (.int k m)) (hy : ev e y = some (.int k n)) (h1 : n < m → K (.bool true) w) (h2 : ¬ n < m → K (.bool false) w) : OpW P N o e w K := by
 by_cases hc : n < m
 ·exact bin_run (v := .bool true) hop hx hy (by simp [binOp, Op.intCmp, hc]) (h1 hc)
 ·exact bin_run (v := .bool false) hop hx hy (by simp [binOp, Op.intCmp, hc]) (h2 hc)
theorem op_geq (hop : o.op = .binOp .geq t x y ty) (hx : ev e x = some (.int k m)) (hy : ev e y = some (.int k n)) (h1 : n ≤ m → K (.bool true) w) (h2 : ¬ n ≤ m → K (.bool false) w) : OpW P N o e w K := by
 by_cases hc : n ≤ m
 ·exact bin_run (v := .bool true) hop hx hy (by simp [binOp, Op.intCmp, hc]) (h1 hc)
 ·exact bin_run (v := .bool false) hop hx hy (by simp [binOp, Op.intCmp, hc]) (h2 hc)
theorem op_eql (hop : o.op = .binOp .eql t x y ty) (hx : ev e x = some (.int k m)) (hy : ev e y = some (.int k n)) (h1 : m = n → K (.bool true) w) (h2 : ¬ m = n → K (.bool false) w) : OpW P N o e w K := by
 by_cases hc : m = n
 ·exact bin_run (v := .bool true) hop hx hy (by simp [binOp, Op.intCmp, hc]) (h1 hc)
 ·exact bin_run (v := .bool false) hop hx hy (by simp [binOp, Op.intCmp, hc]) (h2 hc)
theorem op_neq (hop : o.op = .binOp .neq t x y ty) (hx : ev e x = some (.int k m)) (hy : ev e y = some (.int k n)) (h1 : m ≠ n → K (.bool true) w) (h2 : m = n → K (.bool false) w) : OpW P N o e w K := by
 by_cases hc : m = n
 ·exact bin_run (v := .bool false) hop hx hy (by simp [binOp, Op.intCmp, hc]) (h2 hc)
 ·exact bin_run (v := .bool true) hop hx hy (by simp [binOp, Op.intCmp, hc]) (h1 hc)
theorem op_add {r : Int} (hop : o.op = .binOp .add t x y ty) (hx : ev e x = some (.int k m)) (hy : ev e y = some (.int k n)) (hr : k.wrap (m + n) = r) (h : K (.int k r) w) : OpW P N o e w K :=
 bin_run hop hx hy (by simp [binOp, Op.intArith, hr]) h
theorem op_subt {r : Int} (hop : o.op = .binOp .sub t x y ty) (hx : ev e x = some (.int k m)) (hy : ev e y = some (.int k n)) (hr : k.wrap (m - n) = r) (h : K (.int k r) w) : OpW P N o e w K :=
 bin_run hop hx hy (by simp [binOp, Op.intArith, hr]) h
theorem op_mul {r : Int} (hop : o.op = .binOp .mul t x y ty) (hx : ev e x = some (.int k m)) (hy : ev e y = some (.int k n)) (hr : k.wrap (m * n) = r) (h : K (.int k r) w) : OpW P N o e w K :=
 bin_run hop hx hy (by simp [binOp, Op.intArith, hr]) h
theorem op_quo {r : Int} (hop : o.op = .binOp .quo t x y ty) (hx : ev e x = some (.int k m)) (hy : ev e y = some (.int k n)) (h0 : n ≠ 0) (hr : k.wrap (m.tdiv n) = r) (h : K (.int k r) w) : OpW P N o e w K :=
 bin_run hop hx hy (by simp [binOp, Op.intDiv, h0, hr]) h
theorem op_rem {r : Int} (hop : o.op = .binOp .rem t x y ty) (hx : ev e x = some (.int k m)) (hy : ev e y = some (.int k n)) (h0 : n ≠ 0) (hr : m.tmod n = r) (h : K (.int k r) w) : OpW P N o e w K :=
 bin_run hop hx hy (by simp [binOp, Op.intDiv, h0, hr]) h
end
theorem op_not {x : Operand} {t : TypeId} {b c : Bool} (hop : o.op = .unOp .not t x) (hx : ev e x = some (.bool b)) (hb : (!b) = c) (h : K (.bool c) w) : OpW P N o e w K :=
 OpW_run (fun a ha => by simp [execOp, hop, ha.ev hx, Op.unary, hb]) h
theorem op_notT {x : Operand} {t : TypeId} (hop : o.op = .unOp .not t x) (hx : ev e x = some (.bool true)) (h : K (.bool false) w) : OpW P N o e w K := op_not hop hx rfl h
theorem op_notF {x : Operand} {t : TypeId} (hop : o.op = .unOp .not t x) (hx : ev e x = some (.bool false)) (h : K (.bool true) w) : OpW P N o e w K := op_not hop hx rfl h
def nth : List Value → Nat → Option Value
 | [], _ => none
 | v :: _, 0 => some v
 | _ :: r, n + 1 => nth r n
theorem nth_eq : ∀ (l : List Value) (n : Nat), nth l n = l[n]?
 | [], n => by simp [nth]
 | v :: r, 0 => rfl
 | v :: r, n + 1 => by simp [nth, nth_eq r n]
theorem op_extract {x : Operand} {i : Nat} {vs : Array Value} {v : Value} (hop : o.op = .extract x i) (hx : ev e x = some (.tuple vs)) (hv : nth vs.toList i = some v) (h : K v w) : OpW P N o e w K := by
 have hv' : vs[i]? = some v := by rw [nth_eq] at hv; simpa using hv
 exact OpW_run (fun a ha => by simp [execOp, hop, ha.ev hx, Instr.extract, hv']) h
theorem op_len_slice (T : Types P) {x : Operand} {t el : TypeId} {ts : Array TypeId} {A : Option Addr} {n c : Nat}
  (hop : o.op = .call { callee := .builtin .len, args := #[x], argTypes := ts }) (hts : ts = #[t]) (hx : ev e x = some (.slice A n c)) (ht : T.d t = some (.slice el)) (h : K (.int .i64 n) w) : OpW P N o e w K := by
 subst hts
 exact OpW_run (fun a ha => by simp [execOp, hop, ha.ev hx, resolve, invoke, builtin, Builtin.len_, run_underlying (T.und' ht), goInt]) h
theorem op_len_string (T : Types P) {x : Operand} {t : TypeId} {ts : Array TypeId} {s : ByteArray}
  (hop : o.op = .call { callee := .builtin .len, args := #[x], argTypes := ts }) (hts : ts = #[t]) (hx : ev e x = some (.string s)) (ht : T.d t = some .string) (h : K (.int .i64 s.size) w) : OpW P N o e w K := by
 subst hts
 exact OpW_run (fun a ha => by simp [execOp, hop, ha.ev hx, resolve, invoke, builtin, Builtin.len_, run_underlying (T.und' ht), goInt]) h
theorem op_max {x y : Operand} {ts : Array TypeId} {k : IntKind} {m n : Int}
  (hop : o.op = .call { callee := .builtin .max, args := #[x, y], argTypes := ts }) (hx : ev e x = some (.int k m)) (hy : ev e y = some (.int k n)) (h : K (.int k (max m n)) w) : OpW P N o e w K := by
 refine OpW_run (v := .int k (if n > m then n else m)) (w' := w) (fun a ha => by simp [execOp, hop, ha.ev hx, ha.ev hy, resolve, invoke, builtin, Builtin.max_, Builtin.max2]) ?_
 have : (if n > m then n else m) = max m n := by split <;> omega
 rw [this]; exact h
theorem op_min {x y : Operand} {ts : Array TypeId} {k : IntKind} {m n : Int}
  (hop : o.op = .call { callee := .builtin .min, args := #[x, y], argTypes := ts }) (hx : ev e x = some (.int k m)) (hy : ev e y = some (.int k n)) (h : K (.int k (min m n)) w) : OpW P N o e w K := by
 refine OpW_run (v := .int k (if n < m then n else m)) (w' := w) (fun a ha => by simp [execOp, hop, ha.ev hx, ha.ev hy, resolve, invoke, builtin, Builtin.min_, Builtin.min2]) ?_
 have : (if n < m then n else m) = min m n := by split <;> omega
 rw [this]; exact h
/-! ### Slices: addresses, cuts -/
theorem op_index_slice (T : Types P) {x y : Operand} {t el : TypeId} {ad : Addr} {n c : Nat} {k : IntKind} {i : Int} {j : TInfo}
  (hop : o.op = .indexAddr t x y) (hx : ev e x = some (.slice (some ad) n c)) (hy : ev e y = some (.int k i)) (ht : T.d t = some (.slice el)) (hel : T.tbl el = some j)
  (h0 : 0 ≤ i) (h1 : i < n) {p : Addr} (hp : ad.add (i.toNat * j.size) = p) (h : K (.pointer (some p)) w) : OpW P N o e w K := by
 subst hp
 obtain ⟨q, hq, _, hs, _⟩ := T.inf el j hel
 exact OpW_run (fun a ha => by simp [execOp, hop, ha.ev hx, ha.ev hy, Instr.indexAt, asIntOf, run_underlying (T.und' ht), h0, h1, sizeOf, typeInfo, hq, hs]) h
theorem op_index_nat (T : Types P) {x y : Operand} {t el : TypeId} {ad : Addr} {n c : Nat} {k : IntKind} {i : Nat} {j : TInfo}
  (hop : o.op = .indexAddr t x y) (hx : ev e x = some (.slice (some ad) n c)) (hy : ev e y = some (.int k (i : Int))) (ht : T.d t = some (.slice el)) (hel : T.tbl el = some j)
  (hsz : Nat.beq j.size 1 = true) (h1 : i < n) (h : K (.pointer (some (ad.add i))) w) : OpW P N o e w K :=
 op_index_slice T hop hx hy ht hel (by omega) (by omega) (by rw [Int.toNat_natCast, Nat.eq_of_beq_eq_true hsz, Nat.mul_one]) h
theorem op_index_own (T : Types P) {x y : Operand} {t el : TypeId} {g : Nat} {n c : Nat} {k : IntKind} {i : Nat} {j : TInfo}
  (hop : o.op = .indexAddr t x y) (hx : ev e x = some (.slice (some ⟨g, 0, none⟩) n c)) (hy : ev e y = some (.int k (i : Int))) (ht : T.d t = some (.slice el)) (hel : T.tbl el = some j)
  (hsz : Nat.beq j.size 1 = true) (h1 : i < n) (h : K (.pointer (some ⟨g, i, none⟩)) w) : OpW P N o e w K := by
 refine op_index_nat T hop hx hy ht hel hsz h1 ?_
 have : (⟨g, 0, none⟩ : Addr).add i = ⟨g, i, none⟩ := by unfold Addr.add; split <;> simp_all
 rw [this]; exact h
theorem op_xor_u8 {x y : Operand} {t ty : TypeId} {a b : UInt8} (hop : o.op = .binOp .xor t x y ty) (hx : ev e x = some (.int .u8 (a.toNat : Int))) (hy : ev e y = some (.int .u8 (b.toNat : Int)))
  (h : K (.int .u8 ((a ^^^ b).toNat : Int)) w) : OpW P N o e w K := by
 refine bin_run (v := .int .u8 ((a ^^^ b).toNat : Int)) hop hx hy ?_ h
 have hb : ∀ c : UInt8, BitVec.ofInt 8 (c.toNat : Int) = c.toBitVec := fun c => by
  rw [BitVec.ofInt_natCast]; apply BitVec.eq_of_toNat_eq; simp
 have ha := (a ^^^ b).toNat_lt
 have hr : Op.intBits .xor .u8 (a.toNat : Int) (b.toNat : Int) = pure (Value.int .u8 ((a ^^^ b).toNat : Int)) := by
  show (pure (Value.int .u8 (IntKind.u8.wrap ((BitVec.ofInt 8 (a.toNat : Int) ^^^ BitVec.ofInt 8 (b.toNat : Int) : BitVec 8).toNat : Int))) : Sem Value) = _
  rw [hb, hb, ← UInt8.toBitVec_xor]
  have : IntKind.u8.wrap (((a ^^^ b).toBitVec).toNat : Int) = ((a ^^^ b).toNat : Int) := by
   rw [IntKind.wrap_u8]
   show ((a ^^^ b).toNat : Int) % 256 = _
   omega
  rw [this]
 simp [binOp, hr]
theorem op_slice (T : Types P) {x : Operand} {lo hi : Option Operand} {t el : TypeId} {A : Option Addr} {n c : Nat} {j : TInfo} {l h' : Nat}
  (hop : o.op = .slice t x lo hi none) (hx : ev e x = some (.slice A n c)) (ht : T.d t = some (.slice el)) (hel : T.tbl el = some j)
  (hlo : (match lo with | none => l = 0 | some y => ∃ k, ev e y = some (.int k (l : Int)))) (hhi : (match hi with | none => h' = n | some y => ∃ k, ev e y = some (.int k (h' : Int))))
  (h0 : l ≤ h') (h1 : h' ≤ c) (h : K (.slice (if c = l then A else A.map (·.add (l * j.size))) (h' - l) (c - l)) w) : OpW P N o e w K := by
 obtain ⟨q, hq, _, hs, _⟩ := T.inf el j hel
 refine OpW_run (fun a ha => ?_) h
 cases lo with
 | none =>
  cases hi with
  | none => subst hlo; subst hhi; simp [execOp, hop, ha.ev hx, Instr.sliceAt, Instr.slice, Instr.sliceBounds, run_underlying (T.und' ht), sizeOf, typeInfo, hq, hs]
  | some z =>
   obtain ⟨k, hz⟩ := hhi
   subst hlo
   simp [execOp, hop, ha.ev hx, ha.ev hz, Instr.sliceAt, Instr.slice, Instr.sliceBounds, Instr.sliceBound, asIntOf, run_underlying (T.und' ht), sizeOf, typeInfo, hq, hs, h1]
 | some y =>
  obtain ⟨k, hy⟩ := hlo
  cases hi with
  | none => subst hhi; simp [execOp, hop, ha.ev hx, ha.ev hy, Instr.sliceAt, Instr.slice, Instr.sliceBounds, Instr.sliceBound, asIntOf, run_underlying (T.und' ht), sizeOf, typeInfo, hq, hs, h0]
  | some z =>
   obtain ⟨k', hz⟩ := hhi
   simp [execOp, hop, ha.ev hx, ha.ev hy, ha.ev hz, Instr.sliceAt, Instr.slice, Instr.sliceBounds, Instr.sliceBound, asIntOf, run_underlying (T.und' ht), sizeOf, typeInfo, hq, hs, h0, h1]
/-! ### Memory -/
def isAggD : TypeDesc → Bool
 | .struct _ | .array _ _ => true
 | _ => false
def aggI (i : TInfo) : Bool := i.fields.isSome || isAggD i.desc
theorem run_isAgg (T : Types P) {t : TypeId} {i : TInfo} (ht : T.tbl t = some i) (w : World) : (isAgg t).run P w = .ok (aggI i) w := by
 have := (T.good t i ht).1
 unfold isAgg aggI
 cases hf : i.fields with
 | some l =>
  rw [hf] at this
  obtain ⟨fs, hu, _⟩ := this
  simp [run_underlying hu]
 | none =>
  rw [hf] at this
  simp only at this
  cases hd : i.desc <;> rw [hd] at this <;> simp [run_underlying this, isAggD]
theorem op_load (T : Types P) {x : Operand} {t : TypeId} {d : TInfo} {ad : Addr} {v : Value}
  (hop : o.op = .load t x) (hx : ev e x = some (.pointer (some ad))) (ht : T.tbl t = some d) (hd : aggI d = false) (hc : w.cell? ad = some v) (h : K v w) : OpW P N o e w K := by
 refine OpW_run (fun a ha => ?_) h
 have hg := run_isAgg T ht w
 rw [hd] at hg
 simp [execOp, hop, ha.ev hx, Instr.loadAt, Instr.sureAddr, loadVar, hg, load, Sem.run, hc]
end
/-! ### Entering a function -/
def argEnv : Nat → List Value → Env
 | _, [] => []
 | i, v :: l => (i, v) :: argEnv (i + 1) l
theorem look_argEnv : ∀ (l : List Value) (i t : Nat) (v : Value), look (argEnv i l) t = some v → i ≤ t ∧ l[t - i]? = some v
 | [], i, t, v, h => by simp [argEnv, look] at h
 | u :: l, i, t, v, h => by
  simp only [argEnv, look] at h
  split at h
  ·rename_i hk
   have : i = t := Nat.eq_of_beq_eq_true hk
   subst this
   exact ⟨Nat.le_refl _, by simpa using h⟩
  ·obtain ⟨h1, h2⟩ := look_argEnv l (i + 1) t v h
   refine ⟨by omega, ?_⟩
   have : t - i = (t - (i + 1)) + 1 := by omega
   rw [this]; simpa using h2
def PostF (P : Program) (fn : Func) (R : Value → World → Prop) : Post
 | .normal, e, w => ∃ v, (∀ N a, Fits N e a → (results fn a.tmps).run P w = .ok v w) ∧ R v w
 | .ret, e, w => ∃ v, (∀ N a, Fits N e a → (results fn a.tmps).run P w = .ok v w) ∧ R v w
 | _, _, _ => False
def Has (P : Program) (n : FuncId) (args : Array Value) (w : World) (R : Value → World → Prop) : Prop :=
 (∃ fn, P.funcs[n]? = some fn ∧ fn.body.isNone = false ∧ (fn.name == "runtime.NumGoroutine") = false) ∧ Calls P n args w (fun x w' => ∃ v, x = .returned v ∧ R v w')
theorem Has.mono {P : Program} {n : FuncId} {args : Array Value} {w : World} {R R' : Value → World → Prop} (h : Has P n args w R) (hr : ∀ v w', R v w' → R' v w') : Has P n args w R' :=
 ⟨h.1, h.2.mono fun _ _ ⟨v, he, hv⟩ => ⟨v, he, hr v _ hv⟩⟩
theorem enter {P : Program} {n N : Nat} {fn : Func} {c : Code} {args : Array Value} {e : Env} {w : World} {R : Value → World → Prop}
  (hf : P.funcs[n]? = some fn) (hb : fn.body = some c) (hn : fn.ntmps = N) (hnm : (fn.name == "runtime.NumGoroutine") = false) (hN : Nat.ble args.size N = true) (he : SubL (argEnv 0 args.toList) e)
  (h : W P N c (PostF P fn R) e w) : Has P n args w R := by
 have hN' : args.size ≤ N := Nat.le_of_ble_eq_true hN
 unfold W at h
 refine ⟨⟨fn, hf, by simp [hb], hnm⟩, calls_of_wp hf hb (wp_mono (h ⟨args ++ Array.replicate (fn.ntmps - args.size) undef, []⟩ ?_) ?_)⟩
 ·refine Fits.sub ⟨by simp [hn]; omega, rfl, fun t v hv => ?_⟩ he
  obtain ⟨_, h2⟩ := look_argEnv _ _ _ _ hv
  have hlt : t < args.size := by simpa using (List.getElem?_eq_some_iff.1 h2).1
  simp [Array.getElem?_append, hlt] at h2 ⊢
  exact h2
 ·rintro x a w ⟨e', hfit, hq⟩
  cases x with
  | normal => obtain ⟨v, hr, hR⟩ := hq; exact ⟨hfit.defers, v, hr _ _ hfit, v, rfl, hR⟩
  | ret => obtain ⟨v, hr, hR⟩ := hq; exact ⟨hfit.defers, v, hr _ _ hfit, v, rfl, hR⟩
  | _ => exact hq.elim
section
variable {P : Program} {fn : Func} {R : Value → World → Prop} {e : Env} {w : World} {x : Exit}
theorem post0 (hx : x = .ret ∨ x = .normal) (h : fn.results = #[]) (hR : R (.tuple #[]) w) : PostF P fn R x e w := by
 rcases hx with rfl | rfl <;> exact ⟨_, fun N a _ => results_none h _ P w, hR⟩
theorem post1 {t : Tmp} {v : Value} (hx : x = .ret ∨ x = .normal) (h : fn.results = #[.tmp t]) (hv : look e t = some v) (hR : R v w) : PostF P fn R x e w := by
 have : ∀ N a, Fits N e a → (results fn a.tmps).run P w = .ok v w := fun N a ha => by
  have := ha.look t v hv
  rw [results_tmp h]; simp [Array.getD_eq_getD_getElem?, this]
 rcases hx with rfl | rfl <;> exact ⟨_, this, hR⟩
theorem post2 {t u : Tmp} {v v' : Value} (hx : x = .ret ∨ x = .normal) (h : fn.results = #[.tmp t, .tmp u]) (hv : look e t = some v) (hv' : look e u = some v') (hR : R (.tuple #[v, v']) w) : PostF P fn R x e w := by
 have : ∀ N a, Fits N e a → (results fn a.tmps).run P w = .ok (.tuple #[v, v']) w := fun N a ha => by
  have h1 := ha.look t v hv
  have h2 := ha.look u v' hv'
  rw [results_tmp2 h]; simp [Array.getD_eq_getD_getElem?, h1, h2]
 rcases hx with rfl | rfl <;> exact ⟨_, this, hR⟩
end
attribute [irreducible] PostF
end Go.Vc
/-! Memory: what a step changes; blocks; slices that read as lists; slices of the call's own. -/
namespace Go.Vc
open Go Go.RowKit
structure Chg (S : List Nat) (w w' : World) : Prop where
 os : w'.os = w.os
 tape : w'.tape = w.tape
 output : w'.output = w.output
 size : w.heap.size ≤ w'.heap.size
 keep : ∀ k, k < w.heap.size → k ∉ S → w'.heap[k]? = w.heap[k]?
theorem Chg.refl (S : List Nat) (w : World) : Chg S w w := ⟨rfl, rfl, rfl, Nat.le_refl _, fun _ _ _ => rfl⟩
theorem Chg.mono {S S' : List Nat} {w w' : World} (h : Chg S w w') (hs : ∀ k ∈ S, k < w.heap.size → k ∈ S') : Chg S' w w' :=
 ⟨h.os, h.tape, h.output, h.size, fun k hk hn => h.keep k hk fun hm => hn (hs k hm hk)⟩
theorem Chg.trans {S S' : List Nat} {a b c : World} (h : Chg S a b) (k : Chg S' b c) (hs : ∀ i ∈ S', i < a.heap.size → i ∈ S) : Chg S a c :=
 ⟨k.os.trans h.os, k.tape.trans h.tape, k.output.trans h.output, Nat.le_trans h.size k.size,
  fun i hi hn => (k.keep i (Nat.lt_of_lt_of_le hi h.size) fun hm => hn (hs i hm hi)).trans (h.keep i hi hn)⟩
theorem Chg.trans' {S : List Nat} {a b c : World} (h : Chg S a b) (k : Chg [] b c) : Chg S a c := h.trans k (fun _ hm => by cases hm)
theorem Chg.drew (S : List Nat) (w : World) : Chg S w w.drew := ⟨rfl, rfl, rfl, Nat.le_refl _, fun _ _ _ => rfl⟩
theorem Chg.drawn (S : List Nat) (w : World) (n : Nat) : Chg S w { w with drawn := n } := ⟨rfl, rfl, rfl, Nat.le_refl _, fun _ _ _ => rfl⟩
theorem Chg.drewN (S : List Nat) (w : World) (n : Nat) : Chg S w (w.drewN n) := ⟨rfl, rfl, rfl, Nat.le_refl _, fun _ _ _ => rfl⟩
theorem Chg.below {w w' : World} (h : Chg [] w w') : Below w.heap.size w w' := ⟨h.os, h.tape, h.output, h.size, fun k hk => h.keep k hk (by simp)⟩
theorem Chg.of_below {w w' : World} (h : Below w.heap.size w w') : Chg [] w w' := ⟨h.os, h.tape, h.output, h.size, fun k hk _ => h.block k hk⟩
theorem Chg.of_grown {w w' : World} {row : Option Nat} (h : w.grownBy w' row) : Chg row.toList w w' :=
 ⟨h.os, h.tape, h.output, h.size, fun k hk hn => h.block k hk fun e => hn (by rw [← e]; simp)⟩
theorem Chg.alloc (w : World) (o : Obj) : Chg [] w (w.alloc o) := ⟨rfl, rfl, rfl, by simp, fun k hk _ => Below.heap_alloc w o k hk⟩
theorem Chg.setCell (w : World) (p : Addr) (u : Value) : Chg [p.block] w (w.setCell p u) :=
 ⟨rfl, rfl, rfl, by simp [World.setCell], fun k _ hn => Below.heap_setCell w p u k (by simpa using hn)⟩
theorem Chg.cell {S : List Nat} {w w' : World} (h : Chg S w w') {p : Addr} {v : Value} (hc : w.cell? p = some v) (hn : p.block ∉ S) : w'.cell? p = some v :=
 (World.cell?_of_block (h.keep _ (World.block_lt_of_cell? w p hc) hn)).trans hc
theorem Chg.cell0 {w w' : World} (h : Chg [] w w') {p : Addr} {v : Value} (hc : w.cell? p = some v) : w'.cell? p = some v := h.cell hc (by simp)
def Blk (w : World) (g : Nat) (t : TypeId) (cs : List Value) : Prop := w.heap[g]? = some (.cells cs.toArray t (0, 0))
theorem Blk.lt {w : World} {g : Nat} {t : TypeId} {cs : List Value} (h : Blk w g t cs) : g < w.heap.size := (Array.getElem?_eq_some_iff.1 h).1
theorem Blk.cell {w : World} {g : Nat} {t : TypeId} {cs : List Value} (h : Blk w g t cs) {i : Nat} {v : Value} (hv : cs[i]? = some v) : w.cell? ⟨g, i, none⟩ = some v := by
 rw [cell_of_row w g i cs.toArray t (0, 0) h]; simpa using hv
theorem Blk.frozen {w : World} {g : Nat} {t : TypeId} {cs : List Value} (h : Blk w g t cs) (i : Nat) : w.frozen? ⟨g, i, none⟩ = false := by
 unfold Blk at h; simp [World.frozen?, h]
theorem Blk.keep {S : List Nat} {w w' : World} {g : Nat} {t : TypeId} {cs : List Value} (h : Blk w g t cs) (hk : Chg S w w') (hn : g ∉ S) : Blk w' g t cs := (hk.keep g h.lt hn).trans h
theorem Blk.keep0 {w w' : World} {g : Nat} {t : TypeId} {cs : List Value} (h : Blk w g t cs) (hk : Chg [] w w') : Blk w' g t cs := h.keep hk (by simp)
theorem Blk.set_ {w : World} {g : Nat} {t : TypeId} {cs : List Value} (h : Blk w g t cs) (i : Nat) (u : Value) : Blk (w.setCell ⟨g, i, none⟩ u) g t (cs.set i u) := by
 unfold Blk at h ⊢
 simp [World.setCell, Array.getElem?_modify, h]
theorem Blk.new (w : World) (t : TypeId) (cs : Array Value) : Blk (w.alloc (.cells cs t)) w.heap.size t cs.toList := by
 unfold Blk; rw [heap_alloc_new]
theorem Blk.ne_ {w : World} {g g' : Nat} {t t' : TypeId} {cs cs' : List Value} (h : Blk w g t cs) (h' : Blk w g' t' cs') (hne : t ≠ t') : g ≠ g' := by
 rintro rfl
 unfold Blk at h h'
 rw [h] at h'
 injection h' with h'
 injection h' with _ ht
 exact hne ht
/-! ### Slices that read as lists -/
def SliceOf {α : Type} (R : World → Value → α → Prop) (w : World) (v : Value) (L : List α) : Prop :=
 ∃ A c, v = .slice A L.length c ∧ L.length ≤ c ∧ c ≤ maxLen ∧ ∀ i x, L[i]? = some x → ∃ ad u, A = some ad ∧ w.cell? (ad.add i) = some u ∧ R w u x
def Ru8 (_ : World) (v : Value) (x : UInt8) : Prop := v = .int .u8 (x.toNat : Int)
def Ri64 (_ : World) (v : Value) (x : Int) : Prop := v = .int .i64 x ∧ -9223372036854775808 ≤ x ∧ x ≤ 9223372036854775807
def Rbool (_ : World) (v : Value) (x : Bool) : Prop := v = .bool x
def Rstr (_ : World) (v : Value) (x : ByteArray) : Prop := v = .string x ∧ x.size ≤ maxLen
def Kept {α : Type} (R : World → Value → α → Prop) : Prop := ∀ w w' v x, Chg [] w w' → R w v x → R w' v x
theorem Ru8.kept : Kept Ru8 := fun _ _ _ _ _ h => h
theorem Ri64.kept : Kept Ri64 := fun _ _ _ _ _ h => h
theorem Rbool.kept : Kept Rbool := fun _ _ _ _ _ h => h
theorem Rstr.kept : Kept Rstr := fun _ _ _ _ _ h => h
section
variable {α : Type} {R : World → Value → α → Prop} {w w' : World} {v : Value} {L : List α}
theorem SliceOf.kept (hR : Kept R) : Kept (SliceOf R) := by
 rintro w w' v L hc ⟨A, c, rfl, h1, h2, h⟩
 refine ⟨A, c, rfl, h1, h2, fun i x hx => ?_⟩
 obtain ⟨ad, u, rfl, hu, hr⟩ := h i x hx
 exact ⟨ad, u, rfl, hc.cell0 hu, hR _ _ _ _ hc hr⟩
theorem SliceOf.nil (R : World → Value → α → Prop) (w : World) : SliceOf R w (.slice none 0 0) [] := ⟨none, 0, rfl, Nat.le_refl _, Nat.zero_le _, fun i x h => by simp at h⟩
theorem SliceOf.mk {A : Option Addr} {n c : Nat} (hn : n = L.length) (h1 : L.length ≤ c) (h2 : c ≤ maxLen) (h : ∀ i x, L[i]? = some x → ∃ ad u, A = some ad ∧ w.cell? (ad.add i) = some u ∧ R w u x) : SliceOf R w (.slice A n c) L :=
 ⟨A, c, by rw [hn], h1, h2, h⟩
theorem SliceOf.form (h : SliceOf R w v L) : ∃ A c, v = .slice A L.length c ∧ L.length ≤ c ∧ c ≤ maxLen := let ⟨A, c, h1, h2, h3, _⟩ := h; ⟨A, c, h1, h2, h3⟩
theorem SliceOf.get {A : Option Addr} {n c : Nat} (h : SliceOf R w (.slice A n c) L) {i : Nat} {x : α} (hx : L[i]? = some x) : ∃ ad u, A = some ad ∧ w.cell? (ad.add i) = some u ∧ R w u x := by
 obtain ⟨A', c', he, _, _, hh⟩ := h
 injection he with h1 h2 h3
 subst h1
 exact hh i x hx
theorem SliceOf.len {A : Option Addr} {n c : Nat} (h : SliceOf R w (.slice A n c) L) : n = L.length ∧ L.length ≤ c ∧ c ≤ maxLen := by
 obtain ⟨A', c', he, h1, h2, _⟩ := h
 injection he with e1 e2 e3
 subst e2; subst e3
 exact ⟨rfl, h1, h2⟩
theorem block_of_add (a : Addr) (n : Nat) : (a.add n).block = a.block := by unfold Addr.add; split <;> rfl
theorem add_of_add (a : Addr) (i j : Nat) : (a.add i).add j = a.add (i + j) := by
 unfold Addr.add
 by_cases hi : i = 0 <;> by_cases hj : j = 0 <;> simp [hi, hj, Nat.add_assoc]
theorem add_plain (g j : Nat) : (⟨g, 0, none⟩ : Addr).add j = ⟨g, j, none⟩ := by unfold Addr.add; split <;> simp_all
theorem SliceOf.cut {A : Option Addr} {n c : Nat} (h : SliceOf R w (.slice A n c) L) {l k : Nat} (hlk : l ≤ k) (hk : k ≤ L.length) :
  SliceOf R w (.slice (if c = l then A else A.map (·.add (l * 1))) (k - l) (c - l)) ((L.take k).drop l) := by
 obtain ⟨hn, h1, h2⟩ := h.len
 refine ⟨(if c = l then A else A.map (·.add (l * 1))), c - l, ?_, ?_, ?_, fun i x hx => ?_⟩
 ·simp only [List.length_drop, List.length_take, Nat.min_eq_left hk]
 ·simp only [List.length_drop, List.length_take, Nat.min_eq_left hk]; omega
 ·omega
 ·rw [List.getElem?_drop, List.getElem?_take] at hx
  split at hx
  ·obtain ⟨ad, u, rfl, hu, hr⟩ := h.get hx
   have : c ≠ l := by omega
   refine ⟨ad.add (l * 1), u, by simp [this], ?_, hr⟩
   rw [add_of_add, Nat.mul_one]; exact hu
  ·cases hx
end
def Firm (S : List Nat) (w : World) (φ : World → Prop) : Prop := ∀ w1, Chg S w w1 → φ w1
section
variable {S S' : List Nat} {w w' : World} {φ : World → Prop}
theorem Firm.now (h : Firm S w φ) : φ w := h w (Chg.refl S w)
theorem Firm.step (h : Firm S w φ) (hc : Chg S' w w') (hs : ∀ k ∈ S', k < w.heap.size → k ∈ S) : Firm S w' φ :=
 fun w1 h1 => h w1 ((hc.mono hs).trans h1 (fun k hk _ => hk))
theorem Firm.step0 (h : Firm S w φ) (hc : Chg [] w w') : Firm S w' φ := h.step hc (fun k hk => by cases hk)
theorem Firm.old {w0 : World} (hs : ∀ a b, Chg [] a b → φ a → φ b) (h0 : φ w0) (hc : Chg [] w0 w) (hS : ∀ k ∈ S, w0.heap.size ≤ k) : Firm S w φ :=
 fun w1 h1 => hs w0 w1 (hc.trans h1 (fun k hk hlt => by have := hS k hk; omega)) h0
theorem Firm.more (h : Firm S w φ) (hS : ∀ k ∈ S', k < w.heap.size → k ∈ S) : Firm S' w φ := fun w1 h1 => h w1 (h1.mono hS)
theorem Firm.fresh (h : Firm S w φ) {g : Nat} (hg : w.heap.size ≤ g) : Firm (g :: S) w φ :=
 h.more (fun k hk hlt => by
   rcases List.mem_cons.1 hk with rfl | hk; · omega
   ·exact hk)
end
/-! ### Slices of the call's own (kit's 'ownsRow') -/
section
variable {w w' : World} {t : TypeId} {size n : Nat} {v : Value} {xs : List Value}
def Own (w : World) (t : TypeId) (size : Nat) (v : Value) (n : Nat) (xs : List Value) : Prop := w.ownsRow 0 t size v n xs
theorem Own.nil (w : World) (t : TypeId) (size : Nat) : Own w t size (.slice none 0 0) 0 [] := World.ownsRow_nil w 0 t size
theorem Own.keep {S : List Nat} (h : Own w t size v n xs) (hc : Chg S w w') (hn : ∀ g, v.ownBlock = some g → g ∉ S) : Own w' t size v n xs := by
 refine ⟨h.1, ?_⟩
 rcases h.2 with h2 | ⟨g, cap, cur, rfl, hb, hg, rest⟩
 ·exact .inl h2
 ·exact .inr ⟨g, cap, cur, rfl, hb, (hc.keep g (Array.getElem?_eq_some_iff.1 hg).1 (hn g rfl)).trans hg, rest⟩
theorem Own.keep0 (h : Own w t size v n xs) (hc : Chg [] w w') : Own w' t size v n xs := h.keep hc (by simp)
theorem Own.lt (h : Own w t size v n xs) {g : Nat} (hg : v.ownBlock = some g) : g < w.heap.size := (World.ownsRow.lt h g hg).2
theorem Own.form (h : Own w t size v n xs) : ∃ A c, v = .slice A n c ∧ n ≤ c ∧ c ≤ maxLen := by
 rcases h.2 with ⟨rfl, rfl⟩ | ⟨g, cap, cur, rfl, _, _, h1, h2, _⟩
 ·exact ⟨none, 0, rfl, Nat.le_refl _, Nat.zero_le _⟩
 ·exact ⟨_, cap, rfl, h1, h2⟩
theorem Own.length (h : Own w t size v n xs) : xs.length = n * size := h.1
theorem Own.mk {g cap : Nat} {cur : List Value} (h : Blk w g t cur) (hn : n ≤ cap) (hm : cap ≤ maxLen) (hl : cur.length = cap * size) (hx : cur.take (n * size) = xs) : Own w t size (.slice (some ⟨g, 0, none⟩) n cap) n xs := by
 unfold Blk at h
 refine ⟨?_, .inr ⟨g, cap, cur.toArray, rfl, Nat.zero_le _, h, hn, hm, by simpa using hl, by simpa using hx⟩⟩
 rw [← hx, List.length_take, hl]
 exact Nat.min_eq_left (Nat.mul_le_mul_right _ hn)
theorem Own.cases (h : Own w t size v n xs) : (v = .slice none 0 0 ∧ n = 0 ∧ xs = []) ∨ ∃ g cap cur, v = .slice (some ⟨g, 0, none⟩) n cap ∧ n ≤ cap ∧ cap ≤ maxLen ∧ Blk w g t cur ∧ cur.length = cap * size ∧ cur.take (n * size) = xs := by
 rcases h.2 with ⟨rfl, rfl⟩ | ⟨g, cap, cur, rfl, _, hg, h1, h2, h3, h4⟩
 ·exact .inl ⟨rfl, rfl, List.eq_nil_of_length_eq_zero (by simpa using h.1)⟩
 ·exact .inr ⟨g, cap, cur.toList, rfl, h1, h2, by unfold Blk; simpa using hg, by simpa using h3, h4⟩
theorem Own.blk (h : Own w t size v n xs) (hp : 0 < n) : ∃ g cap cur, v = .slice (some ⟨g, 0, none⟩) n cap ∧ n ≤ cap ∧ cap ≤ maxLen ∧ Blk w g t cur ∧ cur.length = cap * size ∧ cur.take (n * size) = xs := by
 rcases h.2 with ⟨rfl, rfl⟩ | ⟨g, cap, cur, rfl, _, hg, h1, h2, h3, h4⟩
 ·omega
 ·exact ⟨g, cap, cur.toList, rfl, h1, h2, by unfold Blk; simpa using hg, by simpa using h3, h4⟩
theorem Own.cell (h : Own w t size v n xs) {j : Nat} {u : Value} (hu : xs[j]? = some u) : ∃ g, v.ownBlock = some g ∧ (∃ c, v = .slice (some ⟨g, 0, none⟩) n c) ∧ w.cell? ⟨g, j, none⟩ = some u := by
 rcases h.2 with ⟨rfl, rfl⟩ | ⟨g, cap, cur, rfl, h1, hg, h2⟩
 ·have := h.1
  simp at this
  subst this
  simp at hu
 ·refine ⟨g, rfl, ⟨cap, rfl⟩, ?_⟩
  have := World.ownsRow.cells h (g := g) rfl j u hu
  rwa [add_plain] at this
theorem Own.reads {α : Type} {R : World → Value → α → Prop} {L : List α} (h : Own w t 1 v n xs) (hl : L.length = n) (hR : ∀ (i : Nat) x u, L[i]? = some x → xs[i]? = some u → R w u x) : SliceOf R w v L := by
 obtain ⟨A, c, rfl, h1, h2⟩ := h.form
 refine ⟨A, c, by rw [hl], by omega, h2, fun i x hx => ?_⟩
 have hi : i < xs.length := by have := h.1; have := (List.getElem?_eq_some_iff.1 hx).1; omega
 have hu : xs[i]? = some xs[i] := List.getElem?_eq_getElem hi
 obtain ⟨g, hg, ⟨c', hv⟩, hc⟩ := h.cell hu
 injection hv with e1 _ _
 subst e1
 exact ⟨_, _, rfl, by rw [add_plain]; exact hc, hR i x _ hx hu⟩
end
/-! ### Steps on memory -/
section
variable {P : Program} {N : Nat} {e : Env} {w : World} {o : Oper} {K : Value → World → Prop}
theorem op_store (T : Types P) {x y : Operand} {t el : TypeId} {d : TInfo} {g i : Nat} {v : Value} {cs : List Value}
  (hop : o.op = .store t x y) (hx : ev e x = some (.pointer (some ⟨g, i, none⟩))) (hy : ev e y = some v) (ht : T.tbl t = some d) (hd : d.size = 1) (hv : v.oneCell' = true)
  (hb : Blk w g el cs) (hi : i < cs.length) (h : ∀ w1, Chg [g] w w1 → Blk w1 g el (cs.set i v) → w1.heap.size = w.heap.size → K undef w1) : OpW P N o e w K := by
 obtain ⟨q, hq, _, hs, _⟩ := T.inf t d ht
 have hc : w.cell? ⟨g, i, none⟩ = some cs[i] := hb.cell (List.getElem?_eq_getElem hi)
 have hf := hb.frozen i
 refine OpW_skip (w' := w.setCell ⟨g, i, none⟩ v) (fun a ha => ?_) (h _ (Chg.setCell w ⟨g, i, none⟩ v) (hb.set_ i v) (by simp [World.setCell]))
 have hcs : v.cells = #[v] := by cases v <;> simp_all [Value.cells, Value.oneCell']
 have hst := run_store P w ⟨g, i, none⟩ v .plain hv
 simp [execOp, hop, ha.ev hx, ha.ev hy, Instr.storeAt, Instr.sureAddr, storeVar, hcs, sizeOf, typeInfo, hq, hs, hd, storeCells, Addr.add, hst, stored, hc, hf]
theorem op_call {f : Operand} {n : FuncId} {args : Array Operand} {ts : Array TypeId} {vs : Array Value} {R : Value → World → Prop}
  (hop : o.op = .call { callee := .value f, args := args, argTypes := ts }) (hf : ev e f = some (.func (.func n) #[] #[])) (hvs : args.toList.mapM (ev e) = some vs.toList)
  (hc : Has P n vs w R) (h : ∀ v w', R v w' → K v w') : OpW P N o e w K := by
 obtain ⟨⟨fn, hfn, hb, hnm⟩, hc⟩ := hc
 unfold OpW
 intro a ha K' Q' hk
 have hargs : args.map a.eval = vs := by
  have : ∀ (l : List Operand) (vs : List Value), l.mapM (ev e) = some vs → l.map a.eval = vs := by
   intro l
   induction l with
   | nil => intro vs h; simp at h; simp [h]
   | cons x l ih =>
    intro vs h
    simp only [List.mapM_cons, Option.bind_eq_bind] at h
    cases hx : ev e x with
    | none => simp [hx] at h
    | some u =>
     cases hl : l.mapM (ev e) with
     | none => simp [hx, hl] at h
     | some us =>
      simp [hx, hl] at h
      subst h
      simp [ha.ev hx, ih us hl]
  have h2 := this args.toList vs.toList hvs
  rw [← Array.toList_inj]; simpa using h2
 unfold Oper.wp
 have hb' : ¬ fn.body = none := fun e => by rw [e] at hb; simp at hb
 have hnm' : ¬ fn.name = "runtime.NumGoroutine" := fun e => by rw [e] at hnm; simp at hnm
 have hr : (execOp a.eval o).run P w = .ok (.enter n vs) w := by
  simp [execOp, hop, resolve, ha.ev hf, hargs, Deferred.ofValue, invoke, callFunc, hfn, hb', hnm']
 rw [hr, Oper.upon_enter]
 refine hc.mono ?_
 rintro x w' ⟨v, rfl, hv⟩
 exact hk _ _ (h v w' hv)
theorem op_slice_to (T : Types P) {x y : Operand} {t el : TypeId} {A : Option Addr} {n c : Nat} {j : TInfo} {h' : Nat} {k : IntKind}
  (hop : o.op = .slice t x none (some y) none) (hx : ev e x = some (.slice A n c)) (hy : ev e y = some (.int k (h' : Int))) (ht : T.d t = some (.slice el)) (hel : T.tbl el = some j)
  (h1 : h' ≤ c) (h : K (.slice A h' c) w) : OpW P N o e w K := by
 refine op_slice T (l := 0) hop hx ht hel rfl ⟨k, hy⟩ (Nat.zero_le _) h1 ?_
 have : (if c = 0 then A else A.map (·.add (0 * j.size))) = A := by
  split
  ·rfl
  ·cases A <;> simp [Addr.add]
 rw [this]; simpa using h
theorem op_load_agg (T : Types P) {x : Operand} {t el : TypeId} {d : TInfo} {g i : Nat} {cs : List Value} {c' : Array Value}
  (hop : o.op = .load t x) (hx : ev e x = some (.pointer (some ⟨g, i, none⟩))) (ht : T.tbl t = some d) (hd : aggI d = true)
  (hb : Blk w g el cs) (hi : i + d.size ≤ cs.length) (hc : ((cs.drop i).take d.size).toArray = c') (h : K (.agg c') w) : OpW P N o e w K := by
 obtain ⟨q, hq, _, hs, _⟩ := T.inf t d ht
 refine OpW_run (fun a ha => ?_) h
 have hl := run_loadCells_list (P := P) w ⟨g, i, none⟩ ((cs.drop i).take d.size) (fun j v hv => by
  rw [List.getElem?_take] at hv
  split at hv
  ·rw [List.getElem?_drop] at hv
   have : (⟨g, i, none⟩ : Addr).add j = ⟨g, i + j, none⟩ := by unfold Addr.add; split <;> simp_all
   rw [this]; exact hb.cell hv
  ·cases hv)
 have hlen : ((cs.drop i).take d.size).length = d.size := by simp; omega
 rw [hlen] at hl
 have hagg := run_isAgg T ht w
 rw [hd] at hagg
 simp [execOp, hop, ha.ev hx, Instr.loadAt, Instr.sureAddr, loadVar, hagg, sizeOf, typeInfo, hq, hs, hl, hc]
theorem op_nilCheck {x : Operand} {ad : Addr} (hop : o.op = .nilCheck x) (hx : ev e x = some (.pointer (some ad))) (h : K (.pointer (some ad)) w) : OpW P N o e w K :=
 OpW_run (fun a ha => by simp [execOp, hop, ha.ev hx]) h
theorem op_fieldAddr (T : Types P) {x : Operand} {t ft off : Nat} {i : Nat} {ad : Addr} {fs : List (TypeId × Nat)} {d d' : TInfo}
  (hop : o.op = .fieldAddr t x i) (hx : ev e x = some (.pointer (some ad))) (ht : T.tbl t = some d') (hfs : d'.fields = some fs) (hf : fs[i]? = some (ft, off)) (hft : T.tbl ft = some d) (hd : Nat.beq d.size 0 = false)
  {p : Addr} (hp : ad.add off = p) (h : K (.pointer (some p)) w) : OpW P N o e w K := by
 subst hp
 obtain ⟨fa, hu, hm⟩ := T.fs ht hfs
 obtain ⟨q, hq, _, hs, _⟩ := T.inf ft d hft
 have h0 : ¬ d.size = 0 := fun e => by rw [e] at hd; simp at hd
 have hfa : ∃ f : Field, fa[i]? = some f ∧ f.type = ft ∧ f.offset = off := by
  rw [← hm, List.getElem?_map] at hf
  cases hx : fa.toList[i]? with
  | none => simp [hx] at hf
  | some f => simp [hx] at hf; exact ⟨f, by simpa using hx, hf.1, hf.2⟩
 obtain ⟨f, hf1, hf2, hf3⟩ := hfa
 subst hf2; subst hf3
 exact OpW_run (fun a ha => by simp [execOp, hop, ha.ev hx, Instr.fieldAt, Instr.sureAddr, fieldPlace, run_underlying hu, hf1, sizeOf, typeInfo, hq, hs, h0]) h
theorem op_alloc (T : Types P) {t : TypeId} {d : TInfo} (hop : o.op = .alloc t) (ht : T.tbl t = some d)
  (h : ∀ g w1, w.heap.size ≤ g → Chg [] w w1 → Blk w1 g t d.zero.cells.toList → K (.pointer (some ⟨g, 0, none⟩)) w1) : OpW P N o e w K := by
 obtain ⟨q, hq, hz, _, _⟩ := T.inf t d ht
 refine OpW_run (w' := w.alloc (.cells d.zero.cells t)) (fun a ha => ?_) (h w.heap.size _ (Nat.le_refl _) (Chg.alloc w _) (Blk.new w t _))
 simp [execOp, hop, Instr.alloc, zeroValue, typeInfo, hq, hz, newVar, newRow]
theorem op_box {t : TypeId} {x : Operand} {v : Value} (hop : o.op = .box t x) (hx : ev e x = some v)
  (h : ∀ g w1, w.heap.size ≤ g → Chg [] w w1 → Blk w1 g t v.cells.toList → K (.pointer (some ⟨g, 0, none⟩)) w1) : OpW P N o e w K := by
 refine OpW_run (w' := w.alloc (.cells v.cells t)) (fun a ha => ?_) (h w.heap.size _ (Nat.le_refl _) (Chg.alloc w _) (Blk.new w t _))
 simp [execOp, hop, ha.ev hx, Instr.box, newVar, newRow]
theorem op_make (T : Types P) {x y : Operand} {t el : TypeId} {d : TInfo} {kl kc : IntKind} {l c : Int}
  (hop : o.op = .makeSlice t x y) (hx : ev e x = some (.int kl l)) (hy : ev e y = some (.int kc c)) (ht : T.d t = some (.slice el)) (hel : T.tbl el = some d)
  (h0 : 0 ≤ l) (h1 : l ≤ c) (hby : (d.bytes : Int) * c ≤ 281474976710656) (h63 : c ≤ 9223372036854775807)
  (h : ∀ g w1, w.heap.size ≤ g → Chg [] w w1 → Blk w1 g el (madeCells d.zero.cells (c.toNat * d.size)).toList → K (.slice (some ⟨g, 0, none⟩) l.toNat c.toNat) w1) : OpW P N o e w K := by
 obtain ⟨q, hq, hz, hs, hb⟩ := T.inf el d hel
 refine OpW_run (w' := w.alloc (.cells (madeCells d.zero.cells (c.toNat * d.size)) el)) (fun a ha => ?_) (h w.heap.size _ (Nat.le_refl _) (Chg.alloc w _) (Blk.new w el _))
 have hr := run_make (P := P) w t el q d.zero (T.und' ht) hq hz kl kc l c h0 h1 (by rw [hb]; exact hby) h63
 rw [hs] at hr
 simp [execOp, hop, ha.ev hx, ha.ev hy, hr]
theorem op_append (T : Types P) {x y : Operand} {t el : TypeId} {d : TInfo} {v : Value} {n : Nat} {xs : List Value} {A : Option Addr} {m c : Nat} {news : List Value} {ts : Array TypeId}
  (hop : o.op = .call { callee := .builtin .append, args := #[x, y], argTypes := ts }) (hts : ts = #[t, t]) (hx : ev e x = some v) (hy : ev e y = some (.slice A m c)) (ht : T.d t = some (.slice el)) (hel : T.tbl el = some d)
  (hz : Nat.beq d.zero.cells.size d.size = true) (hpos : Nat.blt 0 d.size = true)
  (hown : Own w el d.size v n xs) (hl : news.length = m * d.size) (hnews : ∀ j u, news[j]? = some u → (∃ ad, A = some ad ∧ w.cell? (ad.add j) = some u) ∧ u.oneCell' = true)
  (h63 : n + m ≤ maxLen) (hby : (n + m) * d.bytes ≤ 140737488355328)
  (h : ∀ v' w1, Own w1 el d.size v' (n + m) (xs ++ news) → Chg v.ownBlock.toList w w1 → (v'.ownBlock = v.ownBlock ∨ ∃ g, v'.ownBlock = some g ∧ w.heap.size ≤ g) → (v' = .slice none 0 0 ↔ v = .slice none 0 0 ∧ m = 0) → K v' w1) : OpW P N o e w K := by
 subst hts
 obtain ⟨q, hq, hzq, hs, hb⟩ := T.inf el d hel
 have hz' : d.zero.cells.size = d.size := Nat.eq_of_beq_eq_true hz
 have hpos' : 0 < d.size := by simpa [Nat.blt_eq] using hpos
 cases A with
 | some ad =>
  have hmem : ∀ u ∈ news, u.oneCell' = true := fun u hu => by
   obtain ⟨j, hj⟩ := List.getElem?_of_mem hu
   exact (hnews j u hj).2
  have hcell : ∀ j u, news[j]? = some u → w.cell? (ad.add j) = some u := fun j u hj => by
   obtain ⟨⟨ad', he, hc⟩, _⟩ := hnews j u hj
   injection he with he; subst he; exact hc
  obtain ⟨v', w', hrun, h2, h3, h4, h5⟩ := run_append_own_at (P := P) w 0 t o.type el q d.zero d.size d.bytes (T.und' ht) hq hzq hs hb hz' hpos' v n xs hown ad m c news hl hcell hmem h63 hby (Nat.zero_le _)
  refine OpW_run (v := v') (w' := w') (fun a ha => ?_) (h v' w' h2 (Chg.of_grown h3) (h5.imp id fun hh => ⟨_, hh, Nat.le_refl _⟩) h4)
  simp [execOp, hop, resolve, invoke, builtin, ha.ev hx, ha.ev hy, hrun]
 | none =>
  have hn0 : news = [] := by
   cases news with
   | nil => rfl
   | cons u us => obtain ⟨⟨ad', he, _⟩, _⟩ := hnews 0 u rfl; cases he
  subst hn0
  have hm : m = 0 := by
   have : m * d.size = 0 := by simpa using hl.symm
   rcases Nat.mul_eq_zero.1 this with h | h
   ·exact h
   ·omega
  subst hm
  refine OpW_run (v := v) (w' := w) (fun a ha => ?_) (h v w (by simpa using hown) (Chg.refl _ _) (.inl rfl) (by simp))
  rcases hown.2 with ⟨rfl, rfl⟩ | ⟨g, cap, cur, rfl, _, _, hnc, _⟩
  ·simp [execOp, hop, resolve, invoke, builtin, ha.ev hx, ha.ev hy, Builtin.append_, run_underlying (T.und' ht), sizeOf, typeInfo, hq, Builtin.lenOf, Builtin.firstCells]
  ·simp [execOp, hop, resolve, invoke, builtin, ha.ev hx, ha.ev hy, Builtin.append_, run_underlying (T.und' ht), sizeOf, typeInfo, hq, Builtin.lenOf, Builtin.firstCells, hnc, storeCells]
def setMany : List Value → Nat → List Value → List Value
 | cs, _, [] => cs
 | cs, i, v :: r => setMany (cs.set i v) (i + 1) r
def fillL (place : Nat → Option (Nat × Nat)) : List Value → List (Nat × Value) → Option (List Value)
 | cs, [] => some cs
 | cs, (i, v) :: r => match place i with
  | none => none
  | some (off, size) => match Nat.beq v.cells.size size && Nat.ble (off + size) cs.length with
   | true => fillL place (setMany cs off v.cells.toList) r
   | false => none
theorem foldl_set (off : Nat) : ∀ (vs : List Value) (k : Nat) (cs : List Value), (vs.zipIdx k).foldl (fun (cs : Array Value) (x : Value × Nat) => cs.setIfInBounds (off + x.2) x.1) cs.toArray = (setMany cs (off + k) vs).toArray
 | [], k, cs => rfl
 | v :: vs, k, cs => by
  simp only [List.zipIdx_cons, List.foldl_cons, setMany]
  rw [show cs.toArray.setIfInBounds (off + k) v = (cs.set (off + k) v).toArray from by simp, foldl_set off vs (k + 1)]
  rfl
theorem fillL_spec (place : Nat → Option (Nat × Nat)) : ∀ (ps : List (Nat × Value)) (cs out : List Value), fillL place cs ps = some out → Instr.fill place cs.toArray ps = some out.toArray
 | [], cs, out, h => by simp [fillL] at h; simp [Instr.fill, h]
 | (i, v) :: r, cs, out, h => by
  simp only [fillL] at h
  simp only [Instr.fill]
  cases hp : place i with
  | none => rw [hp] at h; cases h
  | some q =>
   obtain ⟨off, size⟩ := q
   rw [hp] at h
   simp only at h ⊢
   split at h
   ·rename_i hc
    simp only [Bool.and_eq_true] at hc
    have h1 : v.cells.size = size := Nat.eq_of_beq_eq_true hc.1
    have h2 : off + size ≤ cs.length := Nat.le_of_ble_eq_true hc.2
    have h3 : ¬ (v.cells.size ≠ size ∨ off + v.cells.size > cs.toArray.size) := by rw [h1]; simp; omega
    have h4 := fillL_spec place r _ out h
    have h5 : v.cells.zipIdx.foldl (fun (cs : Array Value) (x : Value × Nat) => cs.setIfInBounds (off + x.2) x.1) cs.toArray = (setMany cs off v.cells.toList).toArray := by
     have := foldl_set off v.cells.toList 0 cs
     rw [Nat.add_zero] at this
     rw [← this, ← Array.foldl_toList]
     simp
    simp only [decide_eq_true_eq, Bool.or_eq_true] at *
    rw [if_neg (by simpa using h3), h5]
    exact h4
   ·cases h
def zerosL (n : Nat) (z : List Value) : List Value := (List.replicate n z).flatten
theorem zerosL_spec (z : Array Value) (n s : Nat) (hs : z.size = s) : (Array.range (n * s)).map (fun i => z[i % z.size]!) = (zerosL n z.toList).toArray := by
 rw [← Array.toList_inj]
 simp only [Array.toList_map, Array.toList_range]
 subst hs
 induction n with
 | zero => simp [zerosL]
 | succ n ih =>
  rw [Nat.succ_mul, List.range_add, List.map_append, ih]
  unfold zerosL
  rw [List.replicate_succ', List.flatten_append]
  simp only [List.flatten_cons, List.flatten_nil, List.append_nil, List.map_map]
  congr 1
  apply List.ext_getElem?
  intro i
  by_cases h : i < z.size
  ·simp [h, Nat.mod_eq_of_lt h]
  ·simp [h]
theorem evParts {ps : Array (Nat × Operand)} {vs : List (Nat × Value)} {a : Act} (ha : Fits N e a) (h : ps.toList.mapM (fun p => (ev e p.2).map fun v => (p.1, v)) = some vs) :
  (ps.map fun (i, x) => (i, a.eval x)) = vs.toArray := by
 have : ∀ (l : List (Nat × Operand)) (vs : List (Nat × Value)), l.mapM (fun p => (ev e p.2).map fun v => (p.1, v)) = some vs → l.map (fun (i, x) => (i, a.eval x)) = vs := by
  intro l
  induction l with
  | nil => intro vs h; simp at h; simp [h]
  | cons x l ih =>
   intro vs h
   simp only [List.mapM_cons, Option.bind_eq_bind] at h
   cases hx : ev e x.2 with
   | none => simp [hx] at h
   | some u =>
    cases hl : l.mapM (fun p => (ev e p.2).map fun v => (p.1, v)) with
    | none => simp [hx, hl] at h
    | some us =>
     simp [hx, hl] at h
     subst h
     simp [ha.ev hx, ih us hl]
 have h2 := this ps.toList vs h
 rw [← Array.toList_inj]; simpa using h2
theorem op_buildSlice (T : Types P) {t el : TypeId} {d : TInfo} {ps : Array (Nat × Operand)} {n : Nat} {vs : List (Nat × Value)} {cells : List Value}
  (hop : o.op = .buildSlice t n ps) (hps : ps.toList.mapM (fun p => (ev e p.2).map fun v => (p.1, v)) = some vs) (ht : T.d t = some (.slice el)) (hel : T.tbl el = some d)
  (hn : Nat.ble (n * d.size) 16777216 = true) (hz : Nat.beq d.zero.cells.size d.size = true)
  (hf : fillL (fun i => some (i * d.size, d.size)) (zerosL n d.zero.cells.toList) vs = some cells)
  (h : ∀ g w1, w.heap.size ≤ g → Chg [] w w1 → Blk w1 g el cells → K (.slice (some ⟨g, 0, none⟩) n n) w1) : OpW P N o e w K := by
 obtain ⟨q, hq, hzq, hs, hb⟩ := T.inf el d hel
 have hn' : ¬ 2 ^ 24 < n * d.size := by have := Nat.le_of_ble_eq_true hn; omega
 have hzs : d.zero.cells.size = d.size := Nat.eq_of_beq_eq_true hz
 have hf' := fillL_spec _ _ _ _ hf
 have hz2 := zerosL_spec d.zero.cells n d.size hzs
 rw [← hz2] at hf'
 refine OpW_run (w' := w.alloc (.cells cells.toArray el)) (fun a ha => ?_) (h w.heap.size _ (Nat.le_refl _) (Chg.alloc w _) (by have := Blk.new w el cells.toArray; simpa using this))
 have hp := evParts ha hps
 by_cases h0 : n * d.size = 0
 ·rw [h0] at hf'
  have hr : (Array.range 0).map (fun i => d.zero.cells[i % d.zero.cells.size]!) = #[] := by simp
  rw [hr] at hf'
  simp [execOp, hop, hp, Instr.buildSlice, run_underlying (T.und' ht), sizeOf, typeInfo, hq, hs, h0, show (Array.range 0).map (fun (_ : Nat) => (default : Value)) = #[] from by simp, hf', newRow]
 ·simp [execOp, hop, hp, Instr.buildSlice, run_underlying (T.und' ht), sizeOf, typeInfo, hq, hs, hn', h0, zeroValue, hzq, hf', newRow]
def places (T : Types P) : List (TypeId × Nat) → Option (List (Nat × Nat))
 | [] => some []
 | (t, off) :: r => match T.tbl t, places T r with
  | some i, some l => some ((off, i.size) :: l)
  | _, _ => none
theorem op_build (T : Types P) {t : TypeId} {d : TInfo} {fs : List (TypeId × Nat)} {pl : List (Nat × Nat)} {ps : Array (Nat × Operand)} {vs : List (Nat × Value)} {cells : List Value}
  (hop : o.op = .build t ps) (hps : ps.toList.mapM (fun p => (ev e p.2).map fun v => (p.1, v)) = some vs) (ht : T.tbl t = some d) (hd : d.fields = some fs)
  (hpl : places T fs = some pl) (hf : fillL (fun i => pl[i]?) d.zero.cells.toList vs = some cells)
  (h : K (.agg cells.toArray) w) : OpW P N o e w K := by
 obtain ⟨q, hq, hz, hs, hb⟩ := T.inf t d ht
 obtain ⟨fa, hu, hm⟩ := T.fs ht hd
 have hsz : ∀ (f : Field) (i : TInfo), T.tbl f.type = some i → (Prod.mk f.offset <$> sizeOf f.type : Sem (Nat × Nat)).run P w = .ok (f.offset, i.size) w := by
  intro f i hi
  obtain ⟨q, hq, _, hs, _⟩ := T.inf f.type i hi
  simp [sizeOf, typeInfo, hq, hs]
 have hplr : (fa.mapM (fun f => Prod.mk f.offset <$> sizeOf f.type : Field → Sem (Nat × Nat))).run P w = .ok pl.toArray w := by
  have : ∀ (l : List Field) (pl : List (Nat × Nat)), places T (l.map (fun f => (f.type, f.offset))) = some pl →
    (l.mapM (fun f => Prod.mk f.offset <$> sizeOf f.type : Field → Sem (Nat × Nat))).run P w = .ok pl w := by
   intro l
   induction l with
   | nil => intro pl h; simp [places] at h; simp [h]
   | cons f l ih =>
    intro pl h
    simp only [List.map_cons, places] at h
    split at h
    ·rename_i i us hi hl
     injection h with h
     subst h
     rw [List.mapM_cons, Sem.run_bind, hsz f i hi]
     simp only [Result.andThen_ok]
     rw [Sem.run_bind, ih us hl]
     simp
    ·cases h
  have h2 := this fa.toList pl (by rw [hm]; exact hpl)
  rw [← Array.toArray_toList (xs := fa), List.mapM_toArray]
  rw [Sem.run_map, h2]
  rfl
 have hf' := fillL_spec _ _ _ _ hf
 simp only [Array.toArray_toList] at hf'
 refine OpW_run (w' := w) (fun a ha => ?_) h
 have hp := evParts ha hps
 simp [execOp, hop, hp, Instr.build, zeroValue, typeInfo, hq, hz, run_underlying hu, hplr, hf']
end
theorem wrap_i64_in {r : Int} (h0 : -9223372036854775808 ≤ r) (h1 : r ≤ 9223372036854775807) : IntKind.i64.wrap r = r := by rw [IntKind.wrap_i64]; omega
theorem wrap_u8_in {r : Int} (h0 : 0 ≤ r) (h1 : r ≤ 255) : IntKind.u8.wrap r = r := by rw [IntKind.wrap_u8]; omega
theorem wrap_u32_in {r : Int} (h0 : 0 ≤ r) (h1 : r ≤ 4294967295) : IntKind.u32.wrap r = r := by rw [IntKind.wrap_u32]; omega
theorem wrap_u64_in {r : Int} (h0 : 0 ≤ r) (h1 : r ≤ 18446744073709551615) : IntKind.u64.wrap r = r := by rw [IntKind.wrap_u64]; omega
attribute [irreducible] Blk Own SliceOf
end Go.Vc
/-! Regions that draw their order: what each operation leaves is said by itself, of any world that has but grown; the last operations, which wait for all others, are walked in their order. -/
namespace Go.Vc
open Go Go.RowKit
theorem na1 {α : Type} (l : List α) : [] ++ l = l := rfl
theorem na2 {α : Type} (a : α) (l m : List α) : (a :: l) ++ m = a :: (l ++ m) := rfl
inductive VS where
 | c (v : Value)
 | r (R : Value → World → Prop)
def VS.holds : VS → Value → World → Prop
 | .c u, v, _ => v = u
 | .r R, v, w => R v w
def VS.firm (S : List Nat) : VS → Prop
 | .c _ => True
 | .r R => ∀ v w w', R v w → Chg S w w' → R v w'
def vsAt (Vs : List VS) (i : Nat) : VS := (Vs[i]?).getD (.r fun _ _ => True)
def valOf (Vs : List VS) (val : Nat → Value) (i : Nat) : Value := match Vs[i]? with
 | some (.c v) => v
 | _ => val i
def predsOf (o : Oper) : List Nat := (o.after.toList.filter (Region.binds .any)).map (·.on)
def freeAt (l : List Oper) (i t : Nat) : Bool := l.zipIdx.all fun (o, j) => match o.dst with
 | some d => !(Nat.beq d t) || (predsOf o).contains i || Nat.beq j i
 | none => true
def predEnv (l : List Oper) (Vs : List VS) (val : Nat → Value) : List Nat → Env
 | [] => []
 | j :: r => match (l[j]?).bind (·.dst) with
  | some d => (d, valOf Vs val j) :: predEnv l Vs val r
  | none => predEnv l Vs val r
def opEnv (l : List Oper) (Vs : List VS) (e : Env) (i : Nat) (o : Oper) (val : Nat → Value) : Env :=
 predEnv l Vs val (predsOf o) ++ e.filter fun p => freeAt l i p.1
def frontEnv (Vs : List VS) (val : Nat → Value) : Nat → Nat → List Oper → Env
 | _, 0, _ => []
 | _, _ + 1, [] => []
 | i, m + 1, o :: r => match o.dst with
  | some d => (d, valOf Vs val i) :: frontEnv Vs val (i + 1) m r
  | none => frontEnv Vs val (i + 1) m r
def dstsOk (N : Nat) (l : List Oper) : Bool :=
 l.zipIdx.all fun (o, i) => match o.dst with
  | some d => Nat.blt d N && l.zipIdx.all fun (o', j) => Nat.beq i j || (match o'.dst with
   | some d' => !(Nat.beq d d')
   | none => true)
  | none => true
def tailOk (m : Nat) (l : List Oper) : Bool :=
 Nat.ble m l.length &&
 (match l[m]? with
  | none => true
  | some _ => (List.range m).all fun k => (List.range (m + 1)).any fun c => Nat.blt k c && (match l[c]? with
   | some o => (predsOf o).contains k
   | none => false)) &&
 (l.zipIdx.all fun (o, j) => (Nat.ble j m || (predsOf o).contains (j - 1)) && (predsOf o).all fun k => Nat.blt k j)
def FrontOp (P : Program) (N : Nat) (S : List Nat) (l : List Oper) (Vs : List VS) (e : Env) (w : World) (i : Nat) (o : Oper) : Prop :=
 ∀ (val : Nat → Value) (w1 : World), Chg S w w1 → (∀ j, (predsOf o).contains j = true → ∀ oj d, l[j]? = some oj → oj.dst = some d → (vsAt Vs j).holds (valOf Vs val j) w1) →
  match o.guard with
  | none => OpW P N o (opEnv l Vs e i o val) w1 (fun v w' => Chg S w1 w' ∧ (vsAt Vs i).holds v w')
  | some (j, want) => ∃ b, (predsOf o).contains j = true ∧ ((l[j]?).bind (·.dst)).isSome = true ∧ (valOf Vs val j = .bool b ∨ (b = (!want) ∧ valOf Vs val j = undef)) ∧
    (b = want → OpW P N o (opEnv l Vs e i o val) w1 (fun v w' => Chg S w1 w' ∧ (vsAt Vs i).holds v w')) ∧ (b = !want → (vsAt Vs i).holds undef w1)
def Front (P : Program) (N : Nat) (S : List Nat) (l : List Oper) (Vs : List VS) (e : Env) (w : World) : Nat → Nat → List Oper → Prop
 | _, 0, _ => True
 | _, _ + 1, [] => True
 | i, m + 1, o :: r => FrontOp P N S l Vs e w i o ∧ Front P N S l Vs e w (i + 1) m r
theorem Front.get {P : Program} {N : Nat} {S : List Nat} {l : List Oper} {Vs : List VS} {e : Env} {w : World} :
  ∀ (r : List Oper) (i m : Nat), Front P N S l Vs e w i m r → ∀ k o, k < m → r[k]? = some o → FrontOp P N S l Vs e w (i + k) o
 | [], i, m, h, k, o, hk, ho => by simp at ho
 | p :: r, i, 0, h, k, o, hk, ho => by omega
 | p :: r, i, m + 1, h, 0, o, hk, ho => by simp at ho; subst ho; exact h.1
 | p :: r, i, m + 1, h, k + 1, o, hk, ho => by
  have := Front.get r (i + 1) m h.2 k o (by omega) (by simpa using ho)
  rw [show i + (k + 1) = i + 1 + k from by omega]; exact this
structure Mid (N : Nat) (S : List Nat) (l : List Oper) (m : Nat) (Vs : List VS) (e : Env) (w0 : World) (listed : Array Bool) (a : Act) (w : World) : Prop where
 size : a.tmps.size = N
 defers : a.defers = []
 chg : Chg S w0 w
 lsize : listed.size = l.length
 front : ∀ i, i < l.length → m ≤ i → listed.getD i true = false
 down : ∀ i o, l[i]? = some o → listed.getD i true = true → ∀ j, (predsOf o).contains j = true → listed.getD j false = true
 old : ∀ t v, look e t = some v → (∀ i o, l[i]? = some o → o.dst = some t → listed.getD i true = false) → a.tmps[t]? = some v
 new : ∀ i o d, l[i]? = some o → o.dst = some d → listed.getD i true = true → ∃ v, a.tmps[d]? = some v ∧ (vsAt Vs i).holds v w
section
variable {P : Program} {N : Nat} {S : List Nat} {l : List Oper} {m : Nat} {Vs : List VS} {e : Env} {w0 : World} {listed : Array Bool} {a : Act} {w : World}
theorem look_append (e e' : Env) (t : Nat) : look (e ++ e') t = (look e t).or (look e' t) := by
 induction e with
 | nil => simp [look]
 | cons p r ih =>
  obtain ⟨k, v⟩ := p
  simp only [List.cons_append, look]
  split
  ·rfl
  ·exact ih
theorem look_filter {e : Env} {f : Nat → Bool} {t : Nat} {v : Value} (h : look (e.filter fun p => f p.1) t = some v) : look e t = some v ∧ f t = true := by
 induction e with
 | nil => simp [look] at h
 | cons p r ih =>
  obtain ⟨k, u⟩ := p
  by_cases hf : f k = true
  ·rw [List.filter_cons, if_pos hf] at h
   simp only [look] at h ⊢
   split at h
   ·rename_i hk
    have : k = t := Nat.eq_of_beq_eq_true hk
    subst this
    exact ⟨h, hf⟩
   ·rename_i hk
    exact ih h
  ·rw [List.filter_cons, if_neg hf] at h
   obtain ⟨h1, h2⟩ := ih h
   refine ⟨?_, h2⟩
   simp only [look]
   split
   ·rename_i hk
    have : k = t := Nat.eq_of_beq_eq_true hk
    subst this
    exact absurd h2 hf
   ·exact h1
theorem dsts_spec (h : dstsOk N l = true) {i : Nat} {o : Oper} {d : Nat} (ho : l[i]? = some o) (hd : o.dst = some d) :
  d < N ∧ ∀ j o', l[j]? = some o' → o'.dst = some d → j = i := by
 unfold dstsOk at h
 rw [List.all_eq_true] at h
 have hm : (o, i) ∈ l.zipIdx := by rw [List.mem_zipIdx_iff_getElem?]; exact ho
 have h1 := h _ hm
 simp only [hd, Bool.and_eq_true] at h1
 refine ⟨by simpa [Nat.blt_eq] using h1.1, fun j o' hj hd' => ?_⟩
 have h2 := List.all_eq_true.1 h1.2 (o', j) (by rw [List.mem_zipIdx_iff_getElem?]; exact hj)
 simp only [hd', Bool.or_eq_true] at h2
 rcases h2 with h2 | h2
 ·exact (Nat.eq_of_beq_eq_true h2).symm
 ·simp at h2
theorem Mid.vals (hM : Mid N S l m Vs e w0 listed a w) : ∃ val : Nat → Value, ∀ i o d, l[i]? = some o → o.dst = some d → listed.getD i true = true → a.tmps[d]? = some (valOf Vs val i) ∧ (vsAt Vs i).holds (valOf Vs val i) w := by
 refine ⟨fun i => ((l[i]?).bind (·.dst)).elim undef fun d => a.tmps.getD d undef, fun i o d ho hd hl => ?_⟩
 obtain ⟨v, hv, hh⟩ := hM.new i o d ho hd hl
 unfold valOf
 cases hvs : Vs[i]? with
 | none => simp [ho, hd, Array.getD_eq_getD_getElem?, hv]; simpa [vsAt, hvs] using hh
 | some s =>
  cases s with
  | c u =>
   have : v = u := by simpa [vsAt, hvs, VS.holds] using hh
   subst this
   exact ⟨hv, hh⟩
  | r R => simp [ho, hd, Array.getD_eq_getD_getElem?, hv]; simpa [vsAt, hvs] using hh
theorem look_predEnv (val : Nat → Value) : ∀ (js : List Nat) t v, look (predEnv l Vs val js) t = some v → ∃ j o, j ∈ js ∧ l[j]? = some o ∧ o.dst = some t ∧ v = valOf Vs val j
 | [], t, v, h => by simp [predEnv, look] at h
 | j :: js, t, v, h => by
  unfold predEnv at h
  split at h
  ·rename_i d hd
   simp only [look] at h
   split at h
   ·rename_i hk
    have : d = t := Nat.eq_of_beq_eq_true hk
    subst this
    injection h with h
    cases ho : l[j]? with
    | none => simp [ho] at hd
    | some o => exact ⟨j, o, by simp, ho, by simpa [ho] using hd, h.symm⟩
   ·obtain ⟨j', o, h1, h2⟩ := look_predEnv val js t v h
    exact ⟨j', o, by simp [h1], h2⟩
  ·obtain ⟨j', o, h1, h2⟩ := look_predEnv val js t v h
   exact ⟨j', o, by simp [h1], h2⟩
theorem look_frontEnv (val : Nat → Value) : ∀ (r : List Oper) (i k : Nat) t v, look (frontEnv Vs val i k r) t = some v → ∃ j o, j < k ∧ r[j]? = some o ∧ o.dst = some t ∧ v = valOf Vs val (i + j)
 | [], i, k, t, v, h => by cases k <;> simp [frontEnv, look] at h
 | o :: r, i, 0, t, v, h => by simp [frontEnv, look] at h
 | o :: r, i, k + 1, t, v, h => by
  unfold frontEnv at h
  split at h
  ·rename_i d hd
   simp only [look] at h
   split at h
   ·rename_i hk
    have : d = t := Nat.eq_of_beq_eq_true hk
    subst this
    injection h with h
    exact ⟨0, o, by omega, rfl, hd, h.symm⟩
   ·obtain ⟨j, o', h1, h2, h3, h4⟩ := look_frontEnv val r (i + 1) k t v h
    exact ⟨j + 1, o', by omega, by simpa using h2, h3, by rw [h4]; congr 1; omega⟩
  ·obtain ⟨j, o', h1, h2, h3, h4⟩ := look_frontEnv val r (i + 1) k t v h
   exact ⟨j + 1, o', by omega, by simpa using h2, h3, by rw [h4]; congr 1; omega⟩
theorem ready_spec {i : Nat} (h : i ∈ Region.ready .any l.toArray listed) : ∃ o, l[i]? = some o ∧ listed.getD i true = false ∧ ∀ j, (predsOf o).contains j = true → listed.getD j false = true := by
 unfold Region.ready at h
 simp only [List.mem_filter, List.mem_range, Bool.and_eq_true, Bool.not_eq_true'] at h
 obtain ⟨h1, h2, h3⟩ := h
 have hi : i < l.length := by simpa using h1
 refine ⟨l[i], List.getElem?_eq_getElem hi, h2, fun j hj => ?_⟩
 simp [hi] at h3
 simp only [predsOf, List.contains_eq_mem, List.mem_map, List.mem_filter, decide_eq_true_eq] at hj
 obtain ⟨ed, ⟨he, hb⟩, rfl⟩ := hj
 obtain ⟨q, hq, hq2⟩ := Array.getElem_of_mem (by simpa using he)
 rcases h3 q hq with h | h
 ·rw [hq2] at h; rw [hb] at h; cases h
 ·rw [hq2] at h; simpa [Array.getD_eq_getD_getElem?] using h
theorem getD_set {b : Array Bool} {i j : Nat} {x d : Bool} (hi : i < b.size) : (b.setIfInBounds i x).getD j d = if i = j then x else b.getD j d := by
 by_cases h : i = j
 ·subst h; simp [Array.getD_eq_getD_getElem?, hi]
 ·simp [Array.getD_eq_getD_getElem?, Array.getElem?_setIfInBounds_ne h, h]
theorem Mid.step (hdst : dstsOk N l = true) (hM : Mid N S l m Vs e w0 listed a w) {i : Nat} {o : Oper} (ho : l[i]? = some o) (him : i < m) (hun : listed.getD i true = false)
  (hpre : ∀ j, (predsOf o).contains j = true → listed.getD j false = true) (hfirm : ∀ i, (vsAt Vs i).firm S) {v : Value} {w' : World} (hc : Chg S w w') (hv : (vsAt Vs i).holds v w') :
  Mid N S l m Vs e w0 (listed.setIfInBounds i true) (a.put o.dst v) w' := by
 have hi : i < listed.size := by rw [hM.lsize]; exact (List.getElem?_eq_some_iff.1 ho).1
 refine ⟨by cases hd : o.dst <;> simp [Act.put, hM.size], by cases hd : o.dst <;> simp [Act.put, hM.defers], hM.chg.trans hc (fun _ h _ => h), by simp [hM.lsize], fun k hk hmk => ?_, fun k ok hok hlk j hj => ?_, fun t u hu hall => ?_, fun k ok d hok hd hlk => ?_⟩
 ·rw [getD_set hi, if_neg (by omega)]; exact hM.front k hk hmk
 ·rw [getD_set hi] at hlk ⊢
  by_cases hij : i = j
  ·rw [if_pos hij]
  ·rw [if_neg hij]
   by_cases hik : i = k
   ·subst hik
    rw [ho] at hok; injection hok with hok; subst hok
    exact hpre j hj
   ·rw [if_neg hik] at hlk
    exact hM.down k ok hok hlk j hj
 ·have h1 := hM.old t u hu (fun k ok hok hd => by
   have := hall k ok hok hd
   rw [getD_set hi] at this
   split at this
   ·cases this
   ·exact this)
  cases hd : o.dst with
  | none => simpa [Act.put] using h1
  | some d =>
   have hne : d ≠ t := fun h => by
    subst h
    have := hall i o ho hd
    rw [getD_set hi, if_pos rfl] at this
    cases this
   simp only [Act.put, Array.getElem?_setIfInBounds_ne hne]
   exact h1
 ·rw [getD_set hi] at hlk
  by_cases hik : i = k
  ·subst hik
   rw [ho] at hok; injection hok with hok; subst hok
   have := (dsts_spec hdst ho hd).1
   exact ⟨v, by simp [Act.put, hd, hM.size, this], hv⟩
  ·rw [if_neg hik] at hlk
   obtain ⟨u, hu, hh⟩ := hM.new k ok d hok hd hlk
   refine ⟨u, ?_, ?_⟩
   ·cases hdo : o.dst with
    | none => simpa [Act.put] using hu
    | some d' =>
     have hne : d' ≠ d := fun h => by
      subst h
      exact hik ((dsts_spec hdst ho hdo).2 k ok hok hd).symm
     simp only [Act.put, Array.getElem?_setIfInBounds_ne hne]
     exact hu
   ·have hf := hfirm k
    revert hh hf
    cases vsAt Vs k with
    | c u' => exact fun h _ => h
    | r R => exact fun h hf => hf _ _ _ h hc
theorem Mid.fits (hdst : dstsOk N l = true) (hM : Mid N S l m Vs e w0 listed a w) {i : Nat} {o : Oper} (ho : l[i]? = some o) (hun : listed.getD i true = false)
  (hpre : ∀ j, (predsOf o).contains j = true → listed.getD j false = true) {val : Nat → Value}
  (hval : ∀ i o d, l[i]? = some o → o.dst = some d → listed.getD i true = true → a.tmps[d]? = some (valOf Vs val i) ∧ (vsAt Vs i).holds (valOf Vs val i) w) :
  Fits N (opEnv l Vs e i o val) a := by
 refine ⟨hM.size, hM.defers, fun t v hv => ?_⟩
 unfold opEnv at hv
 rw [look_append] at hv
 cases hp : look (predEnv l Vs val (predsOf o)) t with
 | some u =>
  rw [hp] at hv
  simp at hv
  subst hv
  obtain ⟨j, oj, hj, hoj, hd, rfl⟩ := look_predEnv val _ _ _ hp
  have h1 := hpre j (by simpa using hj)
  have h2 : listed.getD j true = true := by
   have : j < listed.size := by rw [hM.lsize]; exact (List.getElem?_eq_some_iff.1 hoj).1
   simpa [Array.getD_eq_getD_getElem?, this] using h1
  exact (hval j oj t hoj hd h2).1
 | none =>
  rw [hp] at hv
  simp at hv
  obtain ⟨h1, h2⟩ := look_filter hv
  refine hM.old t v h1 (fun k ok hok hd => ?_)
  unfold freeAt at h2
  have h3 := List.all_eq_true.1 h2 (ok, k) (by rw [List.mem_zipIdx_iff_getElem?]; exact hok)
  simp only [hd, Bool.or_eq_true] at h3
  rcases h3 with (h3 | h3) | h3
  ·simp at h3
  ·cases hlk : listed.getD k true with
   | false => rfl
   | true =>
    have := hM.down k ok hok hlk i h3
    have hi : i < listed.size := by rw [hM.lsize]; exact (List.getElem?_eq_some_iff.1 ho).1
    simp [Array.getD_eq_getD_getElem?, hi] at this hun
    rw [this] at hun; cases hun
  ·have : k = i := Nat.eq_of_beq_eq_true h3
   subst this
   exact hun
theorem tail_preds (h : tailOk m l = true) {i : Nat} {o : Oper} (ho : l[i]? = some o) : (m < i → (predsOf o).contains (i - 1) = true) ∧ ∀ k, (predsOf o).contains k = true → k < i := by
 unfold tailOk at h
 simp only [Bool.and_eq_true] at h
 have h3 := List.all_eq_true.1 h.2 (o, i) (by rw [List.mem_zipIdx_iff_getElem?]; exact ho)
 simp only [Bool.and_eq_true, Bool.or_eq_true] at h3
 refine ⟨fun hm => ?_, fun k hk => ?_⟩
 ·rcases h3.1 with h4 | h4
  ·have := Nat.le_of_ble_eq_true h4; omega
  ·exact h4
 ·have := List.all_eq_true.1 h3.2 k (by simpa using hk)
  simpa [Nat.blt_eq] using this
theorem tail_all (h : tailOk m l = true) (hM : Mid N S l m Vs e w0 listed a w) {o : Oper} (ho : l[m]? = some o) (hpre : ∀ j, (predsOf o).contains j = true → listed.getD j false = true) :
  ∀ k, k < m → listed.getD k false = true := by
 unfold tailOk at h
 rw [ho] at h
 simp only [Bool.and_eq_true] at h
 have hc := h.1.2
 have key : ∀ n k, m - k ≤ n → k < m → listed.getD k false = true := by
  intro n
  induction n with
  | zero => intro k h1 h2; omega
  | succ n ih =>
   intro k h1 h2
   have h3 := List.all_eq_true.1 hc k (by simpa using h2)
   obtain ⟨c, hcm, h4⟩ := List.any_eq_true.1 h3
   simp only [Bool.and_eq_true] at h4
   have hkc : k < c := by simpa [Nat.blt_eq] using h4.1
   have hcm' : c < m + 1 := by simpa using hcm
   cases hoc : l[c]? with
   | none => simp [hoc] at h4
   | some oc =>
    simp only [hoc] at h4
    by_cases hcc : c = m
    ·subst hcc
     rw [ho] at hoc; injection hoc with hoc; subst hoc
     exact hpre k h4.2
    ·have h5 := ih c (by omega) (by omega)
     have hlt : c < listed.size := by rw [hM.lsize]; exact (List.getElem?_eq_some_iff.1 hoc).1
     have h6 : listed.getD c true = true := by
      simp [Array.getD_eq_getD_getElem?, hlt] at h5 ⊢; exact h5
     exact hM.down c oc hoc h6 k h4.2
 exact fun k hk => key (m - k) k (Nat.le_refl _) hk
theorem tail_any {Q : Exit → Act → World → Prop} (h : tailOk m l = true) : ∀ (r : List Oper) (i : Nat) (listed : Array Bool) (a : Act) (w : World), m ≤ i → l.drop i = r → listed.size = l.length →
  (∀ k, k < l.length → listed.getD k true = decide (k < i)) → wpList P l.toArray Q r a w → wpAny P .any l.toArray Q r.length listed a w
 | [], i, listed, a, w, hmi, hr, hs, hl, hw => by
  have hi : l.length ≤ i := by
   have : (l.drop i).length = 0 := by rw [hr]; rfl
   simp at this; omega
  refine ⟨?_, hw⟩
  rw [List.eq_nil_iff_forall_not_mem]
  intro j hj
  obtain ⟨o, ho, hun, _⟩ := ready_spec hj
  have hjl := (List.getElem?_eq_some_iff.1 ho).1
  rw [hl j hjl] at hun
  simp at hun
  omega
 | o :: r, i, listed, a, w, hmi, hr, hs, hl, hw => by
  have hil : i < l.length := by
   have : (l.drop i).length = (o :: r).length := by rw [hr]
   simp at this; omega
  have ho : l[i]? = some o := by
   have : (l.drop i)[0]? = some o := by rw [hr]; rfl
   simpa using this
  have honly : ∀ j, j ∈ Region.ready .any l.toArray listed → j = i := by
   intro j hj
   obtain ⟨oj, hoj, hun, hpre⟩ := ready_spec hj
   have hjl := (List.getElem?_eq_some_iff.1 hoj).1
   rw [hl j hjl] at hun
   simp at hun
   rcases Nat.lt_or_ge i j with hlt | hge
   ·have h1 := hpre (j - 1) ((tail_preds h hoj).1 (by omega))
    have h2 := hl (j - 1) (by omega)
    have hsz : j - 1 < listed.size := by rw [hs]; omega
    simp [Array.getD_eq_getD_getElem?, hsz] at h1 h2
    rw [h1] at h2
    have : j - 1 < i := by simpa using h2.symm
    omega
   ·omega
  refine ⟨fun hnil => ?_, fun j hj => ?_⟩
  ·have : i ∈ Region.ready .any l.toArray listed := by
    unfold Region.ready
    simp only [List.mem_filter, List.mem_range, Bool.and_eq_true, Bool.not_eq_true']
    refine ⟨by simpa using hil, by rw [hl i hil]; simp, ?_⟩
    simp [ho]
    intro q hq
    by_cases hb : Region.binds .any o.after[q] = true
    ·refine .inr ?_
     have hlt := (tail_preds h ho).2 (o.after[q]).on (by
      simp only [predsOf, List.contains_eq_mem, List.mem_map, List.mem_filter, decide_eq_true_eq]
      exact ⟨o.after[q], ⟨by simp, hb⟩, rfl⟩)
     have h2 := hl (o.after[q]).on (by omega)
     have hsz : (o.after[q]).on < listed.size := by rw [hs]; omega
     simp [Array.getD_eq_getD_getElem?, hsz] at h2 ⊢
     rw [h2]; simpa using hlt
    ·exact .inl (by simpa using hb)
   rw [hnil] at this; cases this
  ·have hji := honly j hj
   subst hji
   unfold wpOp
   have hlit : l.toArray[j]? = some o := by simpa using ho
   rw [hlit]
   have hnext : ∀ a w, wpList P l.toArray Q r a w → wpAny P .any l.toArray Q r.length (listed.setIfInBounds j true) a w := fun a w hw =>
    tail_any h r (j + 1) _ a w (by omega) (by rw [← List.drop_drop, hr]; rfl) (by simp [hs]) (fun k hk => by
     rw [getD_set (by rw [hs]; omega)]
     by_cases hjk : j = k
     ·subst hjk; simp
     ·rw [if_neg hjk, hl k hk]
      by_cases hkj : k < j
      ·simp [hkj]; omega
      ·have : ¬ k < j + 1 := by omega
       simp [hkj, this]) hw
   unfold wpList at hw
   simp only
   split
   ·rename_i hwa
    rw [if_pos hwa] at hw
    exact hw.imp (Oper.wp_mono hnext) id
   ·rename_i hwa
    rw [if_neg hwa] at hw
    exact hnext _ _ hw
def openCount (listed : Array Bool) : Nat → Nat
 | 0 => 0
 | n + 1 => openCount listed n + (if listed.getD n true then 0 else 1)
theorem openCount_set {i : Nat} (hi : i < listed.size) (hun : listed.getD i true = false) : ∀ n, i < n → openCount listed n = openCount (listed.setIfInBounds i true) n + 1
 | 0, h => by omega
 | n + 1, h => by
  simp only [openCount]
  rw [getD_set hi]
  by_cases hin : i = n
  ·subst hin
   rw [if_pos rfl, hun]
   have : ∀ k, k ≤ i → openCount listed k = openCount (listed.setIfInBounds i true) k := by
    intro k
    induction k with
    | zero => intro _; rfl
    | succ k ih =>
      intro hk; have hne : ¬ i = k := by omega
      simp only [openCount]; rw [getD_set hi, ih (by omega)]; simp [hne]
   rw [this i (Nat.le_refl _)]
   simp
  ·rw [if_neg hin, openCount_set hi hun n (by omega)]
   omega
theorem look_front_none {val : Nat → Value} {t : Nat} : ∀ (r : List Oper) (q k : Nat), look (frontEnv Vs val q k r) t = none → ∀ i o, i < k → r[i]? = some o → o.dst ≠ some t := by
 intro r
 induction r with
 | nil => intro q k _ i o _ ho; simp at ho
 | cons p r ih =>
  intro q k hk i o hi ho hd
  cases k with
  | zero => omega
  | succ k =>
   unfold frontEnv at hk
   split at hk
   ·rename_i d hpd
    simp only [look] at hk
    split at hk
    ·cases hk
    ·rename_i hne
     cases i with
     | zero => simp at ho; subst ho; rw [hpd] at hd; injection hd with hd; subst hd; simp at hne
     | succ i => exact ih (q + 1) k hk i o (by omega) (by simpa using ho) hd
   ·rename_i hpd
    cases i with
    | zero => simp at ho; subst ho; rw [hpd] at hd; cases hd
    | succ i => exact ih (q + 1) k hk i o (by omega) (by simpa using ho) hd
theorem Mid.full (hM : Mid N S l m Vs e w0 listed a w) (hall : ∀ k, k < m → listed.getD k true = true) {val : Nat → Value}
  (hval : ∀ i o d, l[i]? = some o → o.dst = some d → listed.getD i true = true → a.tmps[d]? = some (valOf Vs val i) ∧ (vsAt Vs i).holds (valOf Vs val i) w) :
  Fits N (frontEnv Vs val 0 m l ++ e) a := by
 refine ⟨hM.size, hM.defers, fun t v hv => ?_⟩
 rw [look_append] at hv
 cases hp : look (frontEnv Vs val 0 m l) t with
 | some u =>
  rw [hp] at hv; simp at hv; subst hv
  obtain ⟨j, o, hj, ho, hd, rfl⟩ := look_frontEnv val _ _ _ _ _ hp
  rw [Nat.zero_add]
  exact (hval j o t ho hd (hall j hj)).1
 | none =>
  rw [hp] at hv; simp at hv
  refine hM.old t v hv (fun i o ho hd => ?_)
  by_cases hi : i < m
  ·exact absurd hd (look_front_none l 0 m hp i o hi ho)
  ·exact hM.front i (List.getElem?_eq_some_iff.1 ho).1 (by omega)
theorem mid_any {Q : Post} (hdst : dstsOk N l = true) (htl : tailOk m l = true) (hfirm : ∀ i, (vsAt Vs i).firm S)
  (hfront : ∀ i o, i < m → l[i]? = some o → FrontOp P N S l Vs e w0 i o)
  (hend : ∀ (val : Nat → Value) (w1 : World), Chg S w0 w1 → (∀ i, i < m → ∀ o d, l[i]? = some o → o.dst = some d → (vsAt Vs i).holds (valOf Vs val i) w1) → WL P N l.toArray (l.drop m) Q (frontEnv Vs val 0 m l ++ e) w1) :
  ∀ (fuel : Nat) (listed : Array Bool) (a : Act) (w : World), openCount listed l.length = fuel → Mid N S l m Vs e w0 listed a w → wpAny P .any l.toArray (Lift N Q) fuel listed a w := by
 have hml : m ≤ l.length := by
  unfold tailOk at htl
  simp only [Bool.and_eq_true] at htl
  exact Nat.le_of_ble_eq_true htl.1.1
 -- all front operations have come up: the tail
 have hdone : ∀ (listed : Array Bool) (a : Act) (w : World), Mid N S l m Vs e w0 listed a w → (∀ k, k < m → listed.getD k true = true) → wpAny P .any l.toArray (Lift N Q) (l.drop m).length listed a w := by
  intro listed a w hM hall
  obtain ⟨val, hval⟩ := hM.vals
  have hW := hend val w hM.chg (fun i hi o d ho hd => (hval i o d ho hd (hall i hi)).2)
  unfold WL at hW
  refine tail_any htl (l.drop m) m listed a w (Nat.le_refl _) rfl hM.lsize (fun k hk => ?_) (hW a (hM.full hall hval))
  by_cases hkm : k < m
  ·rw [hall k hkm]; simp [hkm]
  ·rw [hM.front k hk (by omega)]; simp [hkm]
 have hcount : ∀ (listed : Array Bool), (∀ k, k < m → listed.getD k true = true) → (∀ i, i < l.length → m ≤ i → listed.getD i true = false) → openCount listed l.length = (l.drop m).length := by
  intro listed h1 h2
  have : ∀ n, n ≤ l.length → openCount listed n = n - m := by
   intro n
   induction n with
   | zero => intro _; simp [openCount]
   | succ n ih =>
    intro hn
    simp only [openCount]
    rw [ih (by omega)]
    by_cases hnm : n < m
    ·rw [h1 n hnm]; simp; omega
    ·rw [h2 n (by omega) (by omega)]; simp; omega
  rw [this _ (Nat.le_refl _)]; simp
 intro fuel
 induction fuel with
 | zero =>
  intro listed a w hcnt hM
  have hall : ∀ k, k < l.length → listed.getD k true = true := by
   have : ∀ n, openCount listed n = 0 → ∀ k, k < n → listed.getD k true = true := by
    intro n
    induction n with
    | zero => intro _ k hk; omega
    | succ n ih =>
     intro h k hk
     simp only [openCount] at h
     by_cases hkn : k = n
     ·subst hkn
      cases hx : listed.getD k true with
      | true => rfl
      | false => rw [hx] at h; simp at h
     ·exact ih (by omega) k (by omega)
   exact this _ hcnt
  have hd := hdone listed a w hM (fun k hk => hall k (by omega))
  rw [← hcount listed (fun k hk => hall k (by omega)) hM.front, hcnt] at hd
  exact hd
 | succ fuel ih =>
  intro listed a w hcnt hM
  by_cases hall : ∀ k, k < m → listed.getD k true = true
  ·have hd := hdone listed a w hM hall
   rw [← hcount listed hall hM.front, hcnt] at hd
   exact hd
  ·-- some front operation is open: the least one may come up; and whatever may come up is a front operation
   have hready : ∀ i, i ∈ Region.ready .any l.toArray listed → i < m := by
    intro i hi
    obtain ⟨o, ho, hun, hpre⟩ := ready_spec hi
    rcases Nat.lt_or_ge i m with h | h
    ·exact h
    ·exfalso
     have hil := (List.getElem?_eq_some_iff.1 ho).1
     rcases Nat.lt_or_ge m i with h2 | h2
     ·have h3 := hpre (i - 1) ((tail_preds htl ho).1 h2)
      have h4 := hM.front (i - 1) (by omega) (by omega)
      have hsz : i - 1 < listed.size := by rw [hM.lsize]; omega
      simp [Array.getD_eq_getD_getElem?, hsz] at h3 h4
      rw [h3] at h4; cases h4
     ·have hmi : i = m := by omega
      subst hmi
      refine hall (fun k hk => ?_)
      have h3 := tail_all htl hM ho hpre k hk
      have hsz : k < listed.size := by rw [hM.lsize]; omega
      simp [Array.getD_eq_getD_getElem?, hsz] at h3 ⊢; exact h3
   refine ⟨fun hnil => ?_, fun i hi => ?_⟩
   ·exfalso
    have hmin : ∃ k, k < m ∧ listed.getD k true = false ∧ ∀ j, j < k → listed.getD j true = true := by
     have : ∀ n, (∃ k, k < n ∧ ¬ listed.getD k true = true) → ∃ k, k < n ∧ listed.getD k true = false ∧ ∀ j, j < k → listed.getD j true = true := by
      intro n
      induction n with
      | zero => rintro ⟨k, hk, _⟩; omega
      | succ n ih =>
       rintro ⟨k, hk, hx⟩
       by_cases hex : ∃ k, k < n ∧ ¬ listed.getD k true = true
       ·obtain ⟨k', h1, h2, h3⟩ := ih hex
        exact ⟨k', by omega, h2, h3⟩
       ·have hkn : k = n := by
         rcases Nat.lt_or_ge k n with h | h
         ·exact absurd ⟨k, h, hx⟩ hex
         ·omega
        subst hkn
        refine ⟨k, by omega, by simpa using hx, fun j hj => ?_⟩
        cases hxj : listed.getD j true with
        | true => rfl
        | false => exact absurd ⟨j, hj, by simp [hxj]⟩ hex
     have hex : ∃ k, k < m ∧ ¬ listed.getD k true = true := by
      refine Classical.byContradiction fun hno => hall fun k hk => ?_
      cases hx : listed.getD k true with
      | true => rfl
      | false => exact absurd ⟨k, hk, by simp [hx]⟩ hno
     exact this m hex
    obtain ⟨k, hkm, hku, hkl⟩ := hmin
    have hkl' : k < l.length := by omega
    have ho : l[k]? = some l[k] := List.getElem?_eq_getElem hkl'
    have : k ∈ Region.ready .any l.toArray listed := by
     unfold Region.ready
     simp only [List.mem_filter, List.mem_range, Bool.and_eq_true, Bool.not_eq_true']
     refine ⟨by simpa using hkl', hku, ?_⟩
     simp [hkl']
     intro q hq
     by_cases hb : Region.binds .any l[k].after[q] = true
     ·refine .inr ?_
      have hlt := (tail_preds htl ho).2 (l[k].after[q]).on (by
       simp only [predsOf, List.contains_eq_mem, List.mem_map, List.mem_filter, decide_eq_true_eq]
       exact ⟨l[k].after[q], ⟨by simp, hb⟩, rfl⟩)
      have h2 := hkl (l[k].after[q]).on hlt
      have hsz : (l[k].after[q]).on < listed.size := by rw [hM.lsize]; omega
      simp [Array.getD_eq_getD_getElem?, hsz] at h2 ⊢
      exact h2
     ·exact .inl (by simpa using hb)
    rw [hnil] at this; cases this
   ·have him := hready i hi
    obtain ⟨o, ho, hun, hpre⟩ := ready_spec hi
    have hlit : l.toArray[i]? = some o := by simpa using ho
    obtain ⟨val, hval⟩ := hM.vals
    have hfit := hM.fits hdst ho hun hpre hval
    have hisz : i < listed.size := by rw [hM.lsize]; exact (List.getElem?_eq_some_iff.1 ho).1
    have hil := (List.getElem?_eq_some_iff.1 ho).1
    have hpv : ∀ j, (predsOf o).contains j = true → ∀ oj, l[j]? = some oj → ∀ d, oj.dst = some d → a.tmps[d]? = some (valOf Vs val j) ∧ (vsAt Vs j).holds (valOf Vs val j) w := fun j hj oj hoj d hd => by
     have h1 := hpre j hj
     have hsz : j < listed.size := by rw [hM.lsize]; exact (List.getElem?_eq_some_iff.1 hoj).1
     exact hval j oj d hoj hd (by simp [Array.getD_eq_getD_getElem?, hsz] at h1 ⊢; exact h1)
    have hF := hfront i o him ho val w hM.chg (fun j hj oj d hoj hd => (hpv j hj oj hoj d hd).2)
    have hgo : ∀ v w', Chg S w w' ∧ (vsAt Vs i).holds v w' → wpAny P .any l.toArray (Lift N Q) fuel (listed.setIfInBounds i true) (a.put o.dst v) w' := fun v w' ⟨hc, hv⟩ =>
     ih _ _ _ (by have := openCount_set hisz hun l.length hil; omega) (hM.step hdst ho him hun hpre hfirm hc hv)
    unfold wpOp
    rw [hlit]
    simp only
    cases hg : o.guard with
    | none =>
     rw [hg] at hF
     have hwa : Region.wanted o (yielded l.toArray a.tmps) = true := by simp [Region.wanted, hg]
     rw [if_pos hwa]
     unfold OpW at hF
     exact .inl (hF a hfit _ _ hgo)
    | some g =>
     obtain ⟨j, want⟩ := g
     rw [hg] at hF
     obtain ⟨b, hj, hjd, hb, h1, h2⟩ := hF
     have hwa : Region.wanted o (yielded l.toArray a.tmps) = (b == want) := by
      cases hoj : l[j]? with
      | none => simp [hoj] at hjd
      | some oj =>
       cases hd : oj.dst with
       | none => simp [hoj, hd] at hjd
       | some d =>
        have := (hpv j hj oj hoj d hd).1
        unfold Region.wanted yielded
        rcases hb with hb | ⟨hbw, hb⟩
        ·rw [hb] at this
         simp only [hg, List.getElem?_toArray, hoj, Option.bind_some, hd, this]
         cases b <;> cases want <;> rfl
        ·rw [hb] at this
         simp only [hg, List.getElem?_toArray, hoj, Option.bind_some, hd, this]
         subst hbw
         cases want <;> rfl
     rw [hwa]
     by_cases hbw : b = want
     ·subst hbw
      rw [if_pos (by simp)]
      have h3 := h1 rfl
      unfold OpW at h3
      exact .inl (h3 a hfit _ _ hgo)
     ·have hbn : b = !want := by cases b <;> cases want <;> first | rfl | exact absurd rfl hbw
      rw [if_neg (by simpa using hbw)]
      exact hgo undef w ⟨Chg.refl _ _, h2 hbn⟩
theorem FrontOp.plain {i : Nat} {o : Oper} (hg : o.guard = none)
  (h : ∀ (val : Nat → Value) (w1 : World), Chg S w0 w1 → (∀ j, (predsOf o).contains j = true → ∀ oj d, l[j]? = some oj → oj.dst = some d → (vsAt Vs j).holds (valOf Vs val j) w1) →
   OpW P N o (opEnv l Vs e i o val) w1 (fun v w' => Chg S w1 w' ∧ (vsAt Vs i).holds v w')) : FrontOp P N S l Vs e w0 i o := by
 intro val w1 hc hp
 rw [hg]
 exact h val w1 hc hp
theorem FrontOp.guardT {i : Nat} {o : Oper} {j : Nat} {want : Bool} (hg : o.guard = some (j, want)) (hj : (predsOf o).contains j = true) (hjd : ((l[j]?).bind (·.dst)).isSome = true) (hb : ∀ val, valOf Vs val j = .bool want)
  (h : ∀ (val : Nat → Value) (w1 : World), Chg S w0 w1 → (∀ j, (predsOf o).contains j = true → ∀ oj d, l[j]? = some oj → oj.dst = some d → (vsAt Vs j).holds (valOf Vs val j) w1) →
   OpW P N o (opEnv l Vs e i o val) w1 (fun v w' => Chg S w1 w' ∧ (vsAt Vs i).holds v w')) : FrontOp P N S l Vs e w0 i o := by
 intro val w1 hc hp
 rw [hg]
 exact ⟨want, hj, hjd, .inl (hb val), (fun _ => h val w1 hc hp), (fun hn => by cases want <;> cases hn)⟩
theorem FrontOp.guardF {i : Nat} {o : Oper} {j : Nat} {want b : Bool} (hg : o.guard = some (j, want)) (hj : (predsOf o).contains j = true) (hjd : ((l[j]?).bind (·.dst)).isSome = true) (hb : ∀ val, valOf Vs val j = .bool b) (hbw : b = !want)
  (h : ∀ w1, (vsAt Vs i).holds undef w1) : FrontOp P N S l Vs e w0 i o := by
 intro val w1 hc hp
 rw [hg]
 exact ⟨b, hj, hjd, .inl (hb val), (fun hn => by subst hbw; cases want <;> cases hn), (fun _ => h w1)⟩
def Firms (S : List Nat) : List VS → Prop
 | [] => True
 | s :: r => s.firm S ∧ Firms S r
theorem Firms.at : ∀ {Vs : List VS}, Firms S Vs → ∀ i, (vsAt Vs i).firm S
 | [], _, i => by simp [vsAt, VS.firm]
 | s :: r, h, 0 => h.1
 | s :: r, h, i + 1 => Firms.at h.2 i
theorem W_draw {id : Nat} {Q : Post} (m : Nat) (S : List Nat) (Vs : List VS) (hfol : P.follows .mixedOrders = true) (hdst : dstsOk N l = true) (htl : tailOk m l = true) (hfirms : Firms S Vs)
  (hfront : Front P N S l Vs e w 0 m l)
  (hend : ∀ (val : Nat → Value) (w1 : World), Chg S w w1 → (∀ i, i < m → ∀ o d, l[i]? = some o → o.dst = some d → (vsAt Vs i).holds (valOf Vs val i) w1) → WL P N l.toArray (l.drop m) Q (frontEnv Vs val 0 m l ++ e) w1) :
  W P N (.region id l.toArray true) Q e w := by
 have hfirm := hfirms.at
 unfold W
 intro a ha
 refine wp_region_any hfol ?_
 have hc0 : openCount (Array.replicate l.length false) l.length = l.length := by
  have : ∀ n, n ≤ l.length → openCount (Array.replicate l.length false) n = n := by
   intro n
   induction n with
   | zero => intro _; rfl
   | succ n ih =>
    intro hn
    have h1 : (Array.replicate l.length false).getD n true = false := by rw [Array.getD_eq_getD_getElem?, Array.getElem?_replicate, if_pos (by omega)]; rfl
    simp only [openCount]; rw [ih (by omega), h1]; rfl
  exact this _ (Nat.le_refl _)
 have hM : Mid N S l m Vs e w (Array.replicate l.length false) a { w with drawn := w.drawn + 1 } := by
  refine ⟨ha.size, ha.defers, Chg.drawn S w _, by simp, fun i hi _ => by simp [Array.getD_eq_getD_getElem?, hi], fun i o ho hl => ?_, fun t v hv _ => ha.look t v hv, fun i o d ho _ hl => ?_⟩
  ·have hi := (List.getElem?_eq_some_iff.1 ho).1
   simp [Array.getD_eq_getD_getElem?, hi] at hl
  ·have hi := (List.getElem?_eq_some_iff.1 ho).1
   simp [Array.getD_eq_getD_getElem?, hi] at hl
 have := mid_any (P := P) (Q := Q) hdst htl hfirm (fun i o him ho => by simpa using Front.get l 0 m hfront i o him ho) hend l.length _ _ _ hc0 hM
 simpa using this
/-! ### The same, walked in the text's order: what an operation leaves is found on the way -/
def StepP (P : Program) (N : Nat) (S : List Nat) (l : List Oper) (Vs : List VS) (e : Env) (w : World) (i : Nat) (o : Oper) (s : VS) : Prop :=
 ∀ (val : Nat → Value) (w1 : World), Chg S w w1 → (∀ j, (predsOf o).contains j = true → ∀ oj d, l[j]? = some oj → oj.dst = some d → (vsAt Vs j).holds (valOf Vs val j) w1) →
  match o.guard with
  | none => OpW P N o (opEnv l Vs e i o val) w1 (fun v w' => Chg S w1 w' ∧ s.holds v w')
  | some (j, want) => ∃ b, (predsOf o).contains j = true ∧ ((l[j]?).bind (·.dst)).isSome = true ∧ (valOf Vs val j = .bool b ∨ (b = (!want) ∧ valOf Vs val j = undef)) ∧
    (b = want → OpW P N o (opEnv l Vs e i o val) w1 (fun v w' => Chg S w1 w' ∧ s.holds v w')) ∧ (b = !want → s.holds undef w1)
def Walk (P : Program) (N : Nat) (S : List Nat) (l : List Oper) (e : Env) (w : World) (fin : List VS → Prop) : Nat → List Oper → List VS → Prop
 | _, [], Vs => fin Vs
 | i, o :: r, Vs => ∃ s : VS, s.firm S ∧ StepP P N S l Vs e w i o s ∧ Walk P N S l e w fin (i + 1) r (Vs ++ [s])
theorem vsAt_append {A B : List VS} {j : Nat} (h : j < A.length) : vsAt (A ++ B) j = vsAt A j := by
 unfold vsAt; rw [List.getElem?_append_left h]
theorem valOf_append {A B : List VS} {val : Nat → Value} {j : Nat} (h : j < A.length) : valOf (A ++ B) val j = valOf A val j := by
 unfold valOf; rw [List.getElem?_append_left h]
theorem predEnv_append {A B : List VS} {val : Nat → Value} : ∀ (js : List Nat), (∀ j ∈ js, j < A.length) → predEnv l (A ++ B) val js = predEnv l A val js
 | [], _ => rfl
 | j :: js, h => by
  unfold predEnv
  rw [predEnv_append js (fun k hk => h k (by simp [hk])), valOf_append (h j (by simp))]
theorem vsAt_at {A B : List VS} {s : VS} : vsAt (A ++ s :: B) A.length = s := by unfold vsAt; simp
theorem walk_front (htl : tailOk m l = true) (hml : m ≤ l.length) {fin : List VS → Prop} : ∀ (r : List Oper) (i : Nat) (Vs : List VS), Vs.length = i → (l.take m).drop i = r → Firms S Vs → Walk P N S l e w fin i r Vs →
  ∃ rest : List VS, rest.length = r.length ∧ Firms S (Vs ++ rest) ∧ fin (Vs ++ rest) ∧ ∀ k o, r[k]? = some o → FrontOp P N S l (Vs ++ rest) e w (i + k) o
 | [], i, Vs, hi, hr, hf, h => ⟨[], rfl, by simpa using hf, by simpa [Walk] using h, fun k o hk => by simp at hk⟩
 | o :: r, i, Vs, hi, hr, hf, h => by
  obtain ⟨s, hs, hst, hw⟩ := h
  have hr' : (l.take m).drop (i + 1) = r := by rw [← List.drop_drop, hr]; rfl
  have hf' : Firms S (Vs ++ [s]) := by
   clear hr hst hw hi hr'
   induction Vs with
   | nil => exact ⟨hs, trivial⟩
   | cons a A ih => exact ⟨hf.1, ih hf.2⟩
  obtain ⟨rest, hl, h1, h2, h3⟩ := walk_front htl hml r (i + 1) (Vs ++ [s]) (by simp [hi]) hr' hf' hw
  rw [List.append_assoc] at h1 h2 h3
  refine ⟨s :: rest, by simp [hl], h1, h2, fun k ok hk => ?_⟩
  cases k with
  | zero =>
   simp at hk
   subst hk
   rw [Nat.add_zero]
   have ho : l[i]? = some o := by
    have h4 : ((l.take m).drop i)[0]? = some o := by rw [hr]; rfl
    rw [List.getElem?_drop, Nat.add_zero, List.getElem?_take] at h4
    split at h4
    ·exact h4
    ·cases h4
   have hpl : ∀ j, (predsOf o).contains j = true → j < Vs.length := fun j hj => by rw [hi]; exact (tail_preds htl ho).2 j hj
   have hpe : ∀ val, opEnv l (Vs ++ s :: rest) e i o val = opEnv l Vs e i o val := fun val => by
    unfold opEnv; rw [predEnv_append _ (fun j hj => hpl j (by simpa using hj))]
   have hvs : vsAt (Vs ++ s :: rest) i = s := by rw [← hi]; exact vsAt_at
   intro val w1 hc hp
   have hq := hst val w1 hc (fun j hj oj d h5 h6 => by
    have := hp j hj oj d h5 h6
    rw [vsAt_append (hpl j hj), valOf_append (hpl j hj)] at this; exact this)
   rw [hpe val, hvs]
   cases hg : o.guard with
   | none => rw [hg] at hq; exact hq
   | some g =>
    obtain ⟨j, want⟩ := g
    rw [hg] at hq
    obtain ⟨b, h5, h6, h7, h8, h9⟩ := hq
    exact ⟨b, h5, h6, by rw [valOf_append (hpl j h5)]; exact h7, h8, h9⟩
  | succ k =>
   have := h3 k ok (by simpa using hk)
   rw [show i + (k + 1) = i + 1 + k from by omega]; exact this
theorem front_of {Vs : List VS} : ∀ (r : List Oper) (i k : Nat), (∀ j o, j < k → r[j]? = some o → FrontOp P N S l Vs e w (i + j) o) → Front P N S l Vs e w i k r
 | [], i, k, h => by cases k <;> exact trivial
 | o :: r, i, 0, h => trivial
 | o :: r, i, k + 1, h => ⟨h 0 o (by omega) rfl, front_of r (i + 1) k (fun j oj hj hoj => by
   have := h (j + 1) oj (by omega) (by simpa using hoj)
   rw [show i + 1 + j = i + (j + 1) from by omega]; exact this)⟩
theorem W_walk {id : Nat} {Q : Post} (m : Nat) (S : List Nat) (hfol : P.follows .mixedOrders = true) (hdst : dstsOk N l = true) (htl : tailOk m l = true)
  (h : Walk P N S l e w (fun Vs => ∀ (val : Nat → Value) (w1 : World), Chg S w w1 → (∀ i, i < m → ∀ o d, l[i]? = some o → o.dst = some d → (vsAt Vs i).holds (valOf Vs val i) w1) → WL P N l.toArray (l.drop m) Q (frontEnv Vs val 0 m l ++ e) w1) 0 (l.take m) []) :
  W P N (.region id l.toArray true) Q e w := by
 have hml : m ≤ l.length := by
  have h2 := htl
  unfold tailOk at h2
  simp only [Bool.and_eq_true] at h2
  exact Nat.le_of_ble_eq_true h2.1.1
 obtain ⟨rest, hl, h1, h2, h3⟩ := walk_front htl hml (l.take m) 0 [] rfl (by simp) trivial h
 rw [List.nil_append] at h1 h2 h3
 refine W_draw m S rest hfol hdst htl h1 (front_of l 0 m fun j o hj ho => ?_) h2
 exact h3 j o (by rw [List.getElem?_take, if_pos hj]; exact ho)
theorem Walk.plain {fin : List VS → Prop} {i : Nat} {r : List Oper} {Vs : List VS} {o : Oper} {v : Value} (hg : o.guard = none)
  (h : ∀ (val : Nat → Value) (w1 : World), Chg S w w1 → (∀ j, (predsOf o).contains j = true → ∀ oj d, l[j]? = some oj → oj.dst = some d → (vsAt Vs j).holds (valOf Vs val j) w1) → OpW P N o (opEnv l Vs e i o val) w1 (fun u w' => Chg S w1 w' ∧ u = v))
  (hr : Walk P N S l e w fin (i + 1) r (Vs ++ [.c v])) : Walk P N S l e w fin i (o :: r) Vs :=
 ⟨.c v, trivial, fun val w1 hc hp => by rw [hg]; exact h val w1 hc hp, hr⟩
theorem Walk.rel {fin : List VS → Prop} {i : Nat} {r : List Oper} {Vs : List VS} {o : Oper} (R : Value → World → Prop) (hg : o.guard = none) (hR : ∀ v w w', R v w → Chg S w w' → R v w')
  (h : ∀ (val : Nat → Value) (w1 : World), Chg S w w1 → (∀ j, (predsOf o).contains j = true → ∀ oj d, l[j]? = some oj → oj.dst = some d → (vsAt Vs j).holds (valOf Vs val j) w1) → OpW P N o (opEnv l Vs e i o val) w1 (fun u w' => Chg S w1 w' ∧ R u w'))
  (hr : Walk P N S l e w fin (i + 1) r (Vs ++ [.r R])) : Walk P N S l e w fin i (o :: r) Vs :=
 ⟨.r R, hR, fun val w1 hc hp => by rw [hg]; exact h val w1 hc hp, hr⟩
theorem Walk.guardT {fin : List VS → Prop} {i j : Nat} {want : Bool} {r : List Oper} {Vs : List VS} {o : Oper} {v : Value} (hg : o.guard = some (j, want)) (hj : (predsOf o).contains j = true) (hjd : ((l[j]?).bind (·.dst)).isSome = true) (hb : ∀ val, valOf Vs val j = .bool want)
  (h : ∀ (val : Nat → Value) (w1 : World), Chg S w w1 → (∀ j, (predsOf o).contains j = true → ∀ oj d, l[j]? = some oj → oj.dst = some d → (vsAt Vs j).holds (valOf Vs val j) w1) → OpW P N o (opEnv l Vs e i o val) w1 (fun u w' => Chg S w1 w' ∧ u = v))
  (hr : Walk P N S l e w fin (i + 1) r (Vs ++ [.c v])) : Walk P N S l e w fin i (o :: r) Vs :=
 ⟨.c v, trivial, fun val w1 hc hp => by rw [hg]; exact ⟨want, hj, hjd, .inl (hb val), (fun _ => h val w1 hc hp), (fun hn => by cases want <;> cases hn)⟩, hr⟩
theorem Walk.guardF {fin : List VS → Prop} {i j : Nat} {want b : Bool} {r : List Oper} {Vs : List VS} {o : Oper} (hg : o.guard = some (j, want)) (hj : (predsOf o).contains j = true) (hjd : ((l[j]?).bind (·.dst)).isSome = true) (hb : ∀ val, valOf Vs val j = .bool b) (hbw : b = !want)
  (hr : Walk P N S l e w fin (i + 1) r (Vs ++ [.c undef])) : Walk P N S l e w fin i (o :: r) Vs :=
 ⟨.c undef, trivial, fun val w1 hc hp => by rw [hg]; exact ⟨b, hj, hjd, .inl (hb val), (fun hn => by subst hbw; cases want <;> cases hn), (fun _ => rfl)⟩, hr⟩
theorem Walk.fin {fin : List VS → Prop} {i : Nat} {Vs : List VS} (h : fin Vs) : Walk P N S l e w fin i [] Vs := h
attribute [irreducible] Walk
end
end Go.Vc
/-! More steps: nil, strings, conversions, copy. -/
namespace Go.Vc
open Go Go.RowKit
theorem some_int {k : IntKind} {a b : Int} (h : a = b) : some (Value.int k a) = some (Value.int k b) := by rw [h]
def str (l : List UInt8) : ByteArray := ⟨l.toArray⟩
theorem str_inj {a b : List UInt8} : str a = str b ↔ a = b := by
 constructor
 ·intro h; have := congrArg (fun s : ByteArray => s.data.toList) h; simpa [str] using this
 ·rintro rfl; rfl
theorem str_size (l : List UInt8) : (str l).size = l.length := by simp [str, ByteArray.size]
theorem str_toList (l : List UInt8) : (str l).toList = l := ByteArray.toList_mk l
section
variable {P : Program} {N : Nat} {e : Env} {w : World} {o : Oper} {K : Value → World → Prop}
theorem bin_run' {x y : Operand} {t ty : TypeId} {op : BinOp} {u u' v : Value} (hop : o.op = .binOp op t x y ty) (hx : ev e x = some u) (hy : ev e y = some u')
  (hg : ∀ w, (eqGuard op t x y u u').run P w = .ok () w) (hr : (binOp op t u u').run P w = .ok v w) (h : K v w) : OpW P N o e w K :=
 OpW_run (fun a ha => by simp [execOp, hop, ha.ev hx, ha.ev hy, hg, hr]) h
theorem op_eql_nil (T : Types P) {x y : Operand} {t ty el : TypeId} {A : Option Addr} {n c n' c' : Nat} (hop : o.op = .binOp .eql t x y ty) (hx : ev e x = some (.slice A n c)) (hy : ev e y = some (.slice none n' c')) (ht : T.d t = some (.slice el))
  (h1 : A = none → K (.bool true) w) (h2 : ∀ ad, A = some ad → K (.bool false) w) : OpW P N o e w K := by
 have hr := Lib.run_eql_slice_nil (P := P) w t el A n c n' c' (T.und' ht)
 cases A with
 | none => exact bin_run' hop hx hy (fun w => by simp [eqGuard]) hr (h1 rfl)
 | some ad => exact bin_run' hop hx hy (fun w => by simp [eqGuard]) hr (h2 ad rfl)
section
variable {x y : Operand} {t ty : TypeId} {a b : List UInt8}
theorem op_str_eql (hop : o.op = .binOp .eql t x y ty) (hx : ev e x = some (.string (str a))) (hy : ev e y = some (.string (str b))) (h1 : a = b → K (.bool true) w) (h2 : a ≠ b → K (.bool false) w) : OpW P N o e w K := by
 by_cases h : a = b
 ·exact bin_run' hop hx hy (fun w => by simp [eqGuard]) (by simp [binOp, Op.stringOp, str_toList, h]) (h1 h)
 ·exact bin_run' hop hx hy (fun w => by simp [eqGuard]) (by simp [binOp, Op.stringOp, str_toList, h]) (h2 h)
theorem op_str_neq (hop : o.op = .binOp .neq t x y ty) (hx : ev e x = some (.string (str a))) (hy : ev e y = some (.string (str b))) (h1 : a ≠ b → K (.bool true) w) (h2 : a = b → K (.bool false) w) : OpW P N o e w K := by
 by_cases h : a = b
 ·exact bin_run' hop hx hy (fun w => by simp [eqGuard]) (by simp [binOp, Op.stringOp, str_toList, h]) (h2 h)
 ·exact bin_run' hop hx hy (fun w => by simp [eqGuard]) (by simp [binOp, Op.stringOp, str_toList, h]) (h1 h)
end
theorem foldl_push (l : List UInt8) : ∀ r : ByteArray, ((l.map fun c => (c.toNat : Int)).foldl (fun r n => r.push (UInt8.ofNat n.toNat)) r) = r ++ str l := by
 induction l with
 | nil => intro r; apply ByteArray.ext; simp [str]
 | cons c l ih =>
  intro r
  simp only [List.map_cons, List.foldl_cons, ih]
  apply ByteArray.ext
  have : UInt8.ofNat ((c.toNat : Int)).toNat = c := by simp
  simp [str, this]
theorem op_string (T : Types P) {x : Operand} {src dst el : TypeId} {A : Option Addr} {n c : Nat} {l : List UInt8}
  (hop : o.op = .convert src dst x) (hx : ev e x = some (.slice A n c)) (hs : T.d src = some (.slice el)) (he : T.d el = some (.int .u8)) (hd : T.d dst = some .string)
  (hl : SliceOf Ru8 w (.slice A n c) l) (h : K (.string (str l)) w) : OpW P N o e w K := by
 obtain ⟨rfl, h1, h2⟩ := hl.len
 refine OpW_run (fun a ha => ?_) h
 have hconv := run_convert_bytes_string (P := P) w src dst el A l.length c (T.und' hs) (T.und' he) (T.und' hd)
 cases A with
 | none =>
  have : l = [] := by
   cases l with
   | nil => rfl
   | cons c l => obtain ⟨ad, u, he, _⟩ := hl.get (i := 0) (x := c) rfl; cases he
  subst this
  simp only [List.length_nil] at hconv
  simp [execOp, hop, ha.ev hx, hconv, Conv.bytesToString]
  rfl
 | some ad =>
  have hcell : ∀ j v, ((l.map fun c => (c.toNat : Int)).map (Value.int .u8))[j]? = some v → w.cell? (ad.add j) = some v := by
   intro j v hv
   rw [List.map_map, List.getElem?_map] at hv
   cases hlj : l[j]? with
   | none => simp [hlj] at hv
   | some c =>
    simp [hlj] at hv
    subst hv
    obtain ⟨ad', u, he, hu, hr⟩ := hl.get hlj
    injection he with he
    subst he
    rw [hu, hr]
  have hload := run_loadCells_list (P := P) w ad _ hcell
  rw [List.length_map, List.length_map] at hload
  have hb := run_bytesToString (P := P) w ad l.length c (l.map fun c => (c.toNat : Int)) hload
  rw [foldl_push] at hb
  simp [execOp, hop, ha.ev hx, hconv, hb]
end
theorem SliceOf.take {α : Type} {R : World → Value → α → Prop} {w : World} {L : List α} {A : Option Addr} {n c k m : Nat} (h : SliceOf R w (.slice A n c) L) (hm : m = min k L.length) : SliceOf R w (.slice A m c) (L.take k) := by
 obtain ⟨hn, h1, h2⟩ := h.len
 refine SliceOf.mk (by rw [List.length_take]; omega) (by rw [List.length_take]; omega) h2 fun i x hx => ?_
 rw [List.getElem?_take] at hx
 split at hx
 ·exact h.get hx
 ·cases hx
/-! ### A slice of the call's own that holds L, each element by R; S: other blocks that may turn while it stays -/
def OwnOf {α : Type} (R : World → Value → α → Prop) (t : TypeId) (S : List Nat) (w : World) (v : Value) (L : List α) : Prop :=
 ∃ vs, Own w t 1 v L.length vs ∧ ∀ (i : Nat) x u, L[i]? = some x → vs[i]? = some u → Firm (v.ownBlock.toList ++ S) w (fun w => R w u x)
section
variable {α : Type} {R : World → Value → α → Prop} {t : TypeId} {S S' : List Nat} {w w' : World} {v : Value} {L : List α}
theorem OwnOf.nil (R : World → Value → α → Prop) (t : TypeId) (S : List Nat) (w : World) : OwnOf R t S w (.slice none 0 0) [] := ⟨[], Own.nil _ _ _, fun i x u h => by simp at h⟩
theorem OwnOf.keep0 (h : OwnOf R t S w v L) (hc : Chg [] w w') : OwnOf R t S w' v L :=
 let ⟨vs, h1, h2⟩ := h
 ⟨vs, h1.keep0 hc, fun i x u hx hu => (h2 i x u hx hu).step0 hc⟩
theorem OwnOf.keep (h : OwnOf R t S w v L) (hc : Chg S' w w') (hs : ∀ k ∈ S', k < w.heap.size → k ∈ S) (hv : ∀ g, v.ownBlock = some g → g ∉ S') : OwnOf R t S w' v L :=
 let ⟨vs, h1, h2⟩ := h
 ⟨vs, h1.keep hc hv, fun i x u hx hu => (h2 i x u hx hu).step hc (fun k hk hlt => by simp [hs k hk hlt])⟩
theorem OwnOf.more (h : OwnOf R t S w v L) (hs : ∀ k ∈ S', k < w.heap.size → k ∈ S) : OwnOf R t S' w v L :=
 let ⟨vs, h1, h2⟩ := h
 ⟨vs, h1, fun i x u hx hu => (h2 i x u hx hu).more (fun k hk hlt => by
  rcases List.mem_append.1 hk with hk | hk
  ·simp [hk]
  ·simp [hs k hk hlt])⟩
theorem OwnOf.reads (h : OwnOf R t S w v L) : SliceOf R w v L :=
 let ⟨_, h1, h2⟩ := h
 h1.reads rfl fun i x u hx hu => (h2 i x u hx hu).now
theorem OwnOf.lt (h : OwnOf R t S w v L) {g : Nat} (hg : v.ownBlock = some g) : g < w.heap.size := let ⟨_, h1, _⟩ := h; h1.lt hg
theorem OwnOf.firm (h : OwnOf R t S w v L) (hv : ∀ g, v.ownBlock = some g → g ∉ S) : Firm S w (fun w => SliceOf R w v L) := fun w1 hc =>
 (h.keep hc (fun _ hk _ => hk) hv).reads
end
section
variable {P : Program} {N : Nat} {e : Env} {w : World} {o : Oper} {K : Value → World → Prop}
theorem op_push (T : Types P) {α : Type} {R : World → Value → α → Prop} {S : List Nat} {L : List α} {xa : α} {x y : Operand} {t el : TypeId} {d : TInfo} {v u : Value} {g c : Nat} {ts : Array TypeId}
  (hop : o.op = .call { callee := .builtin .append, args := #[x, y], argTypes := ts }) (hts : ts = #[t, t]) (hx : ev e x = some v) (hy : ev e y = some (.slice (some ⟨g, 0, none⟩) 1 c)) (ht : T.d t = some (.slice el)) (hel : T.tbl el = some d)
  (hz : Nat.beq d.zero.cells.size d.size = true) (hsz : Nat.beq d.size 1 = true)
  (hown : OwnOf R el S w v L) (hg : Blk w g el [u]) (hu1 : u.oneCell' = true) (hu : Firm (v.ownBlock.toList ++ S) w (fun w => R w u xa))
  (hlen : L.length < 1000000000) (hby : Nat.ble d.bytes 1000 = true)
  (h : ∀ v' w1, OwnOf R el S w1 v' (L ++ [xa]) → Chg v.ownBlock.toList w w1 → (v'.ownBlock = v.ownBlock ∨ ∃ g, v'.ownBlock = some g ∧ w.heap.size ≤ g) → K v' w1) : OpW P N o e w K := by
 obtain ⟨vs, h1, h2⟩ := hown
 have hsz' : d.size = 1 := Nat.eq_of_beq_eq_true hsz
 have hby' : d.bytes ≤ 1000 := Nat.le_of_ble_eq_true hby
 have hmul : (L.length + 1) * d.bytes ≤ 1000000000 * 1000 := Nat.mul_le_mul (by omega) hby'
 refine op_append T (m := 1) (news := [u]) hop hts hx hy ht hel hz (by rw [hsz']; rfl) (by rw [hsz']; exact h1) (by rw [hsz']; rfl) ?_ (by unfold maxLen; omega) (by omega) ?_
 ·intro j u' hj
  cases j with
  | zero => simp at hj; subst hj; exact ⟨⟨_, rfl, by rw [add_plain]; exact hg.cell rfl⟩, hu1⟩
  | succ j => simp at hj
 ·intro v' w1 ho hc hb _
  rw [hsz'] at ho
  have hvl : vs.length = L.length := by have := h1.length; omega
  refine h v' w1 ⟨vs ++ [u], by simpa using ho, fun i x' u' hx' hu' => ?_⟩ hc hb
  have hS : ∀ k ∈ v'.ownBlock.toList ++ S, k < w.heap.size → k ∈ v.ownBlock.toList ++ S := fun k hk hlt => by
   rcases List.mem_append.1 hk with hk | hk
   ·rcases hb with hb | ⟨g', hb, hge⟩
    ·rw [hb] at hk; simp [hk]
    ·rw [hb] at hk; simp at hk; omega
   ·simp [hk]
  have hstep : ∀ (φ : World → Prop), Firm (v.ownBlock.toList ++ S) w φ → Firm (v'.ownBlock.toList ++ S) w1 φ := fun φ hf w2 hc2 =>
   hf w2 ((hc.mono (fun k hk _ => by simp [hk])).trans (hc2.mono (fun k hk hlt => hk)) (fun k hk hlt => hS k hk hlt))
  by_cases hi : i < L.length
  ·rw [List.getElem?_append_left hi] at hx'
   rw [List.getElem?_append_left (by omega)] at hu'
   exact hstep _ (h2 i x' u' hx' hu')
  ·have hil : i = L.length := by
    have := (List.getElem?_eq_some_iff.1 hx').1
    simp at this; omega
   subst hil
   rw [List.getElem?_append_right (Nat.le_refl _)] at hx'
   rw [List.getElem?_append_right (by omega)] at hu'
   simp at hx'
   simp [hvl] at hu'
   subst hx'; subst hu'
   exact hstep _ hu
end
section
variable {P : Program} {N : Nat} {e : Env} {w : World} {o : Oper} {K : Value → World → Prop}
end
theorem SliceOf.of_heap {α : Type} {R : World → Value → α → Prop} {w : World} {g n c : Nat} {t : TypeId} {vs : List Value} {fr : Nat × Nat} {L : List α} (hg : w.heap[g]? = some (.cells vs.toArray t fr)) (hn : n = L.length) (hc : n ≤ c) (hm : c ≤ maxLen)
  (h : ∀ (i : Nat) (x : α), L[i]? = some x → ∃ u, vs[i]? = some u ∧ R w u x) : SliceOf R w (.slice (some ⟨g, 0, none⟩) n c) L :=
 SliceOf.mk hn (by omega) hm fun i x hx => by
  obtain ⟨u, hu, hr⟩ := h i x hx
  exact ⟨_, u, rfl, by rw [add_plain, cell_of_row w g i vs.toArray t fr hg]; simpa using hu, hr⟩
theorem SliceOf.of_blk {α : Type} {R : World → Value → α → Prop} {w : World} {g n c : Nat} {t : TypeId} {vs : List Value} {L : List α} (hg : Blk w g t vs) (hn : n = L.length) (hc : n ≤ c) (hm : c ≤ maxLen)
  (h : ∀ (i : Nat) (x : α), L[i]? = some x → ∃ u, vs[i]? = some u ∧ R w u x) : SliceOf R w (.slice (some ⟨g, 0, none⟩) n c) L := by
 unfold Blk at hg
 exact SliceOf.of_heap hg hn hc hm h
section
variable {P : Program} {N : Nat} {e : Env} {w : World} {o : Oper} {K : Value → World → Prop}
end
end Go.Vc
/-! An operation whose guard's own operation was passed over is passed over, too. -/
namespace Go.Vc
open Go
variable {P : Program} {N : Nat} {Q : Post} {e : Env} {w : World} {ops : Array Oper} {rest : List Oper} {o : Oper}
theorem wanted_undef {a : Act} (ha : Fits N e a) {j : Nat} {want : Bool} (hg : o.guard = some (j, want)) (hv : guardVal ops e j = some undef) : Region.wanted o (yielded ops a.tmps) = false := by
 unfold guardVal at hv
 unfold Region.wanted yielded
 rw [hg]
 cases hd : (ops[j]?).bind (·.dst) with
 | none => simp [hd] at hv
 | some d =>
  simp only [hd] at hv
  have := ha.look d _ hv
  simp only [hd, Option.bind_some, this]
  cases want <;> rfl
theorem WL_guardU {j d : Nat} {want : Bool} (hg : o.guard = some (j, want)) (hv : guardVal ops e j = some undef) (hdst : o.dst = some d) (hd : Nat.blt d N = true)
  (h2 : WL P N ops rest Q ((d, undef) :: e) w) : WL P N ops (o :: rest) Q e w := by
 unfold WL
 intro a ha
 unfold wpList
 rw [wanted_undef ha hg hv]
 simp only [Bool.false_eq_true, if_false]
 have h3 : ∀ a, Fits N ((d, undef) :: e) a → wpList P ops (Lift N Q) rest a w := by unfold WL at h2; exact h2
 rw [hdst]
 exact h3 _ (ha.put (d := some d) (show dstOk N (some d) = true from hd) undef)
end Go.Vc
/-! Maps: a block that reads as a partial function. -/
namespace Go.Vc
open Go Go.MapKept
structure KeyEnc {κ : Type} (d : TypeDesc) (kv : κ → Value) : Prop where
 isKey : ∀ a, IsKey d (kv a)
 inj : ∀ a b, kv a = kv b → a = b
theorem strKey : KeyEnc .string (fun l : List UInt8 => Value.string (str l)) := ⟨fun _ => trivial, fun a b h => by injection h with h; exact str_inj.1 h⟩
def MapAt {κ β : Type} (kv : κ → Value) (bv : β → Value) (w : World) (r : Nat) (f : κ → Option β) : Prop :=
 ∃ es clk, w.heap[r]? = some (.map es clk) ∧ Stamped es clk ∧ (∀ e ∈ es.toList, ∃ k b, e.key = kv k ∧ e.val = bv b ∧ f k = some b) ∧ (∀ k b, f k = some b → ∃ e ∈ es.toList, e.key = kv k)
def upd {κ β : Type} [DecidableEq κ] (f : κ → Option β) (k : κ) (b : β) : κ → Option β := fun k' => if k' = k then some b else f k'
theorem upd_same {κ β : Type} [DecidableEq κ] (f : κ → Option β) (k : κ) (b : β) : upd f k b k = some b := if_pos rfl
theorem upd_other {κ β : Type} [DecidableEq κ] (f : κ → Option β) (k k' : κ) (b : β) (h : k' ≠ k) : upd f k b k' = f k' := if_neg h
section
variable {κ β : Type} {kv : κ → Value} {bv : β → Value} {w w' : World} {r : Nat} {f : κ → Option β} {S : List Nat}
theorem MapAt.lt (h : MapAt kv bv w r f) : r < w.heap.size := let ⟨_, _, h1, _⟩ := h; (Array.getElem?_eq_some_iff.1 h1).1
theorem MapAt.keep (h : MapAt kv bv w r f) (hc : Chg S w w') (hn : r ∉ S) : MapAt kv bv w' r f := by
 have hlt := h.lt
 obtain ⟨es, clk, h1, h2⟩ := h
 exact ⟨es, clk, (hc.keep r hlt hn).trans h1, h2⟩
theorem MapAt.keep0 (h : MapAt kv bv w r f) (hc : Chg [] w w') : MapAt kv bv w' r f := h.keep hc (by simp)
theorem MapAt.ne_blk (h : MapAt kv bv w r f) {g : Nat} {t : TypeId} {cs : List Value} (hb : Blk w g t cs) : r ≠ g := by
 rintro rfl
 obtain ⟨es, clk, h1, _⟩ := h
 unfold Blk at hb
 rw [h1] at hb
 cases hb
theorem Chg.setMap {w : World} {r : Nat} (o : Obj) : Chg [r] w { w with heap := w.heap.setIfInBounds r o } :=
 ⟨rfl, rfl, rfl, by simp, fun k _ hn => by simp at hn; simp [Array.getElem?_setIfInBounds_ne (Ne.symm hn)]⟩
end
section
variable {P : Program} {N : Nat} {e : Env} {w : World} {o : Oper} {K : Value → World → Prop}
theorem op_makeMap {t : TypeId} {κ β : Type} (kv : κ → Value) (bv : β → Value) (hop : o.op = .makeMap t none)
  (h : ∀ g w1, w.heap.size ≤ g → Chg [] w w1 → MapAt kv bv w1 g (fun _ => none) → K (.map (some g)) w1) : OpW P N o e w K := by
 refine OpW_run (w' := w.alloc (.map #[] 0)) (fun a ha => ?_) (h w.heap.size _ (Nat.le_refl _) (Chg.alloc w _) ⟨#[], 0, (MapKept.heap_alloc w _).1, stamped_empty 0, by simp, by simp⟩)
 simp [execOp, hop, Instr.makeMap, Result.andThen]
theorem MapAt.find {κ β : Type} {kv : κ → Value} {bv : β → Value} {f : κ → Option β} {d : TypeDesc} (hk : KeyEnc d kv) {es : Array MapEntry} {clk : Nat} (h2 : Stamped es clk)
  (h3 : ∀ e ∈ es.toList, ∃ k b, e.key = kv k ∧ e.val = bv b ∧ f k = some b) (h4 : ∀ k b, f k = some b → ∃ e ∈ es.toList, e.key = kv k) (k : κ) :
  (f k = none ∧ Instr.findNow d (kv k) es.toList 0 = some none ∧ ∀ x ∈ es.toList, x.key ≠ kv k) ∨
  ∃ b j e, f k = some b ∧ Instr.findNow d (kv k) es.toList 0 = some (some (j, bv b)) ∧ es[j]? = some e ∧ e.key = kv k := by
 rcases findNow_spec (hk.isKey k) es.toList 0 (fun x hx => by obtain ⟨k', b, he, _⟩ := h3 x hx; rw [he]; exact hk.isKey k') with ⟨h, hne⟩ | ⟨j, e, h, hj, he⟩
 ·left
  refine ⟨?_, h, hne⟩
  cases hf : f k with
  | none => rfl
  | some b =>
   obtain ⟨e, he, hek⟩ := h4 k b hf
   exact absurd hek (hne e he)
 ·right
  obtain ⟨k', b, hek, heb, hf⟩ := h3 e (List.mem_of_getElem? hj)
  have hkk : k' = k := hk.inj _ _ (hek.symm.trans he)
  subst hkk
  exact ⟨b, j, e, hf, by rw [h, Nat.zero_add, heb], by simpa using hj, he⟩
theorem op_lookup (T : Types P) {κ β : Type} {kv : κ → Value} {bv : β → Value} {f : κ → Option β} {r : Nat} {k : κ} {t key el : TypeId} {d : TypeDesc} {dz : TInfo} {x y : Operand} (hk : KeyEnc d kv)
  (hop : o.op = .lookup t x y false) (hx : ev e x = some (.map (some r))) (hy : ev e y = some (kv k)) (ht : T.d t = some (.map key el)) (hd : T.d key = some d) (hel : T.tbl el = some dz)
  (hm : MapAt kv bv w r f) (h : K (match f k with | some b => bv b | none => dz.zero) w) : OpW P N o e w K := by
 obtain ⟨es, clk, h1, h2, h3, h4⟩ := hm
 obtain ⟨q, hq, hz, _, _⟩ := T.inf el dz hel
 refine OpW_run (fun a ha => ?_) h
 rcases MapAt.find hk h2 h3 h4 k with ⟨hf, hn, _⟩ | ⟨b, j, en, hf, hn, _, _⟩
 ·simp [execOp, hop, ha.ev hx, ha.ev hy, Instr.lookup, run_underlying (T.und' ht), MapKept.run_getObj_map h1, run_checkKey (T.und' hd) (hk.isKey k), run_findKey (T.und' hd) hn, zeroValue, typeInfo, hq, hz, Result.andThen, hf]
 ·simp [execOp, hop, ha.ev hx, ha.ev hy, Instr.lookup, run_underlying (T.und' ht), MapKept.run_getObj_map h1, run_checkKey (T.und' hd) (hk.isKey k), run_findKey (T.und' hd) hn, Result.andThen, hf]
theorem op_lookup_v (T : Types P) {κ β : Type} {kv : κ → Value} {bv : β → Value} {f : κ → Option β} {r : Nat} {k : κ} {t key el : TypeId} {d : TypeDesc} {dz : TInfo} {x y : Operand} (hk : KeyEnc d kv)
  (hop : o.op = .lookup t x y false) (hx : ev e x = some (.map (some r))) (hy : ev e y = some (kv k)) (ht : T.d t = some (.map key el)) (hd : T.d key = some d) (hel : T.tbl el = some dz)
  (hm : MapAt kv bv w r f) {v : Value} (hv : ∀ b, f k = some b → bv b = v) (hv0 : f k = none → dz.zero = v) (h : K v w) : OpW P N o e w K := by
 refine op_lookup T hk hop hx hy ht hd hel hm ?_
 cases hf : f k with
 | none => rw [hv0 hf]; exact h
 | some b => simp only [hv b hf]; exact h
theorem op_mapUpdate (T : Types P) {κ β : Type} [DecidableEq κ] {kv : κ → Value} {bv : β → Value} {f : κ → Option β} {r : Nat} {k : κ} {b : β} {t key el : TypeId} {d : TypeDesc} {x y z : Operand} (hk : KeyEnc d kv)
  (hop : o.op = .mapUpdate t x y z) (hx : ev e x = some (.map (some r))) (hy : ev e y = some (kv k)) (hz : ev e z = some (bv b)) (ht : T.d t = some (.map key el)) (hd : T.d key = some d)
  (hm : MapAt kv bv w r f) (h : ∀ w1, Chg [r] w w1 → MapAt kv bv w1 r (upd f k b) → w1.heap.size = w.heap.size → K undef w1) : OpW P N o e w K := by
 obtain ⟨es, clk, h1, h2, h3, h4⟩ := hm
 rcases MapAt.find hk h2 h3 h4 k with ⟨hf, hn, hne⟩ | ⟨b0, j, en, hf, hn, hj, hen⟩
 ·refine OpW_skip (w' := { w with heap := w.heap.setIfInBounds r (.map (es.push { key := kv k, val := bv b, born := clk }) (clk + 1)) }) (fun a ha => ?_) (h _ (Chg.setMap _) ⟨_, _, (MapKept.heap_set h1).1, stamped_push h2 hne, fun x hx => ?_, fun k' b' hk' => ?_⟩ (by simp))
  ·simp [execOp, hop, ha.ev hx, ha.ev hy, ha.ev hz, Instr.mapUpdate, run_underlying (T.und' ht), MapKept.run_getObj_map h1, run_checkKey (T.und' hd) (hk.isKey k), run_findKey (T.und' hd) hn, MapKept.run_setObj_map _ h1, Result.andThen]
  ·simp only [Array.toList_push, List.mem_append, List.mem_singleton] at hx
   rcases hx with hx | rfl
   ·obtain ⟨k', b', e1, e2, e3⟩ := h3 x hx
    refine ⟨k', b', e1, e2, ?_⟩
    rw [upd_other _ _ _ _ (fun he => hne x hx (by rw [e1, he])), e3]
   ·exact ⟨k, b, rfl, rfl, upd_same _ _ _⟩
  ·by_cases hkk : k' = k
   ·subst hkk
    exact ⟨{ key := kv k', val := bv b, born := clk }, by simp, rfl⟩
   ·rw [upd_other _ _ _ _ hkk] at hk'
    obtain ⟨en, he, hek⟩ := h4 k' b' hk'
    exact ⟨en, by simp [he], hek⟩
 ·have hkey : ∀ e', es[j]? = some e' → ({ e' with key := kv k, val := bv b } : MapEntry).key = e'.key := fun e' he' => by rw [hj] at he'; cases he'; exact hen.symm
  refine OpW_skip (w' := { w with heap := w.heap.setIfInBounds r (.map (es.modify j fun e => { e with key := kv k, val := bv b }) clk) }) (fun a ha => ?_) (h _ (Chg.setMap _) ⟨_, _, (MapKept.heap_set h1).1, stamped_modify h2 _ _ (fun _ _ => rfl) (fun e' _ he' => hkey e' he'), fun x hx => ?_, fun k' b' hk' => ?_⟩ (by simp))
  ·simp [execOp, hop, ha.ev hx, ha.ev hy, ha.ev hz, Instr.mapUpdate, run_underlying (T.und' ht), MapKept.run_getObj_map h1, run_checkKey (T.und' hd) (hk.isKey k), run_findKey (T.und' hd) hn, hj, hen, run_keyThatStays (hk.isKey k), MapKept.run_setObj_map _ h1, Result.andThen]
  ·obtain ⟨i, hi⟩ := List.getElem?_of_mem hx
   rw [Array.getElem?_toList, Array.getElem?_modify] at hi
   by_cases hij : j = i
   ·subst hij
    rw [if_pos rfl, hj] at hi
    simp at hi
    subst hi
    exact ⟨k, b, rfl, rfl, upd_same _ _ _⟩
   ·rw [if_neg hij] at hi
    have hmem : x ∈ es.toList := by simpa using Array.mem_of_getElem? hi
    obtain ⟨k', b', e1, e2, e3⟩ := h3 x hmem
    refine ⟨k', b', e1, e2, ?_⟩
    rw [upd_other _ _ _ _ (fun he => ?_), e3]
    subst he
    have e4 : (es.toList.map (·.key))[i]? = (es.toList.map (·.key))[j]? := by
     rw [List.getElem?_map, List.getElem?_map, Array.getElem?_toList, Array.getElem?_toList, hi, hj, Option.map_some, Option.map_some, e1, hen]
    have hil : i < (es.toList.map (·.key)).length := by have := (Array.getElem?_eq_some_iff.1 hi).1; simpa using this
    exact hij ((List.getElem?_inj hil h2.2.2).1 e4).symm
  ·obtain ⟨en', he', hek'⟩ : ∃ en' ∈ es.toList, en'.key = kv k' := by
    by_cases hkk : k' = k
    ·subst hkk; exact ⟨en, by simpa using Array.mem_of_getElem? hj, hen⟩
    ·rw [upd_other _ _ _ _ hkk] at hk'; exact h4 k' b' hk'
   have hm := modify_keys (es := es) j (fun e => { e with key := kv k, val := bv b }) hkey
   have : kv k' ∈ (es.modify j fun e => { e with key := kv k, val := bv b }).toList.map (·.key) := by rw [hm, ← hek']; exact List.mem_map.2 ⟨en', he', rfl⟩
   obtain ⟨y, hy, e1⟩ := List.mem_map.1 this
   exact ⟨y, hy, e1⟩
end
end Go.Vc
/-! Structs, arrays, pointers, bits. -/
namespace Go.Vc
open Go
section
variable {P : Program} {N : Nat} {e : Env} {w : World} {o : Oper} {K : Value → World → Prop}
theorem op_eql_nilptr (T : Types P) {x y : Operand} {t ty el : TypeId} {p : Option Addr} {b : Bool} (hop : o.op = .binOp .eql t x y ty) (hx : ev e x = some (.pointer p)) (hy : ev e y = some (.pointer none)) (ht : T.d t = some (.pointer el)) (hb : p.isNone = b)
  (h : K (.bool b) w) : OpW P N o e w K := by
 subst hb
 have hu := T.und' ht
 have hr : (binOp .eql t (.pointer p) (.pointer none)).run P w = .ok (.bool p.isNone) w := run_eql_pointer_nil w t p (by rw [hu]; simp [Program.pointee, hu])
 exact bin_run' hop hx hy (fun w => by simp [eqGuard]) hr h
theorem op_neq_nilptr (T : Types P) {x y : Operand} {t ty el : TypeId} {p : Option Addr} {b : Bool} (hop : o.op = .binOp .neq t x y ty) (hx : ev e x = some (.pointer p)) (hy : ev e y = some (.pointer none)) (ht : T.d t = some (.pointer el)) (hb : (!p.isNone) = b)
  (h : K (.bool b) w) : OpW P N o e w K := by
 subst hb
 have hu := T.und' ht
 have hr : (binOp .neq t (.pointer p) (.pointer none)).run P w = .ok (.bool (!p.isNone)) w := run_neq_pointer_nil w t p (by rw [hu]; simp [Program.pointee, hu])
 exact bin_run' hop hx hy (fun w => by simp [eqGuard]) hr h
theorem op_eql_bools (T : Types P) {x y : Operand} {t ty : TypeId} {a b : Bool} (hop : o.op = .binOp .eql t x y ty) (hx : ev e x = some (.bool a)) (hy : ev e y = some (.bool b)) (ht : T.d t = some .bool) (h : K (.bool (a == b)) w) : OpW P N o e w K :=
 bin_run' hop hx hy (fun w => by simp [eqGuard]) (run_eql_bool w t a b (T.und' ht)) h
theorem op_index_at (T : Types P) {x y : Operand} {t el n : Nat} {k : IntKind} {i : Nat} {g j : Nat} {d : TInfo}
  (hop : o.op = .indexAddr t x y) (hx : ev e x = some (.pointer (some ⟨g, j, none⟩))) (hy : ev e y = some (.int k (i : Int))) (ht : T.d t = some (.array n el)) (hel : T.tbl el = some d) (hs1 : Nat.beq d.size 1 = true) (hi : i < n)
  (h : K (.pointer (some ⟨g, j + i, none⟩)) w) : OpW P N o e w K := by
 obtain ⟨q, hq, _, hs, _⟩ := T.inf el d hel
 have hs2 : d.size = 1 := Nat.eq_of_beq_eq_true hs1
 have hin : (0 : Int) ≤ (i : Int) ∧ (i : Int) < (n : Int) := by omega
 have had : (⟨g, j, none⟩ : Addr).add i = ⟨g, j + i, none⟩ := by unfold Addr.add; split <;> simp_all
 exact OpW_run (fun a ha => by simp [execOp, hop, ha.ev hx, ha.ev hy, Instr.indexAt, Instr.sureAddr, asIntOf, run_underlying (T.und' ht), hin, sizeOf, typeInfo, hq, hs, hs2, Result.andThen, hi, had]) h
theorem op_store_agg (T : Types P) {x y : Operand} {t el : TypeId} {d : TInfo} {g i : Nat} {vs : Array Value} {cs : List Value}
  (hop : o.op = .store t x y) (hx : ev e x = some (.pointer (some ⟨g, i, none⟩))) (hy : ev e y = some (.agg vs)) (ht : T.tbl t = some d) (hd : Nat.beq d.size vs.toList.length = true) (hv : vs.toList.all (·.oneCell') = true)
  (hb : Blk w g el cs) (hi : i + vs.toList.length ≤ cs.length) (h : ∀ w1, Chg [g] w w1 → Blk w1 g el (cs.take i ++ vs.toList ++ cs.drop (i + vs.toList.length)) → w1.heap.size = w.heap.size → K undef w1) : OpW P N o e w K := by
 obtain ⟨q, hq, _, hs, _⟩ := T.inf t d ht
 have hb' := hb
 unfold Blk at hb'
 have hr := run_storeCells_at (P := P) g i el vs.toList 0 cs.toArray w hb' (by simpa using hi) (fun v hv' => List.all_eq_true.1 hv v hv')
 have hd' : vs.size = d.size := by have := Nat.eq_of_beq_eq_true hd; simpa using this.symm
 refine OpW_skip (w' := w.setRow g (cs.toArray.toList.take (i + 0) ++ vs.toList ++ cs.toArray.toList.drop (i + 0 + vs.toList.length)).toArray) (fun a ha => ?_) (h _ ⟨rfl, rfl, rfl, by simp, fun k _ hk => setRow_other w g k _ (by simpa using hk)⟩ ?_ (by simp))
 ·simp only [Array.length_toList] at hr
  simp [execOp, hop, ha.ev hx, ha.ev hy, Instr.storeAt, Instr.sureAddr, storeVar, Value.cells, sizeOf, typeInfo, hq, hs, hd', hr, Result.andThen]
 ·unfold Blk
  rw [setRow_heap w g cs.toArray _ el _ hb', Nat.add_zero]
/-! ### Bits -/
theorem op_and {x y : Operand} {t ty : TypeId} {k : IntKind} {m n r : Int} (hop : o.op = .binOp .and t x y ty) (hx : ev e x = some (.int k m)) (hy : ev e y = some (.int k n)) (hr : k.wrap ((BitVec.ofInt k.bits m &&& BitVec.ofInt k.bits n).toNat : Int) = r) (h : K (.int k r) w) : OpW P N o e w K :=
 bin_run hop hx hy (by subst hr; simp [binOp, Op.intBits]) h
theorem op_xor {x y : Operand} {t ty : TypeId} {k : IntKind} {m n r : Int} (hop : o.op = .binOp .xor t x y ty) (hx : ev e x = some (.int k m)) (hy : ev e y = some (.int k n)) (hr : k.wrap ((BitVec.ofInt k.bits m ^^^ BitVec.ofInt k.bits n).toNat : Int) = r) (h : K (.int k r) w) : OpW P N o e w K :=
 bin_run hop hx hy (by subst hr; simp [binOp, Op.intBits]) h
theorem op_or {x y : Operand} {t ty : TypeId} {k : IntKind} {m n r : Int} (hop : o.op = .binOp .or t x y ty) (hx : ev e x = some (.int k m)) (hy : ev e y = some (.int k n)) (hr : k.wrap ((BitVec.ofInt k.bits m ||| BitVec.ofInt k.bits n).toNat : Int) = r) (h : K (.int k r) w) : OpW P N o e w K :=
 bin_run hop hx hy (by subst hr; simp [binOp, Op.intBits]) h
theorem op_shr {x y : Operand} {t ty : TypeId} {k k' : IntKind} {m n r : Int} (hop : o.op = .binOp .shr t x y ty) (hx : ev e x = some (.int k m)) (hy : ev e y = some (.int k' n)) (h0 : ¬ n < 0) (hr : m.fdiv (2 ^ (min n.toNat k.bits)) = r) (h : K (.int k r) w) : OpW P N o e w K := by
 subst hr
 exact bin_run' hop hx hy (fun w => by simp [eqGuard]) (by simp [binOp, Op.shift, h0]) h
theorem op_shl {x y : Operand} {t ty : TypeId} {k k' : IntKind} {m n r : Int} (hop : o.op = .binOp .shl t x y ty) (hx : ev e x = some (.int k m)) (hy : ev e y = some (.int k' n)) (h0 : ¬ n < 0) (hr : k.wrap (m * 2 ^ (min n.toNat k.bits)) = r) (h : K (.int k r) w) : OpW P N o e w K := by
 subst hr
 exact bin_run' hop hx hy (fun w => by simp [eqGuard]) (by simp [binOp, Op.shift, h0]) h
theorem op_neg {x : Operand} {t : TypeId} {k : IntKind} {m r : Int} (hop : o.op = .unOp .neg t x) (hx : ev e x = some (.int k m)) (hr : k.wrap (0 - m) = r) (h : K (.int k r) w) : OpW P N o e w K := by
 subst hr
 exact OpW_run (fun a ha => by simp [execOp, hop, ha.ev hx, Op.unary, Op.intArith]) h
theorem op_compl {x : Operand} {t : TypeId} {k : IntKind} {m r : Int} (hop : o.op = .unOp .xor t x) (hx : ev e x = some (.int k m)) (hr : k.wrap ((BitVec.ofInt k.bits (if k.signed then -1 else k.max) ^^^ BitVec.ofInt k.bits m).toNat : Int) = r) (h : K (.int k r) w) : OpW P N o e w K := by
 subst hr
 exact OpW_run (fun a ha => by simp [execOp, hop, ha.ev hx, Op.unary, Op.intBits]) h
theorem op_convert_int (T : Types P) {x : Operand} {s t : TypeId} {k k' : IntKind} {m r : Int} {ds : TypeDesc} (hop : o.op = .convert s t x) (hx : ev e x = some (.int k' m)) (hs : T.d s = some ds) (ht : T.d t = some (.int k)) (hr : k.wrap m = r) (h : K (.int k r) w) : OpW P N o e w K := by
 subst hr
 exact OpW_run (fun a ha => by simp [execOp, hop, ha.ev hx, convert, run_underlying (T.und' hs), run_underlying (T.und' ht), Conv.intToInt, Result.andThen]) h
end
theorem loadVar_agg {P : Program} (T : Types P) {w : World} {t el : TypeId} {d : TInfo} {g : Nat} {cs : List Value} (ht : T.tbl t = some d) (hd : aggI d = true) (hb : Blk w g el cs) (hs' : Nat.beq d.size cs.length = true) :
  (loadVar t ⟨g, 0, none⟩).run P w = .ok (.agg cs.toArray) w := by
 obtain ⟨q, hq, _, hs, _⟩ := T.inf t d ht
 have hl := run_loadCells_list (P := P) w ⟨g, 0, none⟩ cs (fun j v hv => by rw [add_plain]; exact hb.cell hv)
 have hlen : d.size = cs.length := Nat.eq_of_beq_eq_true hs'
 rw [← hlen] at hl
 have hagg := run_isAgg T ht w
 rw [hd] at hagg
 simp [loadVar, hagg, sizeOf, typeInfo, hq, hs, hl]
theorem post2c {P : Program} (T : Types P) {fn : Func} {R : Value → World → Prop} {e : Env} {w : World} {x : Exit} {t u : Tmp} {v' : Value} {ty el : TypeId} {d : TInfo} {g : Nat} {cs : List Value}
  (hx : x = .ret ∨ x = .normal) (h : fn.results = #[.cell t ty, .tmp u]) (hv : look e t = some (.pointer (some ⟨g, 0, none⟩))) (hv' : look e u = some v') (ht : T.tbl ty = some d) (hd : aggI d = true) (hb : Blk w g el cs) (hs : Nat.beq d.size cs.length = true)
  (hR : R (.tuple #[.agg cs.toArray, v']) w) : PostF P fn R x e w := by
 have : ∀ N a, Fits N e a → (results fn a.tmps).run P w = .ok (.tuple #[.agg cs.toArray, v']) w := fun N a ha => by
  have h1 := ha.look t _ hv
  have h2 := ha.look u v' hv'
  rw [results_cell_tmp h]
  simp [Array.getD_eq_getD_getElem?, h1, h2, asAddr, loadVar_agg T ht hd hb hs, Result.andThen]
 unfold PostF
 rcases hx with rfl | rfl <;> exact ⟨_, this, hR⟩
end Go.Vc
/-! Ranges over a map, in whatever order. -/
namespace Go.Vc
open Go Go.MapKept
open Go.ChangeMaps (setBlock)
def IterAt {κ β : Type} (kv : κ → Value) (bv : β → Value) (w : World) (it r : Nat) (f : κ → Option β) (ks : List κ) : Prop :=
 ∃ es clk seen, w.heap[r]? = some (.map es clk) ∧ w.heap[it]? = some (.mapIter (some r) clk seen clk) ∧ Stamped es clk ∧ (∀ e ∈ es.toList, ∃ k b, e.key = kv k ∧ e.val = bv b ∧ f k = some b) ∧ (∀ k b, f k = some b → ∃ e ∈ es.toList, e.key = kv k) ∧
  ks.Nodup ∧ (∀ e ∈ es.toList, ∀ k, e.key = kv k → (seen.contains e.born = true ↔ k ∈ ks)) ∧ (∀ k ∈ ks, ∃ b, f k = some b) ∧ (∀ ks' k, ks = ks' ++ [k] → ∃ e ∈ es.toList, ∃ seen' : Array Nat, seen = seen'.push e.born ∧ e.key = kv k)
section
variable {κ β : Type} {kv : κ → Value} {bv : β → Value} {w w' : World} {it r : Nat} {f : κ → Option β} {ks : List κ} {S : List Nat}
theorem IterAt.lt (h : IterAt kv bv w it r f ks) : it < w.heap.size := let ⟨_, _, _, _, h1, _⟩ := h; (Array.getElem?_eq_some_iff.1 h1).1
theorem IterAt.lt_map (h : IterAt kv bv w it r f ks) : r < w.heap.size := let ⟨_, _, _, h1, _⟩ := h; (Array.getElem?_eq_some_iff.1 h1).1
theorem IterAt.map (h : IterAt kv bv w it r f ks) : MapAt kv bv w r f := let ⟨es, clk, _, h1, _, h2, h3, h4, _⟩ := h; ⟨es, clk, h1, h2, h3, h4⟩
theorem IterAt.keep (h : IterAt kv bv w it r f ks) (hc : Chg S w w') (hi : it ∉ S) (hr : r ∉ S) : IterAt kv bv w' it r f ks := by
 have hlt := h.lt
 have hlm := h.lt_map
 obtain ⟨es, clk, seen, h1, h2, h3⟩ := h
 exact ⟨es, clk, seen, (hc.keep r hlm hr).trans h1, (hc.keep it hlt hi).trans h2, h3⟩
theorem IterAt.keep0 (h : IterAt kv bv w it r f ks) (hc : Chg [] w w') : IterAt kv bv w' it r f ks := h.keep hc (by simp) (by simp)
theorem IterAt.ne_blk (h : IterAt kv bv w it r f ks) {g : Nat} {t : TypeId} {cs : List Value} (hb : Blk w g t cs) : it ≠ g := by
 rintro rfl
 obtain ⟨_, _, _, _, h1, _⟩ := h
 unfold Blk at hb
 rw [h1] at hb
 cases hb
end
section
variable {P : Program} {N : Nat} {e : Env} {w : World} {o : Oper} {K : Value → World → Prop}
theorem op_range (T : Types P) {κ β : Type} {kv : κ → Value} {bv : β → Value} {f : κ → Option β} {r : Nat} {t key el : TypeId} {x : Operand} {d : TypeDesc} (hk : KeyEnc d kv)
  (hop : o.op = .range t x) (hx : ev e x = some (.map (some r))) (ht : T.d t = some (.map key el)) (hm : MapAt kv bv w r f)
  (h : ∀ it w1, w.heap.size ≤ it → Chg [] w w1 → IterAt kv bv w1 it r f [] → K (.pointer (some ⟨it, 0, none⟩)) w1) : OpW P N o e w K := by
 have hlt := hm.lt
 obtain ⟨es, clk, h1, h2, h3, h4⟩ := hm
 have hr := run_range_map (P := P) w t key el r es clk (T.und' ht) h1
 refine OpW_run (w' := w.alloc (.mapIter (some r) clk #[] clk)) (fun a ha => by simp [execOp, hop, ha.ev hx, hr, Result.andThen]) (h w.heap.size _ (Nat.le_refl _) (Chg.alloc w _)
  ⟨es, clk, #[], (MapKept.heap_alloc w _).2 r hlt |>.trans h1, (MapKept.heap_alloc w _).1, h2, h3, h4, List.nodup_nil, fun e _ k _ => by simp, by simp, fun ks' k h => by simp at h⟩)
theorem op_next {κ β : Type} [DecidableEq κ] {kv : κ → Value} {bv : β → Value} {f : κ → Option β} {it r : Nat} {ks : List κ} {x : Operand} {d : TypeDesc} (hk : KeyEnc d kv)
  (hop : o.op = .next x false) (hx : ev e x = some (.pointer (some ⟨it, 0, none⟩))) (hI : IterAt kv bv w it r f ks)
  (h0 : (∀ k b, f k = some b → k ∈ ks) → K (.tuple #[.bool false]) w)
  (h1 : ∀ k b w1, f k = some b → k ∉ ks → Chg [it] w w1 → w1.heap.size = w.heap.size → IterAt kv bv w1 it r f (ks ++ [k]) → K (.tuple #[.bool true, kv k, bv b]) w1) : OpW P N o e w K := by
 have hir : it ≠ r := by
  rintro rfl
  obtain ⟨_, _, _, a1, a2, _⟩ := hI
  rw [a1] at a2
  cases a2
 obtain ⟨es, clk, seen, g1, g2, g3, g4, g5, g6, g7, g8, g9⟩ := hI
 rcases run_next_at (P := P) w o.type it r clk clk seen es clk g2 g1 g3.1 (Nat.le_refl _) with ⟨hs, hr⟩ | ⟨en, hen, w1, hw1, hr⟩
 ·refine OpW_run (w' := w) (fun a ha => by simp [execOp, hop, ha.ev hx, hr, Result.andThen]) (h0 fun k b hf => ?_)
  obtain ⟨en, hen, hek⟩ := g5 k b hf
  refine (g7 en hen k hek).1 ?_
  cases hc : seen.contains en.born with
  | true => rfl
  | false =>
   have : en ∈ (leftOf es seen).toList := by
    unfold leftOf
    simp only [Array.toList_filter, List.mem_filter]
    exact ⟨hen, by rw [hc]; rfl⟩
   have hne : (leftOf es seen).toList.length = 0 := by simpa using hs
   rw [List.eq_nil_of_length_eq_zero hne] at this
   cases this
 ·obtain ⟨hmem, hnot⟩ := mem_left hen
  obtain ⟨k, b, e1, e2, e3⟩ := g4 en hmem
  have hheap : w1.heap = w.heap := by rcases hw1 with rfl | rfl <;> rfl
  have hkn : k ∉ ks := fun h => by rw [(g7 en hmem k e1).2 h] at hnot; cases hnot
  have hlt : it < w.heap.size := (Array.getElem?_eq_some_iff.1 g2).1
  have hchg : Chg [it] w (setBlock w1 it (.mapIter (some r) clk (seen.push en.born) clk)) := by
   have a1 : Chg [it] w w1 := by rcases hw1 with rfl | rfl; exact Chg.refl _ _; exact Chg.drew _ _
   exact a1.trans (Chg.setMap _) (fun _ h _ => h)
  have hsz : (setBlock w1 it (.mapIter (some r) clk (seen.push en.born) clk)).heap.size = w.heap.size := by simp [setBlock, hheap]
  have hit : (setBlock w1 it (.mapIter (some r) clk (seen.push en.born) clk)).heap[it]? = some (.mapIter (some r) clk (seen.push en.born) clk) := by simp [setBlock, hheap, hlt]
  have hmp : (setBlock w1 it (.mapIter (some r) clk (seen.push en.born) clk)).heap[r]? = some (.map es clk) := by
   simp only [setBlock, hheap]
   rw [Array.getElem?_setIfInBounds_ne hir]
   exact g1
  rw [e1, e2] at hr
  refine OpW_run (w' := setBlock w1 it (.mapIter (some r) clk (seen.push en.born) clk)) (fun a ha => by simp [execOp, hop, ha.ev hx, hr, Result.andThen]) (h1 k b _ e3 hkn hchg hsz ⟨es, clk, _, hmp, hit, g3, g4, g5, ?_, fun e' he' k' hk' => ?_, fun k' hk' => ?_, fun ks' k' hks => ?_⟩)
  ·exact List.nodup_append.2 ⟨g6, by simp, fun a ha b hb => by simp at hb; subst hb; rintro rfl; exact hkn ha⟩
  ·rw [contains_push]
   by_cases hee : e'.born = en.born
   ·have : e' = en := by
     obtain ⟨i, hi⟩ := List.getElem?_of_mem he'
     obtain ⟨j, hj⟩ := List.getElem?_of_mem hmem
     have hb : (es.toList.map (·.born))[i]? = (es.toList.map (·.born))[j]? := by rw [List.getElem?_map, List.getElem?_map, hi, hj]; simp [hee]
     have hil : i < (es.toList.map (·.born)).length := by rw [List.length_map]; exact (List.getElem?_eq_some_iff.1 hi).1
     have := (List.getElem?_inj hil g3.2.1).1 hb
     subst this
     rw [hi] at hj; injection hj
    subst this
    have : k' = k := hk.inj _ _ (hk'.symm.trans e1)
    subst this
    simp
   ·have h7 := g7 e' he' k' hk'
    have hne : k' ≠ k := fun h => by
     subst h
     obtain ⟨i, hi⟩ := List.getElem?_of_mem he'
     obtain ⟨j, hj⟩ := List.getElem?_of_mem hmem
     have hb : (es.toList.map (·.key))[i]? = (es.toList.map (·.key))[j]? := by rw [List.getElem?_map, List.getElem?_map, hi, hj]; simp [hk', e1]
     have hil : i < (es.toList.map (·.key)).length := by rw [List.length_map]; exact (List.getElem?_eq_some_iff.1 hi).1
     have := (List.getElem?_inj hil g3.2.2).1 hb
     subst this
     rw [hi] at hj; injection hj with hj
     exact hee (by rw [hj])
    have hbe : (e'.born == en.born) = false := by simpa using hee
    rw [hbe, Bool.or_false, h7, List.mem_append]
    simp [hne]
  ·rcases List.mem_append.1 hk' with h | h
   ·exact g8 k' h
   ·simp at h; subst h; exact ⟨b, e3⟩
  ·have : k' = k := by have := (List.append_inj' hks rfl).2; simpa using this.symm
   subst this
   exact ⟨en, hmem, seen, rfl, e1⟩
theorem op_entry {κ β : Type} {kv : κ → Value} {bv : β → Value} {f : κ → Option β} {it r : Nat} {ks : List κ} {k : κ} {b : β} {x : Operand} {d : TypeDesc} (hk : KeyEnc d kv)
  (hop : o.op = .entry x) (hx : ev e x = some (.pointer (some ⟨it, 0, none⟩))) (hI : IterAt kv bv w it r f (ks ++ [k])) (hf : f k = some b) (h : K (.tuple #[kv k, bv b]) w) : OpW P N o e w K := by
 obtain ⟨es, clk, seen, g1, g2, g3, g4, g5, g6, g7, g8, g9⟩ := hI
 obtain ⟨en, hen, seen', rfl, e1⟩ := g9 ks k rfl
 obtain ⟨k', b', e2, e3, e4⟩ := g4 en hen
 have : k' = k := hk.inj _ _ (e2.symm.trans e1)
 subst this
 rw [hf] at e4
 injection e4 with e4
 subst e4
 have hr := run_entry_at (P := P) w it r clk seen' es clk en g2 g1 hen g3.2.1
 rw [e1, e3] at hr
 exact OpW_run (fun a ha => by simp [execOp, hop, ha.ev hx, hr, Result.andThen]) h
end
end Go.Vc
/-! More steps: texts joined and compared, bytes of a text; maps: delete, how many, a copy. -/
namespace Go.Vc
open Go Go.MapKept
def keyV (k : List UInt8) : Value := .string (str k)
def u8s (l : List UInt8) : List Value := l.map fun c => .int .u8 (c.toNat : Int)
theorem u8s_length (l : List UInt8) : (u8s l).length = l.length := by simp [u8s]
theorem u8s_get {l : List UInt8} {i : Nat} {c : UInt8} (h : l[i]? = some c) : (u8s l)[i]? = some (.int .u8 (c.toNat : Int)) := by simp [u8s, h]
theorem u8s_inv {l : List UInt8} {i : Nat} {v : Value} (h : (u8s l)[i]? = some v) : ∃ c, l[i]? = some c ∧ v = .int .u8 (c.toNat : Int) := by
 unfold u8s at h
 rw [List.getElem?_map] at h
 cases hx : l[i]? with
 | none => simp [hx] at h
 | some x => simp [hx] at h; exact ⟨x, rfl, h.symm⟩
theorem u8s_set (l : List UInt8) (i : Nat) (c : UInt8) : (u8s l).set i (.int .u8 (c.toNat : Int)) = u8s (l.set i c) := by simp [u8s, List.map_set]
theorem u8s_append (a b : List UInt8) : u8s (a ++ b) = u8s a ++ u8s b := by simp [u8s]
theorem str_append (a b : List UInt8) : str a ++ str b = str (a ++ b) := by
 apply ByteArray.ext
 simp [str]
section
variable {P : Program} {N : Nat} {e : Env} {w : World} {o : Oper} {K : Value → World → Prop}
theorem op_str_add {x y : Operand} {t ty : TypeId} {a b : List UInt8} (hop : o.op = .binOp .add t x y ty) (hx : ev e x = some (.string (str a))) (hy : ev e y = some (.string (str b))) (hl : a.length + b.length ≤ 1000000000) (h : K (.string (str (a ++ b))) w) : OpW P N o e w K := by
 refine bin_run' hop hx hy (fun w => by simp [eqGuard]) ?_ h
 have h1 : ¬ (((str a).size + (str b).size : Nat) : Int) > IntKind.i64.max := by
  rw [str_size, str_size]
  have : IntKind.i64.max = 9223372036854775807 := by decide
  omega
 simp only [binOp, Op.stringOp, h1, if_false, str_append]
 rfl
theorem OpW_sub {e' : Env} (hs : SubL e e') (h : OpW P N o e' w K) : OpW P N o e w K := by
 unfold OpW at *
 exact fun a ha => h a (ha.sub hs)
theorem op_lss_b {x y : Operand} {t ty : TypeId} {k : IntKind} {m n : Int} (hop : o.op = .binOp .lss t x y ty) (hx : ev e x = some (.int k m)) (hy : ev e y = some (.int k n)) (h : K (.bool (decide (m < n))) w) : OpW P N o e w K :=
 op_lss hop hx hy (fun hc => by rw [decide_eq_true hc] at h; exact h) (fun hc => by rw [decide_eq_false hc] at h; exact h)
theorem op_len_str (T : Types P) {x : Operand} {t : TypeId} {ts : Array TypeId} {l : List UInt8}
  (hop : o.op = .call { callee := .builtin .len, args := #[x], argTypes := ts }) (hts : ts = #[t]) (hx : ev e x = some (.string (str l))) (ht : T.d t = some .string) (h : K (.int .i64 (l.length : Nat)) w) : OpW P N o e w K :=
 op_len_string T hop hts hx ht (by rw [str_size]; exact h)
theorem op_index_str (T : Types P) {x y : Operand} {t : TypeId} {k : IntKind} {i : Nat} {l : List UInt8} {c : UInt8}
  (hop : o.op = .index t x y) (hx : ev e x = some (.string (str l))) (hy : ev e y = some (.int k (i : Int))) (ht : T.d t = some .string) (hc : l[i]? = some c) (h : K (.int .u8 (c.toNat : Int)) w) : OpW P N o e w K := by
 have hb : (str l)[i]? = some c := by
  have hi := (List.getElem?_eq_some_iff.1 hc).1
  rw [getElem?_pos (str l) i (by rw [str_size]; exact hi)]
  have := (List.getElem?_eq_some_iff.1 hc).2
  simp [str, ByteArray.getElem_eq_getElem_data, this]
 exact OpW_run (fun a ha => by simp [execOp, hop, ha.ev hx, ha.ev hy, Instr.index, asIntOf, run_underlying (T.und' ht), hb, Result.andThen]) h
theorem op_loadB (T : Types P) {x : Operand} {t el : TypeId} {d : TInfo} {g i : Nat} {v : Value} {cs : List Value}
  (hop : o.op = .load t x) (hx : ev e x = some (.pointer (some ⟨g, i, none⟩))) (ht : T.tbl t = some d) (hd : aggI d = false) (hb : Blk w g el cs) (hv : nth cs i = some v) (h : K v w) : OpW P N o e w K :=
 op_load T hop hx ht hd (hb.cell (by rw [← nth_eq]; exact hv)) h
def rid {κ β : Type} [DecidableEq κ] (f : κ → Option β) (k : κ) : κ → Option β := fun k' => if k' = k then none else f k'
theorem op_delete (T : Types P) {κ β : Type} [DecidableEq κ] {kv : κ → Value} {bv : β → Value} {f : κ → Option β} {r : Nat} {k : κ} {t key el : TypeId} {d : TypeDesc} {x y : Operand} {ts : Array TypeId} (hk : KeyEnc d kv)
  (hop : o.op = .call { callee := .builtin .delete, args := #[x, y], argTypes := ts }) (hts : ts = #[t, key]) (hx : ev e x = some (.map (some r))) (hy : ev e y = some (kv k)) (ht : T.d t = some (.map key el)) (hd : T.d key = some d)
  (hm : MapAt kv bv w r f) (h : ∀ w1, Chg [r] w w1 → MapAt kv bv w1 r (rid f k) → w1.heap.size = w.heap.size → K (.tuple #[]) w1) : OpW P N o e w K := by
 subst hts
 obtain ⟨es, clk, h1, h2, h3, h4⟩ := hm
 rcases MapAt.find hk h2 h3 h4 k with ⟨hf, hn, hne⟩ | ⟨b0, j, en, hf, hn, hj, hen⟩
 ·refine OpW_run (v := .tuple #[]) (w' := { w with heap := w.heap.setIfInBounds r (.map es clk) }) (fun a ha => ?_) (h _ (Chg.setMap _) ⟨_, _, (MapKept.heap_set h1).1, h2, fun x hx => ?_, fun k' b' hk' => ?_⟩ (by simp))
  ·simp [execOp, hop, resolve, invoke, builtin, ha.ev hx, ha.ev hy, Builtin.delete_, run_underlying (T.und' ht), MapKept.run_getObj_map h1, run_checkKey (T.und' hd) (hk.isKey k), run_findKey (T.und' hd) hn, MapKept.run_setObj_map _ h1, Result.andThen]
  ·obtain ⟨k', b', e1, e2, e3⟩ := h3 x hx
   refine ⟨k', b', e1, e2, ?_⟩
   unfold rid
   rw [if_neg (fun he => hne x hx (by rw [e1, he]))]; exact e3
  ·unfold rid at hk'
   split at hk'
   ·cases hk'
   ·exact h4 k' b' hk'
 ·have hsub : (es.eraseIdxIfInBounds j).toList.Sublist es.toList := by
   unfold Array.eraseIdxIfInBounds
   split
   ·simp only [Array.toList_eraseIdx]; exact List.eraseIdx_sublist _ _
   ·exact List.Sublist.refl _
  have hjl := (Array.getElem?_eq_some_iff.1 hj).1
  have her : (es.eraseIdxIfInBounds j).toList = es.toList.eraseIdx j := by
   unfold Array.eraseIdxIfInBounds
   rw [dif_pos hjl, Array.toList_eraseIdx]
  have hgone : ∀ x ∈ es.toList.eraseIdx j, x.key ≠ kv k := by
   intro x hx hxk
   obtain ⟨i, hi, hij⟩ := List.mem_eraseIdx_iff_getElem?.1 hx
   have e4 : (es.toList.map (·.key))[i]? = (es.toList.map (·.key))[j]? := by
    rw [List.getElem?_map, List.getElem?_map, hij, Array.getElem?_toList, hj, Option.map_some, Option.map_some, hxk, hen]
   have hil : i < (es.toList.map (·.key)).length := by have := (List.getElem?_eq_some_iff.1 hij).1; simpa using this
   exact hi ((List.getElem?_inj hil h2.2.2).1 e4)
  refine OpW_run (v := .tuple #[]) (w' := { w with heap := w.heap.setIfInBounds r (.map (es.eraseIdxIfInBounds j) clk) }) (fun a ha => ?_) (h _ (Chg.setMap _) ⟨_, _, (MapKept.heap_set h1).1, stamped_erase h2 _, fun x hx => ?_, fun k' b' hk' => ?_⟩ (by simp))
  ·simp [execOp, hop, resolve, invoke, builtin, ha.ev hx, ha.ev hy, Builtin.delete_, run_underlying (T.und' ht), MapKept.run_getObj_map h1, run_checkKey (T.und' hd) (hk.isKey k), run_findKey (T.und' hd) hn, MapKept.run_setObj_map _ h1, Result.andThen]
  ·obtain ⟨k', b', e1, e2, e3⟩ := h3 x (hsub.subset hx)
   refine ⟨k', b', e1, e2, ?_⟩
   unfold rid
   rw [if_neg (fun he => ?_)]; exact e3
   subst he
   rw [her] at hx
   exact hgone x hx e1
  ·unfold rid at hk'
   split at hk'
   ·cases hk'
   ·rename_i hkk
    obtain ⟨en', he', hek'⟩ := h4 k' b' hk'
    refine ⟨en', ?_, hek'⟩
    rw [her]
    obtain ⟨i, hi⟩ := List.getElem?_of_mem he'
    refine List.mem_eraseIdx_iff_getElem?.2 ⟨i, ?_, hi⟩
    rintro rfl
    rw [Array.getElem?_toList, hj] at hi
    injection hi with hi
    subst hi
    exact hkk (hk.inj _ _ (hek'.symm.trans hen))
theorem MapAt.size {κ β : Type} {kv : κ → Value} {bv : β → Value} {f : κ → Option β} {d : TypeDesc} (hk : KeyEnc d kv) {r : Nat} {ks : List κ} (hm : MapAt kv bv w r f) (hn : ks.Nodup) (hks : ∀ k, k ∈ ks ↔ (f k).isSome = true) :
  ∃ es clk, w.heap[r]? = some (.map es clk) ∧ es.size = ks.length := by
 obtain ⟨es, clk, h1, h2, h3, h4⟩ := hm
 refine ⟨es, clk, h1, ?_⟩
 have hp : (es.toList.map (·.key)).Perm (ks.map kv) := by
  refine (List.perm_ext_iff_of_nodup h2.2.2 ?_).2 fun v => ?_
  ·exact List.pairwise_map.2 (hn.imp (fun hne e => hne (hk.inj _ _ e)))
  ·simp only [List.mem_map]
   constructor
   ·rintro ⟨x, hx, rfl⟩
    obtain ⟨k, b, e1, e2, e3⟩ := h3 x hx
    exact ⟨k, (hks k).2 (by rw [e3]; rfl), e1.symm⟩
   ·rintro ⟨k, hk', rfl⟩
    obtain ⟨b, hb⟩ := Option.isSome_iff_exists.1 ((hks k).1 hk')
    exact h4 k b hb
 have := hp.length_eq
 simpa using this
theorem op_len_map (T : Types P) {κ β : Type} {kv : κ → Value} {bv : β → Value} {f : κ → Option β} {d : TypeDesc} (hk : KeyEnc d kv) {r : Nat} {ks : List κ} {x : Operand} {t key el : TypeId} {ts : Array TypeId}
  (hop : o.op = .call { callee := .builtin .len, args := #[x], argTypes := ts }) (hts : ts = #[t]) (hx : ev e x = some (.map (some r))) (ht : T.d t = some (.map key el)) (hm : MapAt kv bv w r f) (hn : ks.Nodup) (hks : ∀ k, k ∈ ks ↔ (f k).isSome = true)
  (h : K (.int .i64 (ks.length : Nat)) w) : OpW P N o e w K := by
 subst hts
 obtain ⟨es, clk, h1, h2⟩ := hm.size hk hn hks
 rw [← h2] at h
 exact OpW_run (fun a ha => by simp [execOp, hop, ha.ev hx, resolve, invoke, builtin, Builtin.len_, run_underlying (T.und' ht), MapKept.run_getObj_map h1, goInt, Result.andThen]) h
end
theorem MapAt.copy {κ β : Type} {kv : κ → Value} {bv : β → Value} {f : κ → Option β} {w w' : World} {r r' : Nat} (hm : MapAt kv bv w r f) (h : ∀ es clk, w.heap[r]? = some (.map es clk) → w'.heap[r']? = some (.map es clk)) : MapAt kv bv w' r' f := by
 obtain ⟨es, clk, h1, h2⟩ := hm
 exact ⟨es, clk, h es clk h1, h2⟩
theorem MapAt.congr {κ β : Type} {kv : κ → Value} {bv : β → Value} {f f' : κ → Option β} {w : World} {r : Nat} (hm : MapAt kv bv w r f) (h : ∀ k, f k = f' k) : MapAt kv bv w r f' := by
 rw [← funext h]; exact hm
theorem IterAt.apart {κ β : Type} {kv : κ → Value} {bv : β → Value} {w : World} {it r : Nat} {f : κ → Option β} {ks : List κ} (h : IterAt kv bv w it r f ks) {t : TypeId} {s n : Nat} {v : Value} {xs : List Value} (ho : Own w t s v n xs) : ∀ g, v.ownBlock = some g → g ∉ [it] := by
 intro g hg hm
 simp at hm
 subst hm
 rcases ho.cases with ⟨rfl, _⟩ | ⟨g1, c1, cur1, rfl, _, _, hb1, _⟩
 ·cases hg
 ·have e1 : g1 = g := by simpa [Value.ownBlock] using hg
  subst e1
  exact h.ne_blk hb1 rfl
theorem Own.row {w : World} {t : TypeId} {s n : Nat} {v : Value} {xs : List Value} (ho : Own w t s v n xs) {g : Nat} (hg : v.ownBlock = some g) : ∃ cur, Blk w g t cur := by
 rcases ho.cases with ⟨rfl, _⟩ | ⟨g1, c1, cur1, rfl, _, _, hb1, _⟩
 ·cases hg
 ·have e1 : g1 = g := by simpa [Value.ownBlock] using hg
  subst e1
  exact ⟨_, hb1⟩
theorem Own.bytes {w : World} {t : TypeId} {v : Value} {l : List UInt8} (h : Own w t 1 v l.length (u8s l)) : SliceOf Ru8 w v l :=
 h.reads rfl fun i x u hx hu => by rw [u8s_get hx] at hu; injection hu with hu; exact hu.symm
theorem nodup_length {α : Type} [DecidableEq α] : ∀ (l B : List α), l.Nodup → (∀ x ∈ l, x ∈ B) → l.length ≤ B.length := by
 intro l
 induction l with
 | nil => intro B _ _; exact Nat.zero_le _
 | cons a l ih =>
  intro B hn hs
  have ha : a ∈ B := hs a (by simp)
  rw [List.nodup_cons] at hn
  have := ih (B.erase a) hn.2 (fun x hx => (List.mem_erase_of_ne (fun e => hn.1 (by rw [← e]; exact hx))).2 (hs x (by simp [hx])))
  rw [List.length_erase_of_mem ha] at this
  have h0 : 0 < B.length := List.length_pos_of_mem ha
  simp
  omega
def sorted (ss : List (List UInt8)) : List (List UInt8) := ss.mergeSort fun x y => decide (x ≤ y)
theorem sorted_perm (ss : List (List UInt8)) : (sorted ss).Perm ss := List.mergeSort_perm _ _
theorem sorted_up (ss : List (List UInt8)) : (sorted ss).Pairwise (fun x y => x ≤ y) := by
 have := List.pairwise_mergeSort (le := fun x y : List UInt8 => decide (x ≤ y)) (fun a b c h1 h2 => by simp at h1 h2 ⊢; exact List.le_trans h1 h2) (fun a b => by simp; exact List.le_total a b) ss
 exact this.imp (fun h => by simpa using h)
theorem sorted_eq {ss l : List (List UInt8)} (hp : ss.Perm l) (hl : l.Pairwise (fun x y => x < y)) : sorted ss = l := by
 refine ((sorted_perm ss).trans hp).eq_of_pairwise (le := fun x y => x ≤ y) (fun a b _ _ h1 h2 => List.le_antisymm h1 h2) (sorted_up ss) (hl.imp (fun h => List.le_of_lt h))
end Go.Vc
namespace Go.Vc
open Go
theorem IterAt.nodup {κ β : Type} {kv : κ → Value} {bv : β → Value} {w : World} {it r : Nat} {f : κ → Option β} {ks : List κ} (h : IterAt kv bv w it r f ks) : ks.Nodup := let ⟨_, _, _, _, _, _, _, _, h6, _⟩ := h; h6
theorem IterAt.mem {κ β : Type} {kv : κ → Value} {bv : β → Value} {w : World} {it r : Nat} {f : κ → Option β} {ks : List κ} (h : IterAt kv bv w it r f ks) : ∀ k ∈ ks, ∃ b, f k = some b := let ⟨_, _, _, _, _, _, _, _, _, _, h8, _⟩ := h; h8
end Go.Vc
/-! Files: what a file system is, in plain words. -/
namespace Go.Vc
open Go
abbrev Nm := List UInt8
abbrev Dir := List (Nm × Nat)
theorem nm_lt_irrefl (a : Nm) : ¬ a < a := List.lt_irrefl a
theorem nm_lt_trans {a b c : Nm} (h : a < b) (k : b < c) : a < c := List.lt_trans h k
theorem nm_tri {a b : Nm} (h1 : ¬ a < b) (h2 : a ≠ b) : b < a := by
 have h3 : b ≤ a := List.not_lt.1 h1
 exact List.not_le.1 fun h4 => h2 (List.le_antisymm h4 h3)
def looks : Dir → Nm → Option Nat
 | [], _ => none
 | (k', i) :: d, k => if k' = k then some i else looks d k
def ins : Dir → Nm → Nat → Dir
 | [], k, i => [(k, i)]
 | (k', i') :: d, k, i => if k < k' then (k, i) :: (k', i') :: d else if k' = k then (k, i) :: d else (k', i') :: ins d k i
def del : Dir → Nm → Dir
 | [], _ => []
 | (k', i') :: d, k => if k' = k then del d k else (k', i') :: del d k
def Rising (d : Dir) : Prop := (d.map (·.1)).Pairwise (fun x y => x < y)
theorem looks_mem {d : Dir} {k : Nm} {i : Nat} (h : looks d k = some i) : (k, i) ∈ d := by
 induction d with
 | nil => cases h
 | cons p d ih =>
  obtain ⟨k', i'⟩ := p
  simp only [looks] at h
  split at h
  ·injection h with h; rename_i e; subst e; subst h; simp
  ·simp [ih h]
theorem looks_isSome {d : Dir} {k : Nm} : (looks d k).isSome = true ↔ k ∈ d.map (·.1) := by
 induction d with
 | nil => simp [looks]
 | cons p d ih =>
  obtain ⟨k', i'⟩ := p
  simp only [looks]
  split
  ·rename_i e; subst e; simp
  ·rename_i e; rw [ih, List.map_cons, List.mem_cons]; exact ⟨.inr, fun h => h.resolve_left (fun e' => e e'.symm)⟩
theorem Rising.nodup {d : Dir} (h : Rising d) : (d.map (·.1)).Nodup := by
 unfold List.Nodup
 exact h.imp (fun {a b} hlt e => by subst e; exact nm_lt_irrefl _ hlt)
theorem Rising.tail {p : Nm × Nat} {d : Dir} (h : Rising (p :: d)) : Rising d := (List.pairwise_cons.1 h).2
theorem Rising.head {p : Nm × Nat} {d : Dir} (h : Rising (p :: d)) : ∀ q ∈ d, p.1 < q.1 := fun q hq => (List.pairwise_cons.1 h).1 _ (List.mem_map.2 ⟨q, hq, rfl⟩)
theorem Rising.cons {p : Nm × Nat} {d : Dir} (h : Rising d) (hp : ∀ q ∈ d, p.1 < q.1) : Rising (p :: d) := List.pairwise_cons.2 ⟨fun k hk => by obtain ⟨q, hq, rfl⟩ := List.mem_map.1 hk; exact hp q hq, h⟩
theorem looks_of_mem {d : Dir} (hr : Rising d) {k : Nm} {i : Nat} (h : (k, i) ∈ d) : looks d k = some i := by
 induction d with
 | nil => cases h
 | cons p d ih =>
  obtain ⟨k', i'⟩ := p
  simp only [looks]
  rcases List.mem_cons.1 h with h | h
  ·injection h with h1 h2; rw [if_pos h1.symm, h2]
  ·rw [if_neg (fun e => ?_)]
   ·exact ih hr.tail h
   ·have := hr.head _ h; simp only at this; rw [e] at this; exact nm_lt_irrefl _ this
theorem ins_mem {d : Dir} {k : Nm} {i : Nat} {q : Nm × Nat} (h : q ∈ ins d k i) : q = (k, i) ∨ q ∈ d := by
 induction d with
 | nil => simpa [ins] using h
 | cons p d ih =>
  obtain ⟨k', i'⟩ := p
  simp only [ins] at h
  split at h
  ·rcases List.mem_cons.1 h with h | h
   ·exact .inl h
   ·exact .inr h
  ·split at h
   ·rcases List.mem_cons.1 h with h | h
    ·exact .inl h
    ·exact .inr (by simp [h])
   ·rcases List.mem_cons.1 h with h | h
    ·exact .inr (by simp [h])
    ·exact (ih h).imp id (fun h => by simp [h])
theorem looks_ins {d : Dir} (hr : Rising d) (k : Nm) (i : Nat) (k' : Nm) : looks (ins d k i) k' = if k' = k then some i else looks d k' := by
 induction d with
 | nil => simp only [ins, looks]; by_cases h : k = k' <;> simp [h, eq_comm]
 | cons p d ih =>
  obtain ⟨k0, i0⟩ := p
  simp only [ins]
  split
  ·simp only [looks]
   by_cases h : k = k'
   ·subst h; simp
   ·rw [if_neg h]; rw [if_neg (show ¬ k' = k from fun e => h e.symm)]
  ·split
   ·rename_i e
    subst e
    simp only [looks]
    by_cases h : k0 = k'
    ·subst h; simp
    ·rw [if_neg h, if_neg (fun e => h e.symm), if_neg h]
   ·rename_i h1 h2
    simp only [looks]
    by_cases h : k0 = k'
    ·subst h; rw [if_pos rfl, if_neg h2, if_pos rfl]
    ·rw [if_neg h, if_neg h]; exact ih hr.tail
theorem ins_rising {d : Dir} (hr : Rising d) (k : Nm) (i : Nat) : Rising (ins d k i) := by
 induction d with
 | nil => simp [ins, Rising]
 | cons p d ih =>
  obtain ⟨k0, i0⟩ := p
  simp only [ins]
  split
  ·rename_i h
   exact hr.cons fun q hq => by
    rcases List.mem_cons.1 hq with rfl | hq
    ·exact h
    ·exact nm_lt_trans h (hr.head q hq)
  ·split
   ·rename_i e
    subst e
    exact hr.tail.cons (fun q hq => hr.head q hq)
   ·rename_i h1 h2
    refine (ih hr.tail).cons fun q hq => ?_
    rcases ins_mem hq with rfl | hq
    ·exact nm_tri h1 (fun e => h2 e.symm)
    ·exact hr.head q hq
theorem del_mem {d : Dir} {k : Nm} {q : Nm × Nat} (h : q ∈ del d k) : q ∈ d := by
 induction d with
 | nil => cases h
 | cons p d ih =>
  obtain ⟨k', i'⟩ := p
  simp only [del] at h
  split at h
  ·simp [ih h]
  ·rcases List.mem_cons.1 h with h | h
   ·simp [h]
   ·simp [ih h]
theorem looks_del (d : Dir) (k k' : Nm) : looks (del d k) k' = if k' = k then none else looks d k' := by
 induction d with
 | nil => simp [del, looks]
 | cons p d ih =>
  obtain ⟨k0, i0⟩ := p
  simp only [del]
  split
  ·rename_i e
   subst e
   rw [ih]
   simp only [looks]
   by_cases h : k' = k0
   ·rw [if_pos h, if_pos h]
   ·rw [if_neg h, if_neg h, if_neg (fun e => h e.symm)]
  ·rename_i e
   simp only [looks]
   by_cases h : k0 = k'
   ·subst h; rw [if_pos rfl, if_neg e, if_pos rfl]
   ·rw [if_neg h, if_neg h]; exact ih
theorem del_rising {d : Dir} (hr : Rising d) (k : Nm) : Rising (del d k) := by
 induction d with
 | nil => simp [del, Rising]
 | cons p d ih =>
  obtain ⟨k0, i0⟩ := p
  simp only [del]
  split
  ·exact ih hr.tail
  ·exact (ih hr.tail).cons fun q hq => hr.head q (del_mem hq)
theorem ins_length (d : Dir) (k : Nm) (i : Nat) : (ins d k i).length ≤ d.length + 1 := by
 induction d with
 | nil => simp [ins]
 | cons p d ih =>
  obtain ⟨k0, i0⟩ := p
  simp only [ins]
  split
  ·simp
  ·split
   ·simp
   ·simp; omega
theorem ins_length_in {d : Dir} (hr : Rising d) {k : Nm} {i j : Nat} (h : looks d k = some j) : (ins d k i).length = d.length := by
 induction d with
 | nil => cases h
 | cons p d ih =>
  obtain ⟨k0, i0⟩ := p
  simp only [ins]
  split
  ·rename_i hlt
   have := looks_mem h
   rcases List.mem_cons.1 this with h | h
   ·injection h with h1 h2; rw [h1] at hlt; exact absurd hlt (nm_lt_irrefl _)
   ·have := nm_lt_trans hlt (hr.head _ h)
    exact absurd this (nm_lt_irrefl _)
  ·split
   ·simp
   ·rename_i h1 h2
    simp only [looks] at h
    rw [if_neg h2] at h
    simp [ih hr.tail h]
theorem del_length (d : Dir) (k : Nm) : (del d k).length ≤ d.length := by
 induction d with
 | nil => simp [del]
 | cons p d ih =>
  obtain ⟨k0, i0⟩ := p
  simp only [del]
  split
  ·simp; omega
  ·simp; omega
theorem del_length_in {d : Dir} {k : Nm} {j : Nat} (h : looks d k = some j) : (del d k).length + 1 ≤ d.length := by
 induction d with
 | nil => cases h
 | cons p d ih =>
  obtain ⟨k0, i0⟩ := p
  simp only [del]
  split
  ·have := del_length d k; simp; omega
  ·rename_i h2
   simp only [looks] at h
   rw [if_neg h2] at h
   have := ih h
   simp; omega
structure FileM where
 b : List UInt8
 synced : Nat
structure ChM where
 kind : Nat
 name : Nm
 to : Nm
 id : Option Nat
structure FsM where
 room : Int
 calls : Int
 fail : Int
 files : List FileM
 dir : Dir
 lasts : Dir
 waits : List ChM
def doM (d : Dir) (c : ChM) : Dir :=
 if c.kind = 0 then (match c.id with | some i => ins d c.name i | none => d)
 else if c.kind = 1 then (match looks d c.name with | some i => ins (del d c.name) c.to i | none => del d c.name)
 else del d c.name
def Fit1 (d : Dir) (c : ChM) : Prop := (c.kind = 0 → c.id ≠ none) ∧ (c.kind = 1 → looks d c.name ≠ none)
structure DirOk (n : Nat) (d : Dir) : Prop where
 up : Rising d
 few : d.length ≤ 150
 name : ∀ p ∈ d, p.1.length ≤ 20 ∧ p.2 < n
def Replay (n : Nat) : Dir → List ChM → Dir → Prop
 | d, [], d' => d = d' ∧ DirOk n d
 | d, c :: cs, d' => DirOk n d ∧ Fit1 d c ∧ (∀ i, c.id = some i → i < n) ∧ c.name.length ≤ 20 ∧ c.to.length ≤ 20 ∧ Replay n (doM d c) cs d'
theorem DirOk.more {n m : Nat} {d : Dir} (h : DirOk n d) (hm : n ≤ m) : DirOk m d := ⟨h.up, h.few, fun p hp => ⟨(h.name p hp).1, Nat.lt_of_lt_of_le (h.name p hp).2 hm⟩⟩
theorem Replay.more {n m : Nat} (hm : n ≤ m) : ∀ {cs : List ChM} {d d' : Dir}, Replay n d cs d' → Replay m d cs d'
 | [], d, d', h => ⟨h.1, h.2.more hm⟩
 | c :: cs, d, d', h => ⟨h.1.more hm, h.2.1, fun i hi => Nat.lt_of_lt_of_le (h.2.2.1 i hi) hm, h.2.2.2.1, h.2.2.2.2.1, Replay.more hm h.2.2.2.2.2⟩
theorem Replay.last {n : Nat} : ∀ {cs : List ChM} {d d' : Dir}, Replay n d cs d' → DirOk n d'
 | [], d, d', h => h.1 ▸ h.2
 | c :: cs, d, d', h => Replay.last h.2.2.2.2.2
theorem Replay.first {n : Nat} : ∀ {cs : List ChM} {d d' : Dir}, Replay n d cs d' → DirOk n d
 | [], d, d', h => h.2
 | c :: cs, d, d', h => h.1
theorem Replay.snoc {n : Nat} {c : ChM} (hi : ∀ i, c.id = some i → i < n) (hn : c.name.length ≤ 20) (ht : c.to.length ≤ 20) : ∀ {cs : List ChM} {d d' : Dir}, Replay n d cs d' → Fit1 d' c → DirOk n (doM d' c) → Replay n d (cs ++ [c]) (doM d' c)
 | [], d, d', h, hf, ho => by obtain ⟨rfl, h2⟩ := h; exact ⟨h2, hf, hi, hn, ht, rfl, ho⟩
 | c' :: cs, d, d', h, hf, ho => ⟨h.1, h.2.1, h.2.2.1, h.2.2.2.1, h.2.2.2.2.1, Replay.snoc hi hn ht h.2.2.2.2.2 hf ho⟩
theorem Replay.at {n : Nat} : ∀ (k : Nat) {cs : List ChM} {d d' : Dir}, Replay n d cs d' → k ≤ cs.length → Replay n ((cs.take k).foldl doM d) (cs.drop k) d'
 | 0, cs, d, d', h, _ => h
 | k + 1, [], d, d', h, hk => by simp at hk
 | k + 1, c :: cs, d, d', h, hk => by
  simp only [List.take_succ_cons, List.foldl_cons, List.drop_succ_cons]
  exact Replay.at k h.2.2.2.2.2 (by simpa using hk)
structure FsOk (s : FsM) : Prop where
 room0 : 0 ≤ s.room
 room1 : s.room ≤ 4194304
 calls0 : 0 ≤ s.calls
 fail0 : -1 ≤ s.fail
 fail1 : s.fail ≤ 9223372036854775807
 files : ∀ f ∈ s.files, f.synced ≤ f.b.length ∧ f.b.length ≤ 4194304
 replay : Replay s.files.length s.lasts s.waits s.dir
 waits : (s.waits.length : Int) ≤ s.calls
theorem FsOk.dir {s : FsM} (h : FsOk s) : DirOk s.files.length s.dir := h.replay.last
theorem FsOk.lasts {s : FsM} (h : FsOk s) : DirOk s.files.length s.lasts := h.replay.first
/-! ### What the calls do -/
def mayM (k : Nm) : Bool := k.all (fun c => (decide (97 ≤ c.toNat) && decide (c.toNat ≤ 122)) || (decide (65 ≤ c.toNat) && decide (c.toNat ≤ 90)) || (decide (48 ≤ c.toNat) && decide (c.toNat ≤ 57)) || decide (c.toNat = 46)) && decide (1 ≤ k.length) && decide (k.length ≤ 20)
def lenOf (s : FsM) (i : Nat) : Nat := (s.files[i]?.map (·.b.length)).getD 0
def usedM (s : FsM) : Nat := (s.dir.map fun p => lenOf s p.2).sum
def roomM (n : Int) : Int := min (max n 0) 4194304
def newM (n : Int) : FsM := ⟨roomM n, 0, -1, [], [], [], []⟩
def callM (s : FsM) : FsM := { s with calls := s.calls + 1, fail := max (s.fail - 1) (-1) }
def failsM (s : FsM) : Bool := s.fail == 0
def changeM (s : FsM) (c : ChM) : FsM := { s with dir := doM s.dir c, waits := s.waits ++ [c] }
def createM (s0 : FsM) (k : Nm) : FsM × Int :=
 let s := callM s0
 if failsM s0 then (s, 5) else if !mayM k then (s, 10) else if (looks s.dir k).isNone && decide (150 ≤ s.dir.length) then (s, 4)
 else (changeM { s with files := s.files ++ [⟨[], 0⟩] } ⟨0, k, [], some s.files.length⟩, 0)
def appendM (s0 : FsM) (k : Nm) (b : List UInt8) : FsM × Int :=
 let s := callM s0
 if failsM s0 then (s, 5) else match looks s.dir k with
 | none => (s, 3)
 | some i => if s.room - usedM s < b.length then (s, 4) else ({ s with files := s.files.modify i fun f => { f with b := f.b ++ b } }, 0)
def syncM (s0 : FsM) (k : Nm) : FsM × Int :=
 let s := callM s0
 if failsM s0 then (s, 5) else match looks s.dir k with
 | none => (s, 3)
 | some i => ({ s with files := s.files.modify i fun f => { f with synced := f.b.length } }, 0)
def syncDirM (s0 : FsM) : FsM × Int :=
 let s := callM s0
 if failsM s0 then (s, 5) else ({ s with lasts := s.dir, waits := [] }, 0)
def renameM (s0 : FsM) (k k' : Nm) : FsM × Int :=
 let s := callM s0
 if failsM s0 then (s, 5) else if (looks s.dir k).isNone then (s, 3) else if !mayM k' then (s, 10) else (changeM s ⟨1, k, k', none⟩, 0)
def removeM (s0 : FsM) (k : Nm) : FsM × Int :=
 let s := callM s0
 if failsM s0 then (s, 5) else if (looks s.dir k).isNone then (s, 3) else (changeM s ⟨2, k, [], none⟩, 0)
def readM (s : FsM) (k : Nm) : Option (List UInt8) := (looks s.dir k).bind fun i => (s.files[i]?).map (·.b)
def crashDir (s : FsM) (n : Int) : Dir := (s.waits.take n.toNat).foldl doM s.lasts
def tailOf (f : FileM) (tails : List Int) (j : Nat) : Nat := f.synced + (match tails[j]? with | some t => min (max t 0).toNat (f.b.length - f.synced) | none => 0)
def cutM (f : FileM) (tails : List Int) (j : Nat) : FileM := ⟨f.b.take (tailOf f tails j), tailOf f tails j⟩
def crashFiles (s : FsM) (d : Dir) (tails : List Int) : List FileM := d.mapIdx fun j p => cutM ((s.files[p.2]?).getD ⟨[], 0⟩) tails j
def crashM (s : FsM) (n : Int) (tails : List Int) : FsM :=
 let d := crashDir s n
 let d' := d.mapIdx fun j p => (p.1, j)
 ⟨s.room, 0, -1, crashFiles s d tails, d', d', []⟩
/-! ### .. keeps it well -/
theorem newM_ok (n : Int) : FsOk (newM n) := by
 refine ⟨by simp [newM, roomM]; omega, by simp [newM, roomM]; omega, by simp [newM], by simp [newM], by simp [newM], by simp [newM], ?_, by simp [newM]⟩
 exact ⟨rfl, ⟨List.Pairwise.nil, by simp [newM], by simp [newM]⟩⟩
theorem callM_ok {s : FsM} (h : FsOk s) : FsOk (callM s) := ⟨h.room0, h.room1, by have := h.calls0; simp [callM]; omega, by simp [callM]; omega, by have := h.fail1; simp [callM]; omega, h.files, h.replay, by have := h.waits; simp [callM]; omega⟩
theorem mayM_len {k : Nm} (h : mayM k = true) : k.length ≤ 20 := by
 unfold mayM at h
 simp only [Bool.and_eq_true, decide_eq_true_eq] at h
 exact h.2
theorem looks_name {n : Nat} {d : Dir} (h : DirOk n d) {k : Nm} {i : Nat} (hl : looks d k = some i) : k.length ≤ 20 ∧ i < n := h.name _ (looks_mem hl)
theorem ins_ok {n : Nat} {d : Dir} (h : DirOk n d) {k : Nm} {i : Nat} (hk : k.length ≤ 20) (hi : i < n) (hfew : (ins d k i).length ≤ 150) : DirOk n (ins d k i) :=
 ⟨ins_rising h.up k i, hfew, fun p hp => by
  rcases ins_mem hp with rfl | hp
  ·exact ⟨hk, hi⟩
  ·exact h.name p hp⟩
theorem del_ok {n : Nat} {d : Dir} (h : DirOk n d) (k : Nm) : DirOk n (del d k) := ⟨del_rising h.up k, Nat.le_trans (del_length d k) h.few, fun p hp => h.name p (del_mem hp)⟩
theorem changeM_ok {s : FsM} (h : FsOk s) {c : ChM} (hf : Fit1 s.dir c) (hi : ∀ i, c.id = some i → i < s.files.length) (hn : c.name.length ≤ 20) (ht : c.to.length ≤ 20) (ho : DirOk s.files.length (doM s.dir c)) (hw : (s.waits.length : Int) + 1 ≤ s.calls) : FsOk (changeM s c) :=
 ⟨h.room0, h.room1, h.calls0, h.fail0, h.fail1, h.files, h.replay.snoc hi hn ht hf ho, by simp [changeM]; exact hw⟩
theorem createM_ok {s : FsM} (h : FsOk s) (k : Nm) : FsOk (createM s k).1 := by
 have h1 := callM_ok h
 unfold createM
 simp only
 split
 ·exact h1
 split
 ·exact h1
 split
 ·exact h1
 rename_i h2 h3 h4
 have hm : mayM k = true := by simpa using h3
 have h5 : FsOk { callM s with files := (callM s).files ++ [⟨[], 0⟩] } := ⟨h1.room0, h1.room1, h1.calls0, h1.fail0, h1.fail1, fun f hf => by
  rcases List.mem_append.1 hf with hf | hf
  ·exact h1.files f hf
  ·simp at hf; subst hf; simp, h1.replay.more (by simp), h1.waits⟩
 refine changeM_ok h5 ⟨fun _ => by simp, fun e => by simp at e⟩ (fun i hi => by simp at hi; subst hi; simp) (mayM_len hm) (by simp) ?_ (by have := h.waits; simp [callM]; omega)
 show DirOk _ (ins (callM s).dir k (callM s).files.length)
 refine ins_ok h5.dir (mayM_len hm) (by simp) ?_
 show (ins (callM s).dir k (callM s).files.length).length ≤ 150
 cases hl : looks (callM s).dir k with
 | none =>
  rw [hl] at h4
  simp at h4
  have := ins_length (callM s).dir k (callM s).files.length
  omega
 | some j => rw [ins_length_in h1.dir.up hl]; exact h1.dir.few
theorem modify_ok {s : FsM} (h : FsOk s) (i : Nat) (g : FileM → FileM) (hg : ∀ f, s.files[i]? = some f → (g f).synced ≤ (g f).b.length ∧ (g f).b.length ≤ 4194304) : FsOk { s with files := s.files.modify i g } :=
 ⟨h.room0, h.room1, h.calls0, h.fail0, h.fail1, fun f hf => by
  obtain ⟨j, hj⟩ := List.getElem?_of_mem hf
  rw [List.getElem?_modify] at hj
  by_cases e : i = j
  ·subst e
   cases hf' : s.files[i]? with
   | none => simp [hf'] at hj
   | some f' => simp [hf'] at hj; subst hj; exact hg f' hf'
  ·simp [e] at hj
   exact h.files f (List.mem_of_getElem? hj), by
  show Replay (s.files.modify i g).length _ _ _
  rw [List.length_modify]; exact h.replay, h.waits⟩
theorem lenOf_le {s : FsM} (h : FsOk s) (i : Nat) : lenOf s i ≤ 4194304 := by
 unfold lenOf
 cases hf : s.files[i]? with
 | none => simp
 | some f => exact (h.files f (List.mem_of_getElem? hf)).2
theorem usedM_ge {s : FsM} {k : Nm} {i : Nat} (hl : looks s.dir k = some i) : lenOf s i ≤ usedM s := by
 unfold usedM
 have hm := looks_mem hl
 generalize s.dir = d at hm
 induction d with
 | nil => cases hm
 | cons p d ih =>
  rcases List.mem_cons.1 hm with h | h
  ·subst h; simp
  ·have := ih h; simp; omega
theorem sum_le {α : Type} (f : α → Nat) (B : Nat) (hf : ∀ x, f x ≤ B) : ∀ l : List α, (l.map f).sum ≤ l.length * B
 | [] => by simp
 | a :: l => by
  have := sum_le f B hf l
  have := hf a
  simp only [List.map_cons, List.sum_cons, List.length_cons, Nat.succ_mul]
  omega
theorem usedM_le {s : FsM} (h : FsOk s) : usedM s ≤ 629145600 := by
 unfold usedM
 have := sum_le (fun p : Nm × Nat => lenOf s p.2) 4194304 (fun p => lenOf_le h p.2) s.dir
 have := h.dir.few
 omega
theorem appendM_ok {s : FsM} (h : FsOk s) (k : Nm) (b : List UInt8) : FsOk (appendM s k b).1 := by
 have h1 := callM_ok h
 unfold appendM
 simp only
 split
 ·exact h1
 split
 ·exact h1
 rename_i i hl
 split
 ·exact h1
 rename_i hr
 refine modify_ok h1 i _ fun f hf => ?_
 have h2 := h1.files f (List.mem_of_getElem? hf)
 have h3 : lenOf (callM s) i ≤ usedM (callM s) := usedM_ge hl
 have h4 : lenOf (callM s) i = f.b.length := by unfold lenOf; rw [hf]; rfl
 have := h1.room1
 simp only [List.length_append]
 omega
theorem syncM_ok {s : FsM} (h : FsOk s) (k : Nm) : FsOk (syncM s k).1 := by
 have h1 := callM_ok h
 unfold syncM
 simp only
 split
 ·exact h1
 split
 ·exact h1
 exact modify_ok h1 _ _ fun f hf => ⟨Nat.le_refl _, (h1.files f (List.mem_of_getElem? hf)).2⟩
theorem syncDirM_ok {s : FsM} (h : FsOk s) : FsOk (syncDirM s).1 := by
 have h1 := callM_ok h
 unfold syncDirM
 simp only
 split
 ·exact h1
 exact ⟨h1.room0, h1.room1, h1.calls0, h1.fail0, h1.fail1, h1.files, ⟨rfl, h1.dir⟩, by have := h1.calls0; simpa using this⟩
theorem renameM_ok {s : FsM} (h : FsOk s) (k k' : Nm) : FsOk (renameM s k k').1 := by
 have h1 := callM_ok h
 unfold renameM
 simp only
 split
 ·exact h1
 split
 ·exact h1
 split
 ·exact h1
 rename_i h2 h3 h4
 cases hl : looks (callM s).dir k with
 | none => rw [hl] at h3; simp at h3
 | some i =>
  obtain ⟨hk, hi⟩ := looks_name h1.dir hl
  have hk' := mayM_len (k := k') (by simpa using h4)
  refine changeM_ok h1 ⟨fun e => by simp at e, fun _ => by simp [hl]⟩ (fun i hi => by cases hi) hk hk' ?_ (by have := h.waits; simp [callM]; omega)
  have : doM (callM s).dir ⟨1, k, k', none⟩ = ins (del (callM s).dir k) k' i := by simp [doM, hl]
  rw [this]
  refine ins_ok (del_ok h1.dir k) hk' hi ?_
  have := ins_length (del (callM s).dir k) k' i
  have := del_length_in hl
  have := h1.dir.few
  omega
theorem removeM_ok {s : FsM} (h : FsOk s) (k : Nm) : FsOk (removeM s k).1 := by
 have h1 := callM_ok h
 unfold removeM
 simp only
 split
 ·exact h1
 split
 ·exact h1
 rename_i h2 h3
 cases hl : looks (callM s).dir k with
 | none => rw [hl] at h3; simp at h3
 | some i =>
  refine changeM_ok h1 ⟨fun e => by simp at e, fun e => by simp at e⟩ (fun i hi => by cases hi) (looks_name h1.dir hl).1 (by simp) ?_ (by have := h.waits; simp [callM]; omega)
  exact del_ok h1.dir k
theorem failM_ok {s : FsM} (h : FsOk s) (n : Int) (hn : n ≤ 9223372036854775807) : FsOk { s with fail := max n (-1) } := ⟨h.room0, h.room1, h.calls0, by simp; omega, by simp; omega, h.files, h.replay, h.waits⟩
theorem tailOf_le (f : FileM) (tails : List Int) (j : Nat) (h : f.synced ≤ f.b.length) : tailOf f tails j ≤ f.b.length := by
 unfold tailOf
 split
 ·exact Nat.add_le_of_le_sub' h (Nat.min_le_right _ _)
 ·exact h
theorem crashDir_ok {s : FsM} (h : FsOk s) (n : Int) : DirOk s.files.length (crashDir s n) := by
 unfold crashDir
 by_cases hn : n.toNat ≤ s.waits.length
 ·exact (h.replay.at n.toNat hn).first
 ·rw [List.take_of_length_le (by omega)]
  have := (h.replay.at s.waits.length (Nat.le_refl _)).first
  rw [List.take_length] at this; exact this
theorem crashM_ok {s : FsM} (h : FsOk s) (n : Int) (tails : List Int) : FsOk (crashM s n tails) := by
 have hd := crashDir_ok h n
 refine ⟨h.room0, h.room1, by simp [crashM], by simp [crashM], by simp [crashM], fun f hf => ?_, ⟨rfl, ?_⟩, by simp [crashM]⟩
 ·simp only [crashM, crashFiles, List.mem_mapIdx] at hf
  obtain ⟨j, hj, rfl⟩ := hf
  have hk : ∀ f : FileM, f.synced ≤ f.b.length ∧ f.b.length ≤ 4194304 → (cutM f tails j).synced ≤ (cutM f tails j).b.length ∧ (cutM f tails j).b.length ≤ 4194304 := fun f hf => by
   have := tailOf_le f tails j hf.1
   simp only [cutM, List.length_take]
   omega
  apply hk
  cases hf : s.files[((crashDir s n)[j]).2]? with
  | none => simp
  | some f => exact h.files f (List.mem_of_getElem? hf)
 ·refine ⟨?_, by simpa [crashM] using hd.few, fun p hp => ?_⟩
  ·have : ((crashDir s n).mapIdx fun j p => (p.1, j)).map (·.1) = (crashDir s n).map (·.1) := by
    apply List.ext_getElem?
    intro i
    simp [List.getElem?_map, List.getElem?_mapIdx]
    cases (crashDir s n)[i]? <;> simp
   unfold Rising crashM
   simp only
   rw [this]; exact hd.up
  ·simp only [crashM, List.mem_mapIdx] at hp
   obtain ⟨j, hj, rfl⟩ := hp
   exact ⟨(hd.name _ (List.getElem_mem hj)).1, by simpa [crashM, crashFiles] using hj⟩
end Go.Vc
/-! Files that hold several files, in plain words. -/
namespace Go.Vc
open Go
def Has1 (s : FsM) (nm : Nm) (b : List UInt8) (sy : Nat) : Prop := ∃ i, looks s.dir nm = some i ∧ s.files[i]? = some ⟨b, sy⟩
def Keep (s : FsM) (nm : Nm) (b : List UInt8) (sy : Nat) : Prop := ∃ i, looks s.dir nm = some i ∧ looks s.lasts nm = some i ∧ (∀ c ∈ s.waits, c.name ≠ nm ∧ c.to ≠ nm) ∧ s.files[i]? = some ⟨b, sy⟩
structure Mul (s : FsM) (calls : Int) (u n : Nat) : Prop where
 room : s.room = 1048576
 calls : s.calls = calls
 fail : s.fail = -1
 used : usedM s ≤ u
 few : s.dir.length ≤ n
 up : Rising s.dir
 lup : Rising s.lasts
 inj : (s.dir.map (·.2)).Nodup
 bnd : ∀ p ∈ s.dir, p.2 < s.files.length
theorem Keep.has {s : FsM} {nm : Nm} {b : List UInt8} {sy : Nat} (h : Keep s nm b sy) : Has1 s nm b sy := let ⟨i, h1, _, _, h2⟩ := h; ⟨i, h1, h2⟩
theorem Has1.read {s : FsM} {nm : Nm} {b : List UInt8} {sy : Nat} (h : Has1 s nm b sy) : readM s nm = some b := by
 obtain ⟨i, h1, h2⟩ := h
 unfold readM
 rw [h1, Option.bind_some, h2]; rfl
theorem sum_ins (f : Nm × Nat → Nat) (k : Nm) (i : Nat) : ∀ d : Dir, ((ins d k i).map f).sum ≤ (d.map f).sum + f (k, i)
 | [] => by simp [ins]
 | (k', i') :: d => by
  have ih := sum_ins f k i d
  simp only [ins]
  split
  ·simp; omega
  ·split
   ·simp; omega
   ·simp; omega
theorem ins_ids (k : Nm) (i : Nat) : ∀ {d : Dir}, (d.map (·.2)).Nodup → i ∉ d.map (·.2) → ((ins d k i).map (·.2)).Nodup
 | [], _, _ => by simp [ins]
 | (k', i') :: d, h, hi => by
  simp only [List.map_cons, List.nodup_cons, List.mem_cons, not_or] at h hi
  simp only [ins]
  split
  ·simp only [List.map_cons, List.nodup_cons, List.mem_cons, not_or]; exact ⟨⟨hi.1, hi.2⟩, h⟩
  ·split
   ·simp only [List.map_cons, List.nodup_cons]; exact ⟨hi.2, h.2⟩
   ·simp only [List.map_cons, List.nodup_cons]
    refine ⟨fun hm => ?_, ins_ids k i h.2 hi.2⟩
    obtain ⟨q, hq, he⟩ := List.mem_map.1 hm
    rcases ins_mem hq with rfl | hq
    ·exact hi.1 he
    ·exact h.1 (List.mem_map.2 ⟨q, hq, he⟩)
theorem sum_sub (f : Nm × Nat → Nat) {d d' : Dir} (h : d'.Sublist d) : (d'.map f).sum ≤ (d.map f).sum := by
 induction h with
 | slnil => exact Nat.le_refl _
 | cons a _ ih => simp; omega
 | cons_cons a _ ih => simp; omega
theorem sum_mod (g : Nat → Nat) (i c : Nat) : ∀ d : Dir, (d.map (·.2)).Nodup → (d.map fun p => g p.2 + if p.2 = i then c else 0).sum ≤ (d.map fun p => g p.2).sum + (if i ∈ d.map (·.2) then c else 0)
 | [], _ => by simp
 | (k', i') :: d, h => by
  simp only [List.map_cons, List.nodup_cons] at h
  have ih := sum_mod g i c d h.2
  by_cases e : i' = i
  ·subst e
   rw [if_neg h.1] at ih
   simp only [List.map_cons, List.sum_cons, List.mem_cons, true_or, if_true]
   omega
  ·simp only [List.map_cons, List.sum_cons, List.mem_cons, if_neg e]
   have e' : ¬ i = i' := fun h => e h.symm
   simp only [e', false_or]
   omega
theorem looks_id {d : Dir} (h : (d.map (·.2)).Nodup) {k k' : Nm} {i : Nat} (h1 : looks d k = some i) (h2 : looks d k' = some i) : k = k' := by
 have m1 := looks_mem h1
 have m2 := looks_mem h2
 induction d with
 | nil => cases m1
 | cons p d ih =>
  simp only [List.map_cons, List.nodup_cons] at h
  rcases List.mem_cons.1 m1 with e1 | m1'
  ·rcases List.mem_cons.1 m2 with e2 | m2'
   ·rw [← e1] at e2; injection e2 with e2 _; exact e2.symm
   ·exact absurd (List.mem_map.2 ⟨_, m2', by rw [← e1]⟩) h.1
  ·rcases List.mem_cons.1 m2 with e2 | m2'
   ·exact absurd (List.mem_map.2 ⟨_, m1', by rw [← e2]⟩) h.1
   ·obtain ⟨k0, i0⟩ := p
    refine ih h.2 ?_ ?_ m1' m2'
    ·simp only [looks] at h1
     split at h1
     ·injection h1 with e; subst e; exact absurd (List.mem_map.2 ⟨_, m1', rfl⟩) h.1
     ·exact h1
    ·simp only [looks] at h2
     split at h2
     ·injection h2 with e; subst e; exact absurd (List.mem_map.2 ⟨_, m2', rfl⟩) h.1
     ·exact h2
section
variable {s : FsM} {calls : Int} {u n : Nat} {nm k : Nm} {b c : List UInt8} {sy sy' : Nat}
theorem Mul.nofail (h : Mul s calls u n) : failsM s = false := by unfold failsM; rw [h.fail]; rfl
theorem Mul.call (h : Mul s calls u n) : (callM s).calls = calls + 1 ∧ (callM s).fail = -1 := ⟨by show s.calls + 1 = _; rw [h.calls], by show max (s.fail - 1) (-1) = -1; rw [h.fail]; rfl⟩
theorem mul_create (h : Mul s calls u n) (hm : mayM nm = true) (hn : n < 150) : (createM s nm).2 = 0 ∧ Mul (createM s nm).1 (calls + 1) u (n + 1) ∧ Has1 (createM s nm).1 nm [] 0 ∧ (∀ k, k ≠ nm → looks (createM s nm).1.dir k = looks s.dir k) ∧ (∀ k b sy, k ≠ nm → Has1 s k b sy → Has1 (createM s nm).1 k b sy) ∧ ∀ k b sy, k ≠ nm → k ≠ [] → Keep s k b sy → Keep (createM s nm).1 k b sy := by
 have hf := h.few
 have e : createM s nm = (changeM { callM s with files := (callM s).files ++ [⟨[], 0⟩] } ⟨0, nm, [], some (callM s).files.length⟩, 0) := by
  unfold createM
  dsimp only
  rw [h.nofail, if_neg (by simp), hm, if_neg (by simp), if_neg (by
   have : ¬ 150 ≤ (callM s).dir.length := by show ¬ 150 ≤ s.dir.length; omega
   simp [this])]
 rw [e]
 have hd : ∀ k, k ≠ nm → looks (ins s.dir nm s.files.length) k = looks s.dir k := fun k hk => by rw [looks_ins h.up, if_neg hk]
 have hfi : ∀ i, i < s.files.length → (s.files ++ [(⟨[], 0⟩ : FileM)])[i]? = s.files[i]? := fun i hi => List.getElem?_append_left hi
 have hfl : ∀ i f, s.files[i]? = some f → (s.files ++ [(⟨[], 0⟩ : FileM)])[i]? = some f := fun i f hi => by rw [hfi i (List.getElem?_eq_some_iff.1 hi).1]; exact hi
 refine ⟨rfl, ⟨h.room, h.call.1, h.call.2, ?_, ?_, ins_rising h.up _ _, h.lup, ?_, ?_⟩, ⟨s.files.length, ?_, ?_⟩, hd, fun k b sy hk hh => ?_, fun k b sy hk hk0 hh => ?_⟩
 ·show ((ins s.dir nm s.files.length).map fun p => ((s.files ++ [(⟨[], 0⟩ : FileM)])[p.2]?.map (·.b.length)).getD 0).sum ≤ u
  refine Nat.le_trans (sum_ins _ _ _ _) ?_
  have h1 : ((s.files ++ [(⟨[], 0⟩ : FileM)])[s.files.length]?.map (·.b.length)).getD 0 = 0 := by
   rw [List.getElem?_append_right (Nat.le_refl _), Nat.sub_self]; rfl
  rw [show ((s.files ++ [(⟨[], 0⟩ : FileM)])[(nm, s.files.length).2]?.map (·.b.length)).getD 0 = 0 from h1, Nat.add_zero]
  refine Nat.le_trans (Nat.le_of_eq ?_) h.used
  unfold usedM lenOf
  congr 1
  refine List.map_congr_left fun p hp => ?_
  rw [hfi p.2 (h.bnd p hp)]
 ·have := ins_length s.dir nm s.files.length
  show (ins s.dir nm s.files.length).length ≤ n + 1
  omega
 ·refine ins_ids _ _ h.inj fun hm => ?_
  obtain ⟨p, hp, he⟩ := List.mem_map.1 hm
  have h1 := h.bnd p hp
  have h2 : p.2 = s.files.length := he
  omega
 ·intro p hp
  show p.2 < (s.files ++ [(⟨[], 0⟩ : FileM)]).length
  rw [List.length_append, List.length_singleton]
  rcases ins_mem hp with rfl | hp
  ·show s.files.length < _; omega
  ·have := h.bnd p hp; omega
 ·show looks (ins s.dir nm s.files.length) nm = _
  rw [looks_ins h.up, if_pos rfl]
 ·show (s.files ++ [(⟨[], 0⟩ : FileM)])[s.files.length]? = _
  rw [List.getElem?_append_right (Nat.le_refl _), Nat.sub_self]; rfl
 ·obtain ⟨i, h1, h2⟩ := hh
  exact ⟨i, (hd k hk).trans h1, hfl i _ h2⟩
 ·obtain ⟨i, h1, h2, h3, h4⟩ := hh
  refine ⟨i, (hd k hk).trans h1, h2, fun c hc => ?_, hfl i _ h4⟩
  rcases List.mem_append.1 (show c ∈ s.waits ++ [⟨0, nm, [], some s.files.length⟩] from hc) with hc | hc
  ·exact h3 c hc
  ·rw [List.mem_singleton.1 hc]; exact ⟨fun e => hk e.symm, fun e => hk0 e.symm⟩
theorem mul_mod {s : FsM} (g : FileM → FileM) {i : Nat} {f : FileM} (hf : s.files[i]? = some f) : (s.files.modify i g)[i]? = some (g f) := by
 rw [List.getElem?_modify, hf]; simp
theorem mul_mod_ne {s : FsM} (g : FileM → FileM) {i j : Nat} (hj : i ≠ j) : (s.files.modify i g)[j]? = s.files[j]? := by
 rw [List.getElem?_modify]; simp [hj]
theorem mul_append (h : Mul s calls u n) (hh : Has1 s nm b sy) (hr : u + c.length ≤ 1048576) : (appendM s nm c).2 = 0 ∧ Mul (appendM s nm c).1 (calls + 1) (u + c.length) n ∧ Has1 (appendM s nm c).1 nm (b ++ c) sy ∧ (∀ k, looks (appendM s nm c).1.dir k = looks s.dir k) ∧ (∀ k b sy, k ≠ nm → Has1 s k b sy → Has1 (appendM s nm c).1 k b sy) ∧ (∀ k b sy, k ≠ nm → Keep s k b sy → Keep (appendM s nm c).1 k b sy) ∧ (Keep s nm b sy → Keep (appendM s nm c).1 nm (b ++ c) sy) := by
 obtain ⟨i, hi, hfi⟩ := hh
 have e : appendM s nm c = ({ callM s with files := (callM s).files.modify i fun f => { f with b := f.b ++ c } }, 0) := by
  unfold appendM
  dsimp only
  rw [h.nofail, show looks (callM s).dir nm = some i from hi]
  dsimp only
  have h1 := h.used
  have h2 := h.room
  rw [if_neg (by simp), if_neg (by
   show ¬ (s.room - (usedM s : Int) < c.length)
   rw [h2]; omega)]
 rw [e]
 have hne : ∀ k j, k ≠ nm → looks s.dir k = some j → i ≠ j := fun k j hk hj e => hk (looks_id h.inj (e ▸ hj) hi)
 refine ⟨rfl, ⟨h.room, h.call.1, h.call.2, ?_, h.few, h.up, h.lup, h.inj, fun p hp => ?_⟩, ⟨i, hi, mul_mod _ hfi⟩, fun _ => rfl, fun k b sy hk hh => ?_, fun k b sy hk hh => ?_, fun hk => ?_⟩
 ·show (s.dir.map fun p => ((s.files.modify i fun f => { f with b := f.b ++ c })[p.2]?.map (·.b.length)).getD 0).sum ≤ _
  have h1 := sum_mod (lenOf s) i c.length s.dir h.inj
  have h2 : ∀ p ∈ s.dir, ((s.files.modify i fun f => { f with b := f.b ++ c })[p.2]?.map (·.b.length)).getD 0 = lenOf s p.2 + if p.2 = i then c.length else 0 := fun p hp => by
   by_cases e : p.2 = i
   ·rw [if_pos e, e, mul_mod _ hfi]; unfold lenOf; rw [hfi]; simp
   ·rw [if_neg e, mul_mod_ne _ (fun h => e h.symm)]; rfl
  rw [List.map_congr_left h2]
  have h3 := h.used
  unfold usedM at h3
  refine Nat.le_trans h1 ?_
  split <;> omega
 ·show p.2 < (s.files.modify i _).length
  rw [List.length_modify]; exact h.bnd p hp
 ·obtain ⟨j, h1, h2⟩ := hh
  exact ⟨j, h1, (mul_mod_ne _ (hne k j hk h1)).trans h2⟩
 ·obtain ⟨j, h1, h2, h3, h4⟩ := hh
  exact ⟨j, h1, h2, h3, (mul_mod_ne _ (hne k j hk h1)).trans h4⟩
 ·obtain ⟨j, h1, h2, h3, h4⟩ := hk
  obtain rfl : i = j := by rw [hi] at h1; injection h1
  exact ⟨i, h1, h2, h3, mul_mod _ h4⟩
theorem mul_sync (h : Mul s calls u n) (hh : Has1 s nm b sy) : (syncM s nm).2 = 0 ∧ Mul (syncM s nm).1 (calls + 1) u n ∧ Has1 (syncM s nm).1 nm b b.length ∧ (∀ k, looks (syncM s nm).1.dir k = looks s.dir k) ∧ (∀ k b sy, k ≠ nm → Has1 s k b sy → Has1 (syncM s nm).1 k b sy) ∧ (∀ k b sy, k ≠ nm → Keep s k b sy → Keep (syncM s nm).1 k b sy) ∧ (Keep s nm b sy → Keep (syncM s nm).1 nm b b.length) := by
 obtain ⟨i, hi, hfi⟩ := hh
 have e : syncM s nm = ({ callM s with files := (callM s).files.modify i fun f => { f with synced := f.b.length } }, 0) := by
  unfold syncM
  dsimp only
  rw [h.nofail, show looks (callM s).dir nm = some i from hi]
  dsimp only
  rw [if_neg (by simp)]
 rw [e]
 have hne : ∀ k j, k ≠ nm → looks s.dir k = some j → i ≠ j := fun k j hk hj e => hk (looks_id h.inj (e ▸ hj) hi)
 refine ⟨rfl, ⟨h.room, h.call.1, h.call.2, ?_, h.few, h.up, h.lup, h.inj, fun p hp => ?_⟩, ⟨i, hi, mul_mod _ hfi⟩, fun _ => rfl, fun k b sy hk hh => ?_, fun k b sy hk hh => ?_, fun hk => ?_⟩
 ·show (s.dir.map fun p => ((s.files.modify i fun f => { f with synced := f.b.length })[p.2]?.map (·.b.length)).getD 0).sum ≤ _
  have h2 : ∀ p ∈ s.dir, ((s.files.modify i fun f => { f with synced := f.b.length })[p.2]?.map (·.b.length)).getD 0 = lenOf s p.2 := fun p hp => by
   by_cases e : p.2 = i
   ·rw [e, mul_mod _ hfi]; unfold lenOf; rw [hfi]; simp
   ·rw [mul_mod_ne _ (fun h => e h.symm)]; rfl
  rw [List.map_congr_left h2]
  exact h.used
 ·show p.2 < (s.files.modify i _).length
  rw [List.length_modify]; exact h.bnd p hp
 ·obtain ⟨j, h1, h2⟩ := hh
  exact ⟨j, h1, (mul_mod_ne _ (hne k j hk h1)).trans h2⟩
 ·obtain ⟨j, h1, h2, h3, h4⟩ := hh
  exact ⟨j, h1, h2, h3, (mul_mod_ne _ (hne k j hk h1)).trans h4⟩
 ·obtain ⟨j, h1, h2, h3, h4⟩ := hk
  obtain rfl : i = j := by rw [hi] at h1; injection h1
  exact ⟨i, h1, h2, h3, mul_mod _ h4⟩
theorem mul_syncDir (h : Mul s calls u n) : (syncDirM s).2 = 0 ∧ Mul (syncDirM s).1 (calls + 1) u n ∧ (∀ k, looks (syncDirM s).1.dir k = looks s.dir k) ∧ ∀ k b sy, Has1 s k b sy → Keep (syncDirM s).1 k b sy := by
 have e : syncDirM s = ({ callM s with lasts := (callM s).dir, waits := [] }, 0) := by
  unfold syncDirM
  dsimp only
  rw [h.nofail, if_neg (by simp)]
 rw [e]
 exact ⟨rfl, ⟨h.room, h.call.1, h.call.2, h.used, h.few, h.up, h.up, h.inj, h.bnd⟩, fun _ => rfl, fun k b sy hh => by
  obtain ⟨i, h1, h2⟩ := hh
  refine ⟨i, h1, h1, fun c hc => ?_, h2⟩
  have hc : c ∈ ([] : List ChM) := hc
  cases hc⟩
end
end Go.Vc
/-! Function values with what they carry: made, and called. -/
namespace Go.Vc
open Go
theorem evs_of {N : Nat} {e : Env} {a : Act} (ha : Fits N e a) {args : Array Operand} {vs : Array Value} (h : args.toList.mapM (ev e) = some vs.toList) : args.map a.eval = vs := by
 have : ∀ (l : List Operand) (vs : List Value), l.mapM (ev e) = some vs → l.map a.eval = vs := by
  intro l
  induction l with
  | nil => intro vs h; simp at h; simp [h]
  | cons x l ih =>
   intro vs h
   simp only [List.mapM_cons, Option.bind_eq_bind] at h
   cases hx : ev e x with
   | none => simp [hx] at h
   | some u =>
    cases hl : l.mapM (ev e) with
    | none => simp [hx, hl] at h
    | some us =>
     simp [hx, hl] at h
     subst h
     simp [ha.ev hx, ih us hl]
 have h2 := this args.toList vs.toList h
 rw [← Array.toList_inj]; simpa using h2
section
variable {P : Program} {N : Nat} {e : Env} {w : World} {o : Oper} {K : Value → World → Prop}
theorem op_makeFunc {fn : Fn} {first captured : Array Operand} {fv cv : Array Value} (hop : o.op = .makeFunc fn first captured) (hf : first.toList.mapM (ev e) = some fv.toList) (hc : captured.toList.mapM (ev e) = some cv.toList) (h : K (.func fn fv cv) w) : OpW P N o e w K :=
 OpW_run (fun a ha => by simp [execOp, hop, evs_of ha hf, evs_of ha hc, Instr.makeFunc]) h
theorem op_callf {f : Operand} {n : FuncId} {args : Array Operand} {ts : Array TypeId} {vs fv cv : Array Value} {R : Value → World → Prop}
  (hop : o.op = .call { callee := .value f, args := args, argTypes := ts }) (hf : ev e f = some (.func (.func n) fv cv)) (hvs : args.toList.mapM (ev e) = some vs.toList)
  (hc : Has P n (fv ++ vs ++ cv) w R) (h : ∀ v w', R v w' → K v w') : OpW P N o e w K := by
 obtain ⟨⟨fn, hfn, hb, hnm⟩, hc⟩ := hc
 unfold OpW
 intro a ha K' Q' hk
 unfold Oper.wp
 have hb' : ¬ fn.body = none := fun e => by rw [e] at hb; simp at hb
 have hnm' : ¬ fn.name = "runtime.NumGoroutine" := fun e => by rw [e] at hnm; simp at hnm
 have hr : (execOp a.eval o).run P w = .ok (.enter n (fv ++ vs ++ cv)) w := by
  simp [execOp, hop, resolve, ha.ev hf, evs_of ha hvs, Deferred.ofValue, invoke, callFunc, hfn, hb', hnm']
 rw [hr, Oper.upon_enter]
 refine hc.mono ?_
 rintro x w' ⟨v, rfl, hv⟩
 exact hk _ _ (h v w' hv)
end
end Go.Vc
/-! Numbers, sums, seals and records, in plain words. -/
namespace Go.Vc
open Go
/-! ### numbers -/
def putM (n : Nat) : List UInt8 := if n < 128 then [UInt8.ofNat n] else UInt8.ofNat (n % 128 + 128) :: putM (n / 128)
termination_by n
decreasing_by omega
theorem putM_small {n : Nat} (h : n < 128) : putM n = [UInt8.ofNat n] := by rw [putM]; exact if_pos h
theorem putM_big {n : Nat} (h : ¬ n < 128) : putM n = UInt8.ofNat (n % 128 + 128) :: putM (n / 128) := by rw [putM]; exact if_neg h
theorem putM_len : ∀ (k n : Nat), n < 128 ^ (k + 1) → (putM n).length ≤ k + 1
 | 0, n, h => by rw [putM_small (by omega)]; simp
 | k + 1, n, h => by
  by_cases hn : n < 128
  ·rw [putM_small hn]; simp
  ·rw [putM_big hn]
   have : n / 128 < 128 ^ (k + 1) := by rw [Nat.pow_succ] at h; omega
   have := putM_len k (n / 128) this
   simp only [List.length_cons]; omega
theorem putM_len10 {n : Nat} (h : n < 18446744073709551616) : (putM n).length ≤ 10 := putM_len 9 n (Nat.lt_of_lt_of_le h (by decide))
theorem putM_pos (n : Nat) : 1 ≤ (putM n).length := by
 by_cases hn : n < 128
 ·rw [putM_small hn]; simp
 ·rw [putM_big hn]; simp
def getAcc (acc : Nat) (c : UInt8) (i : Nat) : Nat := acc ||| (((c.toNat &&& 127) * 2 ^ (7 * i)) % 18446744073709551616)
def getGo : Nat → Nat → List UInt8 → Nat × Nat
 | _, _, [] => (0, 0)
 | i, acc, c :: t => if 127 < c.toNat then getGo (i + 1) (getAcc acc c i) t else if (0 < i ∧ c.toNat = 0) ∨ (i = 9 ∧ 1 < c.toNat) then (0, 0) else (getAcc acc c i, i + 1)
def getM (b : List UInt8) : Nat × Nat := getGo 0 0 (b.take 10)
theorem getAcc_lt {acc i : Nat} {c : UInt8} (h : acc < 18446744073709551616) : getAcc acc c i < 18446744073709551616 := by
 unfold getAcc
 exact Nat.or_lt_two_pow (n := 64) h (Nat.mod_lt _ (by decide))
theorem getAcc_eq {acc i : Nat} {c : UInt8} (h : acc < 2 ^ (7 * i)) (hc : (c.toNat % 128) * 2 ^ (7 * i) < 18446744073709551616) : getAcc acc c i = acc + (c.toNat % 128) * 2 ^ (7 * i) := by
 unfold getAcc
 have e1 : c.toNat &&& 127 = c.toNat % 128 := Nat.and_two_pow_sub_one_eq_mod _ 7
 rw [e1, Nat.mod_eq_of_lt hc, Nat.or_comm, ← Nat.shiftLeft_eq, ← Nat.shiftLeft_add_eq_or_of_lt h, Nat.add_comm]
theorem getGo_bound : ∀ (l : List UInt8) (i acc : Nat), acc < 18446744073709551616 → (getGo i acc l).1 < 18446744073709551616 ∧ (getGo i acc l).2 ≤ i + l.length
 | [], i, acc, h => ⟨by simp [getGo], by simp [getGo]⟩
 | c :: t, i, acc, h => by
  have := getGo_bound t (i + 1) (getAcc acc c i) (getAcc_lt h)
  unfold getGo
  split
  ·exact ⟨this.1, by have := this.2; simp only [List.length_cons]; omega⟩
  ·split
   ·exact ⟨by simp, by simp⟩
   ·exact ⟨getAcc_lt h, by simp only [List.length_cons]; omega⟩
theorem getM_bound (b : List UInt8) : (getM b).1 < 18446744073709551616 ∧ (getM b).2 ≤ b.length ∧ (getM b).2 ≤ 10 := by
 have := getGo_bound (b.take 10) 0 0 (by decide)
 rw [List.length_take] at this
 exact ⟨this.1, by have := this.2; unfold getM; omega, by have := this.2; unfold getM; omega⟩
theorem toNat_ofNat {n : Nat} (h : n < 256) : (UInt8.ofNat n).toNat = n := by simp; omega
theorem getGo_putM (rest : List UInt8) : ∀ (n i acc : Nat), i ≤ 9 → n < 2 ^ (64 - 7 * i) → acc < 2 ^ (7 * i) → (0 < i → 0 < n) → getGo i acc ((putM n ++ rest).take (10 - i)) = (acc + n * 2 ^ (7 * i), i + (putM n).length) := by
 intro n
 induction n using Nat.strongRecOn with
 | ind n ih =>
  intro i acc hi hn ha h0
  have hmul : ∀ a, a ≤ n → a * 2 ^ (7 * i) < 18446744073709551616 := fun a hle => by
   have h1 : a * 2 ^ (7 * i) < 2 ^ (64 - 7 * i) * 2 ^ (7 * i) := Nat.mul_lt_mul_of_pos_right (by omega) (Nat.two_pow_pos _)
   rw [← Nat.pow_add, show 64 - 7 * i + 7 * i = 64 from by omega] at h1
   exact h1
  obtain ⟨j, hj⟩ : ∃ j, 10 - i = j + 1 := ⟨9 - i, by omega⟩
  by_cases hs : n < 128
  ·rw [putM_small hs, hj]
   have hc := toNat_ofNat (n := n) (by omega)
   have hm : (UInt8.ofNat n).toNat % 128 = n := by rw [hc]; omega
   simp only [List.cons_append, List.nil_append, List.take_succ_cons]
   unfold getGo
   rw [if_neg (by rw [hc]; omega), if_neg ?_, getAcc_eq ha (by rw [hm]; exact hmul n (Nat.le_refl _)), hm]
   ·simp
   ·rw [hc]
    rintro (⟨h1, h2⟩ | ⟨h1, h2⟩)
    ·have := h0 h1; omega
    ·subst h1; have : n < 2 := hn; omega
  ·have hi9 : i ≠ 9 := by
    rintro rfl
    have : n < 2 := hn
    omega
   rw [putM_big hs, hj]
   have hc := toNat_ofNat (n := n % 128 + 128) (by omega)
   have hm : (UInt8.ofNat (n % 128 + 128)).toNat % 128 = n % 128 := by rw [hc]; omega
   simp only [List.cons_append, List.take_succ_cons]
   unfold getGo
   rw [if_pos (by rw [hc]; omega), getAcc_eq ha (by rw [hm]; exact hmul _ (Nat.mod_le _ _)), hm, show j = 10 - (i + 1) from by omega]
   have hp : 2 ^ (7 * (i + 1)) = 128 * 2 ^ (7 * i) := by rw [Nat.mul_add, Nat.pow_add, Nat.mul_comm]
   have hq : 2 ^ (64 - 7 * i) = 128 * 2 ^ (64 - 7 * (i + 1)) := by rw [show 64 - 7 * i = 7 + (64 - 7 * (i + 1)) from by omega, Nat.pow_add]
   rw [ih (n / 128) (by omega) (i + 1) _ (by omega) (by rw [hq] at hn; omega) (by
    rw [hp]
    have h1 : n % 128 * 2 ^ (7 * i) ≤ 127 * 2 ^ (7 * i) := Nat.mul_le_mul_right _ (by omega)
    omega) (fun _ => by omega)]
   simp only [List.length_cons, Prod.mk.injEq]
   refine ⟨?_, by omega⟩
   rw [hp, ← Nat.mul_assoc, Nat.add_assoc, ← Nat.add_mul]
   congr 2
   omega
theorem getM_putM {n : Nat} (rest : List UInt8) (h : n < 18446744073709551616) : getM (putM n ++ rest) = (n, (putM n).length) := by
 have := getGo_putM rest n 0 0 (by decide) (by simpa using h) (by decide) (fun h => by omega)
 unfold getM
 simpa using this
def fourM (n : Nat) : List UInt8 := [UInt8.ofNat n, UInt8.ofNat (n / 256), UInt8.ofNat (n / 65536), UInt8.ofNat (n / 16777216)]
def getFourM : List UInt8 → Nat
 | a :: b :: c :: d :: _ => a.toNat + 256 * b.toNat + 65536 * c.toNat + 16777216 * d.toNat
 | _ => 0
theorem getFourM_fourM (n : Nat) (rest : List UInt8) (h : n < 4294967296) : getFourM (fourM n ++ rest) = n := by
 simp only [fourM, List.cons_append, List.nil_append, getFourM, UInt8.toNat_ofNat']
 omega
theorem getFourM_lt (l : List UInt8) : getFourM l < 4294967296 := by
 unfold getFourM
 split
 ·rename_i a b c d t
  have := a.toNat_lt; have := b.toNat_lt; have := c.toNat_lt; have := d.toNat_lt
  omega
 ·decide
end Go.Vc
/-! Steps on numbers without a sign; bytes of the call's own that grow; parts of slices and texts. -/
namespace Go.Vc
open Go
theorem wrap_nat {k : IntKind} (hk : k.signed = false) {n : Nat} (h : n < 2 ^ k.bits) : k.wrap (n : Int) = n := by
 unfold IntKind.wrap
 rw [hk]
 simp only [Bool.false_and, Bool.false_eq_true, ↓reduceIte]
 have : (2 : Int) ^ k.bits = ((2 ^ k.bits : Nat) : Int) := by norm_cast
 rw [this, ← Int.natCast_emod, Nat.mod_eq_of_lt h]
theorem wrap_nat_mod {k : IntKind} (hk : k.signed = false) (n : Nat) : k.wrap (n : Int) = ((n % 2 ^ k.bits : Nat) : Int) := by
 unfold IntKind.wrap
 rw [hk]
 simp only [Bool.false_and, Bool.false_eq_true, ↓reduceIte]
 have : (2 : Int) ^ k.bits = ((2 ^ k.bits : Nat) : Int) := by norm_cast
 rw [this, ← Int.natCast_emod]
theorem ofInt_nat {b n : Nat} (h : n < 2 ^ b) : (BitVec.ofInt b (n : Int)).toNat = n := by
 rw [BitVec.ofInt_natCast, BitVec.toNat_ofNat, Nat.mod_eq_of_lt h]
section
variable {P : Program} {N : Nat} {e : Env} {w : World} {o : Oper} {K : Value → World → Prop}
section
variable {x y : Operand} {t ty : TypeId} {k : IntKind} {a b : Nat}
theorem op_or_nat (hk : k.signed = false) (ha : a < 2 ^ k.bits) (hb : b < 2 ^ k.bits) (hop : o.op = .binOp .or t x y ty) (hx : ev e x = some (.int k (a : Int))) (hy : ev e y = some (.int k (b : Int))) (h : K (.int k ((a ||| b : Nat) : Int)) w) : OpW P N o e w K :=
 op_or hop hx hy (by rw [BitVec.toNat_or, ofInt_nat ha, ofInt_nat hb]; exact wrap_nat hk (Nat.or_lt_two_pow ha hb)) h
theorem op_and_nat (hk : k.signed = false) (ha : a < 2 ^ k.bits) (hb : b < 2 ^ k.bits) (hop : o.op = .binOp .and t x y ty) (hx : ev e x = some (.int k (a : Int))) (hy : ev e y = some (.int k (b : Int))) (h : K (.int k ((a &&& b : Nat) : Int)) w) : OpW P N o e w K :=
 op_and hop hx hy (by rw [BitVec.toNat_and, ofInt_nat ha, ofInt_nat hb]; exact wrap_nat hk (Nat.and_lt_two_pow _ hb)) h
theorem op_shr_nat {k' : IntKind} {s : Nat} (hs : s ≤ k.bits) (hop : o.op = .binOp .shr t x y ty) (hx : ev e x = some (.int k (a : Int))) (hy : ev e y = some (.int k' (s : Int))) (h : K (.int k ((a / 2 ^ s : Nat) : Int)) w) : OpW P N o e w K :=
 op_shr hop hx hy (by omega) (by
  rw [Int.toNat_natCast, Nat.min_eq_left hs]
  have : (2 : Int) ^ s = ((2 ^ s : Nat) : Int) := by norm_cast
  rw [this]; exact (Int.ofNat_fdiv a (2 ^ s)).symm) h
theorem op_shl_nat {k' : IntKind} {s : Nat} (hk : k.signed = false) (hs : s ≤ k.bits) (hop : o.op = .binOp .shl t x y ty) (hx : ev e x = some (.int k (a : Int))) (hy : ev e y = some (.int k' (s : Int))) (h : K (.int k ((a * 2 ^ s % 2 ^ k.bits : Nat) : Int)) w) : OpW P N o e w K :=
 op_shl hop hx hy (by omega) (by
  rw [Int.toNat_natCast, Nat.min_eq_left hs]
  have : (a : Int) * (2 : Int) ^ s = ((a * 2 ^ s : Nat) : Int) := by norm_cast
  rw [this]; exact wrap_nat_mod hk _) h
theorem op_convert_nat (T : Types P) {s : TypeId} {k' : IntKind} {ds : TypeDesc} (hk : k.signed = false) (hop : o.op = .convert s t x) (hx : ev e x = some (.int k' (a : Int))) (hs : T.d s = some ds) (ht : T.d t = some (.int k)) (h : K (.int k ((a % 2 ^ k.bits : Nat) : Int)) w) : OpW P N o e w K :=
 op_convert_int T hop hx hs ht (wrap_nat_mod hk a) h
theorem op_convert_fit (T : Types P) {s : TypeId} {k' : IntKind} {m : Int} {ds : TypeDesc} (hop : o.op = .convert s t x) (hx : ev e x = some (.int k' m)) (hs : T.d s = some ds) (ht : T.d t = some (.int k)) (hr : k.wrap m = m) (h : K (.int k m) w) : OpW P N o e w K :=
 op_convert_int T hop hx hs ht hr h
end
theorem op_slice_str (T : Types P) {x y z : Operand} {t : TypeId} {l h' : Nat} {s : List UInt8} {k k' : IntKind} (hop : o.op = .slice t x (some y) (some z) none) (hx : ev e x = some (.string (str s))) (ht : T.d t = some .string) (hy : ev e y = some (.int k (l : Int))) (hz : ev e z = some (.int k' (h' : Int)))
  (h0 : l ≤ h') (h1 : h' ≤ s.length) (h : K (.string (str ((s.take h').drop l))) w) : OpW P N o e w K := by
 refine OpW_run (fun a ha => ?_) h
 have hsz : (str s).size = s.length := str_size s
 have hex : (str s).extract l h' = str ((s.take h').drop l) := by
  apply ByteArray.ext
  apply Array.ext'
  simp [str, ByteArray.data_extract, List.extract_eq_take_drop, List.drop_take]
 simp [execOp, hop, ha.ev hx, ha.ev hy, ha.ev hz, Instr.sliceAt, Instr.slice, Instr.sliceBounds, Instr.sliceBound, asIntOf, run_underlying (T.und' ht), hsz, h0, h1, hex]
theorem op_cut (T : Types P) {α : Type} {R : World → Value → α → Prop} {L : List α} {x : Operand} {lo hi : Option Operand} {t el : TypeId} {A : Option Addr} {n c : Nat} {j : TInfo} {l h' : Nat}
  (hop : o.op = .slice t x lo hi none) (hx : ev e x = some (.slice A n c)) (ht : T.d t = some (.slice el)) (hel : T.tbl el = some j) (hj : Nat.beq j.size 1 = true)
  (hlo : (match lo with | none => l = 0 | some y => ∃ k, ev e y = some (.int k (l : Int)))) (hhi : (match hi with | none => h' = n | some y => ∃ k, ev e y = some (.int k (h' : Int))))
  (hl : SliceOf R w (.slice A n c) L) (h0 : l ≤ h') (h1 : h' ≤ L.length)
  (h : ∀ A', (∀ w1, SliceOf R w1 (.slice A n c) L → SliceOf R w1 (.slice A' (h' - l) (c - l)) ((L.take h').drop l)) → K (.slice A' (h' - l) (c - l)) w) : OpW P N o e w K := by
 have hs : j.size = 1 := Nat.eq_of_beq_eq_true hj
 obtain ⟨rfl, h3, h4⟩ := hl.len
 refine op_slice T hop hx ht hel hlo hhi h0 (by omega) ?_
 rw [hs]
 exact h _ (fun w1 hl1 => hl1.cut h0 h1)
end
structure MadeB (t : TypeId) (w0 w : World) (v : Value) (l : List UInt8) : Prop where
 chg : Chg [] w0 w
 own : Own w t 1 v l.length (u8s l)
 fresh : ∀ h, v.ownBlock = some h → w0.heap.size ≤ h
section
variable {t : TypeId} {w0 w w' : World} {v : Value} {l : List UInt8}
theorem MadeB.keep0 (h : MadeB t w0 w v l) (hc : Chg [] w w') : MadeB t w0 w' v l := ⟨h.chg.trans' hc, h.own.keep0 hc, h.fresh⟩
theorem MadeB.base {w1 : World} (h : MadeB t w0 w v l) (hc : Chg [] w1 w0) : MadeB t w1 w v l := ⟨hc.trans' h.chg, h.own, fun k hk => by have := h.fresh k hk; have := hc.size; omega⟩
theorem MadeB.reads (h : MadeB t w0 w v l) : SliceOf Ru8 w v l := h.own.bytes
theorem MadeB.nil (t : TypeId) (w : World) : MadeB t w w (.slice none 0 0) [] := ⟨Chg.refl _ _, Own.nil _ _ _, fun h hh => by simp [Value.ownBlock] at hh⟩
theorem MadeB.form (h : MadeB t w0 w v l) : ∃ A c, v = .slice A l.length c ∧ l.length ≤ c ∧ c ≤ maxLen := h.own.form
theorem MadeB.sub (h : MadeB t w0 w v l) {k : Nat} (hk : k < w0.heap.size) : ∀ g, v.ownBlock = some g → g ≠ k := fun g hg => by have := h.fresh g hg; omega
end
section
variable {P : Program} {N : Nat} {e : Env} {w0 w : World} {o : Oper} {K : Value → World → Prop}
theorem op_appB (T : Types P) {x y : Operand} {t el : TypeId} {d : TInfo} {v : Value} {A : Option Addr} {m c : Nat} {l M : List UInt8} {ts : Array TypeId}
  (hop : o.op = .call { callee := .builtin .append, args := #[x, y], argTypes := ts }) (hts : ts = #[t, t]) (hx : ev e x = some v) (hy : ev e y = some (.slice A m c)) (ht : T.d t = some (.slice el)) (hel : T.tbl el = some d)
  (hz : Nat.beq d.zero.cells.size d.size = true) (hsz : Nat.beq d.size 1 = true) (hby : Nat.ble d.bytes 1000 = true)
  (hm : MadeB el w0 w v l) (hs : SliceOf Ru8 w (.slice A m c) M) (hlen : l.length + M.length < 100000000000)
  (h : ∀ v' w1, MadeB el w0 w1 v' (l ++ M) → Chg v.ownBlock.toList w w1 → (v'.ownBlock = v.ownBlock ∨ ∃ g, v'.ownBlock = some g ∧ w.heap.size ≤ g) → K v' w1) : OpW P N o e w K := by
 obtain ⟨rfl, _, _⟩ := hs.len
 have hsz' : d.size = 1 := Nat.eq_of_beq_eq_true hsz
 have hby' : d.bytes ≤ 1000 := Nat.le_of_ble_eq_true hby
 have hmul : (l.length + M.length) * d.bytes ≤ 100000000000 * 1000 := Nat.mul_le_mul (by omega) hby'
 refine op_append T (n := l.length) (xs := u8s l) (m := M.length) (news := u8s M) hop hts hx hy ht hel hz (by rw [hsz']; rfl) (by rw [hsz']; exact hm.own) (by rw [u8s_length, hsz', Nat.mul_one]) ?_ (by unfold maxLen; omega) (by omega) ?_
 ·intro j u hu
  obtain ⟨x, hx, rfl⟩ := u8s_inv hu
  obtain ⟨ad', u', he, hu', rfl⟩ := hs.get hx
  exact ⟨⟨ad', he, hu'⟩, rfl⟩
 ·intro v' w1 ho hc hb _
  rw [hsz'] at ho
  refine h v' w1 ⟨hm.chg.trans hc (fun k hk hlt => ?_), by rw [List.length_append, u8s_append]; exact ho, fun g hg => ?_⟩ hc hb
  ·have := hm.fresh k (by simpa using hk); omega
  ·rcases hb with hb | ⟨g', hb, hge⟩
   ·exact hm.fresh g (by rw [← hb]; exact hg)
   ·rw [hb] at hg; injection hg with hg; have := hm.chg.size; omega
end
theorem post3 {P : Program} {fn : Func} {R : Value → World → Prop} {e : Env} {w : World} {x : Exit} {t u s : Tmp} {v v' v'' : Value} (hx : x = .ret ∨ x = .normal) (h : fn.results = #[.tmp t, .tmp u, .tmp s]) (hv : look e t = some v) (hv' : look e u = some v') (hv'' : look e s = some v'') (hR : R (.tuple #[v, v', v'']) w) : PostF P fn R x e w := by
 have : ∀ N a, Fits N e a → (results fn a.tmps).run P w = .ok (.tuple #[v, v', v'']) w := fun N a ha => by
  have h1 := ha.look t v hv
  have h2 := ha.look u v' hv'
  have h3 := ha.look s v'' hv''
  rw [results_tmp3 h]; simp [Array.getD_eq_getD_getElem?, h1, h2, h3]
 unfold PostF
 rcases hx with rfl | rfl <;> exact ⟨_, this, hR⟩
theorem MadeB.firm {t : TypeId} {w0 w : World} {v : Value} {l : List UInt8} (h : MadeB t w0 w v l) {S : List Nat} (hS : ∀ k ∈ S, k < w0.heap.size) : Firm S w (fun w => SliceOf Ru8 w v l) := fun w1 hc =>
 (h.own.keep hc (fun g hg hm => by have := hS g hm; have := h.fresh g hg; omega)).bytes
end Go.Vc
/-! The same walk, run by evaluation: what needs no thought (moves, choices, ways in and out) is computed by a function, n steps at once. -/
namespace Go.Vc
open Go
inductive Fr where
 | seq (c : Code)
 | block (id : Nat)
 | scope
inductive St where
 | code (c : Code) (ks : List Fr)
 | ops (a : Array Oper) (l : List Oper) (ks : List Fr)
 | out (x : Exit) (ks : List Fr)
def PostOf (P : Program) (N : Nat) (Q : Post) : List Fr → Post
 | [] => Q
 | .seq y :: ks => Then (fun e w => W P N y (PostOf P N Q ks) e w) (PostOf P N Q ks)
 | .block id :: ks => InBlock id (PostOf P N Q ks)
 | .scope :: ks => NoGoto (PostOf P N Q ks)
def Run (P : Program) (N : Nat) (Q : Post) (s : St) (e : Env) (w : World) : Prop :=
 match s with
 | .code c ks => W P N c (PostOf P N Q ks) e w
 | .ops a l ks => WL P N a l (PostOf P N Q ks) e w
 | .out x ks => PostOf P N Q ks x e w
def pure1 {P : Program} (T : Types P) (o : Oper) (e : Env) : Option Value := match o.op with
 | .move x => ev e x
 | .assign x => ev e x
 | .pick c x y => match ev e c with
  | some (.bool true) => ev e x
  | some (.bool false) => ev e y
  | _ => none
 | .extract x i => match ev e x with
  | some (.tuple vs) => nth vs.toList i
  | _ => none
 | .nilCheck x => match ev e x with
  | some (.pointer (some ad)) => some (.pointer (some ad))
  | _ => none
 | .unOp .not t x => match ev e x with
  | some (.bool true) => some (.bool false)
  | some (.bool false) => some (.bool true)
  | _ => none
 | .fieldAddr t x i => match ev e x with
  | some (.pointer (some ⟨g, j, none⟩)) => match T.tbl t with
   | some d' => match d'.fields with
    | some fs => match fs[i]? with
     | some (ft, off) => match T.tbl ft with
      | some d => match Nat.beq d.size 0 with
       | false => some (.pointer (some ⟨g, j + off, none⟩))
       | true => none
      | none => none
     | none => none
    | none => none
   | none => none
  | _ => none
 | .call ⟨.builtin .len, ⟨[x]⟩, ⟨[t]⟩⟩ => match ev e x with
  | some (.slice A n c) => match T.d t with
   | some (.slice el) => some (.int .i64 (n : Int))
   | _ => none
  | _ => none
 | .binOp .eql t x y _ => match ev e y with
  | some (.pointer none) => match ev e x with
   | some (.pointer none) => match T.d t with
    | some (.pointer _) => some (.bool true)
    | _ => none
   | some (.pointer (some _)) => match T.d t with
    | some (.pointer _) => some (.bool false)
    | _ => none
   | _ => none
  | _ => none
 | .binOp .neq t x y _ => match ev e y with
  | some (.pointer none) => match ev e x with
   | some (.pointer none) => match T.d t with
    | some (.pointer _) => some (.bool false)
    | _ => none
   | some (.pointer (some _)) => match T.d t with
    | some (.pointer _) => some (.bool true)
    | _ => none
   | _ => none
  | _ => none
 | _ => none
theorem add_own (g j n : Nat) : (⟨g, j, none⟩ : Addr).add n = ⟨g, j + n, none⟩ := by unfold Addr.add; split <;> simp_all
section
variable {P : Program} {N : Nat} {Q : Post} {e : Env} {w : World}
theorem pure1_ok (T : Types P) {o : Oper} {v : Value} (h : pure1 T o e = some v) {K : Value → World → Prop} (hK : K v w) : OpW P N o e w K := by
 unfold pure1 at h
 split at h
 ·rename_i x hop; exact op_move hop h hK
 ·rename_i x hop; exact op_assign hop h hK
 ·rename_i c x y hop
  split at h
  ·rename_i hc; exact op_pick hop hc h rfl hK
  ·rename_i hc; exact op_pick hop hc h rfl hK
  ·cases h
 ·rename_i x i hop
  split at h
  ·rename_i vs hx; exact op_extract hop hx h hK
  ·cases h
 ·rename_i x hop
  split at h
  ·rename_i ad hx; cases h; exact op_nilCheck hop hx hK
  ·cases h
 ·rename_i t x hop
  split at h
  ·rename_i hx; cases h; exact op_notT hop hx hK
  ·rename_i hx; cases h; exact op_notF hop hx hK
  ·cases h
 ·rename_i t x i hop
  split at h
  ·rename_i g j hx
   split at h
   ·rename_i d' ht
    split at h
    ·rename_i fs hfs
     split at h
     ·rename_i ft off hf
      split at h
      ·rename_i d hft
       split at h
       ·rename_i hd; cases h; exact op_fieldAddr T hop hx ht hfs hf hft hd (add_own _ _ _) hK
       ·cases h
      ·cases h
     ·cases h
    ·cases h
   ·cases h
  ·cases h
 ·rename_i x t hop
  split at h
  ·rename_i A n c hx
   split at h
   ·rename_i el ht; cases h; exact op_len_slice T hop rfl hx ht hK
   ·cases h
  ·cases h
 ·rename_i t x y ty hop
  split at h
  ·rename_i hy
   split at h
   ·rename_i hx
    split at h
    ·rename_i el ht; cases h; exact op_eql_nilptr T hop hx hy ht rfl hK
    ·cases h
   ·rename_i hx
    split at h
    ·rename_i el ht; cases h; exact op_eql_nilptr T hop hx hy ht rfl hK
    ·cases h
   ·cases h
  ·cases h
 ·rename_i t x y ty hop
  split at h
  ·rename_i hy
   split at h
   ·rename_i hx
    split at h
    ·rename_i el ht; cases h; exact op_neq_nilptr T hop hx hy ht rfl hK
    ·cases h
   ·rename_i hx
    split at h
    ·rename_i el ht; cases h; exact op_neq_nilptr T hop hx hy ht rfl hK
    ·cases h
   ·cases h
  ·cases h
 ·cases h
def fit1 (N : Nat) (d : Nat) (v : Value) (s : St) (e : Env) : Option (St × Env) := match Nat.blt d N with
 | true => some (s, (d, v) :: e)
 | false => none
def step {P : Program} (T : Types P) (N : Nat) : St → Env → Option (St × Env)
 | .code c ks, e => match c with
  | .skip => some (.out .normal ks, e)
  | .label _ => some (.out .normal ks, e)
  | .seq x y => some (.code x (.seq y :: ks), e)
  | .block id c => some (.code c (.block id :: ks), e)
  | .scope c => some (.code c (.scope :: ks), e)
  | .exit i => some (.out (.exit i) ks, e)
  | .ret => some (.out .ret ks, e)
  | .cond c x y => match ev e c with
   | some (.bool true) => some (.code x ks, e)
   | some (.bool false) => some (.code y ks, e)
   | _ => none
  | .region _ ⟨l⟩ false => some (.ops ⟨l⟩ l ks, e)
  | _ => none
 | .ops a l ks, e => match l with
  | [] => some (.out .normal ks, e)
  | o :: r => match o.dst with
   | none => none
   | some d => match o.guard with
    | none => match pure1 T o e with
     | some v => fit1 N d v (.ops a r ks) e
     | none => none
    | some (j, want) => match guardVal a e j with
     | some (.bool b) => match b, want with
      | true, true => match pure1 T o e with
       | some v => fit1 N d v (.ops a r ks) e
       | none => none
      | false, false => match pure1 T o e with
       | some v => fit1 N d v (.ops a r ks) e
       | none => none
      | true, false => fit1 N d undef (.ops a r ks) e
      | false, true => fit1 N d undef (.ops a r ks) e
     | some (.tuple ⟨[]⟩) => fit1 N d undef (.ops a r ks) e
     | _ => none
 | .out x ks, e => match x with
  | .normal => match ks with
   | .seq y :: ks => some (.code y ks, e)
   | .block _ :: ks => some (.out .normal ks, e)
   | .scope :: ks => some (.out .normal ks, e)
   | [] => none
  | .exit i => match ks with
   | .seq _ :: ks => some (.out (.exit i) ks, e)
   | .block id :: ks => match Nat.beq i id with
    | true => some (.out .normal ks, e)
    | false => some (.out (.exit i) ks, e)
   | .scope :: ks => some (.out (.exit i) ks, e)
   | [] => none
  | .ret => match ks with
   | .seq _ :: ks => some (.out .ret ks, e)
   | .block _ :: ks => some (.out .ret ks, e)
   | .scope :: ks => some (.out .ret ks, e)
   | [] => none
  | _ => none
def steps {P : Program} (T : Types P) (N : Nat) : Nat → St → Env → Option (St × Env)
 | 0, s, e => some (s, e)
 | n + 1, s, e => match step T N s e with
  | some (s', e') => steps T N n s' e'
  | none => none
theorem step_ok (T : Types P) {s s' : St} {e' : Env} (h : step T N s e = some (s', e')) (hr : Run P N Q s' e' w) : Run P N Q s e w := by
 have hfit : ∀ {d v s1}, fit1 N d v s1 e = some (s', e') → Nat.blt d N = true ∧ s' = s1 ∧ e' = (d, v) :: e := fun {d v s1} h => by
  unfold fit1 at h
  split at h
  ·rename_i hd; cases h; exact ⟨hd, rfl, rfl⟩
  ·cases h
 unfold step at h
 split at h
 ·rename_i c ks e
  split at h
  ·cases h; exact W_skip hr
  ·cases h; exact W_label hr
  ·cases h; exact W_seq hr
  ·cases h; exact W_block hr
  ·cases h; exact W_scope hr
  ·cases h; exact W_exit hr
  ·cases h; exact W_ret hr
  ·split at h
   ·rename_i hc; cases h; exact W_condT hc hr
   ·rename_i hc; cases h; exact W_condF hc hr
   ·cases h
  ·cases h; exact W_region hr
  ·cases h
 ·rename_i a l ks e
  split at h
  ·cases h; exact WL_nil hr
  ·rename_i o r
   split at h
   ·cases h
   ·rename_i d hd
    split at h
    ·rename_i hg
     split at h
     ·rename_i v hv
      obtain ⟨h1, rfl, rfl⟩ := hfit h
      exact WL_some hg hd h1 (pure1_ok T hv hr)
     ·cases h
    ·rename_i j want hg
     split at h
     ·rename_i b hb
      split at h
      ·split at h
       ·rename_i v hv
        obtain ⟨h1, rfl, rfl⟩ := hfit h
        exact WL_guardT hg hb hd h1 (pure1_ok T hv hr)
       ·cases h
      ·split at h
       ·rename_i v hv
        obtain ⟨h1, rfl, rfl⟩ := hfit h
        exact WL_guardT hg hb hd h1 (pure1_ok T hv hr)
       ·cases h
      ·obtain ⟨h1, rfl, rfl⟩ := hfit h
       exact WL_guardF hg hb rfl hd h1 hr
      ·obtain ⟨h1, rfl, rfl⟩ := hfit h
       exact WL_guardF hg hb rfl hd h1 hr
     ·rename_i hb
      obtain ⟨h1, rfl, rfl⟩ := hfit h
      exact WL_guardU hg hb hd h1 hr
     ·cases h
 ·rename_i x ks e
  split at h
  ·split at h
   ·cases h; exact Then_n hr
   ·cases h; exact InBlock_n hr
   ·cases h; exact NoGoto_n hr
   ·cases h
  ·split at h
   ·cases h; exact Then_x hr
   ·split at h
    ·rename_i he; cases h; rw [Nat.eq_of_beq_eq_true he]; exact InBlock_hit hr
    ·rename_i he; cases h; exact InBlock_miss he hr
   ·cases h; exact NoGoto_x hr
   ·cases h
  ·split at h
   ·cases h; exact Then_r hr
   ·cases h; exact InBlock_r hr
   ·cases h; exact NoGoto_r hr
   ·cases h
  ·cases h
theorem go (T : Types P) : ∀ (n : Nat) {s s' : St} {e e' : Env}, steps T N n s e = some (s', e') → Run P N Q s' e' w → Run P N Q s e w
 | 0, s, s', e, e', h, hr => by simp only [steps] at h; cases h; exact hr
 | n + 1, s, s', e, e', h, hr => by
  simp only [steps] at h
  split at h
  ·rename_i s1 e1 h1
   exact step_ok T h1 (go T n h hr)
  ·cases h
theorem run {c : Code} (h : Run P N Q (.code c []) e w) : W P N c Q e w := h
theorem runL {a : Array Oper} {l : List Oper} {ks : List Fr} (h : Run P N Q (.ops a l ks) e w) : WL P N a l (PostOf P N Q ks) e w := h
theorem op0 {a : Array Oper} {o : Oper} {r : List Oper} {ks : List Fr} (hg : o.guard = none) (hdst : o.dst = none) (h : OpW P N o e w (fun _ w' => Run P N Q (.ops a r ks) e w')) : Run P N Q (.ops a (o :: r) ks) e w := WL_none hg hdst h
/-! ### In short -/
def open1 (N : Nat) (a : Array Oper) (o : Oper) (e : Env) : Option Nat := match o.dst with
 | some d => match Nat.blt d N with
  | true => match o.guard with
   | none => some d
   | some (j, want) => match guardVal a e j with
    | some (.bool b) => match b, want with
     | true, true => some d
     | false, false => some d
     | _, _ => none
    | _ => none
  | false => none
 | none => none
theorem open1_ok {a : Array Oper} {o : Oper} {r : List Oper} {ks : List Fr} {d : Nat} (h1 : open1 N a o e = some d) (h : OpW P N o e w (fun v w' => Run P N Q (.ops a r ks) ((d, v) :: e) w')) : Run P N Q (.ops a (o :: r) ks) e w := by
 unfold open1 at h1
 split at h1
 ·rename_i d' hd
  split at h1
  ·rename_i hlt
   split at h1
   ·rename_i hg; cases h1; exact WL_some hg hd hlt h
   ·rename_i j want hg
    split at h1
    ·rename_i b hv
     split at h1
     ·cases h1; exact WL_guardT hg hv hd hlt h
     ·cases h1; exact WL_guardT hg hv hd hlt h
     ·cases h1
    ·cases h1
  ·cases h1
 ·cases h1
section
variable {a : Array Oper} {o : Oper} {r : List Oper} {ks : List Fr} {d : Nat}
theorem o1 (h1 : open1 N a o e = some d) (h : OpW P N o e w (fun v w' => Run P N Q (.ops a r ks) ((d, v) :: e) w')) : Run P N Q (.ops a (o :: r) ks) e w := open1_ok h1 h
theorem rndX {σ : Type} {E : σ → Env} {I : σ → World → Prop} {lt : σ → Prop} {i : Nat} (h : Run P N Q (.out (.exit i) ks) e w) : Run P N (Round E I lt (PostOf P N Q ks)) (.out (.exit i) []) e w := Round_x h
theorem rndR {σ : Type} {E : σ → Env} {I : σ → World → Prop} {lt : σ → Prop} (h : Run P N Q (.out .ret ks) e w) : Run P N (Round E I lt (PostOf P N Q ks)) (.out .ret []) e w := Round_r h
variable {t ty : TypeId} {x y : Operand} {k : IntKind} {m n : Int}
theorem ltT (h1 : open1 N a o e = some d) (hop : o.op = .binOp .lss t x y ty) (hx : ev e x = some (.int k m)) (hy : ev e y = some (.int k n)) (hc : m < n) (h : Run P N Q (.ops a r ks) ((d, .bool true) :: e) w) : Run P N Q (.ops a (o :: r) ks) e w := o1 h1 (op_lss hop hx hy (fun _ => h) (fun h => absurd hc h))
theorem ltF (h1 : open1 N a o e = some d) (hop : o.op = .binOp .lss t x y ty) (hx : ev e x = some (.int k m)) (hy : ev e y = some (.int k n)) (hc : ¬ m < n) (h : Run P N Q (.ops a r ks) ((d, .bool false) :: e) w) : Run P N Q (.ops a (o :: r) ks) e w := o1 h1 (op_lss hop hx hy (fun h => absurd h hc) (fun _ => h))
theorem leT (h1 : open1 N a o e = some d) (hop : o.op = .binOp .leq t x y ty) (hx : ev e x = some (.int k m)) (hy : ev e y = some (.int k n)) (hc : m ≤ n) (h : Run P N Q (.ops a r ks) ((d, .bool true) :: e) w) : Run P N Q (.ops a (o :: r) ks) e w := o1 h1 (op_leq hop hx hy (fun _ => h) (fun h => absurd hc h))
theorem leF (h1 : open1 N a o e = some d) (hop : o.op = .binOp .leq t x y ty) (hx : ev e x = some (.int k m)) (hy : ev e y = some (.int k n)) (hc : ¬ m ≤ n) (h : Run P N Q (.ops a r ks) ((d, .bool false) :: e) w) : Run P N Q (.ops a (o :: r) ks) e w := o1 h1 (op_leq hop hx hy (fun h => absurd h hc) (fun _ => h))
theorem gtT (h1 : open1 N a o e = some d) (hop : o.op = .binOp .gtr t x y ty) (hx : ev e x = some (.int k m)) (hy : ev e y = some (.int k n)) (hc : n < m) (h : Run P N Q (.ops a r ks) ((d, .bool true) :: e) w) : Run P N Q (.ops a (o :: r) ks) e w := o1 h1 (op_gtr hop hx hy (fun _ => h) (fun h => absurd hc h))
theorem gtF (h1 : open1 N a o e = some d) (hop : o.op = .binOp .gtr t x y ty) (hx : ev e x = some (.int k m)) (hy : ev e y = some (.int k n)) (hc : ¬ n < m) (h : Run P N Q (.ops a r ks) ((d, .bool false) :: e) w) : Run P N Q (.ops a (o :: r) ks) e w := o1 h1 (op_gtr hop hx hy (fun h => absurd h hc) (fun _ => h))
theorem geT (h1 : open1 N a o e = some d) (hop : o.op = .binOp .geq t x y ty) (hx : ev e x = some (.int k m)) (hy : ev e y = some (.int k n)) (hc : n ≤ m) (h : Run P N Q (.ops a r ks) ((d, .bool true) :: e) w) : Run P N Q (.ops a (o :: r) ks) e w := o1 h1 (op_geq hop hx hy (fun _ => h) (fun h => absurd hc h))
theorem geF (h1 : open1 N a o e = some d) (hop : o.op = .binOp .geq t x y ty) (hx : ev e x = some (.int k m)) (hy : ev e y = some (.int k n)) (hc : ¬ n ≤ m) (h : Run P N Q (.ops a r ks) ((d, .bool false) :: e) w) : Run P N Q (.ops a (o :: r) ks) e w := o1 h1 (op_geq hop hx hy (fun h => absurd h hc) (fun _ => h))
theorem eqT (h1 : open1 N a o e = some d) (hop : o.op = .binOp .eql t x y ty) (hx : ev e x = some (.int k m)) (hy : ev e y = some (.int k n)) (hc : m = n) (h : Run P N Q (.ops a r ks) ((d, .bool true) :: e) w) : Run P N Q (.ops a (o :: r) ks) e w := o1 h1 (op_eql hop hx hy (fun _ => h) (fun h => absurd hc h))
theorem eqF (h1 : open1 N a o e = some d) (hop : o.op = .binOp .eql t x y ty) (hx : ev e x = some (.int k m)) (hy : ev e y = some (.int k n)) (hc : ¬ m = n) (h : Run P N Q (.ops a r ks) ((d, .bool false) :: e) w) : Run P N Q (.ops a (o :: r) ks) e w := o1 h1 (op_eql hop hx hy (fun h => absurd h hc) (fun _ => h))
theorem neT (h1 : open1 N a o e = some d) (hop : o.op = .binOp .neq t x y ty) (hx : ev e x = some (.int k m)) (hy : ev e y = some (.int k n)) (hc : ¬ m = n) (h : Run P N Q (.ops a r ks) ((d, .bool true) :: e) w) : Run P N Q (.ops a (o :: r) ks) e w := o1 h1 (op_neq hop hx hy (fun _ => h) (fun h => absurd h hc))
theorem neF (h1 : open1 N a o e = some d) (hop : o.op = .binOp .neq t x y ty) (hx : ev e x = some (.int k m)) (hy : ev e y = some (.int k n)) (hc : m = n) (h : Run P N Q (.ops a r ks) ((d, .bool false) :: e) w) : Run P N Q (.ops a (o :: r) ks) e w := o1 h1 (op_neq hop hx hy (fun h => absurd hc h) (fun _ => h))
theorem adI (h1 : open1 N a o e = some d) (hop : o.op = .binOp .add t x y ty) (hx : ev e x = some (.int .i64 m)) (hy : ev e y = some (.int .i64 n)) (h0 : -9223372036854775808 ≤ m + n) (h2 : m + n ≤ 9223372036854775807) (h : Run P N Q (.ops a r ks) ((d, .int .i64 (m + n)) :: e) w) : Run P N Q (.ops a (o :: r) ks) e w := o1 h1 (op_add hop hx hy (wrap_i64_in h0 h2) h)
theorem ltS (h1 : open1 N a o e = some d) (hop : o.op = .binOp .lss t x y ty) (hx : ev e x = some (.int k m)) (hy : ev e y = some (.int k n)) (ht : m < n → Run P N Q (.ops a r ks) ((d, .bool true) :: e) w) (hf : ¬ m < n → Run P N Q (.ops a r ks) ((d, .bool false) :: e) w) : Run P N Q (.ops a (o :: r) ks) e w := o1 h1 (op_lss hop hx hy ht hf)
theorem geS (h1 : open1 N a o e = some d) (hop : o.op = .binOp .geq t x y ty) (hx : ev e x = some (.int k m)) (hy : ev e y = some (.int k n)) (ht : n ≤ m → Run P N Q (.ops a r ks) ((d, .bool true) :: e) w) (hf : ¬ n ≤ m → Run P N Q (.ops a r ks) ((d, .bool false) :: e) w) : Run P N Q (.ops a (o :: r) ks) e w := o1 h1 (op_geq hop hx hy ht hf)
theorem ldB (T : Types P) {el : TypeId} {i' : TInfo} {g j : Nat} {v : Value} {cs : List Value} (hb : Blk w g el cs) (h1 : open1 N a o e = some d) (hop : o.op = .load t x) (hx : ev e x = some (.pointer (some ⟨g, j, none⟩))) (ht : T.tbl t = some i') (hd : aggI i' = false) (hv : nth cs j = some v) (h : Run P N Q (.ops a r ks) ((d, v) :: e) w) : Run P N Q (.ops a (o :: r) ks) e w := o1 h1 (op_loadB T hop hx ht hd hb hv h)
end
theorem post1c (T : Types P) {fn : Func} {R : Value → World → Prop} {x : Exit} {t : Tmp} {ty el : TypeId} {d : TInfo} {g : Nat} {cs : List Value}
  (hx : x = .ret ∨ x = .normal) (h : fn.results = #[.cell t ty]) (hv : look e t = some (.pointer (some ⟨g, 0, none⟩))) (ht : T.tbl ty = some d) (hd : aggI d = true) (hb : Blk w g el cs) (hs : Nat.beq d.size cs.length = true)
  (hR : R (.agg cs.toArray) w) : PostF P fn R x e w := by
 have : ∀ N a, Fits N e a → (results fn a.tmps).run P w = .ok (.agg cs.toArray) w := fun N a ha => by
  have h1 := ha.look t _ hv
  simp only [results, h]
  simp [Sem.run_bind, Result.andThen, Array.getD_eq_getD_getElem?, h1, asAddr, loadVar_agg T ht hd hb hs]
 unfold PostF
 rcases hx with rfl | rfl <;> exact ⟨_, this, hR⟩
end
end Go.Vc
/- The types of this translation, as the steps of the walks ask for them. Printed by a small program (mktypes.py); each row is checked by the kernel. -/
namespace Go.Proofs.YtiadjkjlifnopaaGreatDoor.Tryz
open Go Go.Vc
def typeRows : List (Nat × TInfo) := [
 (1, ⟨(.func #[] #[] false), none, .nilFunc, 1, 8⟩),
 (2, ⟨(.int .i64), none, (.int .i64 0), 1, 8⟩),
 (3, ⟨(.int .i64), none, (.int .i64 0), 1, 8⟩),
 (4, ⟨.bool, none, (.bool false), 1, 1⟩),
 (5, ⟨(.int .u8), none, (.int .u8 0), 1, 1⟩),
 (6, ⟨(.int .u8), none, (.int .u8 0), 1, 1⟩),
 (7, ⟨.invalid, some [(2, 0), (3, 1), (4, 2), (6, 3)], (.agg #[(.int .i64 0), (.int .i64 0), (.bool false), (.int .u8 0)]), 4, 24⟩),
 (8, ⟨.invalid, some [(2, 0), (3, 1), (4, 2), (6, 3)], (.agg #[(.int .i64 0), (.int .i64 0), (.bool false), (.int .u8 0)]), 4, 24⟩),
 (9, ⟨.string, none, (.string ByteArray.empty), 1, 16⟩),
 (10, ⟨.string, none, (.string ByteArray.empty), 1, 16⟩),
 (11, ⟨.string, none, (.string ByteArray.empty), 1, 16⟩),
 (12, ⟨(.int .u64), none, (.int .u64 0), 1, 8⟩),
 (13, ⟨.invalid, some [(9, 0), (12, 1)], (.agg #[(.string ByteArray.empty), (.int .u64 0)]), 2, 24⟩),
 (14, ⟨.invalid, some [(9, 0), (12, 1)], (.agg #[(.string ByteArray.empty), (.int .u64 0)]), 2, 24⟩),
 (15, ⟨(.pointer 261), none, (.pointer none), 1, 8⟩),
 (16, ⟨(.pointer 264), none, (.pointer none), 1, 8⟩),
 (17, ⟨(.pointer 272), none, (.pointer none), 1, 8⟩),
 (18, ⟨.invalid, some [(17, 0)], (.agg #[(.pointer none)]), 1, 8⟩),
 (19, ⟨.invalid, some [(17, 0)], (.agg #[(.pointer none)]), 1, 8⟩),
 (21, ⟨(.int .i32), none, (.int .i32 0), 1, 4⟩),
 (22, ⟨(.slice 26), none, (.slice none 0 0), 1, 24⟩),
 (24, ⟨(.int .u32), none, (.int .u32 0), 1, 4⟩),
 (25, ⟨.invalid, some [(2, 0), (4, 1), (2, 2), (3, 3), (3, 4), (24, 5)], (.agg #[(.int .i64 0), (.bool false), (.int .i64 0), (.int .i64 0), (.int .i64 0), (.int .u32 0)]), 6, 48⟩),
 (26, ⟨.invalid, some [(2, 0), (4, 1), (2, 2), (3, 3), (3, 4), (24, 5)], (.agg #[(.int .i64 0), (.bool false), (.int .i64 0), (.int .i64 0), (.int .i64 0), (.int .u32 0)]), 6, 48⟩),
 (27, ⟨(.slice 2), none, (.slice none 0 0), 1, 24⟩),
 (28, ⟨(.slice 27), none, (.slice none 0 0), 1, 24⟩),
 (31, ⟨(.slice 51), none, (.slice none 0 0), 1, 24⟩),
 (32, ⟨(.pointer 86), none, (.pointer none), 1, 8⟩),
 (33, ⟨(.pointer 101), none, (.pointer none), 1, 8⟩),
 (36, ⟨(.int .i64), none, (.int .i64 0), 1, 8⟩),
 (43, ⟨(.slice 4), none, (.slice none 0 0), 1, 24⟩),
 (47, ⟨(.slice 70), none, (.slice none 0 0), 1, 24⟩),
 (48, ⟨.invalid, some [(2, 0), (2, 1), (22, 2), (27, 3), (47, 4), (27, 5)], (.agg #[(.int .i64 0), (.int .i64 0), (.slice none 0 0), (.slice none 0 0), (.slice none 0 0), (.slice none 0 0)]), 6, 112⟩),
 (49, ⟨.invalid, some [(2, 0), (2, 1), (22, 2), (27, 3), (47, 4), (27, 5)], (.agg #[(.int .i64 0), (.int .i64 0), (.slice none 0 0), (.slice none 0 0), (.slice none 0 0), (.slice none 0 0)]), 6, 112⟩),
 (50, ⟨(.slice 9), none, (.slice none 0 0), 1, 24⟩),
 (51, ⟨(.slice 5), none, (.slice none 0 0), 1, 24⟩),
 (58, ⟨(.func #[] #[36] false), none, .nilFunc, 1, 8⟩),
 (64, ⟨(.func #[] #[47] false), none, .nilFunc, 1, 8⟩),
 (65, ⟨(.func #[47, 47] #[4] false), none, .nilFunc, 1, 8⟩),
 (68, ⟨(.slice 3), none, (.slice none 0 0), 1, 24⟩),
 (69, ⟨.invalid, some [(2, 0), (27, 1), (68, 2), (3, 3), (24, 4)], (.agg #[(.int .i64 0), (.slice none 0 0), (.slice none 0 0), (.int .i64 0), (.int .u32 0)]), 5, 72⟩),
 (70, ⟨.invalid, some [(2, 0), (27, 1), (68, 2), (3, 3), (24, 4)], (.agg #[(.int .i64 0), (.slice none 0 0), (.slice none 0 0), (.int .i64 0), (.int .u32 0)]), 5, 72⟩),
 (72, ⟨(.func #[51] #[24] false), none, .nilFunc, 1, 8⟩),
 (78, ⟨(.pointer 81), none, (.pointer none), 1, 8⟩),
 (80, ⟨.invalid, some [(22, 0), (31, 1), (68, 2), (43, 3), (3, 4)], (.agg #[(.slice none 0 0), (.slice none 0 0), (.slice none 0 0), (.slice none 0 0), (.int .i64 0)]), 5, 104⟩),
 (81, ⟨.invalid, some [(22, 0), (31, 1), (68, 2), (43, 3), (3, 4)], (.agg #[(.slice none 0 0), (.slice none 0 0), (.slice none 0 0), (.slice none 0 0), (.int .i64 0)]), 5, 104⟩),
 (83, ⟨(.map 9 103), none, (.map none), 1, 8⟩),
 (84, ⟨(.slice 108), none, (.slice none 0 0), 1, 24⟩),
 (85, ⟨.invalid, some [(3, 0), (83, 1), (83, 2), (84, 3), (3, 4), (3, 5)], (.agg #[(.int .i64 0), (.map none), (.map none), (.slice none 0 0), (.int .i64 0), (.int .i64 0)]), 6, 64⟩),
 (86, ⟨.invalid, some [(3, 0), (83, 1), (83, 2), (84, 3), (3, 4), (3, 5)], (.agg #[(.int .i64 0), (.map none), (.map none), (.slice none 0 0), (.int .i64 0), (.int .i64 0)]), 6, 64⟩),
 (98, ⟨.invalid, some [(22, 0), (47, 1), (2, 2), (2, 3)], (.agg #[(.slice none 0 0), (.slice none 0 0), (.int .i64 0), (.int .i64 0)]), 4, 64⟩),
 (99, ⟨.invalid, some [(22, 0), (47, 1), (2, 2), (2, 3)], (.agg #[(.slice none 0 0), (.slice none 0 0), (.int .i64 0), (.int .i64 0)]), 4, 64⟩),
 (100, ⟨.invalid, some [(32, 0), (99, 1), (4, 5)], (.agg #[(.pointer none), (.slice none 0 0), (.slice none 0 0), (.int .i64 0), (.int .i64 0), (.bool false)]), 6, 80⟩),
 (101, ⟨.invalid, some [(32, 0), (99, 1), (4, 5)], (.agg #[(.pointer none), (.slice none 0 0), (.slice none 0 0), (.int .i64 0), (.int .i64 0), (.bool false)]), 6, 80⟩),
 (103, ⟨(.pointer 106), none, (.pointer none), 1, 8⟩),
 (104, ⟨(.func #[108] #[36] false), none, .nilFunc, 1, 8⟩),
 (105, ⟨.invalid, some [(51, 0), (3, 1)], (.agg #[(.slice none 0 0), (.int .i64 0)]), 2, 32⟩),
 (106, ⟨.invalid, some [(51, 0), (3, 1)], (.agg #[(.slice none 0 0), (.int .i64 0)]), 2, 32⟩),
 (107, ⟨.invalid, some [(3, 0), (9, 1), (9, 2), (103, 3)], (.agg #[(.int .i64 0), (.string ByteArray.empty), (.string ByteArray.empty), (.pointer none)]), 4, 48⟩),
 (108, ⟨.invalid, some [(3, 0), (9, 1), (9, 2), (103, 3)], (.agg #[(.int .i64 0), (.string ByteArray.empty), (.string ByteArray.empty), (.pointer none)]), 4, 48⟩),
 (112, ⟨(.func #[50, 102] #[50] false), none, .nilFunc, 1, 8⟩),
 (115, ⟨(.slice 49), none, (.slice none 0 0), 1, 24⟩),
 (128, ⟨(.int .u64), none, (.int .u64 0), 1, 8⟩),
 (133, ⟨(.slice 58), none, (.slice none 0 0), 1, 24⟩),
 (143, ⟨(.array 6 4), none, (.agg #[(.bool false), (.bool false), (.bool false), (.bool false), (.bool false), (.bool false)]), 6, 6⟩),
 (146, ⟨(.func #[26] #[2] false), none, .nilFunc, 1, 8⟩),
 (150, ⟨(.func #[70] #[2] false), none, .nilFunc, 1, 8⟩),
 (160, ⟨(.func #[51] #[31, 3, 4] false), none, .nilFunc, 1, 8⟩),
 (166, ⟨(.int .i64), none, (.int .i64 0), 1, 8⟩),
 (176, ⟨(.int .u64), none, (.int .u64 0), 1, 8⟩),
 (195, ⟨(.pointer 197), none, (.pointer none), 1, 8⟩),
 (196, ⟨.invalid, some [(51, 0)], (.agg #[(.slice none 0 0)]), 1, 24⟩),
 (197, ⟨.invalid, some [(51, 0)], (.agg #[(.slice none 0 0)]), 1, 24⟩),
 (202, ⟨(.pointer 204), none, (.pointer none), 1, 8⟩),
 (203, ⟨.invalid, some [(51, 0), (4, 1)], (.agg #[(.slice none 0 0), (.bool false)]), 2, 32⟩),
 (204, ⟨.invalid, some [(51, 0), (4, 1)], (.agg #[(.slice none 0 0), (.bool false)]), 2, 32⟩),
 (210, ⟨(.int .u64), none, (.int .u64 0), 1, 8⟩),
 (214, ⟨(.pointer 3), none, (.pointer none), 1, 8⟩),
 (217, ⟨(.array 24 5), none, (.agg (Array.replicate 24 (.int .u8 0))), 24, 24⟩),
 (232, ⟨(.pointer 210), none, (.pointer none), 1, 8⟩),
 (236, ⟨(.array 20 176), none, (.agg #[(.int .u64 0), (.int .u64 0), (.int .u64 0), (.int .u64 0), (.int .u64 0), (.int .u64 0), (.int .u64 0), (.int .u64 0), (.int .u64 0), (.int .u64 0), (.int .u64 0), (.int .u64 0), (.int .u64 0), (.int .u64 0), (.int .u64 0), (.int .u64 0), (.int .u64 0), (.int .u64 0), (.int .u64 0), (.int .u64 0)]), 20, 160⟩),
 (237, ⟨(.array 65 5), none, (.agg (Array.replicate 65 (.int .u8 0))), 65, 65⟩),
 (255, ⟨(.array 32 5), none, (.agg (Array.replicate 32 (.int .u8 0))), 32, 32⟩),
 (256, ⟨(.array 64 5), none, (.agg (Array.replicate 64 (.int .u8 0))), 64, 64⟩),
 (260, ⟨.invalid, some [(17, 0), (17, 1), (17, 2), (9, 3)], (.agg #[(.pointer none), (.pointer none), (.pointer none), (.string ByteArray.empty)]), 4, 40⟩),
 (261, ⟨.invalid, some [(17, 0), (17, 1), (17, 2), (9, 3)], (.agg #[(.pointer none), (.pointer none), (.pointer none), (.string ByteArray.empty)]), 4, 40⟩),
 (262, ⟨(.array 0 16), none, (.agg #[]), 0, 0⟩),
 (263, ⟨.invalid, some [(262, 0)], (.agg #[]), 0, 0⟩),
 (264, ⟨.invalid, some [(262, 0)], (.agg #[]), 0, 0⟩),
 (265, ⟨(.int .u8), none, (.int .u8 0), 1, 1⟩),
 (266, ⟨(.int .u8), none, (.int .u8 0), 1, 1⟩),
 (267, ⟨(.func #[273, 273] #[4] false), none, .nilFunc, 1, 8⟩),
 (268, ⟨(.pointer 5), none, (.pointer none), 1, 8⟩),
 (269, ⟨(.int .i32), none, (.int .i32 0), 1, 4⟩),
 (270, ⟨(.int .i32), none, (.int .i32 0), 1, 4⟩),
 (271, ⟨.invalid, some [(12, 0), (12, 1), (24, 2), (265, 3), (5, 4), (5, 5), (266, 6), (267, 7), (268, 8), (269, 9), (270, 10)], (.agg #[(.int .u64 0), (.int .u64 0), (.int .u32 0), (.int .u8 0), (.int .u8 0), (.int .u8 0), (.int .u8 0), .nilFunc, (.pointer none), (.int .i32 0), (.int .i32 0)]), 11, 48⟩),
 (272, ⟨.invalid, some [(12, 0), (12, 1), (24, 2), (265, 3), (5, 4), (5, 5), (266, 6), (267, 7), (268, 8), (269, 9), (270, 10)], (.agg #[(.int .u64 0), (.int .u64 0), (.int .u32 0), (.int .u8 0), (.int .u8 0), (.int .u8 0), (.int .u8 0), .nilFunc, (.pointer none), (.int .i32 0), (.int .i32 0)]), 11, 48⟩),
 (273, ⟨.unsafePointer, none, (.pointer none), 1, 8⟩)]
theorem ty1 : TInfo.ok Tryz.prog 1 ⟨(.func #[] #[] false), none, .nilFunc, 1, 8⟩ := ⟨Tryz.underlying1, by kernel_rfl⟩
theorem ty2 : TInfo.ok Tryz.prog 2 ⟨(.int .i64), none, (.int .i64 0), 1, 8⟩ := ⟨Tryz.underlying2, by kernel_rfl⟩
theorem ty3 : TInfo.ok Tryz.prog 3 ⟨(.int .i64), none, (.int .i64 0), 1, 8⟩ := ⟨Tryz.underlying3, by kernel_rfl⟩
theorem ty4 : TInfo.ok Tryz.prog 4 ⟨.bool, none, (.bool false), 1, 1⟩ := ⟨Tryz.underlying4, by kernel_rfl⟩
theorem ty5 : TInfo.ok Tryz.prog 5 ⟨(.int .u8), none, (.int .u8 0), 1, 1⟩ := ⟨Tryz.underlying5, by kernel_rfl⟩
theorem ty6 : TInfo.ok Tryz.prog 6 ⟨(.int .u8), none, (.int .u8 0), 1, 1⟩ := ⟨Tryz.underlying6, by kernel_rfl⟩
theorem ty7 : TInfo.ok Tryz.prog 7 ⟨.invalid, some [(2, 0), (3, 1), (4, 2), (6, 3)], (.agg #[(.int .i64 0), (.int .i64 0), (.bool false), (.int .u8 0)]), 4, 24⟩ := ⟨⟨_, Tryz.underlying7, rfl⟩, by kernel_rfl⟩
theorem ty8 : TInfo.ok Tryz.prog 8 ⟨.invalid, some [(2, 0), (3, 1), (4, 2), (6, 3)], (.agg #[(.int .i64 0), (.int .i64 0), (.bool false), (.int .u8 0)]), 4, 24⟩ := ⟨⟨_, Tryz.underlying8, rfl⟩, by kernel_rfl⟩
theorem ty9 : TInfo.ok Tryz.prog 9 ⟨.string, none, (.string ByteArray.empty), 1, 16⟩ := ⟨Tryz.underlying9, by kernel_rfl⟩
theorem ty10 : TInfo.ok Tryz.prog 10 ⟨.string, none, (.string ByteArray.empty), 1, 16⟩ := ⟨Tryz.underlying10, by kernel_rfl⟩
theorem ty11 : TInfo.ok Tryz.prog 11 ⟨.string, none, (.string ByteArray.empty), 1, 16⟩ := ⟨Tryz.underlying11, by kernel_rfl⟩
theorem ty12 : TInfo.ok Tryz.prog 12 ⟨(.int .u64), none, (.int .u64 0), 1, 8⟩ := ⟨Tryz.underlying12, by kernel_rfl⟩
theorem ty13 : TInfo.ok Tryz.prog 13 ⟨.invalid, some [(9, 0), (12, 1)], (.agg #[(.string ByteArray.empty), (.int .u64 0)]), 2, 24⟩ := ⟨⟨_, Tryz.underlying13, rfl⟩, by kernel_rfl⟩
theorem ty14 : TInfo.ok Tryz.prog 14 ⟨.invalid, some [(9, 0), (12, 1)], (.agg #[(.string ByteArray.empty), (.int .u64 0)]), 2, 24⟩ := ⟨⟨_, Tryz.underlying14, rfl⟩, by kernel_rfl⟩
theorem ty15 : TInfo.ok Tryz.prog 15 ⟨(.pointer 261), none, (.pointer none), 1, 8⟩ := ⟨Tryz.underlying15, by kernel_rfl⟩
theorem ty16 : TInfo.ok Tryz.prog 16 ⟨(.pointer 264), none, (.pointer none), 1, 8⟩ := ⟨Tryz.underlying16, by kernel_rfl⟩
theorem ty17 : TInfo.ok Tryz.prog 17 ⟨(.pointer 272), none, (.pointer none), 1, 8⟩ := ⟨Tryz.underlying17, by kernel_rfl⟩
theorem ty18 : TInfo.ok Tryz.prog 18 ⟨.invalid, some [(17, 0)], (.agg #[(.pointer none)]), 1, 8⟩ := ⟨⟨_, Tryz.underlying18, rfl⟩, by kernel_rfl⟩
theorem ty19 : TInfo.ok Tryz.prog 19 ⟨.invalid, some [(17, 0)], (.agg #[(.pointer none)]), 1, 8⟩ := ⟨⟨_, Tryz.underlying19, rfl⟩, by kernel_rfl⟩
theorem ty21 : TInfo.ok Tryz.prog 21 ⟨(.int .i32), none, (.int .i32 0), 1, 4⟩ := ⟨Tryz.underlying21, by kernel_rfl⟩
theorem ty22 : TInfo.ok Tryz.prog 22 ⟨(.slice 26), none, (.slice none 0 0), 1, 24⟩ := ⟨Tryz.underlying22, by kernel_rfl⟩
theorem ty24 : TInfo.ok Tryz.prog 24 ⟨(.int .u32), none, (.int .u32 0), 1, 4⟩ := ⟨Tryz.underlying24, by kernel_rfl⟩
theorem ty25 : TInfo.ok Tryz.prog 25 ⟨.invalid, some [(2, 0), (4, 1), (2, 2), (3, 3), (3, 4), (24, 5)], (.agg #[(.int .i64 0), (.bool false), (.int .i64 0), (.int .i64 0), (.int .i64 0), (.int .u32 0)]), 6, 48⟩ := ⟨⟨_, Tryz.underlying25, rfl⟩, by kernel_rfl⟩
theorem ty26 : TInfo.ok Tryz.prog 26 ⟨.invalid, some [(2, 0), (4, 1), (2, 2), (3, 3), (3, 4), (24, 5)], (.agg #[(.int .i64 0), (.bool false), (.int .i64 0), (.int .i64 0), (.int .i64 0), (.int .u32 0)]), 6, 48⟩ := ⟨⟨_, Tryz.underlying26, rfl⟩, by kernel_rfl⟩
theorem ty27 : TInfo.ok Tryz.prog 27 ⟨(.slice 2), none, (.slice none 0 0), 1, 24⟩ := ⟨Tryz.underlying27, by kernel_rfl⟩
theorem ty28 : TInfo.ok Tryz.prog 28 ⟨(.slice 27), none, (.slice none 0 0), 1, 24⟩ := ⟨Tryz.underlying28, by kernel_rfl⟩
theorem ty31 : TInfo.ok Tryz.prog 31 ⟨(.slice 51), none, (.slice none 0 0), 1, 24⟩ := ⟨Tryz.underlying31, by kernel_rfl⟩
theorem ty32 : TInfo.ok Tryz.prog 32 ⟨(.pointer 86), none, (.pointer none), 1, 8⟩ := ⟨Tryz.underlying32, by kernel_rfl⟩
theorem ty33 : TInfo.ok Tryz.prog 33 ⟨(.pointer 101), none, (.pointer none), 1, 8⟩ := ⟨Tryz.underlying33, by kernel_rfl⟩
theorem ty36 : TInfo.ok Tryz.prog 36 ⟨(.int .i64), none, (.int .i64 0), 1, 8⟩ := ⟨Tryz.underlying36, by kernel_rfl⟩
theorem ty43 : TInfo.ok Tryz.prog 43 ⟨(.slice 4), none, (.slice none 0 0), 1, 24⟩ := ⟨Tryz.underlying43, by kernel_rfl⟩
theorem ty47 : TInfo.ok Tryz.prog 47 ⟨(.slice 70), none, (.slice none 0 0), 1, 24⟩ := ⟨Tryz.underlying47, by kernel_rfl⟩
theorem ty48 : TInfo.ok Tryz.prog 48 ⟨.invalid, some [(2, 0), (2, 1), (22, 2), (27, 3), (47, 4), (27, 5)], (.agg #[(.int .i64 0), (.int .i64 0), (.slice none 0 0), (.slice none 0 0), (.slice none 0 0), (.slice none 0 0)]), 6, 112⟩ := ⟨⟨_, Tryz.underlying48, rfl⟩, by kernel_rfl⟩
theorem ty49 : TInfo.ok Tryz.prog 49 ⟨.invalid, some [(2, 0), (2, 1), (22, 2), (27, 3), (47, 4), (27, 5)], (.agg #[(.int .i64 0), (.int .i64 0), (.slice none 0 0), (.slice none 0 0), (.slice none 0 0), (.slice none 0 0)]), 6, 112⟩ := ⟨⟨_, Tryz.underlying49, rfl⟩, by kernel_rfl⟩
theorem ty50 : TInfo.ok Tryz.prog 50 ⟨(.slice 9), none, (.slice none 0 0), 1, 24⟩ := ⟨Tryz.underlying50, by kernel_rfl⟩
theorem ty51 : TInfo.ok Tryz.prog 51 ⟨(.slice 5), none, (.slice none 0 0), 1, 24⟩ := ⟨Tryz.underlying51, by kernel_rfl⟩
theorem ty58 : TInfo.ok Tryz.prog 58 ⟨(.func #[] #[36] false), none, .nilFunc, 1, 8⟩ := ⟨Tryz.underlying58, by kernel_rfl⟩
theorem ty64 : TInfo.ok Tryz.prog 64 ⟨(.func #[] #[47] false), none, .nilFunc, 1, 8⟩ := ⟨Tryz.underlying64, by kernel_rfl⟩
theorem ty65 : TInfo.ok Tryz.prog 65 ⟨(.func #[47, 47] #[4] false), none, .nilFunc, 1, 8⟩ := ⟨Tryz.underlying65, by kernel_rfl⟩
theorem ty68 : TInfo.ok Tryz.prog 68 ⟨(.slice 3), none, (.slice none 0 0), 1, 24⟩ := ⟨Tryz.underlying68, by kernel_rfl⟩
theorem ty69 : TInfo.ok Tryz.prog 69 ⟨.invalid, some [(2, 0), (27, 1), (68, 2), (3, 3), (24, 4)], (.agg #[(.int .i64 0), (.slice none 0 0), (.slice none 0 0), (.int .i64 0), (.int .u32 0)]), 5, 72⟩ := ⟨⟨_, Tryz.underlying69, rfl⟩, by kernel_rfl⟩
theorem ty70 : TInfo.ok Tryz.prog 70 ⟨.invalid, some [(2, 0), (27, 1), (68, 2), (3, 3), (24, 4)], (.agg #[(.int .i64 0), (.slice none 0 0), (.slice none 0 0), (.int .i64 0), (.int .u32 0)]), 5, 72⟩ := ⟨⟨_, Tryz.underlying70, rfl⟩, by kernel_rfl⟩
theorem ty72 : TInfo.ok Tryz.prog 72 ⟨(.func #[51] #[24] false), none, .nilFunc, 1, 8⟩ := ⟨Tryz.underlying72, by kernel_rfl⟩
theorem ty78 : TInfo.ok Tryz.prog 78 ⟨(.pointer 81), none, (.pointer none), 1, 8⟩ := ⟨Tryz.underlying78, by kernel_rfl⟩
theorem ty80 : TInfo.ok Tryz.prog 80 ⟨.invalid, some [(22, 0), (31, 1), (68, 2), (43, 3), (3, 4)], (.agg #[(.slice none 0 0), (.slice none 0 0), (.slice none 0 0), (.slice none 0 0), (.int .i64 0)]), 5, 104⟩ := ⟨⟨_, Tryz.underlying80, rfl⟩, by kernel_rfl⟩
theorem ty81 : TInfo.ok Tryz.prog 81 ⟨.invalid, some [(22, 0), (31, 1), (68, 2), (43, 3), (3, 4)], (.agg #[(.slice none 0 0), (.slice none 0 0), (.slice none 0 0), (.slice none 0 0), (.int .i64 0)]), 5, 104⟩ := ⟨⟨_, Tryz.underlying81, rfl⟩, by kernel_rfl⟩
theorem ty83 : TInfo.ok Tryz.prog 83 ⟨(.map 9 103), none, (.map none), 1, 8⟩ := ⟨Tryz.underlying83, by kernel_rfl⟩
theorem ty84 : TInfo.ok Tryz.prog 84 ⟨(.slice 108), none, (.slice none 0 0), 1, 24⟩ := ⟨Tryz.underlying84, by kernel_rfl⟩
theorem ty85 : TInfo.ok Tryz.prog 85 ⟨.invalid, some [(3, 0), (83, 1), (83, 2), (84, 3), (3, 4), (3, 5)], (.agg #[(.int .i64 0), (.map none), (.map none), (.slice none 0 0), (.int .i64 0), (.int .i64 0)]), 6, 64⟩ := ⟨⟨_, Tryz.underlying85, rfl⟩, by kernel_rfl⟩
theorem ty86 : TInfo.ok Tryz.prog 86 ⟨.invalid, some [(3, 0), (83, 1), (83, 2), (84, 3), (3, 4), (3, 5)], (.agg #[(.int .i64 0), (.map none), (.map none), (.slice none 0 0), (.int .i64 0), (.int .i64 0)]), 6, 64⟩ := ⟨⟨_, Tryz.underlying86, rfl⟩, by kernel_rfl⟩
theorem ty98 : TInfo.ok Tryz.prog 98 ⟨.invalid, some [(22, 0), (47, 1), (2, 2), (2, 3)], (.agg #[(.slice none 0 0), (.slice none 0 0), (.int .i64 0), (.int .i64 0)]), 4, 64⟩ := ⟨⟨_, Tryz.underlying98, rfl⟩, by kernel_rfl⟩
theorem ty99 : TInfo.ok Tryz.prog 99 ⟨.invalid, some [(22, 0), (47, 1), (2, 2), (2, 3)], (.agg #[(.slice none 0 0), (.slice none 0 0), (.int .i64 0), (.int .i64 0)]), 4, 64⟩ := ⟨⟨_, Tryz.underlying99, rfl⟩, by kernel_rfl⟩
theorem ty100 : TInfo.ok Tryz.prog 100 ⟨.invalid, some [(32, 0), (99, 1), (4, 5)], (.agg #[(.pointer none), (.slice none 0 0), (.slice none 0 0), (.int .i64 0), (.int .i64 0), (.bool false)]), 6, 80⟩ := ⟨⟨_, Tryz.underlying100, rfl⟩, by kernel_rfl⟩
theorem ty101 : TInfo.ok Tryz.prog 101 ⟨.invalid, some [(32, 0), (99, 1), (4, 5)], (.agg #[(.pointer none), (.slice none 0 0), (.slice none 0 0), (.int .i64 0), (.int .i64 0), (.bool false)]), 6, 80⟩ := ⟨⟨_, Tryz.underlying101, rfl⟩, by kernel_rfl⟩
theorem ty103 : TInfo.ok Tryz.prog 103 ⟨(.pointer 106), none, (.pointer none), 1, 8⟩ := ⟨Tryz.underlying103, by kernel_rfl⟩
theorem ty104 : TInfo.ok Tryz.prog 104 ⟨(.func #[108] #[36] false), none, .nilFunc, 1, 8⟩ := ⟨Tryz.underlying104, by kernel_rfl⟩
theorem ty105 : TInfo.ok Tryz.prog 105 ⟨.invalid, some [(51, 0), (3, 1)], (.agg #[(.slice none 0 0), (.int .i64 0)]), 2, 32⟩ := ⟨⟨_, Tryz.underlying105, rfl⟩, by kernel_rfl⟩
theorem ty106 : TInfo.ok Tryz.prog 106 ⟨.invalid, some [(51, 0), (3, 1)], (.agg #[(.slice none 0 0), (.int .i64 0)]), 2, 32⟩ := ⟨⟨_, Tryz.underlying106, rfl⟩, by kernel_rfl⟩
theorem ty107 : TInfo.ok Tryz.prog 107 ⟨.invalid, some [(3, 0), (9, 1), (9, 2), (103, 3)], (.agg #[(.int .i64 0), (.string ByteArray.empty), (.string ByteArray.empty), (.pointer none)]), 4, 48⟩ := ⟨⟨_, Tryz.underlying107, rfl⟩, by kernel_rfl⟩
theorem ty108 : TInfo.ok Tryz.prog 108 ⟨.invalid, some [(3, 0), (9, 1), (9, 2), (103, 3)], (.agg #[(.int .i64 0), (.string ByteArray.empty), (.string ByteArray.empty), (.pointer none)]), 4, 48⟩ := ⟨⟨_, Tryz.underlying108, rfl⟩, by kernel_rfl⟩
theorem ty112 : TInfo.ok Tryz.prog 112 ⟨(.func #[50, 102] #[50] false), none, .nilFunc, 1, 8⟩ := ⟨Tryz.underlying112, by kernel_rfl⟩
theorem ty115 : TInfo.ok Tryz.prog 115 ⟨(.slice 49), none, (.slice none 0 0), 1, 24⟩ := ⟨Tryz.underlying115, by kernel_rfl⟩
theorem ty128 : TInfo.ok Tryz.prog 128 ⟨(.int .u64), none, (.int .u64 0), 1, 8⟩ := ⟨Tryz.underlying128, by kernel_rfl⟩
theorem ty133 : TInfo.ok Tryz.prog 133 ⟨(.slice 58), none, (.slice none 0 0), 1, 24⟩ := ⟨Tryz.underlying133, by kernel_rfl⟩
theorem ty143 : TInfo.ok Tryz.prog 143 ⟨(.array 6 4), none, (.agg #[(.bool false), (.bool false), (.bool false), (.bool false), (.bool false), (.bool false)]), 6, 6⟩ := ⟨Tryz.underlying143, by kernel_rfl⟩
theorem ty146 : TInfo.ok Tryz.prog 146 ⟨(.func #[26] #[2] false), none, .nilFunc, 1, 8⟩ := ⟨Tryz.underlying146, by kernel_rfl⟩
theorem ty150 : TInfo.ok Tryz.prog 150 ⟨(.func #[70] #[2] false), none, .nilFunc, 1, 8⟩ := ⟨Tryz.underlying150, by kernel_rfl⟩
theorem ty160 : TInfo.ok Tryz.prog 160 ⟨(.func #[51] #[31, 3, 4] false), none, .nilFunc, 1, 8⟩ := ⟨Tryz.underlying160, by kernel_rfl⟩
theorem ty166 : TInfo.ok Tryz.prog 166 ⟨(.int .i64), none, (.int .i64 0), 1, 8⟩ := ⟨Tryz.underlying166, by kernel_rfl⟩
theorem ty176 : TInfo.ok Tryz.prog 176 ⟨(.int .u64), none, (.int .u64 0), 1, 8⟩ := ⟨Tryz.underlying176, by kernel_rfl⟩
theorem ty195 : TInfo.ok Tryz.prog 195 ⟨(.pointer 197), none, (.pointer none), 1, 8⟩ := ⟨Tryz.underlying195, by kernel_rfl⟩
theorem ty196 : TInfo.ok Tryz.prog 196 ⟨.invalid, some [(51, 0)], (.agg #[(.slice none 0 0)]), 1, 24⟩ := ⟨⟨_, Tryz.underlying196, rfl⟩, by kernel_rfl⟩
theorem ty197 : TInfo.ok Tryz.prog 197 ⟨.invalid, some [(51, 0)], (.agg #[(.slice none 0 0)]), 1, 24⟩ := ⟨⟨_, Tryz.underlying197, rfl⟩, by kernel_rfl⟩
theorem ty202 : TInfo.ok Tryz.prog 202 ⟨(.pointer 204), none, (.pointer none), 1, 8⟩ := ⟨Tryz.underlying202, by kernel_rfl⟩
theorem ty203 : TInfo.ok Tryz.prog 203 ⟨.invalid, some [(51, 0), (4, 1)], (.agg #[(.slice none 0 0), (.bool false)]), 2, 32⟩ := ⟨⟨_, Tryz.underlying203, rfl⟩, by kernel_rfl⟩
theorem ty204 : TInfo.ok Tryz.prog 204 ⟨.invalid, some [(51, 0), (4, 1)], (.agg #[(.slice none 0 0), (.bool false)]), 2, 32⟩ := ⟨⟨_, Tryz.underlying204, rfl⟩, by kernel_rfl⟩
theorem ty210 : TInfo.ok Tryz.prog 210 ⟨(.int .u64), none, (.int .u64 0), 1, 8⟩ := ⟨Tryz.underlying210, by kernel_rfl⟩
theorem ty214 : TInfo.ok Tryz.prog 214 ⟨(.pointer 3), none, (.pointer none), 1, 8⟩ := ⟨Tryz.underlying214, by kernel_rfl⟩
theorem ty217 : TInfo.ok Tryz.prog 217 ⟨(.array 24 5), none, (.agg (Array.replicate 24 (.int .u8 0))), 24, 24⟩ := ⟨Tryz.underlying217, by kernel_rfl⟩
theorem ty232 : TInfo.ok Tryz.prog 232 ⟨(.pointer 210), none, (.pointer none), 1, 8⟩ := ⟨Tryz.underlying232, by kernel_rfl⟩
theorem ty236 : TInfo.ok Tryz.prog 236 ⟨(.array 20 176), none, (.agg #[(.int .u64 0), (.int .u64 0), (.int .u64 0), (.int .u64 0), (.int .u64 0), (.int .u64 0), (.int .u64 0), (.int .u64 0), (.int .u64 0), (.int .u64 0), (.int .u64 0), (.int .u64 0), (.int .u64 0), (.int .u64 0), (.int .u64 0), (.int .u64 0), (.int .u64 0), (.int .u64 0), (.int .u64 0), (.int .u64 0)]), 20, 160⟩ := ⟨Tryz.underlying236, by kernel_rfl⟩
theorem ty237 : TInfo.ok Tryz.prog 237 ⟨(.array 65 5), none, (.agg (Array.replicate 65 (.int .u8 0))), 65, 65⟩ := ⟨Tryz.underlying237, by kernel_rfl⟩
theorem ty255 : TInfo.ok Tryz.prog 255 ⟨(.array 32 5), none, (.agg (Array.replicate 32 (.int .u8 0))), 32, 32⟩ := ⟨Tryz.underlying255, by kernel_rfl⟩
theorem ty256 : TInfo.ok Tryz.prog 256 ⟨(.array 64 5), none, (.agg (Array.replicate 64 (.int .u8 0))), 64, 64⟩ := ⟨Tryz.underlying256, by kernel_rfl⟩
theorem ty260 : TInfo.ok Tryz.prog 260 ⟨.invalid, some [(17, 0), (17, 1), (17, 2), (9, 3)], (.agg #[(.pointer none), (.pointer none), (.pointer none), (.string ByteArray.empty)]), 4, 40⟩ := ⟨⟨_, Tryz.underlying260, rfl⟩, by kernel_rfl⟩
theorem ty261 : TInfo.ok Tryz.prog 261 ⟨.invalid, some [(17, 0), (17, 1), (17, 2), (9, 3)], (.agg #[(.pointer none), (.pointer none), (.pointer none), (.string ByteArray.empty)]), 4, 40⟩ := ⟨⟨_, Tryz.underlying261, rfl⟩, by kernel_rfl⟩
theorem ty262 : TInfo.ok Tryz.prog 262 ⟨(.array 0 16), none, (.agg #[]), 0, 0⟩ := ⟨Tryz.underlying262, by kernel_rfl⟩
theorem ty263 : TInfo.ok Tryz.prog 263 ⟨.invalid, some [(262, 0)], (.agg #[]), 0, 0⟩ := ⟨⟨_, Tryz.underlying263, rfl⟩, by kernel_rfl⟩
theorem ty264 : TInfo.ok Tryz.prog 264 ⟨.invalid, some [(262, 0)], (.agg #[]), 0, 0⟩ := ⟨⟨_, Tryz.underlying264, rfl⟩, by kernel_rfl⟩
theorem ty265 : TInfo.ok Tryz.prog 265 ⟨(.int .u8), none, (.int .u8 0), 1, 1⟩ := ⟨Tryz.underlying265, by kernel_rfl⟩
theorem ty266 : TInfo.ok Tryz.prog 266 ⟨(.int .u8), none, (.int .u8 0), 1, 1⟩ := ⟨Tryz.underlying266, by kernel_rfl⟩
theorem ty267 : TInfo.ok Tryz.prog 267 ⟨(.func #[273, 273] #[4] false), none, .nilFunc, 1, 8⟩ := ⟨Tryz.underlying267, by kernel_rfl⟩
theorem ty268 : TInfo.ok Tryz.prog 268 ⟨(.pointer 5), none, (.pointer none), 1, 8⟩ := ⟨Tryz.underlying268, by kernel_rfl⟩
theorem ty269 : TInfo.ok Tryz.prog 269 ⟨(.int .i32), none, (.int .i32 0), 1, 4⟩ := ⟨Tryz.underlying269, by kernel_rfl⟩
theorem ty270 : TInfo.ok Tryz.prog 270 ⟨(.int .i32), none, (.int .i32 0), 1, 4⟩ := ⟨Tryz.underlying270, by kernel_rfl⟩
theorem ty271 : TInfo.ok Tryz.prog 271 ⟨.invalid, some [(12, 0), (12, 1), (24, 2), (265, 3), (5, 4), (5, 5), (266, 6), (267, 7), (268, 8), (269, 9), (270, 10)], (.agg #[(.int .u64 0), (.int .u64 0), (.int .u32 0), (.int .u8 0), (.int .u8 0), (.int .u8 0), (.int .u8 0), .nilFunc, (.pointer none), (.int .i32 0), (.int .i32 0)]), 11, 48⟩ := ⟨⟨_, Tryz.underlying271, rfl⟩, by kernel_rfl⟩
theorem ty272 : TInfo.ok Tryz.prog 272 ⟨.invalid, some [(12, 0), (12, 1), (24, 2), (265, 3), (5, 4), (5, 5), (266, 6), (267, 7), (268, 8), (269, 9), (270, 10)], (.agg #[(.int .u64 0), (.int .u64 0), (.int .u32 0), (.int .u8 0), (.int .u8 0), (.int .u8 0), (.int .u8 0), .nilFunc, (.pointer none), (.int .i32 0), (.int .i32 0)]), 11, 48⟩ := ⟨⟨_, Tryz.underlying272, rfl⟩, by kernel_rfl⟩
theorem ty273 : TInfo.ok Tryz.prog 273 ⟨.unsafePointer, none, (.pointer none), 1, 8⟩ := ⟨Tryz.underlying273, by kernel_rfl⟩
theorem typesOk : AllOk Tryz.prog typeRows := ⟨ty1, ty2, ty3, ty4, ty5, ty6, ty7, ty8, ty9, ty10, ty11, ty12, ty13, ty14, ty15, ty16, ty17, ty18, ty19, ty21, ty22, ty24, ty25, ty26, ty27, ty28, ty31, ty32, ty33, ty36, ty43, ty47, ty48, ty49, ty50, ty51, ty58, ty64, ty65, ty68, ty69, ty70, ty72, ty78, ty80, ty81, ty83, ty84, ty85, ty86, ty98, ty99, ty100, ty101, ty103, ty104, ty105, ty106, ty107, ty108, ty112, ty115, ty128, ty133, ty143, ty146, ty150, ty160, ty166, ty176, ty195, ty196, ty197, ty202, ty203, ty204, ty210, ty214, ty217, ty232, ty236, ty237, ty255, ty256, ty260, ty261, ty262, ty263, ty264, ty265, ty266, ty267, ty268, ty269, ty270, ty271, ty272, ty273, trivial⟩
def T : Types Tryz.prog := Types.of typeRows typesOk
theorem fol : Tryz.prog.follows .mixedOrders = true := by kernel_rfl
end Go.Proofs.YtiadjkjlifnopaaGreatDoor.Tryz
/-! Slices whose elements have several cells, as they come in. -/
namespace Go.Vc
open Go
def SliceK {α : Type} (k : Nat) (R : World → List Value → α → Prop) (w : World) (v : Value) (L : List α) : Prop :=
 ∃ A c, v = .slice A L.length c ∧ L.length ≤ c ∧ c ≤ maxLen ∧ ∀ i x, L[i]? = some x → ∃ ad cs, A = some ad ∧ cs.length = k ∧ (∀ j u, cs[j]? = some u → w.cell? (ad.add (i * k + j)) = some u) ∧ R w cs x
def KeptK {α : Type} (R : World → List Value → α → Prop) : Prop := ∀ w w' cs x, Chg [] w w' → R w cs x → R w' cs x
section
variable {α : Type} {k : Nat} {R : World → List Value → α → Prop} {w w' : World} {v : Value} {L : List α}
theorem SliceK.keep (hR : KeptK R) (hc : Chg [] w w') (h : SliceK k R w v L) : SliceK k R w' v L := by
 obtain ⟨A, c, rfl, h1, h2, h⟩ := h
 refine ⟨A, c, rfl, h1, h2, fun i x hx => ?_⟩
 obtain ⟨ad, cs, rfl, hl, hu, hr⟩ := h i x hx
 exact ⟨ad, cs, rfl, hl, fun j u hj => hc.cell0 (hu j u hj), hR _ _ _ _ hc hr⟩
theorem SliceK.nil (k : Nat) (R : World → List Value → α → Prop) (w : World) : SliceK k R w (.slice none 0 0) [] := ⟨none, 0, rfl, Nat.le_refl _, Nat.zero_le _, fun i x h => by simp at h⟩
theorem SliceK.form (h : SliceK k R w v L) : ∃ A c, v = .slice A L.length c ∧ L.length ≤ c ∧ c ≤ maxLen := let ⟨A, c, h1, h2, h3, _⟩ := h; ⟨A, c, h1, h2, h3⟩
theorem SliceK.len {A : Option Addr} {n c : Nat} (h : SliceK k R w (.slice A n c) L) : n = L.length ∧ L.length ≤ c ∧ c ≤ maxLen := by
 obtain ⟨A', c', he, h1, h2, _⟩ := h
 injection he with e1 e2 e3
 subst e2; subst e3
 exact ⟨rfl, h1, h2⟩
theorem SliceK.get {A : Option Addr} {n c : Nat} (h : SliceK k R w (.slice A n c) L) {i : Nat} {x : α} (hx : L[i]? = some x) : ∃ ad cs, A = some ad ∧ cs.length = k ∧ (∀ j u, cs[j]? = some u → w.cell? (ad.add (i * k + j)) = some u) ∧ R w cs x := by
 obtain ⟨A', c', he, _, _, hh⟩ := h
 injection he with h1 h2 h3
 subst h1
 exact hh i x hx
theorem SliceK.take {A : Option Addr} {n c m j : Nat} (h : SliceK k R w (.slice A n c) L) (hm : m = min j L.length) : SliceK k R w (.slice A m c) (L.take j) := by
 obtain ⟨hn, h1, h2⟩ := h.len
 refine ⟨A, c, by rw [List.length_take, hm], by rw [List.length_take]; omega, h2, fun i x hx => ?_⟩
 rw [List.getElem?_take] at hx
 split at hx
 ·exact h.get hx
 ·cases hx
end
section
variable {P : Program} {N : Nat} {e : Env} {w : World} {o : Oper} {K : Value → World → Prop}
theorem op_load_cells (T : Types P) {x : Operand} {t : TypeId} {d : TInfo} {ad : Addr} {cs : List Value}
  (hop : o.op = .load t x) (hx : ev e x = some (.pointer (some ad))) (ht : T.tbl t = some d) (hd : aggI d = true) (hs' : Nat.beq d.size cs.length = true) (hcs : ∀ j u, cs[j]? = some u → w.cell? (ad.add j) = some u) (h : K (.agg cs.toArray) w) : OpW P N o e w K := by
 obtain ⟨q, hq, _, hs, _⟩ := T.inf t d ht
 refine OpW_run (fun a ha => ?_) h
 have hl := run_loadCells_list (P := P) w ad cs hcs
 have hlen : d.size = cs.length := Nat.eq_of_beq_eq_true hs'
 rw [← hlen] at hl
 have hagg := run_isAgg T ht w
 rw [hd] at hagg
 simp [execOp, hop, ha.ev hx, Instr.loadAt, Instr.sureAddr, loadVar, hagg, sizeOf, typeInfo, hq, hs, hl]
end
attribute [irreducible] SliceK
end Go.Vc
