import Derived.Test.YtbhnplghnhafiaaDoorVcOps
import Derived.Deep.Draws
import Derived.Maps.AppendAt
import Derived.Laws.MakeOwn
import Derived.Laws.OwnMore
import Derived.Laws.CopyOwn
/-! Memory: what a step changes; blocks; slices that read as lists; slices of the call's own. -/
set_option linter.unusedSimpArgs false
set_option linter.unusedVariables false
namespace Go.Vc
open Go Go.RowKit

/-- From w to w': of the blocks that were there only those of S may have turned. -/
structure Chg (S : List Nat) (w w' : World) : Prop where
  os : w'.os = w.os
  tape : w'.tape = w.tape
  output : w'.output = w.output
  size : w.heap.size ≤ w'.heap.size
  keep : ∀ k, k < w.heap.size → k ∉ S → w'.heap[k]? = w.heap[k]?

theorem Chg.refl (S : List Nat) (w : World) : Chg S w w := ⟨rfl, rfl, rfl, Nat.le_refl _, fun _ _ _ => rfl⟩
theorem Chg.mono {S S' : List Nat} {w w' : World} (h : Chg S w w') (hs : ∀ k ∈ S, k < w.heap.size → k ∈ S') : Chg S' w w' :=
  ⟨h.os, h.tape, h.output, h.size, fun k hk hn => h.keep k hk fun hm => hn (hs k hm hk)⟩
theorem Chg.trans {S S' : List Nat} {a b c : World} (h : Chg S a b) (k : Chg S' b c) (hs : ∀ i ∈ S', i < a.heap.size → i ∈ S) : Chg S a c :=
  ⟨k.os.trans h.os, k.tape.trans h.tape, k.output.trans h.output, Nat.le_trans h.size k.size,
    fun i hi hn => (k.keep i (Nat.lt_of_lt_of_le hi h.size) fun hm => hn (hs i hm hi)).trans (h.keep i hi hn)⟩
theorem Chg.trans' {S : List Nat} {a b c : World} (h : Chg S a b) (k : Chg [] b c) : Chg S a c := h.trans k (fun _ hm => by cases hm)
theorem Chg.drew (S : List Nat) (w : World) : Chg S w w.drew := ⟨rfl, rfl, rfl, Nat.le_refl _, fun _ _ _ => rfl⟩
theorem Chg.drawn (S : List Nat) (w : World) (n : Nat) : Chg S w { w with drawn := n } := ⟨rfl, rfl, rfl, Nat.le_refl _, fun _ _ _ => rfl⟩
theorem Chg.drewN (S : List Nat) (w : World) (n : Nat) : Chg S w (w.drewN n) := ⟨rfl, rfl, rfl, Nat.le_refl _, fun _ _ _ => rfl⟩
theorem Chg.below {w w' : World} (h : Chg [] w w') : Below w.heap.size w w' := ⟨h.os, h.tape, h.output, h.size, fun k hk => h.keep k hk (by simp)⟩
theorem Chg.of_below {w w' : World} (h : Below w.heap.size w w') : Chg [] w w' := ⟨h.os, h.tape, h.output, h.size, fun k hk _ => h.block k hk⟩
theorem Chg.of_grown {w w' : World} {row : Option Nat} (h : w.grownBy w' row) : Chg row.toList w w' :=
  ⟨h.os, h.tape, h.output, h.size, fun k hk hn => h.block k hk fun e => hn (by rw [← e]; simp)⟩
theorem Chg.alloc (w : World) (o : Obj) : Chg [] w (w.alloc o) := ⟨rfl, rfl, rfl, by simp, fun k hk _ => Below.heap_alloc w o k hk⟩
theorem Chg.setCell (w : World) (p : Addr) (u : Value) : Chg [p.block] w (w.setCell p u) :=
  ⟨rfl, rfl, rfl, by simp [World.setCell], fun k _ hn => Below.heap_setCell w p u k (by simpa using hn)⟩
theorem Chg.cell {S : List Nat} {w w' : World} (h : Chg S w w') {p : Addr} {v : Value} (hc : w.cell? p = some v) (hn : p.block ∉ S) : w'.cell? p = some v :=
  (World.cell?_of_block (h.keep _ (World.block_lt_of_cell? w p hc) hn)).trans hc
theorem Chg.cell0 {w w' : World} (h : Chg [] w w') {p : Addr} {v : Value} (hc : w.cell? p = some v) : w'.cell? p = some v := h.cell hc (by simp)

/-- Block g is just these cells of type t, none of them frozen. -/
def Blk (w : World) (g : Nat) (t : TypeId) (cs : List Value) : Prop := w.heap[g]? = some (.cells cs.toArray t (0, 0))
theorem Blk.lt {w : World} {g : Nat} {t : TypeId} {cs : List Value} (h : Blk w g t cs) : g < w.heap.size := (Array.getElem?_eq_some_iff.1 h).1
theorem Blk.cell {w : World} {g : Nat} {t : TypeId} {cs : List Value} (h : Blk w g t cs) {i : Nat} {v : Value} (hv : cs[i]? = some v) : w.cell? ⟨g, i, none⟩ = some v := by
  rw [cell_of_row w g i cs.toArray t (0, 0) h]; simpa using hv
theorem Blk.frozen {w : World} {g : Nat} {t : TypeId} {cs : List Value} (h : Blk w g t cs) (i : Nat) : w.frozen? ⟨g, i, none⟩ = false := by
  unfold Blk at h; simp [World.frozen?, h]
theorem Blk.keep {S : List Nat} {w w' : World} {g : Nat} {t : TypeId} {cs : List Value} (h : Blk w g t cs) (hk : Chg S w w') (hn : g ∉ S) : Blk w' g t cs := (hk.keep g h.lt hn).trans h
theorem Blk.keep0 {w w' : World} {g : Nat} {t : TypeId} {cs : List Value} (h : Blk w g t cs) (hk : Chg [] w w') : Blk w' g t cs := h.keep hk (by simp)
theorem Blk.set_ {w : World} {g : Nat} {t : TypeId} {cs : List Value} (h : Blk w g t cs) (i : Nat) (u : Value) : Blk (w.setCell ⟨g, i, none⟩ u) g t (cs.set i u) := by
  unfold Blk at h ⊢
  simp [World.setCell, Array.getElem?_modify, h]
theorem Blk.new (w : World) (t : TypeId) (cs : Array Value) : Blk (w.alloc (.cells cs t)) w.heap.size t cs.toList := by
  unfold Blk; rw [heap_alloc_new]
theorem Blk.ne_ {w : World} {g g' : Nat} {t t' : TypeId} {cs cs' : List Value} (h : Blk w g t cs) (h' : Blk w g' t' cs') (hne : t ≠ t') : g ≠ g' := by
  rintro rfl
  unfold Blk at h h'
  rw [h] at h'
  injection h' with h'
  injection h' with _ ht
  exact hne ht

/-! ### Slices that read as lists -/
/-- v is a slice that reads as L, each element by R. -/
def SliceOf {α : Type} (R : World → Value → α → Prop) (w : World) (v : Value) (L : List α) : Prop :=
  ∃ A c, v = .slice A L.length c ∧ L.length ≤ c ∧ c ≤ maxLen ∧ ∀ i x, L[i]? = some x → ∃ ad u, A = some ad ∧ w.cell? (ad.add i) = some u ∧ R w u x

def Ru8 (_ : World) (v : Value) (x : UInt8) : Prop := v = .int .u8 (x.toNat : Int)
def Ri64 (_ : World) (v : Value) (x : Int) : Prop := v = .int .i64 x ∧ -9223372036854775808 ≤ x ∧ x ≤ 9223372036854775807
def Rbool (_ : World) (v : Value) (x : Bool) : Prop := v = .bool x
def Rstr (_ : World) (v : Value) (x : ByteArray) : Prop := v = .string x ∧ x.size ≤ maxLen
def Kept {α : Type} (R : World → Value → α → Prop) : Prop := ∀ w w' v x, Chg [] w w' → R w v x → R w' v x
theorem Ru8.kept : Kept Ru8 := fun _ _ _ _ _ h => h
theorem Ri64.kept : Kept Ri64 := fun _ _ _ _ _ h => h
theorem Rbool.kept : Kept Rbool := fun _ _ _ _ _ h => h
theorem Rstr.kept : Kept Rstr := fun _ _ _ _ _ h => h

section
variable {α : Type} {R : World → Value → α → Prop} {w w' : World} {v : Value} {L : List α}
theorem SliceOf.kept (hR : Kept R) : Kept (SliceOf R) := by
  rintro w w' v L hc ⟨A, c, rfl, h1, h2, h⟩
  refine ⟨A, c, rfl, h1, h2, fun i x hx => ?_⟩
  obtain ⟨ad, u, rfl, hu, hr⟩ := h i x hx
  exact ⟨ad, u, rfl, hc.cell0 hu, hR _ _ _ _ hc hr⟩
theorem SliceOf.nil (R : World → Value → α → Prop) (w : World) : SliceOf R w (.slice none 0 0) [] := ⟨none, 0, rfl, Nat.le_refl _, Nat.zero_le _, fun i x h => by simp at h⟩
theorem SliceOf.mk {A : Option Addr} {n c : Nat} (hn : n = L.length) (h1 : L.length ≤ c) (h2 : c ≤ maxLen) (h : ∀ i x, L[i]? = some x → ∃ ad u, A = some ad ∧ w.cell? (ad.add i) = some u ∧ R w u x) : SliceOf R w (.slice A n c) L :=
  ⟨A, c, by rw [hn], h1, h2, h⟩
theorem SliceOf.form (h : SliceOf R w v L) : ∃ A c, v = .slice A L.length c ∧ L.length ≤ c ∧ c ≤ maxLen := let ⟨A, c, h1, h2, h3, _⟩ := h; ⟨A, c, h1, h2, h3⟩
theorem SliceOf.get {A : Option Addr} {n c : Nat} (h : SliceOf R w (.slice A n c) L) {i : Nat} {x : α} (hx : L[i]? = some x) : ∃ ad u, A = some ad ∧ w.cell? (ad.add i) = some u ∧ R w u x := by
  obtain ⟨A', c', he, _, _, hh⟩ := h
  injection he with h1 h2 h3
  subst h1
  exact hh i x hx
theorem SliceOf.len {A : Option Addr} {n c : Nat} (h : SliceOf R w (.slice A n c) L) : n = L.length ∧ L.length ≤ c ∧ c ≤ maxLen := by
  obtain ⟨A', c', he, h1, h2, _⟩ := h
  injection he with e1 e2 e3
  subst e2; subst e3
  exact ⟨rfl, h1, h2⟩
theorem block_of_add (a : Addr) (n : Nat) : (a.add n).block = a.block := by unfold Addr.add; split <;> rfl
theorem add_of_add (a : Addr) (i j : Nat) : (a.add i).add j = a.add (i + j) := by
  unfold Addr.add
  by_cases hi : i = 0 <;> by_cases hj : j = 0 <;> simp [hi, hj, Nat.add_assoc]
theorem add_plain (g j : Nat) : (⟨g, 0, none⟩ : Addr).add j = ⟨g, j, none⟩ := by unfold Addr.add; split <;> simp_all
/-- A cut of one-cell elements. -/
theorem SliceOf.cut {A : Option Addr} {n c : Nat} (h : SliceOf R w (.slice A n c) L) {l k : Nat} (hlk : l ≤ k) (hk : k ≤ L.length) :
    SliceOf R w (.slice (if c = l then A else A.map (·.add (l * 1))) (k - l) (c - l)) ((L.take k).drop l) := by
  obtain ⟨hn, h1, h2⟩ := h.len
  refine ⟨(if c = l then A else A.map (·.add (l * 1))), c - l, ?_, ?_, ?_, fun i x hx => ?_⟩
  · simp only [List.length_drop, List.length_take, Nat.min_eq_left hk]
  · simp only [List.length_drop, List.length_take, Nat.min_eq_left hk]; omega
  · omega
  · rw [List.getElem?_drop, List.getElem?_take] at hx
    split at hx
    · obtain ⟨ad, u, rfl, hu, hr⟩ := h.get hx
      have : c ≠ l := by omega
      refine ⟨ad.add (l * 1), u, by simp [this], ?_, hr⟩
      rw [add_of_add, Nat.mul_one]; exact hu
    · cases hx
end

/-- φ holds, whatever becomes of the blocks of S (and whatever new blocks come). -/
def Firm (S : List Nat) (w : World) (φ : World → Prop) : Prop := ∀ w1, Chg S w w1 → φ w1
section
variable {S S' : List Nat} {w w' : World} {φ : World → Prop}
theorem Firm.now (h : Firm S w φ) : φ w := h w (Chg.refl S w)
theorem Firm.step (h : Firm S w φ) (hc : Chg S' w w') (hs : ∀ k ∈ S', k < w.heap.size → k ∈ S) : Firm S w' φ :=
  fun w1 h1 => h w1 ((hc.mono hs).trans h1 (fun k hk _ => hk))
theorem Firm.step0 (h : Firm S w φ) (hc : Chg [] w w') : Firm S w' φ := h.step hc (fun k hk => by cases hk)
theorem Firm.old {w0 : World} (hs : ∀ a b, Chg [] a b → φ a → φ b) (h0 : φ w0) (hc : Chg [] w0 w) (hS : ∀ k ∈ S, w0.heap.size ≤ k) : Firm S w φ :=
  fun w1 h1 => hs w0 w1 (hc.trans h1 (fun k hk hlt => by have := hS k hk; omega)) h0
theorem Firm.more (h : Firm S w φ) (hS : ∀ k ∈ S', k < w.heap.size → k ∈ S) : Firm S' w φ := fun w1 h1 => h w1 (h1.mono hS)
theorem Firm.fresh (h : Firm S w φ) {g : Nat} (hg : w.heap.size ≤ g) : Firm (g :: S) w φ :=
  h.more (fun k hk hlt => by rcases List.mem_cons.1 hk with rfl | hk; · omega
                             · exact hk)
end

/-! ### Slices of the call's own (kit's 'ownsRow') -/
section
variable {w w' : World} {t : TypeId} {size n : Nat} {v : Value} {xs : List Value}
def Own (w : World) (t : TypeId) (size : Nat) (v : Value) (n : Nat) (xs : List Value) : Prop := w.ownsRow 0 t size v n xs
theorem Own.nil (w : World) (t : TypeId) (size : Nat) : Own w t size (.slice none 0 0) 0 [] := World.ownsRow_nil w 0 t size
theorem Own.keep {S : List Nat} (h : Own w t size v n xs) (hc : Chg S w w') (hn : ∀ g, v.ownBlock = some g → g ∉ S) : Own w' t size v n xs := by
  refine ⟨h.1, ?_⟩
  rcases h.2 with h2 | ⟨g, cap, cur, rfl, hb, hg, rest⟩
  · exact .inl h2
  · exact .inr ⟨g, cap, cur, rfl, hb, (hc.keep g (Array.getElem?_eq_some_iff.1 hg).1 (hn g rfl)).trans hg, rest⟩
theorem Own.keep0 (h : Own w t size v n xs) (hc : Chg [] w w') : Own w' t size v n xs := h.keep hc (by simp)
theorem Own.lt (h : Own w t size v n xs) {g : Nat} (hg : v.ownBlock = some g) : g < w.heap.size := (World.ownsRow.lt h g hg).2
theorem Own.form (h : Own w t size v n xs) : ∃ A c, v = .slice A n c ∧ n ≤ c ∧ c ≤ maxLen := by
  rcases h.2 with ⟨rfl, rfl⟩ | ⟨g, cap, cur, rfl, _, _, h1, h2, _⟩
  · exact ⟨none, 0, rfl, Nat.le_refl _, Nat.zero_le _⟩
  · exact ⟨_, cap, rfl, h1, h2⟩
theorem Own.length (h : Own w t size v n xs) : xs.length = n * size := h.1
theorem Own.mk {g cap : Nat} {cur : List Value} (h : Blk w g t cur) (hn : n ≤ cap) (hm : cap ≤ maxLen) (hl : cur.length = cap * size) (hx : cur.take (n * size) = xs) : Own w t size (.slice (some ⟨g, 0, none⟩) n cap) n xs := by
  unfold Blk at h
  refine ⟨?_, .inr ⟨g, cap, cur.toArray, rfl, Nat.zero_le _, h, hn, hm, by simpa using hl, by simpa using hx⟩⟩
  rw [← hx, List.length_take, hl]
  exact Nat.min_eq_left (Nat.mul_le_mul_right _ hn)
theorem Own.cases (h : Own w t size v n xs) : (v = .slice none 0 0 ∧ n = 0 ∧ xs = []) ∨ ∃ g cap cur, v = .slice (some ⟨g, 0, none⟩) n cap ∧ n ≤ cap ∧ cap ≤ maxLen ∧ Blk w g t cur ∧ cur.length = cap * size ∧ cur.take (n * size) = xs := by
  rcases h.2 with ⟨rfl, rfl⟩ | ⟨g, cap, cur, rfl, _, hg, h1, h2, h3, h4⟩
  · exact .inl ⟨rfl, rfl, List.eq_nil_of_length_eq_zero (by simpa using h.1)⟩
  · exact .inr ⟨g, cap, cur.toList, rfl, h1, h2, by unfold Blk; simpa using hg, by simpa using h3, h4⟩
theorem Own.blk (h : Own w t size v n xs) (hp : 0 < n) : ∃ g cap cur, v = .slice (some ⟨g, 0, none⟩) n cap ∧ n ≤ cap ∧ cap ≤ maxLen ∧ Blk w g t cur ∧ cur.length = cap * size ∧ cur.take (n * size) = xs := by
  rcases h.2 with ⟨rfl, rfl⟩ | ⟨g, cap, cur, rfl, _, hg, h1, h2, h3, h4⟩
  · omega
  · exact ⟨g, cap, cur.toList, rfl, h1, h2, by unfold Blk; simpa using hg, by simpa using h3, h4⟩
theorem Own.cell (h : Own w t size v n xs) {j : Nat} {u : Value} (hu : xs[j]? = some u) : ∃ g, v.ownBlock = some g ∧ (∃ c, v = .slice (some ⟨g, 0, none⟩) n c) ∧ w.cell? ⟨g, j, none⟩ = some u := by
  rcases h.2 with ⟨rfl, rfl⟩ | ⟨g, cap, cur, rfl, h1, hg, h2⟩
  · have := h.1
    simp at this
    subst this
    simp at hu
  · refine ⟨g, rfl, ⟨cap, rfl⟩, ?_⟩
    have := World.ownsRow.cells h (g := g) rfl j u hu
    rwa [add_plain] at this
/-- What the call owns reads as a list. -/
theorem Own.reads {α : Type} {R : World → Value → α → Prop} {L : List α} (h : Own w t 1 v n xs) (hl : L.length = n) (hR : ∀ (i : Nat) x u, L[i]? = some x → xs[i]? = some u → R w u x) : SliceOf R w v L := by
  obtain ⟨A, c, rfl, h1, h2⟩ := h.form
  refine ⟨A, c, by rw [hl], by omega, h2, fun i x hx => ?_⟩
  have hi : i < xs.length := by have := h.1; have := (List.getElem?_eq_some_iff.1 hx).1; omega
  have hu : xs[i]? = some xs[i] := List.getElem?_eq_getElem hi
  obtain ⟨g, hg, ⟨c', hv⟩, hc⟩ := h.cell hu
  injection hv with e1 _ _
  subst e1
  exact ⟨_, _, rfl, by rw [add_plain]; exact hc, hR i x _ hx hu⟩
end

/-! ### Steps on memory -/
section
variable {P : Program} {N : Nat} {e : Env} {w : World} {o : Oper} {K : Value → World → Prop}

theorem op_store (T : Types P) {x y : Operand} {t el : TypeId} {d : TInfo} {g i : Nat} {v : Value} {cs : List Value}
    (hop : o.op = .store t x y) (hx : ev e x = some (.pointer (some ⟨g, i, none⟩))) (hy : ev e y = some v) (ht : T.tbl t = some d) (hd : d.size = 1) (hv : v.oneCell' = true)
    (hb : Blk w g el cs) (hi : i < cs.length) (h : ∀ w1, Chg [g] w w1 → Blk w1 g el (cs.set i v) → w1.heap.size = w.heap.size → K undef w1) : OpW P N o e w K := by
  obtain ⟨q, hq, _, hs, _⟩ := T.inf t d ht
  have hc : w.cell? ⟨g, i, none⟩ = some cs[i] := hb.cell (List.getElem?_eq_getElem hi)
  have hf := hb.frozen i
  refine OpW_skip (w' := w.setCell ⟨g, i, none⟩ v) (fun a ha => ?_) (h _ (Chg.setCell w ⟨g, i, none⟩ v) (hb.set_ i v) (by simp [World.setCell]))
  have hcs : v.cells = #[v] := by cases v <;> simp_all [Value.cells, Value.oneCell']
  have hst := run_store P w ⟨g, i, none⟩ v .plain hv
  simp [execOp, hop, ha.ev hx, ha.ev hy, Instr.storeAt, Instr.sureAddr, storeVar, hcs, sizeOf, typeInfo, hq, hs, hd, storeCells, Addr.add, hst, stored, hc, hf]

theorem op_call {f : Operand} {n : FuncId} {args : Array Operand} {ts : Array TypeId} {vs : Array Value} {R : Value → World → Prop}
    (hop : o.op = .call { callee := .value f, args := args, argTypes := ts }) (hf : ev e f = some (.func (.func n) #[] #[])) (hvs : args.toList.mapM (ev e) = some vs.toList)
    (hc : Has P n vs w R) (h : ∀ v w', R v w' → K v w') : OpW P N o e w K := by
  obtain ⟨⟨fn, hfn, hb, hnm⟩, hc⟩ := hc
  unfold OpW
  intro a ha K' Q' hk
  have hargs : args.map a.eval = vs := by
    have : ∀ (l : List Operand) (vs : List Value), l.mapM (ev e) = some vs → l.map a.eval = vs := by
      intro l
      induction l with
      | nil => intro vs h; simp at h; simp [h]
      | cons x l ih =>
        intro vs h
        simp only [List.mapM_cons, Option.bind_eq_bind] at h
        cases hx : ev e x with
        | none => simp [hx] at h
        | some u =>
          cases hl : l.mapM (ev e) with
          | none => simp [hx, hl] at h
          | some us =>
            simp [hx, hl] at h
            subst h
            simp [ha.ev hx, ih us hl]
    have h2 := this args.toList vs.toList hvs
    rw [← Array.toList_inj]; simpa using h2
  unfold Oper.wp
  have hb' : ¬ fn.body = none := fun e => by rw [e] at hb; simp at hb
  have hnm' : ¬ fn.name = "runtime.NumGoroutine" := fun e => by rw [e] at hnm; simp at hnm
  have hr : (execOp a.eval o).run P w = .ok (.enter n vs) w := by
    simp [execOp, hop, resolve, ha.ev hf, hargs, Deferred.ofValue, invoke, callFunc, hfn, hb', hnm']
  rw [hr, Oper.upon_enter]
  refine hc.mono ?_
  rintro x w' ⟨v, rfl, hv⟩
  exact hk _ _ (h v w' hv)

theorem op_slice_to (T : Types P) {x y : Operand} {t el : TypeId} {A : Option Addr} {n c : Nat} {j : TInfo} {h' : Nat} {k : IntKind}
    (hop : o.op = .slice t x none (some y) none) (hx : ev e x = some (.slice A n c)) (hy : ev e y = some (.int k (h' : Int))) (ht : T.d t = some (.slice el)) (hel : T.tbl el = some j)
    (h1 : h' ≤ c) (h : K (.slice A h' c) w) : OpW P N o e w K := by
  refine op_slice T (l := 0) hop hx ht hel rfl ⟨k, hy⟩ (Nat.zero_le _) h1 ?_
  have : (if c = 0 then A else A.map (·.add (0 * j.size))) = A := by
    split
    · rfl
    · cases A <;> simp [Addr.add]
  rw [this]; simpa using h

theorem op_load_agg (T : Types P) {x : Operand} {t el : TypeId} {d : TInfo} {g i : Nat} {cs : List Value} {c' : Array Value}
    (hop : o.op = .load t x) (hx : ev e x = some (.pointer (some ⟨g, i, none⟩))) (ht : T.tbl t = some d) (hd : aggI d = true)
    (hb : Blk w g el cs) (hi : i + d.size ≤ cs.length) (hc : ((cs.drop i).take d.size).toArray = c') (h : K (.agg c') w) : OpW P N o e w K := by
  obtain ⟨q, hq, _, hs, _⟩ := T.inf t d ht
  refine OpW_run (fun a ha => ?_) h
  have hl := run_loadCells_list (P := P) w ⟨g, i, none⟩ ((cs.drop i).take d.size) (fun j v hv => by
    rw [List.getElem?_take] at hv
    split at hv
    · rw [List.getElem?_drop] at hv
      have : (⟨g, i, none⟩ : Addr).add j = ⟨g, i + j, none⟩ := by unfold Addr.add; split <;> simp_all
      rw [this]; exact hb.cell hv
    · cases hv)
  have hlen : ((cs.drop i).take d.size).length = d.size := by simp; omega
  rw [hlen] at hl
  have hagg := run_isAgg T ht w
  rw [hd] at hagg
  simp [execOp, hop, ha.ev hx, Instr.loadAt, Instr.sureAddr, loadVar, hagg, sizeOf, typeInfo, hq, hs, hl, hc]

theorem op_nilCheck {x : Operand} {ad : Addr} (hop : o.op = .nilCheck x) (hx : ev e x = some (.pointer (some ad))) (h : K (.pointer (some ad)) w) : OpW P N o e w K :=
  OpW_run (fun a ha => by simp [execOp, hop, ha.ev hx]) h

theorem op_fieldAddr (T : Types P) {x : Operand} {t ft off : Nat} {i : Nat} {ad : Addr} {fs : List (TypeId × Nat)} {d d' : TInfo}
    (hop : o.op = .fieldAddr t x i) (hx : ev e x = some (.pointer (some ad))) (ht : T.tbl t = some d') (hfs : d'.fields = some fs) (hf : fs[i]? = some (ft, off)) (hft : T.tbl ft = some d) (hd : Nat.beq d.size 0 = false)
    {p : Addr} (hp : ad.add off = p) (h : K (.pointer (some p)) w) : OpW P N o e w K := by
  subst hp
  obtain ⟨fa, hu, hm⟩ := T.fs ht hfs
  obtain ⟨q, hq, _, hs, _⟩ := T.inf ft d hft
  have h0 : ¬ d.size = 0 := fun e => by rw [e] at hd; simp at hd
  have hfa : ∃ f : Field, fa[i]? = some f ∧ f.type = ft ∧ f.offset = off := by
    rw [← hm, List.getElem?_map] at hf
    cases hx : fa.toList[i]? with
    | none => simp [hx] at hf
    | some f => simp [hx] at hf; exact ⟨f, by simpa using hx, hf.1, hf.2⟩
  obtain ⟨f, hf1, hf2, hf3⟩ := hfa
  subst hf2; subst hf3
  exact OpW_run (fun a ha => by simp [execOp, hop, ha.ev hx, Instr.fieldAt, Instr.sureAddr, fieldPlace, run_underlying hu, hf1, sizeOf, typeInfo, hq, hs, h0]) h

theorem op_alloc (T : Types P) {t : TypeId} {d : TInfo} (hop : o.op = .alloc t) (ht : T.tbl t = some d)
    (h : ∀ g w1, w.heap.size ≤ g → Chg [] w w1 → Blk w1 g t d.zero.cells.toList → K (.pointer (some ⟨g, 0, none⟩)) w1) : OpW P N o e w K := by
  obtain ⟨q, hq, hz, _, _⟩ := T.inf t d ht
  refine OpW_run (w' := w.alloc (.cells d.zero.cells t)) (fun a ha => ?_) (h w.heap.size _ (Nat.le_refl _) (Chg.alloc w _) (Blk.new w t _))
  simp [execOp, hop, Instr.alloc, zeroValue, typeInfo, hq, hz, newVar, newRow]

theorem op_box {t : TypeId} {x : Operand} {v : Value} (hop : o.op = .box t x) (hx : ev e x = some v)
    (h : ∀ g w1, w.heap.size ≤ g → Chg [] w w1 → Blk w1 g t v.cells.toList → K (.pointer (some ⟨g, 0, none⟩)) w1) : OpW P N o e w K := by
  refine OpW_run (w' := w.alloc (.cells v.cells t)) (fun a ha => ?_) (h w.heap.size _ (Nat.le_refl _) (Chg.alloc w _) (Blk.new w t _))
  simp [execOp, hop, ha.ev hx, Instr.box, newVar, newRow]

theorem op_make (T : Types P) {x y : Operand} {t el : TypeId} {d : TInfo} {kl kc : IntKind} {l c : Int}
    (hop : o.op = .makeSlice t x y) (hx : ev e x = some (.int kl l)) (hy : ev e y = some (.int kc c)) (ht : T.d t = some (.slice el)) (hel : T.tbl el = some d)
    (h0 : 0 ≤ l) (h1 : l ≤ c) (hby : (d.bytes : Int) * c ≤ 281474976710656) (h63 : c ≤ 9223372036854775807)
    (h : ∀ g w1, w.heap.size ≤ g → Chg [] w w1 → Blk w1 g el (madeCells d.zero.cells (c.toNat * d.size)).toList → K (.slice (some ⟨g, 0, none⟩) l.toNat c.toNat) w1) : OpW P N o e w K := by
  obtain ⟨q, hq, hz, hs, hb⟩ := T.inf el d hel
  refine OpW_run (w' := w.alloc (.cells (madeCells d.zero.cells (c.toNat * d.size)) el)) (fun a ha => ?_) (h w.heap.size _ (Nat.le_refl _) (Chg.alloc w _) (Blk.new w el _))
  have hr := run_make (P := P) w t el q d.zero (T.und' ht) hq hz kl kc l c h0 h1 (by rw [hb]; exact hby) h63
  rw [hs] at hr
  simp [execOp, hop, ha.ev hx, ha.ev hy, hr]

theorem op_append (T : Types P) {x y : Operand} {t el : TypeId} {d : TInfo} {v : Value} {n : Nat} {xs : List Value} {A : Option Addr} {m c : Nat} {news : List Value} {ts : Array TypeId}
    (hop : o.op = .call { callee := .builtin .append, args := #[x, y], argTypes := ts }) (hts : ts = #[t, t]) (hx : ev e x = some v) (hy : ev e y = some (.slice A m c)) (ht : T.d t = some (.slice el)) (hel : T.tbl el = some d)
    (hz : Nat.beq d.zero.cells.size d.size = true) (hpos : Nat.blt 0 d.size = true)
    (hown : Own w el d.size v n xs) (hl : news.length = m * d.size) (hnews : ∀ j u, news[j]? = some u → (∃ ad, A = some ad ∧ w.cell? (ad.add j) = some u) ∧ u.oneCell' = true)
    (h63 : n + m ≤ maxLen) (hby : (n + m) * d.bytes ≤ 140737488355328)
    (h : ∀ v' w1, Own w1 el d.size v' (n + m) (xs ++ news) → Chg v.ownBlock.toList w w1 → (v'.ownBlock = v.ownBlock ∨ ∃ g, v'.ownBlock = some g ∧ w.heap.size ≤ g) → (v' = .slice none 0 0 ↔ v = .slice none 0 0 ∧ m = 0) → K v' w1) : OpW P N o e w K := by
  subst hts
  obtain ⟨q, hq, hzq, hs, hb⟩ := T.inf el d hel
  have hz' : d.zero.cells.size = d.size := Nat.eq_of_beq_eq_true hz
  have hpos' : 0 < d.size := by simpa [Nat.blt_eq] using hpos
  cases A with
  | some ad =>
    have hmem : ∀ u ∈ news, u.oneCell' = true := fun u hu => by
      obtain ⟨j, hj⟩ := List.getElem?_of_mem hu
      exact (hnews j u hj).2
    have hcell : ∀ j u, news[j]? = some u → w.cell? (ad.add j) = some u := fun j u hj => by
      obtain ⟨⟨ad', he, hc⟩, _⟩ := hnews j u hj
      injection he with he; subst he; exact hc
    obtain ⟨v', w', hrun, h2, h3, h4, h5⟩ := run_append_own_at (P := P) w 0 t o.type el q d.zero d.size d.bytes (T.und' ht) hq hzq hs hb hz' hpos' v n xs hown ad m c news hl hcell hmem h63 hby (Nat.zero_le _)
    refine OpW_run (v := v') (w' := w') (fun a ha => ?_) (h v' w' h2 (Chg.of_grown h3) (h5.imp id fun hh => ⟨_, hh, Nat.le_refl _⟩) h4)
    simp [execOp, hop, resolve, invoke, builtin, ha.ev hx, ha.ev hy, hrun]
  | none =>
    have hn0 : news = [] := by
      cases news with
      | nil => rfl
      | cons u us => obtain ⟨⟨ad', he, _⟩, _⟩ := hnews 0 u rfl; cases he
    subst hn0
    have hm : m = 0 := by
      have : m * d.size = 0 := by simpa using hl.symm
      rcases Nat.mul_eq_zero.1 this with h | h
      · exact h
      · omega
    subst hm
    refine OpW_run (v := v) (w' := w) (fun a ha => ?_) (h v w (by simpa using hown) (Chg.refl _ _) (.inl rfl) (by simp))
    rcases hown.2 with ⟨rfl, rfl⟩ | ⟨g, cap, cur, rfl, _, _, hnc, _⟩
    · simp [execOp, hop, resolve, invoke, builtin, ha.ev hx, ha.ev hy, Builtin.append_, run_underlying (T.und' ht), sizeOf, typeInfo, hq, Builtin.lenOf, Builtin.firstCells]
    · simp [execOp, hop, resolve, invoke, builtin, ha.ev hx, ha.ev hy, Builtin.append_, run_underlying (T.und' ht), sizeOf, typeInfo, hq, Builtin.lenOf, Builtin.firstCells, hnc, storeCells]

/-- The cells of a literal: parts laid into zeros. -/
def setMany : List Value → Nat → List Value → List Value
  | cs, _, [] => cs
  | cs, i, v :: r => setMany (cs.set i v) (i + 1) r
def fillL (place : Nat → Option (Nat × Nat)) : List Value → List (Nat × Value) → Option (List Value)
  | cs, [] => some cs
  | cs, (i, v) :: r => match place i with
    | none => none
    | some (off, size) => match Nat.beq v.cells.size size && Nat.ble (off + size) cs.length with
      | true => fillL place (setMany cs off v.cells.toList) r
      | false => none
theorem setMany_length : ∀ (r cs : List Value) (i : Nat), (setMany cs i r).length = cs.length
  | [], cs, i => rfl
  | v :: r, cs, i => by rw [setMany, setMany_length r]; simp
theorem foldl_set (off : Nat) : ∀ (vs : List Value) (k : Nat) (cs : List Value), (vs.zipIdx k).foldl (fun (cs : Array Value) (x : Value × Nat) => cs.setIfInBounds (off + x.2) x.1) cs.toArray = (setMany cs (off + k) vs).toArray
  | [], k, cs => rfl
  | v :: vs, k, cs => by
    simp only [List.zipIdx_cons, List.foldl_cons, setMany]
    rw [show cs.toArray.setIfInBounds (off + k) v = (cs.set (off + k) v).toArray from by simp, foldl_set off vs (k + 1)]
    rfl
theorem fillL_spec (place : Nat → Option (Nat × Nat)) : ∀ (ps : List (Nat × Value)) (cs out : List Value), fillL place cs ps = some out → Instr.fill place cs.toArray ps = some out.toArray
  | [], cs, out, h => by simp [fillL] at h; simp [Instr.fill, h]
  | (i, v) :: r, cs, out, h => by
    simp only [fillL] at h
    simp only [Instr.fill]
    cases hp : place i with
    | none => rw [hp] at h; cases h
    | some q =>
      obtain ⟨off, size⟩ := q
      rw [hp] at h
      simp only at h ⊢
      split at h
      · rename_i hc
        simp only [Bool.and_eq_true] at hc
        have h1 : v.cells.size = size := Nat.eq_of_beq_eq_true hc.1
        have h2 : off + size ≤ cs.length := Nat.le_of_ble_eq_true hc.2
        have h3 : ¬ (v.cells.size ≠ size ∨ off + v.cells.size > cs.toArray.size) := by rw [h1]; simp; omega
        have h4 := fillL_spec place r _ out h
        have h5 : v.cells.zipIdx.foldl (fun (cs : Array Value) (x : Value × Nat) => cs.setIfInBounds (off + x.2) x.1) cs.toArray = (setMany cs off v.cells.toList).toArray := by
          have := foldl_set off v.cells.toList 0 cs
          rw [Nat.add_zero] at this
          rw [← this, ← Array.foldl_toList]
          simp
        simp only [decide_eq_true_eq, Bool.or_eq_true] at *
        rw [if_neg (by simpa using h3), h5]
        exact h4
      · cases h
def zerosL (n : Nat) (z : List Value) : List Value := (List.replicate n z).flatten
theorem zerosL_spec (z : Array Value) (n s : Nat) (hs : z.size = s) : (Array.range (n * s)).map (fun i => z[i % z.size]!) = (zerosL n z.toList).toArray := by
  rw [← Array.toList_inj]
  simp only [Array.toList_map, Array.toList_range]
  subst hs
  induction n with
  | zero => simp [zerosL]
  | succ n ih =>
    rw [Nat.succ_mul, List.range_add, List.map_append, ih]
    unfold zerosL
    rw [List.replicate_succ', List.flatten_append]
    simp only [List.flatten_cons, List.flatten_nil, List.append_nil, List.map_map]
    congr 1
    apply List.ext_getElem?
    intro i
    by_cases h : i < z.size
    · simp [h, Nat.mod_eq_of_lt h]
    · simp [h]

theorem evParts {ps : Array (Nat × Operand)} {vs : List (Nat × Value)} {a : Act} (ha : Fits N e a) (h : ps.toList.mapM (fun p => (ev e p.2).map fun v => (p.1, v)) = some vs) :
    (ps.map fun (i, x) => (i, a.eval x)) = vs.toArray := by
  have : ∀ (l : List (Nat × Operand)) (vs : List (Nat × Value)), l.mapM (fun p => (ev e p.2).map fun v => (p.1, v)) = some vs → l.map (fun (i, x) => (i, a.eval x)) = vs := by
    intro l
    induction l with
    | nil => intro vs h; simp at h; simp [h]
    | cons x l ih =>
      intro vs h
      simp only [List.mapM_cons, Option.bind_eq_bind] at h
      cases hx : ev e x.2 with
      | none => simp [hx] at h
      | some u =>
        cases hl : l.mapM (fun p => (ev e p.2).map fun v => (p.1, v)) with
        | none => simp [hx, hl] at h
        | some us =>
          simp [hx, hl] at h
          subst h
          simp [ha.ev hx, ih us hl]
  have h2 := this ps.toList vs h
  rw [← Array.toList_inj]; simpa using h2

theorem op_buildSlice (T : Types P) {t el : TypeId} {d : TInfo} {ps : Array (Nat × Operand)} {n : Nat} {vs : List (Nat × Value)} {cells : List Value}
    (hop : o.op = .buildSlice t n ps) (hps : ps.toList.mapM (fun p => (ev e p.2).map fun v => (p.1, v)) = some vs) (ht : T.d t = some (.slice el)) (hel : T.tbl el = some d)
    (hn : Nat.ble (n * d.size) 16777216 = true) (hz : Nat.beq d.zero.cells.size d.size = true)
    (hf : fillL (fun i => some (i * d.size, d.size)) (zerosL n d.zero.cells.toList) vs = some cells)
    (h : ∀ g w1, w.heap.size ≤ g → Chg [] w w1 → Blk w1 g el cells → K (.slice (some ⟨g, 0, none⟩) n n) w1) : OpW P N o e w K := by
  obtain ⟨q, hq, hzq, hs, hb⟩ := T.inf el d hel
  have hn' : ¬ 2 ^ 24 < n * d.size := by have := Nat.le_of_ble_eq_true hn; omega
  have hzs : d.zero.cells.size = d.size := Nat.eq_of_beq_eq_true hz
  have hf' := fillL_spec _ _ _ _ hf
  have hz2 := zerosL_spec d.zero.cells n d.size hzs
  rw [← hz2] at hf'
  refine OpW_run (w' := w.alloc (.cells cells.toArray el)) (fun a ha => ?_) (h w.heap.size _ (Nat.le_refl _) (Chg.alloc w _) (by have := Blk.new w el cells.toArray; simpa using this))
  have hp := evParts ha hps
  by_cases h0 : n * d.size = 0
  · rw [h0] at hf'
    have hr : (Array.range 0).map (fun i => d.zero.cells[i % d.zero.cells.size]!) = #[] := by simp
    rw [hr] at hf'
    simp [execOp, hop, hp, Instr.buildSlice, run_underlying (T.und' ht), sizeOf, typeInfo, hq, hs, h0, show (Array.range 0).map (fun (_ : Nat) => (default : Value)) = #[] from by simp, hf', newRow]
  · simp [execOp, hop, hp, Instr.buildSlice, run_underlying (T.und' ht), sizeOf, typeInfo, hq, hs, hn', h0, zeroValue, hzq, hf', newRow]

def places (T : Types P) : List (TypeId × Nat) → Option (List (Nat × Nat))
  | [] => some []
  | (t, off) :: r => match T.tbl t, places T r with
    | some i, some l => some ((off, i.size) :: l)
    | _, _ => none

theorem op_build (T : Types P) {t : TypeId} {d : TInfo} {fs : List (TypeId × Nat)} {pl : List (Nat × Nat)} {ps : Array (Nat × Operand)} {vs : List (Nat × Value)} {cells : List Value}
    (hop : o.op = .build t ps) (hps : ps.toList.mapM (fun p => (ev e p.2).map fun v => (p.1, v)) = some vs) (ht : T.tbl t = some d) (hd : d.fields = some fs)
    (hpl : places T fs = some pl) (hf : fillL (fun i => pl[i]?) d.zero.cells.toList vs = some cells)
    (h : K (.agg cells.toArray) w) : OpW P N o e w K := by
  obtain ⟨q, hq, hz, hs, hb⟩ := T.inf t d ht
  obtain ⟨fa, hu, hm⟩ := T.fs ht hd
  have hsz : ∀ (f : Field) (i : TInfo), T.tbl f.type = some i → (Prod.mk f.offset <$> sizeOf f.type : Sem (Nat × Nat)).run P w = .ok (f.offset, i.size) w := by
    intro f i hi
    obtain ⟨q, hq, _, hs, _⟩ := T.inf f.type i hi
    simp [sizeOf, typeInfo, hq, hs]
  have hplr : (fa.mapM (fun f => Prod.mk f.offset <$> sizeOf f.type : Field → Sem (Nat × Nat))).run P w = .ok pl.toArray w := by
    have : ∀ (l : List Field) (pl : List (Nat × Nat)), places T (l.map (fun f => (f.type, f.offset))) = some pl →
        (l.mapM (fun f => Prod.mk f.offset <$> sizeOf f.type : Field → Sem (Nat × Nat))).run P w = .ok pl w := by
      intro l
      induction l with
      | nil => intro pl h; simp [places] at h; simp [h]
      | cons f l ih =>
        intro pl h
        simp only [List.map_cons, places] at h
        split at h
        · rename_i i us hi hl
          injection h with h
          subst h
          rw [List.mapM_cons, Sem.run_bind, hsz f i hi]
          simp only [Result.andThen_ok]
          rw [Sem.run_bind, ih us hl]
          simp
        · cases h
    have h2 := this fa.toList pl (by rw [hm]; exact hpl)
    rw [← Array.toArray_toList (xs := fa), List.mapM_toArray]
    rw [Sem.run_map, h2]
    rfl
  have hf' := fillL_spec _ _ _ _ hf
  simp only [Array.toArray_toList] at hf'
  refine OpW_run (w' := w) (fun a ha => ?_) h
  have hp := evParts ha hps
  simp [execOp, hop, hp, Instr.build, zeroValue, typeInfo, hq, hz, run_underlying hu, hplr, hf']
end

theorem wrap_i64_in {r : Int} (h0 : -9223372036854775808 ≤ r) (h1 : r ≤ 9223372036854775807) : IntKind.i64.wrap r = r := by rw [IntKind.wrap_i64]; omega
theorem wrap_u8_in {r : Int} (h0 : 0 ≤ r) (h1 : r ≤ 255) : IntKind.u8.wrap r = r := by rw [IntKind.wrap_u8]; omega
theorem wrap_u32_in {r : Int} (h0 : 0 ≤ r) (h1 : r ≤ 4294967295) : IntKind.u32.wrap r = r := by rw [IntKind.wrap_u32]; omega
theorem wrap_u64_in {r : Int} (h0 : 0 ≤ r) (h1 : r ≤ 18446744073709551615) : IntKind.u64.wrap r = r := by rw [IntKind.wrap_u64]; omega
attribute [irreducible] Blk Own SliceOf
end Go.Vc
