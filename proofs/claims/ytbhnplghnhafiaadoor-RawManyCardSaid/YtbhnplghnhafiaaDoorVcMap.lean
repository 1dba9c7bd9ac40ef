import Derived.Test.YtbhnplghnhafiaaDoorVcGuard
import Derived.MapKept
import Derived.Maps.RangeRun
/-! Maps: a block that reads as a partial function. -/
set_option linter.unusedSimpArgs false
set_option linter.unusedVariables false
namespace Go.Vc
open Go Go.MapKept

/-- Keys of one kind that the model compares at once. -/
structure KeyEnc {κ : Type} (d : TypeDesc) (kv : κ → Value) : Prop where
  isKey : ∀ a, IsKey d (kv a)
  inj : ∀ a b, kv a = kv b → a = b
theorem strKey : KeyEnc .string (fun l : List UInt8 => Value.string (str l)) := ⟨fun _ => trivial, fun a b h => by injection h with h; exact str_inj.1 h⟩
theorem intKey (k : IntKind) : KeyEnc (.int k) (fun n : Int => Value.int k n) := ⟨fun _ => rfl, fun a b h => by injection h⟩

/-- Block r is a map that reads as f. -/
def MapAt {κ β : Type} (kv : κ → Value) (bv : β → Value) (w : World) (r : Nat) (f : κ → Option β) : Prop :=
  ∃ es clk, w.heap[r]? = some (.map es clk) ∧ Stamped es clk ∧ (∀ e ∈ es.toList, ∃ k b, e.key = kv k ∧ e.val = bv b ∧ f k = some b) ∧ (∀ k b, f k = some b → ∃ e ∈ es.toList, e.key = kv k)
def upd {κ β : Type} [DecidableEq κ] (f : κ → Option β) (k : κ) (b : β) : κ → Option β := fun k' => if k' = k then some b else f k'
theorem upd_same {κ β : Type} [DecidableEq κ] (f : κ → Option β) (k : κ) (b : β) : upd f k b k = some b := if_pos rfl
theorem upd_other {κ β : Type} [DecidableEq κ] (f : κ → Option β) (k k' : κ) (b : β) (h : k' ≠ k) : upd f k b k' = f k' := if_neg h

section
variable {κ β : Type} {kv : κ → Value} {bv : β → Value} {w w' : World} {r : Nat} {f : κ → Option β} {S : List Nat}
theorem MapAt.lt (h : MapAt kv bv w r f) : r < w.heap.size := let ⟨_, _, h1, _⟩ := h; (Array.getElem?_eq_some_iff.1 h1).1
theorem MapAt.keep (h : MapAt kv bv w r f) (hc : Chg S w w') (hn : r ∉ S) : MapAt kv bv w' r f := by
  have hlt := h.lt
  obtain ⟨es, clk, h1, h2⟩ := h
  exact ⟨es, clk, (hc.keep r hlt hn).trans h1, h2⟩
theorem MapAt.keep0 (h : MapAt kv bv w r f) (hc : Chg [] w w') : MapAt kv bv w' r f := h.keep hc (by simp)
theorem MapAt.ne_blk (h : MapAt kv bv w r f) {g : Nat} {t : TypeId} {cs : List Value} (hb : Blk w g t cs) : r ≠ g := by
  rintro rfl
  obtain ⟨es, clk, h1, _⟩ := h
  unfold Blk at hb
  rw [h1] at hb
  cases hb
theorem Chg.setMap {w : World} {r : Nat} (o : Obj) : Chg [r] w { w with heap := w.heap.setIfInBounds r o } :=
  ⟨rfl, rfl, rfl, by simp, fun k _ hn => by simp at hn; simp [Array.getElem?_setIfInBounds_ne (Ne.symm hn)]⟩
end

section
variable {P : Program} {N : Nat} {e : Env} {w : World} {o : Oper} {K : Value → World → Prop}
theorem op_makeMap {t : TypeId} {κ β : Type} (kv : κ → Value) (bv : β → Value) (hop : o.op = .makeMap t none)
    (h : ∀ g w1, w.heap.size ≤ g → Chg [] w w1 → MapAt kv bv w1 g (fun _ => none) → K (.map (some g)) w1) : OpW P N o e w K := by
  refine OpW_run (w' := w.alloc (.map #[] 0)) (fun a ha => ?_) (h w.heap.size _ (Nat.le_refl _) (Chg.alloc w _) ⟨#[], 0, (MapKept.heap_alloc w _).1, stamped_empty 0, by simp, by simp⟩)
  simp [execOp, hop, Instr.makeMap, Result.andThen]

/-- The entry of a key. -/
theorem MapAt.find {κ β : Type} {kv : κ → Value} {bv : β → Value} {f : κ → Option β} {d : TypeDesc} (hk : KeyEnc d kv) {es : Array MapEntry} {clk : Nat} (h2 : Stamped es clk)
    (h3 : ∀ e ∈ es.toList, ∃ k b, e.key = kv k ∧ e.val = bv b ∧ f k = some b) (h4 : ∀ k b, f k = some b → ∃ e ∈ es.toList, e.key = kv k) (k : κ) :
    (f k = none ∧ Instr.findNow d (kv k) es.toList 0 = some none ∧ ∀ x ∈ es.toList, x.key ≠ kv k) ∨
    ∃ b j e, f k = some b ∧ Instr.findNow d (kv k) es.toList 0 = some (some (j, bv b)) ∧ es[j]? = some e ∧ e.key = kv k := by
  rcases findNow_spec (hk.isKey k) es.toList 0 (fun x hx => by obtain ⟨k', b, he, _⟩ := h3 x hx; rw [he]; exact hk.isKey k') with ⟨h, hne⟩ | ⟨j, e, h, hj, he⟩
  · left
    refine ⟨?_, h, hne⟩
    cases hf : f k with
    | none => rfl
    | some b =>
      obtain ⟨e, he, hek⟩ := h4 k b hf
      exact absurd hek (hne e he)
  · right
    obtain ⟨k', b, hek, heb, hf⟩ := h3 e (List.mem_of_getElem? hj)
    have hkk : k' = k := hk.inj _ _ (hek.symm.trans he)
    subst hkk
    exact ⟨b, j, e, hf, by rw [h, Nat.zero_add, heb], by simpa using hj, he⟩

theorem op_lookup (T : Types P) {κ β : Type} {kv : κ → Value} {bv : β → Value} {f : κ → Option β} {r : Nat} {k : κ} {t key el : TypeId} {d : TypeDesc} {dz : TInfo} {x y : Operand} (hk : KeyEnc d kv)
    (hop : o.op = .lookup t x y false) (hx : ev e x = some (.map (some r))) (hy : ev e y = some (kv k)) (ht : T.d t = some (.map key el)) (hd : T.d key = some d) (hel : T.tbl el = some dz)
    (hm : MapAt kv bv w r f) (h : K (match f k with | some b => bv b | none => dz.zero) w) : OpW P N o e w K := by
  obtain ⟨es, clk, h1, h2, h3, h4⟩ := hm
  obtain ⟨q, hq, hz, _, _⟩ := T.inf el dz hel
  refine OpW_run (fun a ha => ?_) h
  rcases MapAt.find hk h2 h3 h4 k with ⟨hf, hn, _⟩ | ⟨b, j, en, hf, hn, _, _⟩
  · simp [execOp, hop, ha.ev hx, ha.ev hy, Instr.lookup, run_underlying (T.und' ht), MapKept.run_getObj_map h1, run_checkKey (T.und' hd) (hk.isKey k), run_findKey (T.und' hd) hn, zeroValue, typeInfo, hq, hz, Result.andThen, hf]
  · simp [execOp, hop, ha.ev hx, ha.ev hy, Instr.lookup, run_underlying (T.und' ht), MapKept.run_getObj_map h1, run_checkKey (T.und' hd) (hk.isKey k), run_findKey (T.und' hd) hn, Result.andThen, hf]
theorem op_lookup_v (T : Types P) {κ β : Type} {kv : κ → Value} {bv : β → Value} {f : κ → Option β} {r : Nat} {k : κ} {t key el : TypeId} {d : TypeDesc} {dz : TInfo} {x y : Operand} (hk : KeyEnc d kv)
    (hop : o.op = .lookup t x y false) (hx : ev e x = some (.map (some r))) (hy : ev e y = some (kv k)) (ht : T.d t = some (.map key el)) (hd : T.d key = some d) (hel : T.tbl el = some dz)
    (hm : MapAt kv bv w r f) {v : Value} (hv : ∀ b, f k = some b → bv b = v) (hv0 : f k = none → dz.zero = v) (h : K v w) : OpW P N o e w K := by
  refine op_lookup T hk hop hx hy ht hd hel hm ?_
  cases hf : f k with
  | none => rw [hv0 hf]; exact h
  | some b => simp only [hv b hf]; exact h
theorem op_lookup_ok (T : Types P) {κ β : Type} {kv : κ → Value} {bv : β → Value} {f : κ → Option β} {r : Nat} {k : κ} {t key el : TypeId} {d : TypeDesc} {dz : TInfo} {x y : Operand} (hk : KeyEnc d kv)
    (hop : o.op = .lookup t x y true) (hx : ev e x = some (.map (some r))) (hy : ev e y = some (kv k)) (ht : T.d t = some (.map key el)) (hd : T.d key = some d) (hel : T.tbl el = some dz)
    (hm : MapAt kv bv w r f) (h : K (match f k with | some b => .tuple #[bv b, .bool true] | none => .tuple #[dz.zero, .bool false]) w) : OpW P N o e w K := by
  obtain ⟨es, clk, h1, h2, h3, h4⟩ := hm
  obtain ⟨q, hq, hz, _, _⟩ := T.inf el dz hel
  refine OpW_run (fun a ha => ?_) h
  rcases MapAt.find hk h2 h3 h4 k with ⟨hf, hn, _⟩ | ⟨b, j, en, hf, hn, _, _⟩
  · simp [execOp, hop, ha.ev hx, ha.ev hy, Instr.lookup, run_underlying (T.und' ht), MapKept.run_getObj_map h1, run_checkKey (T.und' hd) (hk.isKey k), run_findKey (T.und' hd) hn, zeroValue, typeInfo, hq, hz, Result.andThen, hf]
  · simp [execOp, hop, ha.ev hx, ha.ev hy, Instr.lookup, run_underlying (T.und' ht), MapKept.run_getObj_map h1, run_checkKey (T.und' hd) (hk.isKey k), run_findKey (T.und' hd) hn, Result.andThen, hf]
theorem op_lookup_nil (T : Types P) {t key el : TypeId} {d : TypeDesc} {dz : TInfo} {x y : Operand} {kval : Value} (hk : IsKey d kval)
    (hop : o.op = .lookup t x y false) (hx : ev e x = some (.map none)) (hy : ev e y = some kval) (ht : T.d t = some (.map key el)) (hd : T.d key = some d) (hel : T.tbl el = some dz)
    (h : K dz.zero w) : OpW P N o e w K := by
  obtain ⟨q, hq, hz, _, _⟩ := T.inf el dz hel
  have hn : Instr.findNow d kval [] 0 = some none := rfl
  exact OpW_run (fun a ha => by simp [execOp, hop, ha.ev hx, ha.ev hy, Instr.lookup, run_underlying (T.und' ht), run_checkKey (T.und' hd) hk, run_findKey (T.und' hd) hn, zeroValue, typeInfo, hq, hz, Result.andThen]) h

theorem op_mapUpdate (T : Types P) {κ β : Type} [DecidableEq κ] {kv : κ → Value} {bv : β → Value} {f : κ → Option β} {r : Nat} {k : κ} {b : β} {t key el : TypeId} {d : TypeDesc} {x y z : Operand} (hk : KeyEnc d kv)
    (hop : o.op = .mapUpdate t x y z) (hx : ev e x = some (.map (some r))) (hy : ev e y = some (kv k)) (hz : ev e z = some (bv b)) (ht : T.d t = some (.map key el)) (hd : T.d key = some d)
    (hm : MapAt kv bv w r f) (h : ∀ w1, Chg [r] w w1 → MapAt kv bv w1 r (upd f k b) → w1.heap.size = w.heap.size → K undef w1) : OpW P N o e w K := by
  obtain ⟨es, clk, h1, h2, h3, h4⟩ := hm
  rcases MapAt.find hk h2 h3 h4 k with ⟨hf, hn, hne⟩ | ⟨b0, j, en, hf, hn, hj, hen⟩
  · refine OpW_skip (w' := { w with heap := w.heap.setIfInBounds r (.map (es.push { key := kv k, val := bv b, born := clk }) (clk + 1)) }) (fun a ha => ?_) (h _ (Chg.setMap _) ⟨_, _, (MapKept.heap_set h1).1, stamped_push h2 hne, fun x hx => ?_, fun k' b' hk' => ?_⟩ (by simp))
    · simp [execOp, hop, ha.ev hx, ha.ev hy, ha.ev hz, Instr.mapUpdate, run_underlying (T.und' ht), MapKept.run_getObj_map h1, run_checkKey (T.und' hd) (hk.isKey k), run_findKey (T.und' hd) hn, MapKept.run_setObj_map _ h1, Result.andThen]
    · simp only [Array.toList_push, List.mem_append, List.mem_singleton] at hx
      rcases hx with hx | rfl
      · obtain ⟨k', b', e1, e2, e3⟩ := h3 x hx
        refine ⟨k', b', e1, e2, ?_⟩
        rw [upd_other _ _ _ _ (fun he => hne x hx (by rw [e1, he])), e3]
      · exact ⟨k, b, rfl, rfl, upd_same _ _ _⟩
    · by_cases hkk : k' = k
      · subst hkk
        exact ⟨{ key := kv k', val := bv b, born := clk }, by simp, rfl⟩
      · rw [upd_other _ _ _ _ hkk] at hk'
        obtain ⟨en, he, hek⟩ := h4 k' b' hk'
        exact ⟨en, by simp [he], hek⟩
  · have hkey : ∀ e', es[j]? = some e' → ({ e' with key := kv k, val := bv b } : MapEntry).key = e'.key := fun e' he' => by rw [hj] at he'; cases he'; exact hen.symm
    refine OpW_skip (w' := { w with heap := w.heap.setIfInBounds r (.map (es.modify j fun e => { e with key := kv k, val := bv b }) clk) }) (fun a ha => ?_) (h _ (Chg.setMap _) ⟨_, _, (MapKept.heap_set h1).1, stamped_modify h2 _ _ (fun _ _ => rfl) (fun e' _ he' => hkey e' he'), fun x hx => ?_, fun k' b' hk' => ?_⟩ (by simp))
    · simp [execOp, hop, ha.ev hx, ha.ev hy, ha.ev hz, Instr.mapUpdate, run_underlying (T.und' ht), MapKept.run_getObj_map h1, run_checkKey (T.und' hd) (hk.isKey k), run_findKey (T.und' hd) hn, hj, hen, run_keyThatStays (hk.isKey k), MapKept.run_setObj_map _ h1, Result.andThen]
    · obtain ⟨i, hi⟩ := List.getElem?_of_mem hx
      rw [Array.getElem?_toList, Array.getElem?_modify] at hi
      by_cases hij : j = i
      · subst hij
        rw [if_pos rfl, hj] at hi
        simp at hi
        subst hi
        exact ⟨k, b, rfl, rfl, upd_same _ _ _⟩
      · rw [if_neg hij] at hi
        have hmem : x ∈ es.toList := by simpa using Array.mem_of_getElem? hi
        obtain ⟨k', b', e1, e2, e3⟩ := h3 x hmem
        refine ⟨k', b', e1, e2, ?_⟩
        rw [upd_other _ _ _ _ (fun he => ?_), e3]
        subst he
        have e4 : (es.toList.map (·.key))[i]? = (es.toList.map (·.key))[j]? := by
          rw [List.getElem?_map, List.getElem?_map, Array.getElem?_toList, Array.getElem?_toList, hi, hj, Option.map_some, Option.map_some, e1, hen]
        have hil : i < (es.toList.map (·.key)).length := by have := (Array.getElem?_eq_some_iff.1 hi).1; simpa using this
        exact hij ((List.getElem?_inj hil h2.2.2).1 e4).symm
    · obtain ⟨en', he', hek'⟩ : ∃ en' ∈ es.toList, en'.key = kv k' := by
        by_cases hkk : k' = k
        · subst hkk; exact ⟨en, by simpa using Array.mem_of_getElem? hj, hen⟩
        · rw [upd_other _ _ _ _ hkk] at hk'; exact h4 k' b' hk'
      have hm := modify_keys (es := es) j (fun e => { e with key := kv k, val := bv b }) hkey
      have : kv k' ∈ (es.modify j fun e => { e with key := kv k, val := bv b }).toList.map (·.key) := by rw [hm, ← hek']; exact List.mem_map.2 ⟨en', he', rfl⟩
      obtain ⟨y, hy, e1⟩ := List.mem_map.1 this
      exact ⟨y, hy, e1⟩
end
end Go.Vc
