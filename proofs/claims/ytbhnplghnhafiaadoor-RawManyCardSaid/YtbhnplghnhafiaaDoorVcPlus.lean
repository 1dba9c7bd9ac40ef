import Derived.Test.YtbhnplghnhafiaaDoorVcIter
import Derived.Sort.Walk0
/-! More steps: texts joined and compared, bytes of a text; maps: delete, how many, a copy. -/
set_option linter.unusedSimpArgs false
set_option linter.unusedVariables false
namespace Go.Vc
open Go Go.MapKept

def keyV (k : List UInt8) : Value := .string (str k)
def u8s (l : List UInt8) : List Value := l.map fun c => .int .u8 (c.toNat : Int)
theorem u8s_length (l : List UInt8) : (u8s l).length = l.length := by simp [u8s]
theorem u8s_get {l : List UInt8} {i : Nat} {c : UInt8} (h : l[i]? = some c) : (u8s l)[i]? = some (.int .u8 (c.toNat : Int)) := by simp [u8s, h]
theorem u8s_inv {l : List UInt8} {i : Nat} {v : Value} (h : (u8s l)[i]? = some v) : ∃ c, l[i]? = some c ∧ v = .int .u8 (c.toNat : Int) := by
  unfold u8s at h
  rw [List.getElem?_map] at h
  cases hx : l[i]? with
  | none => simp [hx] at h
  | some x => simp [hx] at h; exact ⟨x, rfl, h.symm⟩
theorem u8s_set (l : List UInt8) (i : Nat) (c : UInt8) : (u8s l).set i (.int .u8 (c.toNat : Int)) = u8s (l.set i c) := by simp [u8s, List.map_set]
theorem u8s_append (a b : List UInt8) : u8s (a ++ b) = u8s a ++ u8s b := by simp [u8s]
theorem str_append (a b : List UInt8) : str a ++ str b = str (a ++ b) := by
  apply ByteArray.ext
  simp [str]
section
variable {P : Program} {N : Nat} {e : Env} {w : World} {o : Oper} {K : Value → World → Prop}
theorem op_str_add {x y : Operand} {t ty : TypeId} {a b : List UInt8} (hop : o.op = .binOp .add t x y ty) (hx : ev e x = some (.string (str a))) (hy : ev e y = some (.string (str b))) (hl : a.length + b.length ≤ 1000000000) (h : K (.string (str (a ++ b))) w) : OpW P N o e w K := by
  refine bin_run' hop hx hy (fun w => by simp [eqGuard]) ?_ h
  have h1 : ¬ (((str a).size + (str b).size : Nat) : Int) > IntKind.i64.max := by
    rw [str_size, str_size]
    have : IntKind.i64.max = 9223372036854775807 := by decide
    omega
  simp only [binOp, Op.stringOp, h1, if_false, str_append]
  rfl
theorem op_str_leq {x y : Operand} {t ty : TypeId} {a b : List UInt8} (hop : o.op = .binOp .leq t x y ty) (hx : ev e x = some (.string (str a))) (hy : ev e y = some (.string (str b))) (h : K (.bool (Op.bytesLess a b || a == b)) w) : OpW P N o e w K :=
  bin_run' hop hx hy (fun w => by simp [eqGuard]) (by simp [binOp, Op.stringOp, str_toList]) h
theorem op_str_gtr {x y : Operand} {t ty : TypeId} {a b : List UInt8} (hop : o.op = .binOp .gtr t x y ty) (hx : ev e x = some (.string (str a))) (hy : ev e y = some (.string (str b))) (h : K (.bool (!(Op.bytesLess a b || a == b))) w) : OpW P N o e w K :=
  bin_run' hop hx hy (fun w => by simp [eqGuard]) (by simp [binOp, Op.stringOp, str_toList]) h
theorem op_str_lss {x y : Operand} {t ty : TypeId} {a b : List UInt8} (hop : o.op = .binOp .lss t x y ty) (hx : ev e x = some (.string (str a))) (hy : ev e y = some (.string (str b))) (h : K (.bool (Op.bytesLess a b)) w) : OpW P N o e w K :=
  bin_run' hop hx hy (fun w => by simp [eqGuard]) (by simp [binOp, Op.stringOp, str_toList]) h
theorem OpW_sub {e' : Env} (hs : SubL e e') (h : OpW P N o e' w K) : OpW P N o e w K := by
  unfold OpW at *
  exact fun a ha => h a (ha.sub hs)
theorem op_lss_b {x y : Operand} {t ty : TypeId} {k : IntKind} {m n : Int} (hop : o.op = .binOp .lss t x y ty) (hx : ev e x = some (.int k m)) (hy : ev e y = some (.int k n)) (h : K (.bool (decide (m < n))) w) : OpW P N o e w K :=
  op_lss hop hx hy (fun hc => by rw [decide_eq_true hc] at h; exact h) (fun hc => by rw [decide_eq_false hc] at h; exact h)
theorem op_len_str (T : Types P) {x : Operand} {t : TypeId} {ts : Array TypeId} {l : List UInt8}
    (hop : o.op = .call { callee := .builtin .len, args := #[x], argTypes := ts }) (hts : ts = #[t]) (hx : ev e x = some (.string (str l))) (ht : T.d t = some .string) (h : K (.int .i64 (l.length : Nat)) w) : OpW P N o e w K :=
  op_len_string T hop hts hx ht (by rw [str_size]; exact h)
/-- A byte of a text. -/
theorem op_index_str (T : Types P) {x y : Operand} {t : TypeId} {k : IntKind} {i : Nat} {l : List UInt8} {c : UInt8}
    (hop : o.op = .index t x y) (hx : ev e x = some (.string (str l))) (hy : ev e y = some (.int k (i : Int))) (ht : T.d t = some .string) (hc : l[i]? = some c) (h : K (.int .u8 (c.toNat : Int)) w) : OpW P N o e w K := by
  have hb : (str l)[i]? = some c := by
    have hi := (List.getElem?_eq_some_iff.1 hc).1
    rw [getElem?_pos (str l) i (by rw [str_size]; exact hi)]
    have := (List.getElem?_eq_some_iff.1 hc).2
    simp [str, ByteArray.getElem_eq_getElem_data, this]
  exact OpW_run (fun a ha => by simp [execOp, hop, ha.ev hx, ha.ev hy, Instr.index, asIntOf, run_underlying (T.und' ht), hb, Result.andThen]) h

/-- A cell of a block that is known. -/
theorem op_loadB (T : Types P) {x : Operand} {t el : TypeId} {d : TInfo} {g i : Nat} {v : Value} {cs : List Value}
    (hop : o.op = .load t x) (hx : ev e x = some (.pointer (some ⟨g, i, none⟩))) (ht : T.tbl t = some d) (hd : aggI d = false) (hb : Blk w g el cs) (hv : nth cs i = some v) (h : K v w) : OpW P N o e w K :=
  op_load T hop hx ht hd (hb.cell (by rw [← nth_eq]; exact hv)) h
/-- What a map has less a key. -/
def rid {κ β : Type} [DecidableEq κ] (f : κ → Option β) (k : κ) : κ → Option β := fun k' => if k' = k then none else f k'
theorem op_delete (T : Types P) {κ β : Type} [DecidableEq κ] {kv : κ → Value} {bv : β → Value} {f : κ → Option β} {r : Nat} {k : κ} {t key el : TypeId} {d : TypeDesc} {x y : Operand} {ts : Array TypeId} (hk : KeyEnc d kv)
    (hop : o.op = .call { callee := .builtin .delete, args := #[x, y], argTypes := ts }) (hts : ts = #[t, key]) (hx : ev e x = some (.map (some r))) (hy : ev e y = some (kv k)) (ht : T.d t = some (.map key el)) (hd : T.d key = some d)
    (hm : MapAt kv bv w r f) (h : ∀ w1, Chg [r] w w1 → MapAt kv bv w1 r (rid f k) → w1.heap.size = w.heap.size → K (.tuple #[]) w1) : OpW P N o e w K := by
  subst hts
  obtain ⟨es, clk, h1, h2, h3, h4⟩ := hm
  rcases MapAt.find hk h2 h3 h4 k with ⟨hf, hn, hne⟩ | ⟨b0, j, en, hf, hn, hj, hen⟩
  · refine OpW_run (v := .tuple #[]) (w' := { w with heap := w.heap.setIfInBounds r (.map es clk) }) (fun a ha => ?_) (h _ (Chg.setMap _) ⟨_, _, (MapKept.heap_set h1).1, h2, fun x hx => ?_, fun k' b' hk' => ?_⟩ (by simp))
    · simp [execOp, hop, resolve, invoke, builtin, ha.ev hx, ha.ev hy, Builtin.delete_, run_underlying (T.und' ht), MapKept.run_getObj_map h1, run_checkKey (T.und' hd) (hk.isKey k), run_findKey (T.und' hd) hn, MapKept.run_setObj_map _ h1, Result.andThen]
    · obtain ⟨k', b', e1, e2, e3⟩ := h3 x hx
      refine ⟨k', b', e1, e2, ?_⟩
      unfold rid
      rw [if_neg (fun he => hne x hx (by rw [e1, he]))]; exact e3
    · unfold rid at hk'
      split at hk'
      · cases hk'
      · exact h4 k' b' hk'
  · have hsub : (es.eraseIdxIfInBounds j).toList.Sublist es.toList := by
      unfold Array.eraseIdxIfInBounds
      split
      · simp only [Array.toList_eraseIdx]; exact List.eraseIdx_sublist _ _
      · exact List.Sublist.refl _
    have hjl := (Array.getElem?_eq_some_iff.1 hj).1
    have her : (es.eraseIdxIfInBounds j).toList = es.toList.eraseIdx j := by
      unfold Array.eraseIdxIfInBounds
      rw [dif_pos hjl, Array.toList_eraseIdx]
    have hgone : ∀ x ∈ es.toList.eraseIdx j, x.key ≠ kv k := by
      intro x hx hxk
      obtain ⟨i, hi, hij⟩ := List.mem_eraseIdx_iff_getElem?.1 hx
      have e4 : (es.toList.map (·.key))[i]? = (es.toList.map (·.key))[j]? := by
        rw [List.getElem?_map, List.getElem?_map, hij, Array.getElem?_toList, hj, Option.map_some, Option.map_some, hxk, hen]
      have hil : i < (es.toList.map (·.key)).length := by have := (List.getElem?_eq_some_iff.1 hij).1; simpa using this
      exact hi ((List.getElem?_inj hil h2.2.2).1 e4)
    refine OpW_run (v := .tuple #[]) (w' := { w with heap := w.heap.setIfInBounds r (.map (es.eraseIdxIfInBounds j) clk) }) (fun a ha => ?_) (h _ (Chg.setMap _) ⟨_, _, (MapKept.heap_set h1).1, stamped_erase h2 _, fun x hx => ?_, fun k' b' hk' => ?_⟩ (by simp))
    · simp [execOp, hop, resolve, invoke, builtin, ha.ev hx, ha.ev hy, Builtin.delete_, run_underlying (T.und' ht), MapKept.run_getObj_map h1, run_checkKey (T.und' hd) (hk.isKey k), run_findKey (T.und' hd) hn, MapKept.run_setObj_map _ h1, Result.andThen]
    · obtain ⟨k', b', e1, e2, e3⟩ := h3 x (hsub.subset hx)
      refine ⟨k', b', e1, e2, ?_⟩
      unfold rid
      rw [if_neg (fun he => ?_)]; exact e3
      subst he
      rw [her] at hx
      exact hgone x hx e1
    · unfold rid at hk'
      split at hk'
      · cases hk'
      · rename_i hkk
        obtain ⟨en', he', hek'⟩ := h4 k' b' hk'
        refine ⟨en', ?_, hek'⟩
        rw [her]
        obtain ⟨i, hi⟩ := List.getElem?_of_mem he'
        refine List.mem_eraseIdx_iff_getElem?.2 ⟨i, ?_, hi⟩
        rintro rfl
        rw [Array.getElem?_toList, hj] at hi
        injection hi with hi
        subst hi
        exact hkk (hk.inj _ _ (hek'.symm.trans hen))

theorem MapAt.size {κ β : Type} {kv : κ → Value} {bv : β → Value} {f : κ → Option β} {d : TypeDesc} (hk : KeyEnc d kv) {r : Nat} {ks : List κ} (hm : MapAt kv bv w r f) (hn : ks.Nodup) (hks : ∀ k, k ∈ ks ↔ (f k).isSome = true) :
    ∃ es clk, w.heap[r]? = some (.map es clk) ∧ es.size = ks.length := by
  obtain ⟨es, clk, h1, h2, h3, h4⟩ := hm
  refine ⟨es, clk, h1, ?_⟩
  have hp : (es.toList.map (·.key)).Perm (ks.map kv) := by
    refine (List.perm_ext_iff_of_nodup h2.2.2 ?_).2 fun v => ?_
    · exact List.pairwise_map.2 (hn.imp (fun hne e => hne (hk.inj _ _ e)))
    · simp only [List.mem_map]
      constructor
      · rintro ⟨x, hx, rfl⟩
        obtain ⟨k, b, e1, e2, e3⟩ := h3 x hx
        exact ⟨k, (hks k).2 (by rw [e3]; rfl), e1.symm⟩
      · rintro ⟨k, hk', rfl⟩
        obtain ⟨b, hb⟩ := Option.isSome_iff_exists.1 ((hks k).1 hk')
        exact h4 k b hb
  have := hp.length_eq
  simpa using this
theorem op_len_map (T : Types P) {κ β : Type} {kv : κ → Value} {bv : β → Value} {f : κ → Option β} {d : TypeDesc} (hk : KeyEnc d kv) {r : Nat} {ks : List κ} {x : Operand} {t key el : TypeId} {ts : Array TypeId}
    (hop : o.op = .call { callee := .builtin .len, args := #[x], argTypes := ts }) (hts : ts = #[t]) (hx : ev e x = some (.map (some r))) (ht : T.d t = some (.map key el)) (hm : MapAt kv bv w r f) (hn : ks.Nodup) (hks : ∀ k, k ∈ ks ↔ (f k).isSome = true)
    (h : K (.int .i64 (ks.length : Nat)) w) : OpW P N o e w K := by
  subst hts
  obtain ⟨es, clk, h1, h2⟩ := hm.size hk hn hks
  rw [← h2] at h
  exact OpW_run (fun a ha => by simp [execOp, hop, ha.ev hx, resolve, invoke, builtin, Builtin.len_, run_underlying (T.und' ht), MapKept.run_getObj_map h1, goInt, Result.andThen]) h
end
theorem MapAt.copy {κ β : Type} {kv : κ → Value} {bv : β → Value} {f : κ → Option β} {w w' : World} {r r' : Nat} (hm : MapAt kv bv w r f) (h : ∀ es clk, w.heap[r]? = some (.map es clk) → w'.heap[r']? = some (.map es clk)) : MapAt kv bv w' r' f := by
  obtain ⟨es, clk, h1, h2⟩ := hm
  exact ⟨es, clk, h es clk h1, h2⟩
theorem MapAt.congr {κ β : Type} {kv : κ → Value} {bv : β → Value} {f f' : κ → Option β} {w : World} {r : Nat} (hm : MapAt kv bv w r f) (h : ∀ k, f k = f' k) : MapAt kv bv w r f' := by
  rw [← funext h]; exact hm
theorem IterAt.apart {κ β : Type} {kv : κ → Value} {bv : β → Value} {w : World} {it r : Nat} {f : κ → Option β} {ks : List κ} (h : IterAt kv bv w it r f ks) {t : TypeId} {s n : Nat} {v : Value} {xs : List Value} (ho : Own w t s v n xs) : ∀ g, v.ownBlock = some g → g ∉ [it] := by
  intro g hg hm
  simp at hm
  subst hm
  rcases ho.cases with ⟨rfl, _⟩ | ⟨g1, c1, cur1, rfl, _, _, hb1, _⟩
  · cases hg
  · have e1 : g1 = g := by simpa [Value.ownBlock] using hg
    subst e1
    exact h.ne_blk hb1 rfl
/-- The block of an own slice is a row of its type. -/
theorem Own.row {w : World} {t : TypeId} {s n : Nat} {v : Value} {xs : List Value} (ho : Own w t s v n xs) {g : Nat} (hg : v.ownBlock = some g) : ∃ cur, Blk w g t cur := by
  rcases ho.cases with ⟨rfl, _⟩ | ⟨g1, c1, cur1, rfl, _, _, hb1, _⟩
  · cases hg
  · have e1 : g1 = g := by simpa [Value.ownBlock] using hg
    subst e1
    exact ⟨_, hb1⟩
/-- Bytes of the call's own read as their list. -/
theorem Own.bytes {w : World} {t : TypeId} {v : Value} {l : List UInt8} (h : Own w t 1 v l.length (u8s l)) : SliceOf Ru8 w v l :=
  h.reads rfl fun i x u hx hu => by rw [u8s_get hx] at hu; injection hu with hu; exact hu.symm
theorem nodup_length {α : Type} [DecidableEq α] : ∀ (l B : List α), l.Nodup → (∀ x ∈ l, x ∈ B) → l.length ≤ B.length := by
  intro l
  induction l with
  | nil => intro B _ _; exact Nat.zero_le _
  | cons a l ih =>
    intro B hn hs
    have ha : a ∈ B := hs a (by simp)
    rw [List.nodup_cons] at hn
    have := ih (B.erase a) hn.2 (fun x hx => (List.mem_erase_of_ne (fun e => hn.1 (by rw [← e]; exact hx))).2 (hs x (by simp [hx])))
    rw [List.length_erase_of_mem ha] at this
    have h0 : 0 < B.length := List.length_pos_of_mem ha
    simp
    omega
def sorted (ss : List (List UInt8)) : List (List UInt8) := ss.mergeSort fun x y => decide (x ≤ y)
theorem sorted_length (ss : List (List UInt8)) : (sorted ss).length = ss.length := List.length_mergeSort _
theorem sorted_perm (ss : List (List UInt8)) : (sorted ss).Perm ss := List.mergeSort_perm _ _
theorem sorted_up (ss : List (List UInt8)) : (sorted ss).Pairwise (fun x y => x ≤ y) := by
  have := List.pairwise_mergeSort (le := fun x y : List UInt8 => decide (x ≤ y)) (fun a b c h1 h2 => by simp at h1 h2 ⊢; exact List.le_trans h1 h2) (fun a b => by simp; exact List.le_total a b) ss
  exact this.imp (fun h => by simpa using h)
/-- Strictly rising names, in whatever order they came, are sorted so. -/
theorem sorted_eq {ss l : List (List UInt8)} (hp : ss.Perm l) (hl : l.Pairwise (fun x y => x < y)) : sorted ss = l := by
  refine ((sorted_perm ss).trans hp).eq_of_pairwise (le := fun x y => x ≤ y) (fun a b _ _ h1 h2 => List.le_antisymm h1 h2) (sorted_up ss) (hl.imp (fun h => List.le_of_lt h))
end Go.Vc
namespace Go.Vc
open Go
theorem IterAt.nodup {κ β : Type} {kv : κ → Value} {bv : β → Value} {w : World} {it r : Nat} {f : κ → Option β} {ks : List κ} (h : IterAt kv bv w it r f ks) : ks.Nodup := let ⟨_, _, _, _, _, _, _, _, h6, _⟩ := h; h6
theorem IterAt.mem {κ β : Type} {kv : κ → Value} {bv : β → Value} {w : World} {it r : Nat} {f : κ → Option β} {ks : List κ} (h : IterAt kv bv w it r f ks) : ∀ k ∈ ks, ∃ b, f k = some b := let ⟨_, _, _, _, _, _, _, _, _, _, h8, _⟩ := h; h8
end Go.Vc
