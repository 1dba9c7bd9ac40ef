import Derived.Test.YtbhnplghnhafiaaDoorVcMap
import Derived.Laws.ResultCell
/-! Structs, arrays, pointers, bits. -/
set_option linter.unusedSimpArgs false
set_option linter.unusedVariables false
namespace Go.Vc
open Go
section
variable {P : Program} {N : Nat} {e : Env} {w : World} {o : Oper} {K : Value → World → Prop}
theorem op_eql_nilptr (T : Types P) {x y : Operand} {t ty el : TypeId} {p : Option Addr} {b : Bool} (hop : o.op = .binOp .eql t x y ty) (hx : ev e x = some (.pointer p)) (hy : ev e y = some (.pointer none)) (ht : T.d t = some (.pointer el)) (hb : p.isNone = b)
    (h : K (.bool b) w) : OpW P N o e w K := by
  subst hb
  have hu := T.und' ht
  have hr : (binOp .eql t (.pointer p) (.pointer none)).run P w = .ok (.bool p.isNone) w := run_eql_pointer_nil w t p (by rw [hu]; simp [Program.pointee, hu])
  exact bin_run' hop hx hy (fun w => by simp [eqGuard]) hr h
theorem op_neq_nilptr (T : Types P) {x y : Operand} {t ty el : TypeId} {p : Option Addr} {b : Bool} (hop : o.op = .binOp .neq t x y ty) (hx : ev e x = some (.pointer p)) (hy : ev e y = some (.pointer none)) (ht : T.d t = some (.pointer el)) (hb : (!p.isNone) = b)
    (h : K (.bool b) w) : OpW P N o e w K := by
  subst hb
  have hu := T.und' ht
  have hr : (binOp .neq t (.pointer p) (.pointer none)).run P w = .ok (.bool (!p.isNone)) w := run_neq_pointer_nil w t p (by rw [hu]; simp [Program.pointee, hu])
  exact bin_run' hop hx hy (fun w => by simp [eqGuard]) hr h

theorem op_neq_bools (T : Types P) {x y : Operand} {t ty : TypeId} {a b : Bool} (hop : o.op = .binOp .neq t x y ty) (hx : ev e x = some (.bool a)) (hy : ev e y = some (.bool b)) (ht : T.d t = some .bool) (h : K (.bool (!(a == b))) w) : OpW P N o e w K :=
  bin_run' hop hx hy (fun w => by simp [eqGuard]) (run_neq_bool w t a b (T.und' ht)) h
theorem op_eql_bools (T : Types P) {x y : Operand} {t ty : TypeId} {a b : Bool} (hop : o.op = .binOp .eql t x y ty) (hx : ev e x = some (.bool a)) (hy : ev e y = some (.bool b)) (ht : T.d t = some .bool) (h : K (.bool (a == b)) w) : OpW P N o e w K :=
  bin_run' hop hx hy (fun w => by simp [eqGuard]) (run_eql_bool w t a b (T.und' ht)) h

/-- A field of a struct's value. -/
theorem op_field (T : Types P) {x : Operand} {t ft off : Nat} {i : Nat} {cs : Array Value} {v : Value} {fs : List (TypeId × Nat)} {d d' : TInfo}
    (hop : o.op = .field t x i) (hx : ev e x = some (.agg cs)) (ht : T.tbl t = some d') (hfs : d'.fields = some fs) (hf : fs[i]? = some (ft, off)) (hft : T.tbl ft = some d) (hd : aggI d = false) (hv : nth cs.toList off = some v)
    (h : K v w) : OpW P N o e w K := by
  obtain ⟨fa, hu, hm⟩ := T.fs ht hfs
  have hv' : cs[off]? = some v := by rw [nth_eq] at hv; simpa using hv
  have hfa : ∃ f : Field, fa[i]? = some f ∧ f.type = ft ∧ f.offset = off := by
    rw [← hm, List.getElem?_map] at hf
    cases hx : fa.toList[i]? with
    | none => rw [hx] at hf; cases hf
    | some f =>
      rw [hx] at hf
      injection hf with hf
      injection hf with h1 h2
      exact ⟨f, by simpa using hx, h1, h2⟩
  obtain ⟨f, hf1, hf2, hf3⟩ := hfa
  have hg := run_isAgg T hft w
  rw [hd] at hg
  exact OpW_run (fun a ha => by simp [execOp, hop, ha.ev hx, Instr.field, run_underlying hu, hf1, hf2, hf3, part, hg, asAgg, hv', Result.andThen]) h
/-- An element of an array's value. -/
theorem op_index_arr (T : Types P) {x y : Operand} {t el n : Nat} {k : IntKind} {i : Nat} {cs : Array Value} {v : Value} {d : TInfo}
    (hop : o.op = .index t x y) (hx : ev e x = some (.agg cs)) (hy : ev e y = some (.int k (i : Int))) (ht : T.d t = some (.array n el)) (hel : T.tbl el = some d) (hd : aggI d = false) (hs1 : Nat.beq d.size 1 = true) (hi : i < n) (hv : cs.toList[i]? = some v)
    (h : K v w) : OpW P N o e w K := by
  obtain ⟨q, hq, _, hs, _⟩ := T.inf el d hel
  have hv' : cs[i]? = some v := by simpa using hv
  have hg := run_isAgg T hel w
  rw [hd] at hg
  have hs2 : d.size = 1 := Nat.eq_of_beq_eq_true hs1
  have hin : (0 : Int) ≤ (i : Int) ∧ (i : Int) < (n : Int) := by omega
  exact OpW_run (fun a ha => by simp [execOp, hop, ha.ev hx, ha.ev hy, Instr.index, asIntOf, run_underlying (T.und' ht), hin, part, hg, sizeOf, typeInfo, hq, hs, hs2, hv', Result.andThen, hi]) h
/-- The address of an array's element. -/
theorem op_index_at (T : Types P) {x y : Operand} {t el n : Nat} {k : IntKind} {i : Nat} {g j : Nat} {d : TInfo}
    (hop : o.op = .indexAddr t x y) (hx : ev e x = some (.pointer (some ⟨g, j, none⟩))) (hy : ev e y = some (.int k (i : Int))) (ht : T.d t = some (.array n el)) (hel : T.tbl el = some d) (hs1 : Nat.beq d.size 1 = true) (hi : i < n)
    (h : K (.pointer (some ⟨g, j + i, none⟩)) w) : OpW P N o e w K := by
  obtain ⟨q, hq, _, hs, _⟩ := T.inf el d hel
  have hs2 : d.size = 1 := Nat.eq_of_beq_eq_true hs1
  have hin : (0 : Int) ≤ (i : Int) ∧ (i : Int) < (n : Int) := by omega
  have had : (⟨g, j, none⟩ : Addr).add i = ⟨g, j + i, none⟩ := by unfold Addr.add; split <;> simp_all
  exact OpW_run (fun a ha => by simp [execOp, hop, ha.ev hx, ha.ev hy, Instr.indexAt, Instr.sureAddr, asIntOf, run_underlying (T.und' ht), hin, sizeOf, typeInfo, hq, hs, hs2, Result.andThen, hi, had]) h
/-- A struct is laid into a block of the call's own. -/
theorem op_store_agg (T : Types P) {x y : Operand} {t el : TypeId} {d : TInfo} {g i : Nat} {vs : Array Value} {cs : List Value}
    (hop : o.op = .store t x y) (hx : ev e x = some (.pointer (some ⟨g, i, none⟩))) (hy : ev e y = some (.agg vs)) (ht : T.tbl t = some d) (hd : Nat.beq d.size vs.toList.length = true) (hv : vs.toList.all (·.oneCell') = true)
    (hb : Blk w g el cs) (hi : i + vs.toList.length ≤ cs.length) (h : ∀ w1, Chg [g] w w1 → Blk w1 g el (cs.take i ++ vs.toList ++ cs.drop (i + vs.toList.length)) → w1.heap.size = w.heap.size → K undef w1) : OpW P N o e w K := by
  obtain ⟨q, hq, _, hs, _⟩ := T.inf t d ht
  have hb' := hb
  unfold Blk at hb'
  have hr := run_storeCells_at (P := P) g i el vs.toList 0 cs.toArray w hb' (by simpa using hi) (fun v hv' => List.all_eq_true.1 hv v hv')
  have hd' : vs.size = d.size := by have := Nat.eq_of_beq_eq_true hd; simpa using this.symm
  refine OpW_skip (w' := w.setRow g (cs.toArray.toList.take (i + 0) ++ vs.toList ++ cs.toArray.toList.drop (i + 0 + vs.toList.length)).toArray) (fun a ha => ?_) (h _ ⟨rfl, rfl, rfl, by simp, fun k _ hk => setRow_other w g k _ (by simpa using hk)⟩ ?_ (by simp))
  · simp only [Array.length_toList] at hr
    simp [execOp, hop, ha.ev hx, ha.ev hy, Instr.storeAt, Instr.sureAddr, storeVar, Value.cells, sizeOf, typeInfo, hq, hs, hd', hr, Result.andThen]
  · unfold Blk
    rw [setRow_heap w g cs.toArray _ el _ hb', Nat.add_zero]

/-! ### Bits -/
theorem op_and {x y : Operand} {t ty : TypeId} {k : IntKind} {m n r : Int} (hop : o.op = .binOp .and t x y ty) (hx : ev e x = some (.int k m)) (hy : ev e y = some (.int k n)) (hr : k.wrap ((BitVec.ofInt k.bits m &&& BitVec.ofInt k.bits n).toNat : Int) = r) (h : K (.int k r) w) : OpW P N o e w K :=
  bin_run hop hx hy (by subst hr; simp [binOp, Op.intBits]) h
theorem op_xor {x y : Operand} {t ty : TypeId} {k : IntKind} {m n r : Int} (hop : o.op = .binOp .xor t x y ty) (hx : ev e x = some (.int k m)) (hy : ev e y = some (.int k n)) (hr : k.wrap ((BitVec.ofInt k.bits m ^^^ BitVec.ofInt k.bits n).toNat : Int) = r) (h : K (.int k r) w) : OpW P N o e w K :=
  bin_run hop hx hy (by subst hr; simp [binOp, Op.intBits]) h
theorem op_or {x y : Operand} {t ty : TypeId} {k : IntKind} {m n r : Int} (hop : o.op = .binOp .or t x y ty) (hx : ev e x = some (.int k m)) (hy : ev e y = some (.int k n)) (hr : k.wrap ((BitVec.ofInt k.bits m ||| BitVec.ofInt k.bits n).toNat : Int) = r) (h : K (.int k r) w) : OpW P N o e w K :=
  bin_run hop hx hy (by subst hr; simp [binOp, Op.intBits]) h
theorem op_shr {x y : Operand} {t ty : TypeId} {k k' : IntKind} {m n r : Int} (hop : o.op = .binOp .shr t x y ty) (hx : ev e x = some (.int k m)) (hy : ev e y = some (.int k' n)) (h0 : ¬ n < 0) (hr : m.fdiv (2 ^ (min n.toNat k.bits)) = r) (h : K (.int k r) w) : OpW P N o e w K := by
  subst hr
  exact bin_run' hop hx hy (fun w => by simp [eqGuard]) (by simp [binOp, Op.shift, h0]) h
theorem op_shl {x y : Operand} {t ty : TypeId} {k k' : IntKind} {m n r : Int} (hop : o.op = .binOp .shl t x y ty) (hx : ev e x = some (.int k m)) (hy : ev e y = some (.int k' n)) (h0 : ¬ n < 0) (hr : k.wrap (m * 2 ^ (min n.toNat k.bits)) = r) (h : K (.int k r) w) : OpW P N o e w K := by
  subst hr
  exact bin_run' hop hx hy (fun w => by simp [eqGuard]) (by simp [binOp, Op.shift, h0]) h
theorem op_neg {x : Operand} {t : TypeId} {k : IntKind} {m r : Int} (hop : o.op = .unOp .neg t x) (hx : ev e x = some (.int k m)) (hr : k.wrap (0 - m) = r) (h : K (.int k r) w) : OpW P N o e w K := by
  subst hr
  exact OpW_run (fun a ha => by simp [execOp, hop, ha.ev hx, Op.unary, Op.intArith]) h
theorem op_compl {x : Operand} {t : TypeId} {k : IntKind} {m r : Int} (hop : o.op = .unOp .xor t x) (hx : ev e x = some (.int k m)) (hr : k.wrap ((BitVec.ofInt k.bits (if k.signed then -1 else k.max) ^^^ BitVec.ofInt k.bits m).toNat : Int) = r) (h : K (.int k r) w) : OpW P N o e w K := by
  subst hr
  exact OpW_run (fun a ha => by simp [execOp, hop, ha.ev hx, Op.unary, Op.intBits]) h
theorem op_convert_int (T : Types P) {x : Operand} {s t : TypeId} {k k' : IntKind} {m r : Int} {ds : TypeDesc} (hop : o.op = .convert s t x) (hx : ev e x = some (.int k' m)) (hs : T.d s = some ds) (ht : T.d t = some (.int k)) (hr : k.wrap m = r) (h : K (.int k r) w) : OpW P N o e w K := by
  subst hr
  exact OpW_run (fun a ha => by simp [execOp, hop, ha.ev hx, convert, run_underlying (T.und' hs), run_underlying (T.und' ht), Conv.intToInt, Result.andThen]) h
end
theorem loadVar_agg {P : Program} (T : Types P) {w : World} {t el : TypeId} {d : TInfo} {g : Nat} {cs : List Value} (ht : T.tbl t = some d) (hd : aggI d = true) (hb : Blk w g el cs) (hs' : Nat.beq d.size cs.length = true) :
    (loadVar t ⟨g, 0, none⟩).run P w = .ok (.agg cs.toArray) w := by
  obtain ⟨q, hq, _, hs, _⟩ := T.inf t d ht
  have hl := run_loadCells_list (P := P) w ⟨g, 0, none⟩ cs (fun j v hv => by rw [add_plain]; exact hb.cell hv)
  have hlen : d.size = cs.length := Nat.eq_of_beq_eq_true hs'
  rw [← hlen] at hl
  have hagg := run_isAgg T ht w
  rw [hd] at hagg
  simp [loadVar, hagg, sizeOf, typeInfo, hq, hs, hl]
theorem post2c {P : Program} (T : Types P) {fn : Func} {R : Value → World → Prop} {e : Env} {w : World} {x : Exit} {t u : Tmp} {v' : Value} {ty el : TypeId} {d : TInfo} {g : Nat} {cs : List Value}
    (hx : x = .ret ∨ x = .normal) (h : fn.results = #[.cell t ty, .tmp u]) (hv : look e t = some (.pointer (some ⟨g, 0, none⟩))) (hv' : look e u = some v') (ht : T.tbl ty = some d) (hd : aggI d = true) (hb : Blk w g el cs) (hs : Nat.beq d.size cs.length = true)
    (hR : R (.tuple #[.agg cs.toArray, v']) w) : PostF P fn R x e w := by
  have : ∀ N a, Fits N e a → (results fn a.tmps).run P w = .ok (.tuple #[.agg cs.toArray, v']) w := fun N a ha => by
    have h1 := ha.look t _ hv
    have h2 := ha.look u v' hv'
    rw [results_cell_tmp h]
    simp [Array.getD_eq_getD_getElem?, h1, h2, asAddr, loadVar_agg T ht hd hb hs, Result.andThen]
  unfold PostF
  rcases hx with rfl | rfl <;> exact ⟨_, this, hR⟩
end Go.Vc
