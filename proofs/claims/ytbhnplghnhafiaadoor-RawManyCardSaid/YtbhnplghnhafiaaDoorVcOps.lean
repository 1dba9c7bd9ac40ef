import Derived.Test.YtbhnplghnhafiaaDoorVc
import Derived.Lib.Hide
/-! Steps: one lemma an operation. -/
set_option linter.unusedSimpArgs false
set_option linter.unusedVariables false
namespace Go.Vc
open Go

/-- What the steps ask of a type: its shape (of a struct: its fields' types and places), its zero value, its cells, its bytes. -/
structure TInfo where
  desc : TypeDesc
  fields : Option (List (TypeId × Nat))
  zero : Value
  size : Nat
  bytes : Nat

def TInfo.ok (P : Program) (t : TypeId) (i : TInfo) : Prop :=
  (match i.fields with
   | none => P.underlying t = some i.desc
   | some l => ∃ fs : Array Field, P.underlying t = some (.struct fs) ∧ fs.toList.map (fun f => (f.type, f.offset)) = l) ∧
  (P.info? t).map (fun j => (j.zero, j.size, j.bytes)) = some (some i.zero, i.size, i.bytes)

structure Types (P : Program) where
  tbl : TypeId → Option TInfo
  good : ∀ t i, tbl t = some i → i.ok P t

def seek : List (Nat × TInfo) → Nat → Option TInfo
  | [], _ => none
  | (k, v) :: e, t => match Nat.beq k t with
    | true => some v
    | false => seek e t
def AllOk (P : Program) : List (Nat × TInfo) → Prop
  | [] => True
  | (t, i) :: r => i.ok P t ∧ AllOk P r
theorem AllOk.seek {P : Program} : ∀ {L : List (Nat × TInfo)}, AllOk P L → ∀ t i, Vc.seek L t = some i → i.ok P t
  | [], _, t, i, h => by simp [Vc.seek] at h
  | (k, v) :: L, hl, t, i, h => by
    simp only [Vc.seek] at h
    split at h
    · rename_i hk
      have : k = t := Nat.eq_of_beq_eq_true hk
      subst this
      injection h with h
      subst h
      exact hl.1
    · exact AllOk.seek hl.2 t i h
def Types.of {P : Program} (L : List (Nat × TInfo)) (h : AllOk P L) : Types P := ⟨seek L, h.seek⟩

def Types.d {P : Program} (T : Types P) (t : TypeId) : Option TypeDesc := match T.tbl t with
  | some ⟨d, none, _, _, _⟩ => some d
  | _ => none
theorem Types.und' {P : Program} (T : Types P) {t : TypeId} {d : TypeDesc} (h : T.d t = some d) : P.underlying t = some d := by
  unfold Types.d at h
  split at h
  · rename_i d' z s b hi
    injection h with h
    subst h
    exact (T.good t _ hi).1
  · cases h
theorem Types.fs {P : Program} (T : Types P) {t : TypeId} {i : TInfo} {l : List (TypeId × Nat)} (h : T.tbl t = some i) (hl : i.fields = some l) : ∃ fs : Array Field, P.underlying t = some (.struct fs) ∧ fs.toList.map (fun f => (f.type, f.offset)) = l := by
  have := (T.good t i h).1
  rw [hl] at this
  exact this
theorem Types.inf {P : Program} (T : Types P) : ∀ t i, T.tbl t = some i → ∃ j, P.info? t = some j ∧ j.zero = some i.zero ∧ j.size = i.size ∧ j.bytes = i.bytes := by
  intro t i h
  have h2 := (T.good t i h).2
  cases hj : P.info? t with
  | none => simp [hj] at h2
  | some j => simp [hj] at h2; exact ⟨j, rfl, h2.1, h2.2.1, h2.2.2⟩

section
variable {P : Program} {N : Nat} {e : Env} {w : World} {o : Oper} {K : Value → World → Prop}

theorem op_move {x : Operand} {v : Value} (hop : o.op = .move x) (hx : ev e x = some v) (h : K v w) : OpW P N o e w K :=
  OpW_run (fun a ha => by simp [execOp, hop, ha.ev hx]) h
theorem op_assign {x : Operand} {v : Value} (hop : o.op = .assign x) (hx : ev e x = some v) (h : K v w) : OpW P N o e w K :=
  OpW_run (fun a ha => by simp [execOp, hop, ha.ev hx]) h
theorem op_pick {c x y : Operand} {b : Bool} {u v : Value} (hop : o.op = .pick c x y) (hc : ev e c = some (.bool b)) (hx : ev e (if b then x else y) = some u) (hv : u = v) (h : K v w) : OpW P N o e w K := by
  subst hv
  refine OpW_run (v := u) (w' := w) (fun a ha => ?_) h
  cases b
  · have := ha.ev (show ev e y = some u from hx); simp [execOp, hop, ha.ev hc, asBool, this]
  · have := ha.ev (show ev e x = some u from hx); simp [execOp, hop, ha.ev hc, asBool, this]

section
variable {x y : Operand} {t ty : TypeId} {k : IntKind} {m n : Int}
theorem bin_run {op : BinOp} {v : Value} (hop : o.op = .binOp op t x y ty) (hx : ev e x = some (.int k m)) (hy : ev e y = some (.int k n))
    (hr : (binOp op t (.int k m) (.int k n)).run P w = .ok v w) (h : K v w) : OpW P N o e w K :=
  OpW_run (fun a ha => by
    cases op <;> simp [execOp, hop, ha.ev hx, ha.ev hy, hr, eqGuard]) h

theorem op_lss (hop : o.op = .binOp .lss t x y ty) (hx : ev e x = some (.int k m)) (hy : ev e y = some (.int k n)) (h1 : m < n → K (.bool true) w) (h2 : ¬ m < n → K (.bool false) w) : OpW P N o e w K := by
  by_cases hc : m < n
  · exact bin_run (v := .bool true) hop hx hy (by simp [binOp, Op.intCmp, hc]) (h1 hc)
  · exact bin_run (v := .bool false) hop hx hy (by simp [binOp, Op.intCmp, hc]) (h2 hc)
theorem op_leq (hop : o.op = .binOp .leq t x y ty) (hx : ev e x = some (.int k m)) (hy : ev e y = some (.int k n)) (h1 : m ≤ n → K (.bool true) w) (h2 : ¬ m ≤ n → K (.bool false) w) : OpW P N o e w K := by
  by_cases hc : m ≤ n
  · exact bin_run (v := .bool true) hop hx hy (by simp [binOp, Op.intCmp, hc]) (h1 hc)
  · exact bin_run (v := .bool false) hop hx hy (by simp [binOp, Op.intCmp, hc]) (h2 hc)
theorem op_gtr (hop : o.op = .binOp .gtr t x y ty) (hx : ev e x = some (.int k m)) (hy : ev e y = some (.int k n)) (h1 : n < m → K (.bool true) w) (h2 : ¬ n < m → K (.bool false) w) : OpW P N o e w K := by
  by_cases hc : n < m
  · exact bin_run (v := .bool true) hop hx hy (by simp [binOp, Op.intCmp, hc]) (h1 hc)
  · exact bin_run (v := .bool false) hop hx hy (by simp [binOp, Op.intCmp, hc]) (h2 hc)
theorem op_geq (hop : o.op = .binOp .geq t x y ty) (hx : ev e x = some (.int k m)) (hy : ev e y = some (.int k n)) (h1 : n ≤ m → K (.bool true) w) (h2 : ¬ n ≤ m → K (.bool false) w) : OpW P N o e w K := by
  by_cases hc : n ≤ m
  · exact bin_run (v := .bool true) hop hx hy (by simp [binOp, Op.intCmp, hc]) (h1 hc)
  · exact bin_run (v := .bool false) hop hx hy (by simp [binOp, Op.intCmp, hc]) (h2 hc)
theorem op_eql (hop : o.op = .binOp .eql t x y ty) (hx : ev e x = some (.int k m)) (hy : ev e y = some (.int k n)) (h1 : m = n → K (.bool true) w) (h2 : ¬ m = n → K (.bool false) w) : OpW P N o e w K := by
  by_cases hc : m = n
  · exact bin_run (v := .bool true) hop hx hy (by simp [binOp, Op.intCmp, hc]) (h1 hc)
  · exact bin_run (v := .bool false) hop hx hy (by simp [binOp, Op.intCmp, hc]) (h2 hc)
theorem op_neq (hop : o.op = .binOp .neq t x y ty) (hx : ev e x = some (.int k m)) (hy : ev e y = some (.int k n)) (h1 : m ≠ n → K (.bool true) w) (h2 : m = n → K (.bool false) w) : OpW P N o e w K := by
  by_cases hc : m = n
  · exact bin_run (v := .bool false) hop hx hy (by simp [binOp, Op.intCmp, hc]) (h2 hc)
  · exact bin_run (v := .bool true) hop hx hy (by simp [binOp, Op.intCmp, hc]) (h1 hc)

theorem op_add {r : Int} (hop : o.op = .binOp .add t x y ty) (hx : ev e x = some (.int k m)) (hy : ev e y = some (.int k n)) (hr : k.wrap (m + n) = r) (h : K (.int k r) w) : OpW P N o e w K :=
  bin_run hop hx hy (by simp [binOp, Op.intArith, hr]) h
theorem op_subt {r : Int} (hop : o.op = .binOp .sub t x y ty) (hx : ev e x = some (.int k m)) (hy : ev e y = some (.int k n)) (hr : k.wrap (m - n) = r) (h : K (.int k r) w) : OpW P N o e w K :=
  bin_run hop hx hy (by simp [binOp, Op.intArith, hr]) h
theorem op_mul {r : Int} (hop : o.op = .binOp .mul t x y ty) (hx : ev e x = some (.int k m)) (hy : ev e y = some (.int k n)) (hr : k.wrap (m * n) = r) (h : K (.int k r) w) : OpW P N o e w K :=
  bin_run hop hx hy (by simp [binOp, Op.intArith, hr]) h
theorem op_quo {r : Int} (hop : o.op = .binOp .quo t x y ty) (hx : ev e x = some (.int k m)) (hy : ev e y = some (.int k n)) (h0 : n ≠ 0) (hr : k.wrap (m.tdiv n) = r) (h : K (.int k r) w) : OpW P N o e w K :=
  bin_run hop hx hy (by simp [binOp, Op.intDiv, h0, hr]) h
theorem op_rem {r : Int} (hop : o.op = .binOp .rem t x y ty) (hx : ev e x = some (.int k m)) (hy : ev e y = some (.int k n)) (h0 : n ≠ 0) (hr : m.tmod n = r) (h : K (.int k r) w) : OpW P N o e w K :=
  bin_run hop hx hy (by simp [binOp, Op.intDiv, h0, hr]) h
end

theorem op_not {x : Operand} {t : TypeId} {b c : Bool} (hop : o.op = .unOp .not t x) (hx : ev e x = some (.bool b)) (hb : (!b) = c) (h : K (.bool c) w) : OpW P N o e w K :=
  OpW_run (fun a ha => by simp [execOp, hop, ha.ev hx, Op.unary, hb]) h
theorem op_notT {x : Operand} {t : TypeId} (hop : o.op = .unOp .not t x) (hx : ev e x = some (.bool true)) (h : K (.bool false) w) : OpW P N o e w K := op_not hop hx rfl h
theorem op_notF {x : Operand} {t : TypeId} (hop : o.op = .unOp .not t x) (hx : ev e x = some (.bool false)) (h : K (.bool true) w) : OpW P N o e w K := op_not hop hx rfl h
def nth : List Value → Nat → Option Value
  | [], _ => none
  | v :: _, 0 => some v
  | _ :: r, n + 1 => nth r n
theorem nth_eq : ∀ (l : List Value) (n : Nat), nth l n = l[n]?
  | [], n => by simp [nth]
  | v :: r, 0 => rfl
  | v :: r, n + 1 => by simp [nth, nth_eq r n]
theorem op_extract {x : Operand} {i : Nat} {vs : Array Value} {v : Value} (hop : o.op = .extract x i) (hx : ev e x = some (.tuple vs)) (hv : nth vs.toList i = some v) (h : K v w) : OpW P N o e w K := by
  have hv' : vs[i]? = some v := by rw [nth_eq] at hv; simpa using hv
  exact OpW_run (fun a ha => by simp [execOp, hop, ha.ev hx, Instr.extract, hv']) h

theorem op_len_slice (T : Types P) {x : Operand} {t el : TypeId} {ts : Array TypeId} {A : Option Addr} {n c : Nat}
    (hop : o.op = .call { callee := .builtin .len, args := #[x], argTypes := ts }) (hts : ts = #[t]) (hx : ev e x = some (.slice A n c)) (ht : T.d t = some (.slice el)) (h : K (.int .i64 n) w) : OpW P N o e w K := by
  subst hts
  exact OpW_run (fun a ha => by simp [execOp, hop, ha.ev hx, resolve, invoke, builtin, Builtin.len_, run_underlying (T.und' ht), goInt]) h
theorem op_len_string (T : Types P) {x : Operand} {t : TypeId} {ts : Array TypeId} {s : ByteArray}
    (hop : o.op = .call { callee := .builtin .len, args := #[x], argTypes := ts }) (hts : ts = #[t]) (hx : ev e x = some (.string s)) (ht : T.d t = some .string) (h : K (.int .i64 s.size) w) : OpW P N o e w K := by
  subst hts
  exact OpW_run (fun a ha => by simp [execOp, hop, ha.ev hx, resolve, invoke, builtin, Builtin.len_, run_underlying (T.und' ht), goInt]) h
theorem op_max {x y : Operand} {ts : Array TypeId} {k : IntKind} {m n : Int}
    (hop : o.op = .call { callee := .builtin .max, args := #[x, y], argTypes := ts }) (hx : ev e x = some (.int k m)) (hy : ev e y = some (.int k n)) (h : K (.int k (max m n)) w) : OpW P N o e w K := by
  refine OpW_run (v := .int k (if n > m then n else m)) (w' := w) (fun a ha => by simp [execOp, hop, ha.ev hx, ha.ev hy, resolve, invoke, builtin, Builtin.max_, Builtin.max2]) ?_
  have : (if n > m then n else m) = max m n := by split <;> omega
  rw [this]; exact h
theorem op_min {x y : Operand} {ts : Array TypeId} {k : IntKind} {m n : Int}
    (hop : o.op = .call { callee := .builtin .min, args := #[x, y], argTypes := ts }) (hx : ev e x = some (.int k m)) (hy : ev e y = some (.int k n)) (h : K (.int k (min m n)) w) : OpW P N o e w K := by
  refine OpW_run (v := .int k (if n < m then n else m)) (w' := w) (fun a ha => by simp [execOp, hop, ha.ev hx, ha.ev hy, resolve, invoke, builtin, Builtin.min_, Builtin.min2]) ?_
  have : (if n < m then n else m) = min m n := by split <;> omega
  rw [this]; exact h

/-! ### Slices: addresses, cuts -/
theorem op_index_slice (T : Types P) {x y : Operand} {t el : TypeId} {ad : Addr} {n c : Nat} {k : IntKind} {i : Int} {j : TInfo}
    (hop : o.op = .indexAddr t x y) (hx : ev e x = some (.slice (some ad) n c)) (hy : ev e y = some (.int k i)) (ht : T.d t = some (.slice el)) (hel : T.tbl el = some j)
    (h0 : 0 ≤ i) (h1 : i < n) {p : Addr} (hp : ad.add (i.toNat * j.size) = p) (h : K (.pointer (some p)) w) : OpW P N o e w K := by
  subst hp
  obtain ⟨q, hq, _, hs, _⟩ := T.inf el j hel
  exact OpW_run (fun a ha => by simp [execOp, hop, ha.ev hx, ha.ev hy, Instr.indexAt, asIntOf, run_underlying (T.und' ht), h0, h1, sizeOf, typeInfo, hq, hs]) h

theorem op_index_nat (T : Types P) {x y : Operand} {t el : TypeId} {ad : Addr} {n c : Nat} {k : IntKind} {i : Nat} {j : TInfo}
    (hop : o.op = .indexAddr t x y) (hx : ev e x = some (.slice (some ad) n c)) (hy : ev e y = some (.int k (i : Int))) (ht : T.d t = some (.slice el)) (hel : T.tbl el = some j)
    (hsz : Nat.beq j.size 1 = true) (h1 : i < n) (h : K (.pointer (some (ad.add i))) w) : OpW P N o e w K :=
  op_index_slice T hop hx hy ht hel (by omega) (by omega) (by rw [Int.toNat_natCast, Nat.eq_of_beq_eq_true hsz, Nat.mul_one]) h
theorem op_index_own (T : Types P) {x y : Operand} {t el : TypeId} {g : Nat} {n c : Nat} {k : IntKind} {i : Nat} {j : TInfo}
    (hop : o.op = .indexAddr t x y) (hx : ev e x = some (.slice (some ⟨g, 0, none⟩) n c)) (hy : ev e y = some (.int k (i : Int))) (ht : T.d t = some (.slice el)) (hel : T.tbl el = some j)
    (hsz : Nat.beq j.size 1 = true) (h1 : i < n) (h : K (.pointer (some ⟨g, i, none⟩)) w) : OpW P N o e w K := by
  refine op_index_nat T hop hx hy ht hel hsz h1 ?_
  have : (⟨g, 0, none⟩ : Addr).add i = ⟨g, i, none⟩ := by unfold Addr.add; split <;> simp_all
  rw [this]; exact h

theorem op_xor_u8 {x y : Operand} {t ty : TypeId} {a b : UInt8} (hop : o.op = .binOp .xor t x y ty) (hx : ev e x = some (.int .u8 (a.toNat : Int))) (hy : ev e y = some (.int .u8 (b.toNat : Int)))
    (h : K (.int .u8 ((a ^^^ b).toNat : Int)) w) : OpW P N o e w K := by
  refine bin_run (v := .int .u8 ((a ^^^ b).toNat : Int)) hop hx hy ?_ h
  have hb : ∀ c : UInt8, BitVec.ofInt 8 (c.toNat : Int) = c.toBitVec := fun c => by
    rw [BitVec.ofInt_natCast]; apply BitVec.eq_of_toNat_eq; simp
  have ha := (a ^^^ b).toNat_lt
  have hr : Op.intBits .xor .u8 (a.toNat : Int) (b.toNat : Int) = pure (Value.int .u8 ((a ^^^ b).toNat : Int)) := by
    show (pure (Value.int .u8 (IntKind.u8.wrap ((BitVec.ofInt 8 (a.toNat : Int) ^^^ BitVec.ofInt 8 (b.toNat : Int) : BitVec 8).toNat : Int))) : Sem Value) = _
    rw [hb, hb, ← UInt8.toBitVec_xor]
    have : IntKind.u8.wrap (((a ^^^ b).toBitVec).toNat : Int) = ((a ^^^ b).toNat : Int) := by
      rw [IntKind.wrap_u8]
      show ((a ^^^ b).toNat : Int) % 256 = _
      omega
    rw [this]
  simp [binOp, hr]

theorem op_slice (T : Types P) {x : Operand} {lo hi : Option Operand} {t el : TypeId} {A : Option Addr} {n c : Nat} {j : TInfo} {l h' : Nat}
    (hop : o.op = .slice t x lo hi none) (hx : ev e x = some (.slice A n c)) (ht : T.d t = some (.slice el)) (hel : T.tbl el = some j)
    (hlo : (match lo with | none => l = 0 | some y => ∃ k, ev e y = some (.int k (l : Int)))) (hhi : (match hi with | none => h' = n | some y => ∃ k, ev e y = some (.int k (h' : Int))))
    (h0 : l ≤ h') (h1 : h' ≤ c) (h : K (.slice (if c = l then A else A.map (·.add (l * j.size))) (h' - l) (c - l)) w) : OpW P N o e w K := by
  obtain ⟨q, hq, _, hs, _⟩ := T.inf el j hel
  refine OpW_run (fun a ha => ?_) h
  cases lo with
  | none =>
    cases hi with
    | none => subst hlo; subst hhi; simp [execOp, hop, ha.ev hx, Instr.sliceAt, Instr.slice, Instr.sliceBounds, run_underlying (T.und' ht), sizeOf, typeInfo, hq, hs]
    | some z =>
      obtain ⟨k, hz⟩ := hhi
      subst hlo
      simp [execOp, hop, ha.ev hx, ha.ev hz, Instr.sliceAt, Instr.slice, Instr.sliceBounds, Instr.sliceBound, asIntOf, run_underlying (T.und' ht), sizeOf, typeInfo, hq, hs, h1]
  | some y =>
    obtain ⟨k, hy⟩ := hlo
    cases hi with
    | none => subst hhi; simp [execOp, hop, ha.ev hx, ha.ev hy, Instr.sliceAt, Instr.slice, Instr.sliceBounds, Instr.sliceBound, asIntOf, run_underlying (T.und' ht), sizeOf, typeInfo, hq, hs, h0]
    | some z =>
      obtain ⟨k', hz⟩ := hhi
      simp [execOp, hop, ha.ev hx, ha.ev hy, ha.ev hz, Instr.sliceAt, Instr.slice, Instr.sliceBounds, Instr.sliceBound, asIntOf, run_underlying (T.und' ht), sizeOf, typeInfo, hq, hs, h0, h1]

/-! ### Memory -/
def isAggD : TypeDesc → Bool
  | .struct _ | .array _ _ => true
  | _ => false

def aggI (i : TInfo) : Bool := i.fields.isSome || isAggD i.desc
theorem run_isAgg (T : Types P) {t : TypeId} {i : TInfo} (ht : T.tbl t = some i) (w : World) : (isAgg t).run P w = .ok (aggI i) w := by
  have := (T.good t i ht).1
  unfold isAgg aggI
  cases hf : i.fields with
  | some l =>
    rw [hf] at this
    obtain ⟨fs, hu, _⟩ := this
    simp [run_underlying hu]
  | none =>
    rw [hf] at this
    simp only at this
    cases hd : i.desc <;> rw [hd] at this <;> simp [run_underlying this, isAggD]

theorem op_load (T : Types P) {x : Operand} {t : TypeId} {d : TInfo} {ad : Addr} {v : Value}
    (hop : o.op = .load t x) (hx : ev e x = some (.pointer (some ad))) (ht : T.tbl t = some d) (hd : aggI d = false) (hc : w.cell? ad = some v) (h : K v w) : OpW P N o e w K := by
  refine OpW_run (fun a ha => ?_) h
  have hg := run_isAgg T ht w
  rw [hd] at hg
  simp [execOp, hop, ha.ev hx, Instr.loadAt, Instr.sureAddr, loadVar, hg, load, Sem.run, hc]
end

/-! ### Entering a function -/
def argEnv : Nat → List Value → Env
  | _, [] => []
  | i, v :: l => (i, v) :: argEnv (i + 1) l
theorem look_argEnv : ∀ (l : List Value) (i t : Nat) (v : Value), look (argEnv i l) t = some v → i ≤ t ∧ l[t - i]? = some v
  | [], i, t, v, h => by simp [argEnv, look] at h
  | u :: l, i, t, v, h => by
    simp only [argEnv, look] at h
    split at h
    · rename_i hk
      have : i = t := Nat.eq_of_beq_eq_true hk
      subst this
      exact ⟨Nat.le_refl _, by simpa using h⟩
    · obtain ⟨h1, h2⟩ := look_argEnv l (i + 1) t v h
      refine ⟨by omega, ?_⟩
      have : t - i = (t - (i + 1)) + 1 := by omega
      rw [this]; simpa using h2

def PostF (P : Program) (fn : Func) (R : Value → World → Prop) : Post
  | .normal, e, w => ∃ v, (∀ N a, Fits N e a → (results fn a.tmps).run P w = .ok v w) ∧ R v w
  | .ret, e, w => ∃ v, (∀ N a, Fits N e a → (results fn a.tmps).run P w = .ok v w) ∧ R v w
  | _, _, _ => False

/-- Function n may be called; called so, in w, it returns a v and leaves a w' with R v w'. -/
def Has (P : Program) (n : FuncId) (args : Array Value) (w : World) (R : Value → World → Prop) : Prop :=
  (∃ fn, P.funcs[n]? = some fn ∧ fn.body.isNone = false ∧ (fn.name == "runtime.NumGoroutine") = false) ∧ Calls P n args w (fun x w' => ∃ v, x = .returned v ∧ R v w')

theorem Has.mono {P : Program} {n : FuncId} {args : Array Value} {w : World} {R R' : Value → World → Prop} (h : Has P n args w R) (hr : ∀ v w', R v w' → R' v w') : Has P n args w R' :=
  ⟨h.1, h.2.mono fun _ _ ⟨v, he, hv⟩ => ⟨v, he, hr v _ hv⟩⟩

theorem enter {P : Program} {n N : Nat} {fn : Func} {c : Code} {args : Array Value} {e : Env} {w : World} {R : Value → World → Prop}
    (hf : P.funcs[n]? = some fn) (hb : fn.body = some c) (hn : fn.ntmps = N) (hnm : (fn.name == "runtime.NumGoroutine") = false) (hN : Nat.ble args.size N = true) (he : SubL (argEnv 0 args.toList) e)
    (h : W P N c (PostF P fn R) e w) : Has P n args w R := by
  have hN' : args.size ≤ N := Nat.le_of_ble_eq_true hN
  unfold W at h
  refine ⟨⟨fn, hf, by simp [hb], hnm⟩, calls_of_wp hf hb (wp_mono (h ⟨args ++ Array.replicate (fn.ntmps - args.size) undef, []⟩ ?_) ?_)⟩
  · refine Fits.sub ⟨by simp [hn]; omega, rfl, fun t v hv => ?_⟩ he
    obtain ⟨_, h2⟩ := look_argEnv _ _ _ _ hv
    have hlt : t < args.size := by simpa using (List.getElem?_eq_some_iff.1 h2).1
    simp [Array.getElem?_append, hlt] at h2 ⊢
    exact h2
  · rintro x a w ⟨e', hfit, hq⟩
    cases x with
    | normal => obtain ⟨v, hr, hR⟩ := hq; exact ⟨hfit.defers, v, hr _ _ hfit, v, rfl, hR⟩
    | ret => obtain ⟨v, hr, hR⟩ := hq; exact ⟨hfit.defers, v, hr _ _ hfit, v, rfl, hR⟩
    | _ => exact hq.elim

section
variable {P : Program} {fn : Func} {R : Value → World → Prop} {e : Env} {w : World} {x : Exit}
theorem post0 (hx : x = .ret ∨ x = .normal) (h : fn.results = #[]) (hR : R (.tuple #[]) w) : PostF P fn R x e w := by
  rcases hx with rfl | rfl <;> exact ⟨_, fun N a _ => results_none h _ P w, hR⟩
theorem post1 {t : Tmp} {v : Value} (hx : x = .ret ∨ x = .normal) (h : fn.results = #[.tmp t]) (hv : look e t = some v) (hR : R v w) : PostF P fn R x e w := by
  have : ∀ N a, Fits N e a → (results fn a.tmps).run P w = .ok v w := fun N a ha => by
    have := ha.look t v hv
    rw [results_tmp h]; simp [Array.getD_eq_getD_getElem?, this]
  rcases hx with rfl | rfl <;> exact ⟨_, this, hR⟩
theorem post2 {t u : Tmp} {v v' : Value} (hx : x = .ret ∨ x = .normal) (h : fn.results = #[.tmp t, .tmp u]) (hv : look e t = some v) (hv' : look e u = some v') (hR : R (.tuple #[v, v']) w) : PostF P fn R x e w := by
  have : ∀ N a, Fits N e a → (results fn a.tmps).run P w = .ok (.tuple #[v, v']) w := fun N a ha => by
    have h1 := ha.look t v hv
    have h2 := ha.look u v' hv'
    rw [results_tmp2 h]; simp [Array.getD_eq_getD_getElem?, h1, h2]
  rcases hx with rfl | rfl <;> exact ⟨_, this, hR⟩
end
attribute [irreducible] PostF
end Go.Vc
