import Derived.Test.YtbhnplghnhafiaaDoorNumM
import Derived.Lib.AppendStr
import Derived.OwnWalk
/-! Steps on numbers without a sign; bytes of the call's own that grow; parts of slices and texts. -/
set_option linter.unusedVariables false
set_option linter.unusedSimpArgs false
namespace Go.Vc
open Go
theorem wrap_nat {k : IntKind} (hk : k.signed = false) {n : Nat} (h : n < 2 ^ k.bits) : k.wrap (n : Int) = n := by
  unfold IntKind.wrap
  rw [hk]
  simp only [Bool.false_and, Bool.false_eq_true, ↓reduceIte]
  have : (2 : Int) ^ k.bits = ((2 ^ k.bits : Nat) : Int) := by norm_cast
  rw [this, ← Int.natCast_emod, Nat.mod_eq_of_lt h]
theorem wrap_nat_mod {k : IntKind} (hk : k.signed = false) (n : Nat) : k.wrap (n : Int) = ((n % 2 ^ k.bits : Nat) : Int) := by
  unfold IntKind.wrap
  rw [hk]
  simp only [Bool.false_and, Bool.false_eq_true, ↓reduceIte]
  have : (2 : Int) ^ k.bits = ((2 ^ k.bits : Nat) : Int) := by norm_cast
  rw [this, ← Int.natCast_emod]
theorem ofInt_nat {b n : Nat} (h : n < 2 ^ b) : (BitVec.ofInt b (n : Int)).toNat = n := by
  rw [BitVec.ofInt_natCast, BitVec.toNat_ofNat, Nat.mod_eq_of_lt h]
section
variable {P : Program} {N : Nat} {e : Env} {w : World} {o : Oper} {K : Value → World → Prop}
section
variable {x y : Operand} {t ty : TypeId} {k : IntKind} {a b : Nat}
theorem op_or_nat (hk : k.signed = false) (ha : a < 2 ^ k.bits) (hb : b < 2 ^ k.bits) (hop : o.op = .binOp .or t x y ty) (hx : ev e x = some (.int k (a : Int))) (hy : ev e y = some (.int k (b : Int))) (h : K (.int k ((a ||| b : Nat) : Int)) w) : OpW P N o e w K :=
  op_or hop hx hy (by rw [BitVec.toNat_or, ofInt_nat ha, ofInt_nat hb]; exact wrap_nat hk (Nat.or_lt_two_pow ha hb)) h
theorem op_and_nat (hk : k.signed = false) (ha : a < 2 ^ k.bits) (hb : b < 2 ^ k.bits) (hop : o.op = .binOp .and t x y ty) (hx : ev e x = some (.int k (a : Int))) (hy : ev e y = some (.int k (b : Int))) (h : K (.int k ((a &&& b : Nat) : Int)) w) : OpW P N o e w K :=
  op_and hop hx hy (by rw [BitVec.toNat_and, ofInt_nat ha, ofInt_nat hb]; exact wrap_nat hk (Nat.and_lt_two_pow _ hb)) h
theorem op_xor_nat (hk : k.signed = false) (ha : a < 2 ^ k.bits) (hb : b < 2 ^ k.bits) (hop : o.op = .binOp .xor t x y ty) (hx : ev e x = some (.int k (a : Int))) (hy : ev e y = some (.int k (b : Int))) (h : K (.int k ((a ^^^ b : Nat) : Int)) w) : OpW P N o e w K :=
  op_xor hop hx hy (by rw [BitVec.toNat_xor, ofInt_nat ha, ofInt_nat hb]; exact wrap_nat hk (Nat.xor_lt_two_pow ha hb)) h
theorem op_shr_nat {k' : IntKind} {s : Nat} (hs : s ≤ k.bits) (hop : o.op = .binOp .shr t x y ty) (hx : ev e x = some (.int k (a : Int))) (hy : ev e y = some (.int k' (s : Int))) (h : K (.int k ((a / 2 ^ s : Nat) : Int)) w) : OpW P N o e w K :=
  op_shr hop hx hy (by omega) (by
    rw [Int.toNat_natCast, Nat.min_eq_left hs]
    have : (2 : Int) ^ s = ((2 ^ s : Nat) : Int) := by norm_cast
    rw [this]; exact (Int.ofNat_fdiv a (2 ^ s)).symm) h
theorem op_shl_nat {k' : IntKind} {s : Nat} (hk : k.signed = false) (hs : s ≤ k.bits) (hop : o.op = .binOp .shl t x y ty) (hx : ev e x = some (.int k (a : Int))) (hy : ev e y = some (.int k' (s : Int))) (h : K (.int k ((a * 2 ^ s % 2 ^ k.bits : Nat) : Int)) w) : OpW P N o e w K :=
  op_shl hop hx hy (by omega) (by
    rw [Int.toNat_natCast, Nat.min_eq_left hs]
    have : (a : Int) * (2 : Int) ^ s = ((a * 2 ^ s : Nat) : Int) := by norm_cast
    rw [this]; exact wrap_nat_mod hk _) h
theorem op_convert_nat (T : Types P) {s : TypeId} {k' : IntKind} {ds : TypeDesc} (hk : k.signed = false) (hop : o.op = .convert s t x) (hx : ev e x = some (.int k' (a : Int))) (hs : T.d s = some ds) (ht : T.d t = some (.int k)) (h : K (.int k ((a % 2 ^ k.bits : Nat) : Int)) w) : OpW P N o e w K :=
  op_convert_int T hop hx hs ht (wrap_nat_mod hk a) h
theorem op_convert_fit (T : Types P) {s : TypeId} {k' : IntKind} {m : Int} {ds : TypeDesc} (hop : o.op = .convert s t x) (hx : ev e x = some (.int k' m)) (hs : T.d s = some ds) (ht : T.d t = some (.int k)) (hr : k.wrap m = m) (h : K (.int k m) w) : OpW P N o e w K :=
  op_convert_int T hop hx hs ht hr h
end
/-- A part of a text. -/
theorem op_slice_str (T : Types P) {x y z : Operand} {t : TypeId} {l h' : Nat} {s : List UInt8} {k k' : IntKind} (hop : o.op = .slice t x (some y) (some z) none) (hx : ev e x = some (.string (str s))) (ht : T.d t = some .string) (hy : ev e y = some (.int k (l : Int))) (hz : ev e z = some (.int k' (h' : Int)))
    (h0 : l ≤ h') (h1 : h' ≤ s.length) (h : K (.string (str ((s.take h').drop l))) w) : OpW P N o e w K := by
  refine OpW_run (fun a ha => ?_) h
  have hsz : (str s).size = s.length := str_size s
  have hex : (str s).extract l h' = str ((s.take h').drop l) := by
    apply ByteArray.ext
    apply Array.ext'
    simp [str, ByteArray.data_extract, List.extract_eq_take_drop, List.drop_take]
  simp [execOp, hop, ha.ev hx, ha.ev hy, ha.ev hz, Instr.sliceAt, Instr.slice, Instr.sliceBounds, Instr.sliceBound, asIntOf, run_underlying (T.und' ht), hsz, h0, h1, hex]
theorem op_slice_strTo (T : Types P) {x z : Operand} {t : TypeId} {h' : Nat} {s : List UInt8} {k' : IntKind} (hop : o.op = .slice t x none (some z) none) (hx : ev e x = some (.string (str s))) (ht : T.d t = some .string) (hz : ev e z = some (.int k' (h' : Int)))
    (h1 : h' ≤ s.length) (h : K (.string (str (s.take h'))) w) : OpW P N o e w K := by
  refine OpW_run (fun a ha => ?_) h
  have hsz : (str s).size = s.length := str_size s
  have hex : (str s).extract 0 h' = str (s.take h') := by
    apply ByteArray.ext
    apply Array.ext'
    simp [str, ByteArray.data_extract, List.extract_eq_take_drop, List.drop_take]
  simp [execOp, hop, ha.ev hx, ha.ev hz, Instr.sliceAt, Instr.slice, Instr.sliceBounds, Instr.sliceBound, asIntOf, run_underlying (T.und' ht), hsz, h1, hex]
/-- A part of a slice of one-cell elements. -/
theorem op_cut (T : Types P) {α : Type} {R : World → Value → α → Prop} {L : List α} {x : Operand} {lo hi : Option Operand} {t el : TypeId} {A : Option Addr} {n c : Nat} {j : TInfo} {l h' : Nat}
    (hop : o.op = .slice t x lo hi none) (hx : ev e x = some (.slice A n c)) (ht : T.d t = some (.slice el)) (hel : T.tbl el = some j) (hj : Nat.beq j.size 1 = true)
    (hlo : (match lo with | none => l = 0 | some y => ∃ k, ev e y = some (.int k (l : Int)))) (hhi : (match hi with | none => h' = n | some y => ∃ k, ev e y = some (.int k (h' : Int))))
    (hl : SliceOf R w (.slice A n c) L) (h0 : l ≤ h') (h1 : h' ≤ L.length)
    (h : ∀ A', (∀ w1, SliceOf R w1 (.slice A n c) L → SliceOf R w1 (.slice A' (h' - l) (c - l)) ((L.take h').drop l)) → K (.slice A' (h' - l) (c - l)) w) : OpW P N o e w K := by
  have hs : j.size = 1 := Nat.eq_of_beq_eq_true hj
  obtain ⟨rfl, h3, h4⟩ := hl.len
  refine op_slice T hop hx ht hel hlo hhi h0 (by omega) ?_
  rw [hs]
  exact h _ (fun w1 hl1 => hl1.cut h0 h1)
end
/-- Bytes that were made since w0. -/
structure MadeB (t : TypeId) (w0 w : World) (v : Value) (l : List UInt8) : Prop where
  chg : Chg [] w0 w
  own : Own w t 1 v l.length (u8s l)
  fresh : ∀ h, v.ownBlock = some h → w0.heap.size ≤ h
section
variable {t : TypeId} {w0 w w' : World} {v : Value} {l : List UInt8}
theorem MadeB.keep0 (h : MadeB t w0 w v l) (hc : Chg [] w w') : MadeB t w0 w' v l := ⟨h.chg.trans' hc, h.own.keep0 hc, h.fresh⟩
theorem MadeB.base {w1 : World} (h : MadeB t w0 w v l) (hc : Chg [] w1 w0) : MadeB t w1 w v l := ⟨hc.trans' h.chg, h.own, fun k hk => by have := h.fresh k hk; have := hc.size; omega⟩
theorem MadeB.reads (h : MadeB t w0 w v l) : SliceOf Ru8 w v l := h.own.bytes
theorem MadeB.nil (t : TypeId) (w : World) : MadeB t w w (.slice none 0 0) [] := ⟨Chg.refl _ _, Own.nil _ _ _, fun h hh => by simp [Value.ownBlock] at hh⟩
theorem MadeB.form (h : MadeB t w0 w v l) : ∃ A c, v = .slice A l.length c ∧ l.length ≤ c ∧ c ≤ maxLen := h.own.form
theorem MadeB.sub (h : MadeB t w0 w v l) {k : Nat} (hk : k < w0.heap.size) : ∀ g, v.ownBlock = some g → g ≠ k := fun g hg => by have := h.fresh g hg; omega
end
section
variable {P : Program} {N : Nat} {e : Env} {w0 w : World} {o : Oper} {K : Value → World → Prop}
/-- append(v, b...), v bytes that were made since w0, b any bytes. -/
theorem op_appB (T : Types P) {x y : Operand} {t el : TypeId} {d : TInfo} {v : Value} {A : Option Addr} {m c : Nat} {l M : List UInt8} {ts : Array TypeId}
    (hop : o.op = .call { callee := .builtin .append, args := #[x, y], argTypes := ts }) (hts : ts = #[t, t]) (hx : ev e x = some v) (hy : ev e y = some (.slice A m c)) (ht : T.d t = some (.slice el)) (hel : T.tbl el = some d)
    (hz : Nat.beq d.zero.cells.size d.size = true) (hsz : Nat.beq d.size 1 = true) (hby : Nat.ble d.bytes 1000 = true)
    (hm : MadeB el w0 w v l) (hs : SliceOf Ru8 w (.slice A m c) M) (hlen : l.length + M.length < 100000000000)
    (h : ∀ v' w1, MadeB el w0 w1 v' (l ++ M) → Chg v.ownBlock.toList w w1 → (v'.ownBlock = v.ownBlock ∨ ∃ g, v'.ownBlock = some g ∧ w.heap.size ≤ g) → K v' w1) : OpW P N o e w K := by
  obtain ⟨rfl, _, _⟩ := hs.len
  have hsz' : d.size = 1 := Nat.eq_of_beq_eq_true hsz
  have hby' : d.bytes ≤ 1000 := Nat.le_of_ble_eq_true hby
  have hmul : (l.length + M.length) * d.bytes ≤ 100000000000 * 1000 := Nat.mul_le_mul (by omega) hby'
  refine op_append T (n := l.length) (xs := u8s l) (m := M.length) (news := u8s M) hop hts hx hy ht hel hz (by rw [hsz']; rfl) (by rw [hsz']; exact hm.own) (by rw [u8s_length, hsz', Nat.mul_one]) ?_ (by unfold maxLen; omega) (by omega) ?_
  · intro j u hu
    obtain ⟨x, hx, rfl⟩ := u8s_inv hu
    obtain ⟨ad', u', he, hu', rfl⟩ := hs.get hx
    exact ⟨⟨ad', he, hu'⟩, rfl⟩
  · intro v' w1 ho hc hb _
    rw [hsz'] at ho
    refine h v' w1 ⟨hm.chg.trans hc (fun k hk hlt => ?_), by rw [List.length_append, u8s_append]; exact ho, fun g hg => ?_⟩ hc hb
    · have := hm.fresh k (by simpa using hk); omega
    · rcases hb with hb | ⟨g', hb, hge⟩
      · exact hm.fresh g (by rw [← hb]; exact hg)
      · rw [hb] at hg; injection hg with hg; have := hm.chg.size; omega
/-- append(v, s...), s a text. -/
theorem op_appS (T : Types P) {x y : Operand} {t u el : TypeId} {d : TInfo} {v : Value} {l s : List UInt8} {ts : Array TypeId}
    (hop : o.op = .call { callee := .builtin .append, args := #[x, y], argTypes := ts }) (hts : ts = #[t, u]) (hx : ev e x = some v) (hy : ev e y = some (.string (str s))) (ht : T.d t = some (.slice el)) (hu : T.d u = some .string) (hel : T.tbl el = some d)
    (hz : d.zero = .int .u8 0) (hsz : Nat.beq d.size 1 = true) (hby : Nat.beq d.bytes 1 = true)
    (hm : MadeB el w0 w v l) (hlen : l.length + s.length < 100000000000)
    (h : ∀ v' w1, MadeB el w0 w1 v' (l ++ s) → Chg v.ownBlock.toList w w1 → K v' w1) : OpW P N o e w K := by
  subst hts
  obtain ⟨q, hq, hzq, hs, hb⟩ := T.inf el d hel
  have hsz' : d.size = 1 := Nat.eq_of_beq_eq_true hsz
  have hby' : d.bytes = 1 := Nat.eq_of_beq_eq_true hby
  have hown : w.ownsRow w0.heap.size el 1 v l.length (u8s l) := by
    have ho := hm.own
    unfold Own at ho
    refine ⟨ho.1, ?_⟩
    rcases ho.2 with h2 | ⟨g, cap, cur, rfl, _, hg, rest⟩
    · exact .inl h2
    · exact .inr ⟨g, cap, cur, rfl, hm.fresh g rfl, hg, rest⟩
  have e1 : Lib.strCells (str s) = u8s s := by simp [Lib.strCells, str, u8s]
  obtain ⟨v', w1, hr, ho, hc, _⟩ := Lib.run_append_own_string (P := P) w w0.heap.size t u o.type el q (T.und' ht) (T.und' hu) hq (by rw [hzq, hz]) (by rw [hs, hsz']) (by rw [hb, hby']) v l.length (u8s l) hown (str s) (by rw [str_size]; unfold maxLen; omega) (by rw [str_size]; omega) hm.chg.size
  rw [e1, str_size] at ho
  have hc' := Chg.of_grown hc
  refine OpW_run (v := v') (w' := w1) (fun a ha => ?_) (h v' w1 ⟨hm.chg.trans hc' (fun k hk hlt => ?_), ?_, fun g hg => ?_⟩ hc')
  · simp [execOp, hop, resolve, invoke, builtin, ha.ev hx, ha.ev hy, hr]
  · have := hm.fresh k (by simpa using hk); omega
  · unfold Own
    rw [List.length_append, u8s_append]
    refine ⟨ho.1, ?_⟩
    rcases ho.2 with h2 | ⟨g, cap, cur, hv, _, hg, rest⟩
    · exact .inl h2
    · exact .inr ⟨g, cap, cur, hv, Nat.zero_le _, hg, rest⟩
  · rcases ho.2 with ⟨rfl, _⟩ | ⟨g', cap, cur, rfl, hge, _⟩
    · simp [Value.ownBlock] at hg
    · simp [Value.ownBlock] at hg; omega
end
theorem post3 {P : Program} {fn : Func} {R : Value → World → Prop} {e : Env} {w : World} {x : Exit} {t u s : Tmp} {v v' v'' : Value} (hx : x = .ret ∨ x = .normal) (h : fn.results = #[.tmp t, .tmp u, .tmp s]) (hv : look e t = some v) (hv' : look e u = some v') (hv'' : look e s = some v'') (hR : R (.tuple #[v, v', v'']) w) : PostF P fn R x e w := by
  have : ∀ N a, Fits N e a → (results fn a.tmps).run P w = .ok (.tuple #[v, v', v'']) w := fun N a ha => by
    have h1 := ha.look t v hv
    have h2 := ha.look u v' hv'
    have h3 := ha.look s v'' hv''
    rw [results_tmp3 h]; simp [Array.getD_eq_getD_getElem?, h1, h2, h3]
  unfold PostF
  rcases hx with rfl | rfl <;> exact ⟨_, this, hR⟩
theorem MadeB.firm {t : TypeId} {w0 w : World} {v : Value} {l : List UInt8} (h : MadeB t w0 w v l) {S : List Nat} (hS : ∀ k ∈ S, k < w0.heap.size) : Firm S w (fun w => SliceOf Ru8 w v l) := fun w1 hc =>
  (h.own.keep hc (fun g hg hm => by have := hS g hm; have := h.fresh g hg; omega)).bytes
end Go.Vc
