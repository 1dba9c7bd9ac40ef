import Derived.Test.YtbhnplghnhafiaaDoorVcDraw
import Derived.Lib.SliceRun
import Derived.Lib.ConvBytes
import Derived.Lib.SmallJoins
/-! More steps: nil, strings, conversions, copy. -/
set_option linter.unusedSimpArgs false
set_option linter.unusedVariables false
namespace Go.Vc
open Go Go.RowKit

theorem some_int {k : IntKind} {a b : Int} (h : a = b) : some (Value.int k a) = some (Value.int k b) := by rw [h]
theorem some_bool {a b : Bool} (h : a = b) : some (Value.bool a) = some (Value.bool b) := by rw [h]
theorem some_str {a b : ByteArray} (h : a = b) : some (Value.string a) = some (Value.string b) := by rw [h]

/-- A text of these bytes. -/
def str (l : List UInt8) : ByteArray := ⟨l.toArray⟩
theorem str_inj {a b : List UInt8} : str a = str b ↔ a = b := by
  constructor
  · intro h; have := congrArg (fun s : ByteArray => s.data.toList) h; simpa [str] using this
  · rintro rfl; rfl
theorem str_size (l : List UInt8) : (str l).size = l.length := by simp [str, ByteArray.size]
theorem str_toList (l : List UInt8) : (str l).toList = l := ByteArray.toList_mk l
theorem str_data (s : ByteArray) : str s.data.toList = s := by cases s; simp [str]
theorem str_of (s : ByteArray) : ∃ l, s = str l := ⟨s.data.toList, (str_data s).symm⟩

section
variable {P : Program} {N : Nat} {e : Env} {w : World} {o : Oper} {K : Value → World → Prop}

theorem bin_run' {x y : Operand} {t ty : TypeId} {op : BinOp} {u u' v : Value} (hop : o.op = .binOp op t x y ty) (hx : ev e x = some u) (hy : ev e y = some u')
    (hg : ∀ w, (eqGuard op t x y u u').run P w = .ok () w) (hr : (binOp op t u u').run P w = .ok v w) (h : K v w) : OpW P N o e w K :=
  OpW_run (fun a ha => by simp [execOp, hop, ha.ev hx, ha.ev hy, hg, hr]) h

theorem op_eql_nil (T : Types P) {x y : Operand} {t ty el : TypeId} {A : Option Addr} {n c n' c' : Nat} (hop : o.op = .binOp .eql t x y ty) (hx : ev e x = some (.slice A n c)) (hy : ev e y = some (.slice none n' c')) (ht : T.d t = some (.slice el))
    (h1 : A = none → K (.bool true) w) (h2 : ∀ ad, A = some ad → K (.bool false) w) : OpW P N o e w K := by
  have hr := Lib.run_eql_slice_nil (P := P) w t el A n c n' c' (T.und' ht)
  cases A with
  | none => exact bin_run' hop hx hy (fun w => by simp [eqGuard]) hr (h1 rfl)
  | some ad => exact bin_run' hop hx hy (fun w => by simp [eqGuard]) hr (h2 ad rfl)

section
variable {x y : Operand} {t ty : TypeId} {a b : List UInt8}
theorem op_str_eql (hop : o.op = .binOp .eql t x y ty) (hx : ev e x = some (.string (str a))) (hy : ev e y = some (.string (str b))) (h1 : a = b → K (.bool true) w) (h2 : a ≠ b → K (.bool false) w) : OpW P N o e w K := by
  by_cases h : a = b
  · exact bin_run' hop hx hy (fun w => by simp [eqGuard]) (by simp [binOp, Op.stringOp, str_toList, h]) (h1 h)
  · exact bin_run' hop hx hy (fun w => by simp [eqGuard]) (by simp [binOp, Op.stringOp, str_toList, h]) (h2 h)
theorem op_str_neq (hop : o.op = .binOp .neq t x y ty) (hx : ev e x = some (.string (str a))) (hy : ev e y = some (.string (str b))) (h1 : a ≠ b → K (.bool true) w) (h2 : a = b → K (.bool false) w) : OpW P N o e w K := by
  by_cases h : a = b
  · exact bin_run' hop hx hy (fun w => by simp [eqGuard]) (by simp [binOp, Op.stringOp, str_toList, h]) (h2 h)
  · exact bin_run' hop hx hy (fun w => by simp [eqGuard]) (by simp [binOp, Op.stringOp, str_toList, h]) (h1 h)
end

theorem foldl_push (l : List UInt8) : ∀ r : ByteArray, ((l.map fun c => (c.toNat : Int)).foldl (fun r n => r.push (UInt8.ofNat n.toNat)) r) = r ++ str l := by
  induction l with
  | nil => intro r; apply ByteArray.ext; simp [str]
  | cons c l ih =>
    intro r
    simp only [List.map_cons, List.foldl_cons, ih]
    apply ByteArray.ext
    have : UInt8.ofNat ((c.toNat : Int)).toNat = c := by simp
    simp [str, this]

/-- string(b) of bytes that read as l. -/
theorem op_string (T : Types P) {x : Operand} {src dst el : TypeId} {A : Option Addr} {n c : Nat} {l : List UInt8}
    (hop : o.op = .convert src dst x) (hx : ev e x = some (.slice A n c)) (hs : T.d src = some (.slice el)) (he : T.d el = some (.int .u8)) (hd : T.d dst = some .string)
    (hl : SliceOf Ru8 w (.slice A n c) l) (h : K (.string (str l)) w) : OpW P N o e w K := by
  obtain ⟨rfl, h1, h2⟩ := hl.len
  refine OpW_run (fun a ha => ?_) h
  have hconv := run_convert_bytes_string (P := P) w src dst el A l.length c (T.und' hs) (T.und' he) (T.und' hd)
  cases A with
  | none =>
    have : l = [] := by
      cases l with
      | nil => rfl
      | cons c l => obtain ⟨ad, u, he, _⟩ := hl.get (i := 0) (x := c) rfl; cases he
    subst this
    simp only [List.length_nil] at hconv
    simp [execOp, hop, ha.ev hx, hconv, Conv.bytesToString]
    rfl
  | some ad =>
    have hcell : ∀ j v, ((l.map fun c => (c.toNat : Int)).map (Value.int .u8))[j]? = some v → w.cell? (ad.add j) = some v := by
      intro j v hv
      rw [List.map_map, List.getElem?_map] at hv
      cases hlj : l[j]? with
      | none => simp [hlj] at hv
      | some c =>
        simp [hlj] at hv
        subst hv
        obtain ⟨ad', u, he, hu, hr⟩ := hl.get hlj
        injection he with he
        subst he
        rw [hu, hr]
    have hload := run_loadCells_list (P := P) w ad _ hcell
    rw [List.length_map, List.length_map] at hload
    have hb := run_bytesToString (P := P) w ad l.length c (l.map fun c => (c.toNat : Int)) hload
    rw [foldl_push] at hb
    simp [execOp, hop, ha.ev hx, hconv, hb]

/-- []byte(s). -/
theorem op_bytes (T : Types P) {x : Operand} {src dst el : TypeId} {l : List UInt8} {d : TypeDesc}
    (hop : o.op = .convert src dst x) (hx : ev e x = some (.string (str l))) (hs : T.d src = some d) (he : T.d el = some (.int .u8)) (hd : T.d dst = some (.slice el)) (hl : l.length ≤ maxLen)
    (h : ∀ v w1, Chg [] w w1 → SliceOf Ru8 w1 v l → K v w1) : OpW P N o e w K := by
  have hconv := Lib.run_convert_string_bytes (P := P) w src dst el (str l) (T.und' hs) (T.und' hd) (T.und' he)
  have hnew := Lib.bytesWorld_at_new w el (str l)
  have hchg : Chg [] w (Lib.bytesWorld w el (str l)) := ⟨rfl, rfl, rfl, by
    have := (Array.getElem?_eq_some_iff.1 hnew).1; omega, fun k hk _ => Lib.bytesWorld_at_old w el (str l) k hk⟩
  have hcap : l.length ≤ grownCap w (str l).size 0 el := by have := grownCap_ge w (str l).size 0 el; rw [str_size] at this; rw [str_size]; exact this
  refine OpW_run (fun a ha => by simp [execOp, hop, ha.ev hx, hconv]; exact ⟨rfl, rfl⟩) (h _ _ hchg (SliceOf.mk (by rw [str_size]) hcap (grownCap_le_maxLen w _ _ _ (by rw [str_size]; exact hl)) fun i c hc => ⟨_, _, rfl, ?_, rfl⟩))
  rw [add_plain, cell_of_row _ _ _ _ _ _ hnew]
  have hi := (List.getElem?_eq_some_iff.1 hc).1
  unfold Lib.bytesCells
  have hi' : i < ((str l).data.map fun b => Value.int .u8 b.toNat).size := by simpa [str] using hi
  rw [Array.getElem?_append_left hi']
  simp [str, hc]

/-- copy into a row of the call's own. -/
theorem op_copy (T : Types P) {x y : Operand} {t t' el : TypeId} {d : TInfo} {ts : Array TypeId} {g off n cp m c : Nat} {A : Option Addr} {cs news : List Value}
    (hop : o.op = .call { callee := .builtin .copy, args := #[x, y], argTypes := ts }) (hts : ts = #[t, t']) (hx : ev e x = some (.slice (some ⟨g, off, none⟩) n cp)) (hy : ev e y = some (.slice A m c))
    (ht : T.d t = some (.slice el)) (hel : T.tbl el = some d) (hd : Nat.beq d.size 1 = true) {tb : TypeId}
    (hg : Blk w g tb cs) (hl : news.length = min m n) (hfit : off + n ≤ cs.length) (hnews : ∀ j u, news[j]? = some u → (∃ ad, A = some ad ∧ w.cell? (ad.add j) = some u) ∧ u.oneCell' = true)
    (h : ∀ w1, Chg [g] w w1 → Blk w1 g tb (cs.take off ++ news ++ cs.drop (off + news.length)) → K (.int .i64 (min m n : Nat)) w1) : OpW P N o e w K := by
  subst hts
  obtain ⟨q, hq, hzq, hs, hb⟩ := T.inf el d hel
  have hd1 : d.size = 1 := Nat.eq_of_beq_eq_true hd
  have hsz : (P.info? el).map (·.size) = some 1 := by simp [hq, hs, hd1]
  have hmin : Nat.min m n = min m n := rfl
  cases A with
  | some ad =>
    have hmem : ∀ u ∈ news, u.oneCell' = true := fun u hu => by
      obtain ⟨j, hj⟩ := List.getElem?_of_mem hu
      exact (hnews j u hj).2
    have hcell : ∀ j u, news[j]? = some u → w.cell? (ad.add j) = some u := fun j u hj => by
      obtain ⟨⟨ad', he, hc⟩, _⟩ := hnews j u hj
      injection he with he; subst he; exact hc
    have hg' := hg
    unfold Blk at hg'
    have hr := run_copy_row (P := P) w t t' o.type el g off n cp ad m c cs.toArray tb news (T.und' ht) hsz hg' hl hcell (by rw [hl, List.size_toArray]; omega) hmem
    refine OpW_run (v := goInt news.length) (fun a ha => ?_) ?_ (w' := w.setRow g (cs.toArray.toList.take off ++ news ++ cs.toArray.toList.drop (off + news.length)).toArray)
    · simp [execOp, hop, resolve, invoke, builtin, ha.ev hx, ha.ev hy, hr]
    · have := h (w.setRow g (cs.toArray.toList.take off ++ news ++ cs.toArray.toList.drop (off + news.length)).toArray) ?_ ?_
      · have hgi : goInt (news.length : Int) = .int .i64 ((min m n : Nat) : Int) := by rw [hl]; rfl
        rw [hgi]; exact this
      · exact ⟨rfl, rfl, rfl, by simp, fun k _ hk => setRow_other w g k _ (by simpa using hk)⟩
      · unfold Blk
        exact setRow_heap w g cs.toArray _ tb _ hg'
  | none =>
    have hn0 : news = [] := by
      cases news with
      | nil => rfl
      | cons u us => obtain ⟨⟨ad', he, _⟩, _⟩ := hnews 0 u rfl; cases he
    subst hn0
    have hmn : min m n = 0 := by simpa using hl.symm
    refine OpW_run (v := goInt 0) (w' := w) (fun a ha => ?_) ?_
    · have h0 : Nat.min m n = 0 := hmn
      simp [execOp, hop, resolve, invoke, builtin, ha.ev hx, ha.ev hy, Builtin.copy_, run_underlying (T.und' ht), Builtin.lenOf, Builtin.firstCells, sizeOf, typeInfo, hq, h0, storeCells]
    · have := h w (Chg.refl _ _) (by simpa using hg)
      rw [hmn] at this; exact this
end

theorem SliceOf.take {α : Type} {R : World → Value → α → Prop} {w : World} {L : List α} {A : Option Addr} {n c k m : Nat} (h : SliceOf R w (.slice A n c) L) (hm : m = min k L.length) : SliceOf R w (.slice A m c) (L.take k) := by
  obtain ⟨hn, h1, h2⟩ := h.len
  refine SliceOf.mk (by rw [List.length_take]; omega) (by rw [List.length_take]; omega) h2 fun i x hx => ?_
  rw [List.getElem?_take] at hx
  split at hx
  · exact h.get hx
  · cases hx

/-! ### A slice of the call's own that holds L, each element by R; S: other blocks that may turn while it stays -/
def OwnOf {α : Type} (R : World → Value → α → Prop) (t : TypeId) (S : List Nat) (w : World) (v : Value) (L : List α) : Prop :=
  ∃ vs, Own w t 1 v L.length vs ∧ ∀ (i : Nat) x u, L[i]? = some x → vs[i]? = some u → Firm (v.ownBlock.toList ++ S) w (fun w => R w u x)
section
variable {α : Type} {R : World → Value → α → Prop} {t : TypeId} {S S' : List Nat} {w w' : World} {v : Value} {L : List α}
theorem OwnOf.nil (R : World → Value → α → Prop) (t : TypeId) (S : List Nat) (w : World) : OwnOf R t S w (.slice none 0 0) [] := ⟨[], Own.nil _ _ _, fun i x u h => by simp at h⟩
theorem OwnOf.keep0 (h : OwnOf R t S w v L) (hc : Chg [] w w') : OwnOf R t S w' v L :=
  let ⟨vs, h1, h2⟩ := h
  ⟨vs, h1.keep0 hc, fun i x u hx hu => (h2 i x u hx hu).step0 hc⟩
theorem OwnOf.keep (h : OwnOf R t S w v L) (hc : Chg S' w w') (hs : ∀ k ∈ S', k < w.heap.size → k ∈ S) (hv : ∀ g, v.ownBlock = some g → g ∉ S') : OwnOf R t S w' v L :=
  let ⟨vs, h1, h2⟩ := h
  ⟨vs, h1.keep hc hv, fun i x u hx hu => (h2 i x u hx hu).step hc (fun k hk hlt => by simp [hs k hk hlt])⟩
theorem OwnOf.more (h : OwnOf R t S w v L) (hs : ∀ k ∈ S', k < w.heap.size → k ∈ S) : OwnOf R t S' w v L :=
  let ⟨vs, h1, h2⟩ := h
  ⟨vs, h1, fun i x u hx hu => (h2 i x u hx hu).more (fun k hk hlt => by
    rcases List.mem_append.1 hk with hk | hk
    · simp [hk]
    · simp [hs k hk hlt])⟩
theorem OwnOf.reads (h : OwnOf R t S w v L) : SliceOf R w v L :=
  let ⟨_, h1, h2⟩ := h
  h1.reads rfl fun i x u hx hu => (h2 i x u hx hu).now
theorem OwnOf.lt (h : OwnOf R t S w v L) {g : Nat} (hg : v.ownBlock = some g) : g < w.heap.size := let ⟨_, h1, _⟩ := h; h1.lt hg
theorem OwnOf.firm (h : OwnOf R t S w v L) (hv : ∀ g, v.ownBlock = some g → g ∉ S) : Firm S w (fun w => SliceOf R w v L) := fun w1 hc =>
  (h.keep hc (fun _ hk _ => hk) hv).reads
end

section
variable {P : Program} {N : Nat} {e : Env} {w : World} {o : Oper} {K : Value → World → Prop}
/-- append(v, u), v a slice of the call's own. -/
theorem op_push (T : Types P) {α : Type} {R : World → Value → α → Prop} {S : List Nat} {L : List α} {xa : α} {x y : Operand} {t el : TypeId} {d : TInfo} {v u : Value} {g c : Nat} {ts : Array TypeId}
    (hop : o.op = .call { callee := .builtin .append, args := #[x, y], argTypes := ts }) (hts : ts = #[t, t]) (hx : ev e x = some v) (hy : ev e y = some (.slice (some ⟨g, 0, none⟩) 1 c)) (ht : T.d t = some (.slice el)) (hel : T.tbl el = some d)
    (hz : Nat.beq d.zero.cells.size d.size = true) (hsz : Nat.beq d.size 1 = true)
    (hown : OwnOf R el S w v L) (hg : Blk w g el [u]) (hu1 : u.oneCell' = true) (hu : Firm (v.ownBlock.toList ++ S) w (fun w => R w u xa))
    (hlen : L.length < 1000000000) (hby : Nat.ble d.bytes 1000 = true)
    (h : ∀ v' w1, OwnOf R el S w1 v' (L ++ [xa]) → Chg v.ownBlock.toList w w1 → (v'.ownBlock = v.ownBlock ∨ ∃ g, v'.ownBlock = some g ∧ w.heap.size ≤ g) → K v' w1) : OpW P N o e w K := by
  obtain ⟨vs, h1, h2⟩ := hown
  have hsz' : d.size = 1 := Nat.eq_of_beq_eq_true hsz
  have hby' : d.bytes ≤ 1000 := Nat.le_of_ble_eq_true hby
  have hmul : (L.length + 1) * d.bytes ≤ 1000000000 * 1000 := Nat.mul_le_mul (by omega) hby'
  refine op_append T (m := 1) (news := [u]) hop hts hx hy ht hel hz (by rw [hsz']; rfl) (by rw [hsz']; exact h1) (by rw [hsz']; rfl) ?_ (by unfold maxLen; omega) (by omega) ?_
  · intro j u' hj
    cases j with
    | zero => simp at hj; subst hj; exact ⟨⟨_, rfl, by rw [add_plain]; exact hg.cell rfl⟩, hu1⟩
    | succ j => simp at hj
  · intro v' w1 ho hc hb _
    rw [hsz'] at ho
    have hvl : vs.length = L.length := by have := h1.length; omega
    refine h v' w1 ⟨vs ++ [u], by simpa using ho, fun i x' u' hx' hu' => ?_⟩ hc hb
    have hS : ∀ k ∈ v'.ownBlock.toList ++ S, k < w.heap.size → k ∈ v.ownBlock.toList ++ S := fun k hk hlt => by
      rcases List.mem_append.1 hk with hk | hk
      · rcases hb with hb | ⟨g', hb, hge⟩
        · rw [hb] at hk; simp [hk]
        · rw [hb] at hk; simp at hk; omega
      · simp [hk]
    have hstep : ∀ (φ : World → Prop), Firm (v.ownBlock.toList ++ S) w φ → Firm (v'.ownBlock.toList ++ S) w1 φ := fun φ hf w2 hc2 =>
      hf w2 ((hc.mono (fun k hk _ => by simp [hk])).trans (hc2.mono (fun k hk hlt => hk)) (fun k hk hlt => hS k hk hlt))
    by_cases hi : i < L.length
    · rw [List.getElem?_append_left hi] at hx'
      rw [List.getElem?_append_left (by omega)] at hu'
      exact hstep _ (h2 i x' u' hx' hu')
    · have hil : i = L.length := by
        have := (List.getElem?_eq_some_iff.1 hx').1
        simp at this; omega
      subst hil
      rw [List.getElem?_append_right (Nat.le_refl _)] at hx'
      rw [List.getElem?_append_right (by omega)] at hu'
      simp at hx'
      simp [hvl] at hu'
      subst hx'; subst hu'
      exact hstep _ hu
end
section
variable {P : Program} {N : Nat} {e : Env} {w : World} {o : Oper} {K : Value → World → Prop}
/-- A literal's row, marked as a text's: nothing of it turns. -/
theorem op_mark (T : Types P) {x : Operand} {t el : TypeId} {g n c : Nat} {cs : List Value}
    (hop : o.op = .convert t t x) (hx : ev e x = some (.slice (some ⟨g, 0, none⟩) n c)) (ht : T.d t = some (.slice el)) (he : T.d el = some (.int .u8)) (hg : Blk w g el cs)
    (h : ∀ w1, Chg [g] w w1 → w1.heap[g]? = some (.cells cs.toArray el (cs.length, cs.length + 1)) → K (.slice (some ⟨g, 0, none⟩) n c) w1) : OpW P N o e w K := by
  have hg' := hg
  unfold Blk at hg'
  have hlt := hg.lt
  have hsh : w.shape? g = some (el, cs.length) := by unfold World.shape?; rw [hg']; simp
  have hfr : (w.freeze ⟨g, cs.length, none⟩ 1).heap[g]? = some (.cells cs.toArray el (cs.length, cs.length + 1)) := by
    unfold World.freeze
    rw [if_neg (by decide)]
    simp [Array.getElem?_modify, hg']
  refine OpW_run (w' := w.freeze ⟨g, cs.length, none⟩ 1) (fun a ha => ?_) (h _ ⟨by simp [World.freeze], by simp [World.freeze], by simp [World.freeze], by simp [World.freeze], fun k hk hn => ?_⟩ hfr)
  · simp [execOp, hop, ha.ev hx, convert, run_underlying (T.und' ht), run_underlying (T.und' he), markStringish, hsh]
  · have : g ≠ k := fun e => hn (by simp [e])
    simp [World.freeze, Array.getElem?_modify, this]
end
/-- A row known whole reads as a list. -/
theorem SliceOf.of_heap {α : Type} {R : World → Value → α → Prop} {w : World} {g n c : Nat} {t : TypeId} {vs : List Value} {fr : Nat × Nat} {L : List α} (hg : w.heap[g]? = some (.cells vs.toArray t fr)) (hn : n = L.length) (hc : n ≤ c) (hm : c ≤ maxLen)
    (h : ∀ (i : Nat) (x : α), L[i]? = some x → ∃ u, vs[i]? = some u ∧ R w u x) : SliceOf R w (.slice (some ⟨g, 0, none⟩) n c) L :=
  SliceOf.mk hn (by omega) hm fun i x hx => by
    obtain ⟨u, hu, hr⟩ := h i x hx
    exact ⟨_, u, rfl, by rw [add_plain, cell_of_row w g i vs.toArray t fr hg]; simpa using hu, hr⟩
theorem SliceOf.of_blk {α : Type} {R : World → Value → α → Prop} {w : World} {g n c : Nat} {t : TypeId} {vs : List Value} {L : List α} (hg : Blk w g t vs) (hn : n = L.length) (hc : n ≤ c) (hm : c ≤ maxLen)
    (h : ∀ (i : Nat) (x : α), L[i]? = some x → ∃ u, vs[i]? = some u ∧ R w u x) : SliceOf R w (.slice (some ⟨g, 0, none⟩) n c) L := by
  unfold Blk at hg
  exact SliceOf.of_heap hg hn hc hm h

section
variable {P : Program} {N : Nat} {e : Env} {w : World} {o : Oper} {K : Value → World → Prop}
/-- append(v, src...), v a slice of the call's own. -/
theorem op_appendAll (T : Types P) {α : Type} {R : World → Value → α → Prop} {S : List Nat} {L M : List α} {x y : Operand} {t el : TypeId} {d : TInfo} {v : Value} {A : Option Addr} {m c : Nat} {ts : Array TypeId}
    (hop : o.op = .call { callee := .builtin .append, args := #[x, y], argTypes := ts }) (hts : ts = #[t, t]) (hx : ev e x = some v) (hy : ev e y = some (.slice A m c)) (ht : T.d t = some (.slice el)) (hel : T.tbl el = some d)
    (hz : Nat.beq d.zero.cells.size d.size = true) (hsz : Nat.beq d.size 1 = true)
    (hown : OwnOf R el S w v L) (hm : m = M.length) (hsrc : ∀ (i : Nat) xa, M[i]? = some xa → ∃ ad u, A = some ad ∧ w.cell? (ad.add i) = some u ∧ u.oneCell' = true ∧ Firm (v.ownBlock.toList ++ S) w (fun w => R w u xa))
    (hlen : L.length + M.length < 1000000000) (hby : Nat.ble d.bytes 1000 = true)
    (h : ∀ v' w1, OwnOf R el S w1 v' (L ++ M) → Chg v.ownBlock.toList w w1 → (v'.ownBlock = v.ownBlock ∨ ∃ g, v'.ownBlock = some g ∧ w.heap.size ≤ g) → K v' w1) : OpW P N o e w K := by
  subst hm
  obtain ⟨vs, h1, h2⟩ := hown
  have hsz' : d.size = 1 := Nat.eq_of_beq_eq_true hsz
  have hby' : d.bytes ≤ 1000 := Nat.le_of_ble_eq_true hby
  have hmul : (L.length + M.length) * d.bytes ≤ 1000000000 * 1000 := Nat.mul_le_mul (by omega) hby'
  -- the cells that go over
  have hnews : ∃ news : List Value, news.length = M.length ∧ ∀ (i : Nat) u, news[i]? = some u → (∃ ad, A = some ad ∧ w.cell? (ad.add i) = some u) ∧ u.oneCell' = true ∧ ∀ xa, M[i]? = some xa → Firm (v.ownBlock.toList ++ S) w (fun w => R w u xa) := by
    have : ∀ n, n ≤ M.length → ∃ news : List Value, news.length = n ∧ ∀ (i : Nat) u, news[i]? = some u → (∃ ad, A = some ad ∧ w.cell? (ad.add i) = some u) ∧ u.oneCell' = true ∧ ∀ xa, M[i]? = some xa → Firm (v.ownBlock.toList ++ S) w (fun w => R w u xa) := by
      intro n
      induction n with
      | zero => intro _; exact ⟨[], rfl, fun i u h => by simp at h⟩
      | succ n ih =>
        intro hn
        obtain ⟨news, hl, hp⟩ := ih (by omega)
        obtain ⟨ad, u, he, hu, h1c, hf⟩ := hsrc n _ (List.getElem?_eq_getElem (by omega))
        refine ⟨news ++ [u], by simp [hl], fun i u' hu' => ?_⟩
        by_cases hi : i < news.length
        · rw [List.getElem?_append_left hi] at hu'; exact hp i u' hu'
        · have hin : i = n := by have := (List.getElem?_eq_some_iff.1 hu').1; simp at this; omega
          subst hin
          rw [List.getElem?_append_right (by omega)] at hu'
          simp [hl] at hu'
          subst hu'
          refine ⟨⟨ad, he, hu⟩, h1c, fun xa hxa => ?_⟩
          rw [List.getElem?_eq_getElem (by omega)] at hxa
          injection hxa with hxa
          subst hxa; exact hf
    exact this _ (Nat.le_refl _)
  obtain ⟨news, hnl, hnp⟩ := hnews
  refine op_append T (m := M.length) (news := news) hop hts hx hy ht hel hz (by rw [hsz']; rfl) (by rw [hsz']; exact h1) (by rw [hsz', hnl, Nat.mul_one]) (fun j u hj => ⟨(hnp j u hj).1, (hnp j u hj).2.1⟩) (by unfold maxLen; omega) (by omega) ?_
  intro v' w1 ho hc hb _
  rw [hsz'] at ho
  have hvl : vs.length = L.length := by have := h1.length; omega
  refine h v' w1 ⟨vs ++ news, by rw [List.length_append]; exact ho, fun i x' u' hx' hu' => ?_⟩ hc hb
  have hS : ∀ k ∈ v'.ownBlock.toList ++ S, k < w.heap.size → k ∈ v.ownBlock.toList ++ S := fun k hk hlt => by
    rcases List.mem_append.1 hk with hk | hk
    · rcases hb with hb | ⟨g', hb, hge⟩
      · rw [hb] at hk; simp [hk]
      · rw [hb] at hk; simp at hk; omega
    · simp [hk]
  have hstep : ∀ (φ : World → Prop), Firm (v.ownBlock.toList ++ S) w φ → Firm (v'.ownBlock.toList ++ S) w1 φ := fun φ hf w2 hc2 =>
    hf w2 ((hc.mono (fun k hk _ => by simp [hk])).trans (hc2.mono (fun k hk hlt => hk)) (fun k hk hlt => hS k hk hlt))
  by_cases hi : i < L.length
  · rw [List.getElem?_append_left hi] at hx'
    rw [List.getElem?_append_left (by omega)] at hu'
    exact hstep _ (h2 i x' u' hx' hu')
  · rw [List.getElem?_append_right (by omega)] at hx'
    rw [List.getElem?_append_right (by omega), hvl] at hu'
    exact hstep _ ((hnp _ u' hu').2.2 x' hx')
end
end Go.Vc
