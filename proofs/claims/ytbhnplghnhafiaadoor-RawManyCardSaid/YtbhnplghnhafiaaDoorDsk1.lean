import Derived.Test.YtbhnplghnhafiaaDoorDskM
import Derived.Test.YtbhnplghnhafiaaDoorVcDrawQ
import Derived.Test.YtbhnplghnhafiaaDoorSeqD
/-! Files: how a file system lies in memory; its counts. -/
set_option linter.unusedVariables false
set_option linter.unusedSimpArgs false
namespace Go.Vc
open Go
/-- Where a file system lies: its maps, the row of the changes that wait, for each file its block and its bytes. -/
structure FsP where
  md : Nat
  ml : Nat
  wv : Value
  fb : List (Nat × Value)
def FsP.fp (p : FsP) (g : Nat) : List Nat := g :: p.md :: p.ml :: (p.wv.ownBlock.toList ++ p.fb.flatMap fun q => q.1 :: q.2.ownBlock.toList)
def ptrV (b : Nat) : Value := .pointer (some ⟨b, 0, none⟩)
def at2 (fb : List (Nat × Value)) (d : Dir) (k : Nm) : Option Nat := (looks d k).bind fun i => (fb[i]?).map (·.1)
def idV (fb : List (Nat × Value)) (o : Option Nat) : Value := match o.bind fun i => (fb[i]?).map (·.1) with
  | some b => ptrV b
  | none => .pointer none
def chV (fb : List (Nat × Value)) (c : ChM) : List Value := [.int .i64 c.kind, keyV c.name, keyV c.to, idV fb c.id]
theorem FsP.mem_fp {p : FsP} {g k : Nat} : k ∈ p.fp g ↔ k = g ∨ k = p.md ∨ k = p.ml ∨ p.wv.ownBlock = some k ∨ ∃ q ∈ p.fb, k = q.1 ∨ q.2.ownBlock = some k := by
  unfold FsP.fp
  simp [eq_comm]
end Go.Vc
namespace Go.Proofs.YtbhnplghnhafiaaDoor.Tryd
open Go Go.Vc

structure FsAt (w : World) (g : Nat) (s : FsM) (p : FsP) : Prop where
  ok : FsOk s
  blk : Blk w g 56 [.int .i64 s.room, .map (some p.md), .map (some p.ml), p.wv, .int .i64 s.calls, .int .i64 s.fail]
  dirM : MapAt keyV ptrV w p.md (at2 p.fb s.dir)
  lastsM : MapAt keyV ptrV w p.ml (at2 p.fb s.lasts)
  waitsM : Own w 81 4 p.wv s.waits.length (s.waits.flatMap (chV p.fb))
  len : p.fb.length = s.files.length
  fblk : ∀ (i : Nat) q f, p.fb[i]? = some q → s.files[i]? = some f → Blk w q.1 65 [q.2, .int .i64 f.synced]
  fown : ∀ (i : Nat) q f, p.fb[i]? = some q → s.files[i]? = some f → Own w 5 1 q.2 f.b.length (u8s f.b)
  apart1 : p.md ≠ p.ml
  apart2 : (p.fb.map (·.1)).Nodup
  apart3 : ∀ (i j : Nat) q q' h, p.fb[i]? = some q → p.fb[j]? = some q' → q.2.ownBlock = some h → q'.2.ownBlock = some h → i = j

section
variable {w w' : World} {g : Nat} {s : FsM} {p : FsP} {S : List Nat}
theorem FsAt.file (x : FsAt w g s p) {q : Nat × Value} (hq : q ∈ p.fb) : ∃ (i : Nat) (f : FileM), p.fb[i]? = some q ∧ s.files[i]? = some f := by
  obtain ⟨i, hi⟩ := List.getElem?_of_mem hq
  have hil := (List.getElem?_eq_some_iff.1 hi).1
  rw [x.len] at hil
  exact ⟨i, _, hi, List.getElem?_eq_getElem hil⟩
theorem FsAt.lt (x : FsAt w g s p) : ∀ k ∈ p.fp g, k < w.heap.size := fun k hk => by
  rcases FsP.mem_fp.1 hk with rfl | rfl | rfl | h | ⟨q, hq, h⟩
  · exact x.blk.lt
  · exact x.dirM.lt
  · exact x.lastsM.lt
  · exact x.waitsM.lt h
  · obtain ⟨i, f, hi, hf⟩ := x.file hq
    rcases h with rfl | h
    · exact (x.fblk i q f hi hf).lt
    · exact (x.fown i q f hi hf).lt h
theorem FsAt.keep (x : FsAt w g s p) (hc : Chg S w w') (hS : ∀ k ∈ p.fp g, k ∉ S) : FsAt w' g s p := by
  have hm := fun k h => hS k (FsP.mem_fp.2 h)
  exact ⟨x.ok, x.blk.keep hc (hm g (.inl rfl)), x.dirM.keep hc (hm _ (.inr (.inl rfl))), x.lastsM.keep hc (hm _ (.inr (.inr (.inl rfl)))), x.waitsM.keep hc (fun h hh => hm h (.inr (.inr (.inr (.inl hh))))), x.len,
    fun i q f hq hf => (x.fblk i q f hq hf).keep hc (hm _ (.inr (.inr (.inr (.inr ⟨q, List.mem_of_getElem? hq, .inl rfl⟩))))),
    fun i q f hq hf => (x.fown i q f hq hf).keep hc (fun h hh => hm h (.inr (.inr (.inr (.inr ⟨q, List.mem_of_getElem? hq, .inr hh⟩))))), x.apart1, x.apart2, x.apart3⟩
theorem FsAt.keep0 (x : FsAt w g s p) (hc : Chg [] w w') : FsAt w' g s p := x.keep hc (fun _ _ => by simp)
/-- Only the struct's own cells have turned. -/
theorem FsAt.scalars (x : FsAt w g s p) (hc : Chg [g] w w') {room calls fail : Int} (hb : Blk w' g 56 [.int .i64 room, .map (some p.md), .map (some p.ml), p.wv, .int .i64 calls, .int .i64 fail])
    (hok : FsOk { s with room := room, calls := calls, fail := fail }) : FsAt w' g { s with room := room, calls := calls, fail := fail } p := by
  have hw : ∀ h, p.wv.ownBlock = some h → h ∉ [g] := fun h hh hm => by
    simp at hm
    obtain ⟨cur, hr⟩ := x.waitsM.row hh
    rw [hm] at hr
    exact x.blk.ne_ hr (by decide) rfl
  refine ⟨hok, hb, x.dirM.keep hc ?_, x.lastsM.keep hc ?_, x.waitsM.keep hc hw, x.len, fun i q f hq hf => (x.fblk i q f hq hf).keep hc ?_, fun i q f hq hf => (x.fown i q f hq hf).keep hc fun h hh hm => ?_, x.apart1, x.apart2, x.apart3⟩
  · simpa using x.dirM.ne_blk x.blk
  · simpa using x.lastsM.ne_blk x.blk
  · have := (x.fblk i q f hq hf).ne_ x.blk (by decide)
    simpa using this
  · simp at hm
    obtain ⟨cur, hr⟩ := (x.fown i q f hq hf).row hh
    rw [hm] at hr
    exact x.blk.ne_ hr (by decide) rfl
end

theorem room_has (n : Int) (w : World) : Has Go.Proofs.Tryd.prog 27 #[.int .i64 n] w (fun v w' => w' = w ∧ v = .int .i64 (roomM n)) := by
  refine enter Go.Proofs.Tryd.func27 rfl rfl (by decide) rfl (e := [(0, .int .i64 n)]) ⟨rfl, trivial⟩ ?_
  repeat (first | refine W_seq ?_ | refine W_region ?_ | refine W_ret ?_ | refine Then_n ?_ | refine WL_nil ?_ | refine WL_some rfl rfl rfl ?_ | refine op_move rfl rfl ?_ | refine op_assign rfl rfl ?_ | refine op_max rfl rfl rfl ?_ | refine op_min rfl rfl rfl ?_)
  exact post1 (.inl rfl) rfl rfl ⟨rfl, rfl⟩

theorem call_has (g : Nat) (s : FsM) (p : FsP) (w : World) (x : FsAt w g s p) (hcalls : s.calls < 1000000000) :
    Has Go.Proofs.Tryd.prog 43 #[ptrV g] w (fun v w' => Chg [g] w w' ∧ v = .int .i64 (if failsM s then 5 else 0) ∧ FsAt w' g (callM s) p) := by
  have hc0 := x.ok.calls0
  have hf0 := x.ok.fail0
  have hf1 := x.ok.fail1
  have hok := callM_ok x.ok
  refine enter Go.Proofs.Tryd.func43 rfl rfl (by decide) rfl (e := [(0, ptrV g)]) ⟨rfl, trivial⟩ ?_
  unfold ptrV
  have hb := x.blk
  repeat (first | refine W_seq ?_ | refine W_region ?_ | refine W_skip ?_ | refine Then_n ?_ | refine WL_nil ?_ | refine W_condF rfl ?_ | refine WL_some rfl rfl rfl ?_ | refine WL_none rfl rfl ?_ | refine op_move rfl rfl ?_ | refine op_assign rfl rfl ?_ | refine op_add rfl rfl rfl (wrap_i64_in (by omega) (by omega)) ?_ | refine op_nilCheck rfl rfl ?_ | refine op_fieldAddr T rfl rfl rfl rfl rfl rfl rfl rfl ?_ | refine op_eql_nilptr T rfl rfl rfl rfl rfl ?_ | refine op_loadB T rfl rfl rfl rfl (by assumption) (by exact rfl) ?_)
  refine op_store T rfl rfl rfl rfl rfl rfl hb (Nat.le_of_ble_eq_true rfl) (fun w1 hc1 hb1 _ => ?_)
  have hb1 : Blk w1 g 56 [.int .i64 s.room, .map (some p.md), .map (some p.ml), p.wv, .int .i64 (s.calls + 1), .int .i64 s.fail] := hb1
  repeat (first | refine W_seq ?_ | refine W_region ?_ | refine Then_n ?_ | refine WL_nil ?_ | refine WL_some rfl rfl rfl ?_ | refine WL_none rfl rfl ?_ | refine op_move rfl rfl ?_ | refine op_subt rfl rfl rfl (wrap_i64_in (by omega) (by omega)) ?_ | refine op_nilCheck rfl rfl ?_ | refine op_fieldAddr T rfl rfl rfl rfl rfl rfl rfl rfl ?_ | refine op_loadB T rfl rfl rfl rfl (by assumption) (by exact rfl) ?_)
  refine op_store T rfl rfl rfl rfl rfl rfl hb1 (Nat.le_of_ble_eq_true rfl) (fun w2 hc2 hb2 _ => ?_)
  have hb2 : Blk w2 g 56 [.int .i64 s.room, .map (some p.md), .map (some p.ml), p.wv, .int .i64 (s.calls + 1), .int .i64 (s.fail - 1)] := hb2
  have hc02 : Chg [g] w w2 := hc1.trans hc2 (fun _ h _ => h)
  by_cases hz : s.fail = 0
  · have hfm : failsM s = true := by unfold failsM; rw [hz]; rfl
    repeat (first | refine W_seq ?_ | refine W_region ?_ | refine W_ret ?_ | refine Then_n ?_ | refine Then_r ?_ | refine WL_nil ?_ | refine W_condT rfl ?_ | refine WL_some rfl rfl rfl ?_ | refine op_move rfl rfl ?_ | refine op_assign rfl rfl ?_ | refine op_nilCheck rfl rfl ?_ | refine op_eql rfl rfl rfl (fun hc => ?_) (fun hc => False.elim (by omega)) | refine op_fieldAddr T rfl rfl rfl rfl rfl rfl rfl rfl ?_ | refine op_loadB T rfl rfl rfl rfl (by assumption) (by exact rfl) ?_)
    refine post1 (.inl rfl) rfl rfl ⟨hc02, by rw [hfm]; rfl, x.scalars hc02 ?_ hok⟩
    rw [show max (s.fail - 1) (-1) = s.fail - 1 by omega]; exact hb2
  · have hfm : failsM s = false := by unfold failsM; simpa using hz
    repeat (first | refine W_seq ?_ | refine W_region ?_ | refine W_skip ?_ | refine Then_n ?_ | refine WL_nil ?_ | refine W_condF rfl ?_ | refine WL_some rfl rfl rfl ?_ | refine WL_none rfl rfl ?_ | refine op_move rfl rfl ?_ | refine op_max rfl rfl rfl ?_ | refine op_nilCheck rfl rfl ?_ | refine op_eql rfl rfl rfl (fun hc => False.elim (by omega)) (fun hc => ?_) | refine op_fieldAddr T rfl rfl rfl rfl rfl rfl rfl rfl ?_ | refine op_loadB T rfl rfl rfl rfl (by assumption) (by exact rfl) ?_)
    refine op_store T rfl rfl rfl rfl rfl rfl hb2 (Nat.le_of_ble_eq_true rfl) (fun w3 hc3 hb3 _ => ?_)
    have hc03 : Chg [g] w w3 := hc02.trans hc3 (fun _ h _ => h)
    repeat (first | refine W_seq ?_ | refine W_region ?_ | refine W_ret ?_ | refine Then_n ?_ | refine WL_nil ?_ | refine WL_some rfl rfl rfl ?_ | refine op_assign rfl rfl ?_)
    exact post1 (.inl rfl) rfl rfl ⟨hc03, by rw [hfm]; rfl, x.scalars hc03 hb3 hok⟩
end Go.Proofs.YtbhnplghnhafiaaDoor.Tryd
