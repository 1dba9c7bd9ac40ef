/- The walk of one law and the row that it ends in: whatever the arguments that can be read as data, the call returns true and leaves what was there as it was. No condition. -/
import Derived.Test.YtbhnplghnhafiaaGreatDoorRawAnyK3
import Derived.Test.YtbhnplghnhafiaaGreatDoorRawAnyK2
import Derived.Test.YtbhnplghnhafiaaGreatDoorRawAnyK1
import Derived.Test.YtbhnplghnhafiaaGreatDoorRows
import Derived.ProofKit
import Derived.OpenShut
import Derived.ChangeOld
import Derived.ChangeCalls
import Derived.Deep.Slices
import Derived.LaidMore
import Derived.LaidLaws
import Derived.LaidHandle
import Derived.Stop.Joined
import Derived.Handed
import Derived.Test.YtbhnplghnhafiaaGreatDoorCards
import Derived.Test.YtbhnplghnhafiaaGreatDoorTie
import Derived.SevenTiedAt
/-! Segments: Append, Get, Sync. -/
set_option linter.unusedVariables false
namespace Go.Vc
open Go
def zeroR : RecM := ⟨0, 0, [], []⟩
/-- What Get tells of a file's bytes from a to e. -/
def cellM (b : List UInt8) (a e : Nat) : RecM × Int :=
  if b.length < e then (zeroR, 6)
  else if (rscanM ((b.take e).drop a)).1.length = 1 ∧ (rscanM ((b.take e).drop a)).2.1 = e - a then ((rscanM ((b.take e).drop a)).1.headD zeroR, 0)
  else (zeroR, 6)
end Go.Vc
namespace Go.Proofs.YtbhnplghnhafiaaGreatDoor.Tryz
open Go Go.Vc
section
variable {w0 w : World} {gs g : Nat} {s : FsM} {p : FsP} {nm : Nm} {ats : List Nat} {en : Nat} {u : Value}
set_option maxHeartbeats 1000000 in
/-- Append of a record that may be. -/
theorem appendS_has (x : SegO w0 w gs g s p nm ats en u) (r : RecM) (hr : RecOk r) (hcalls : s.calls < 1000000000 - 1) (hl : ats.length < 1000000) (he : en < 1000000000) :
    Has Go.Proofs.Tryz.prog 16 #[.pointer (some ⟨gs, 0, none⟩), .agg (recL r).toArray] w (fun v w' =>
      ((appendM s nm (sealM (bodyM r))).2 ≠ 0 → v = .tuple #[.int .i64 (-1), .int .i64 (appendM s nm (sealM (bodyM r))).2] ∧ ∃ p', SegO w0 w' gs g (appendM s nm (sealM (bodyM r))).1 p' nm ats en u) ∧
      ((appendM s nm (sealM (bodyM r))).2 = 0 → v = .tuple #[.int .i64 (ats.length : Nat), .int .i64 0] ∧ ∃ p' u', SegO w0 w' gs g (appendM s nm (sealM (bodyM r))).1 p' nm (ats ++ [en]) (en + (sealM (bodyM r)).length) u')) := by
  refine enter Go.Proofs.Tryz.func16 rfl rfl (by decide) rfl (e := [(0, .pointer (some ⟨gs, 0, none⟩)), (1, .agg (recL r).toArray)]) ⟨rfl, rfl, trivial⟩ ?_
  have hbl := bodyM_len hr
  have hsl := sealM_length (bodyM r)
  have henc : encM r = (sealM (bodyM r), 0) := by unfold encM; rw [if_neg (by simp [checkM_ok.2 hr])]
  repeat (first | refine W_seq ?_ | refine W_region ?_ | refine WL_some rfl rfl rfl ?_)
  refine op_box rfl rfl (fun gr w1 hs1 hc1 hg1 => ?_)
  have hg1 : Blk w1 gr 32 (recL r) := hg1
  repeat (first | refine W_seq ?_ | refine W_region ?_ | refine W_skip ?_ | refine Then_n ?_ | refine WL_nil ?_ | refine W_condF rfl ?_ | refine WL_some rfl rfl rfl ?_ | refine op_move rfl rfl ?_ | refine op_assign rfl rfl ?_ | refine op_eql_nilptr T rfl rfl rfl rfl rfl ?_ | refine op_load_agg T rfl rfl rfl rfl (by assumption) (by exact Nat.le_of_ble_eq_true rfl) (by exact rfl) ?_)
  refine op_call rfl rfl rfl (encode_has r w1) ?_
  rintro _ w2 ⟨ub, rfl, mb⟩
  rw [henc] at mb
  rw [henc]
  dsimp only at mb
  have x2 := x.keep0 (hc1.trans' mb.chg)
  have hb := x2.seg.blk
  obtain ⟨Ab, cb, rfl, _, _⟩ := mb.form
  have hfp : ∀ k ∈ p.fp g, k < w1.heap.size := fun k hk => by have := x.fs.at_.lt k hk; have := hc1.size; omega
  have hgs : gs < w.heap.size := x.seg.blk.lt
  repeat (first | refine W_seq ?_ | refine W_region ?_ | refine W_skip ?_ | refine Then_n ?_ | refine WL_nil ?_ | refine W_condF rfl ?_ | refine WL_some rfl rfl rfl ?_ | refine op_move rfl rfl ?_ | refine op_assign rfl rfl ?_ | refine op_extract rfl rfl rfl ?_ | refine op_neq rfl rfl rfl (fun hc => False.elim (by omega)) (fun hc => ?_))
  refine Q.W_walkq 10 9 (p.fp g) fol (by kernel_rfl) (by kernel_rfl) ?_
  refine Q.Walk.plain rfl rfl (by intro val w_ hR hp; exact op_move rfl rfl ⟨Chg.refl _ _, rfl⟩) ?_; dsimp only [List.nil_append, List.cons_append]
  refine Q.Walk.plain rfl rfl (by intro val w_ hR hp; exact op_nilCheck rfl rfl ⟨Chg.refl _ _, rfl⟩) ?_; dsimp only [List.nil_append, List.cons_append]
  refine Q.Walk.plain rfl rfl (by intro val w_ hR hp; exact op_fieldAddr T rfl rfl rfl rfl rfl rfl rfl rfl ⟨Chg.refl _ _, rfl⟩) ?_; dsimp only [List.nil_append, List.cons_append]
  refine Q.Walk.plain (v := ptrV g) rfl rfl (by intro val w_ hR hp; exact op_load T rfl rfl rfl rfl ((hb.keep hR x2.out1).cell rfl) ⟨Chg.refl _ _, rfl⟩) ?_; dsimp only [List.nil_append, List.cons_append]
  refine Q.Walk.plain rfl rfl (by intro val w_ hR hp; exact op_move rfl rfl ⟨Chg.refl _ _, rfl⟩) ?_; dsimp only [List.nil_append, List.cons_append]
  refine Q.Walk.plain rfl rfl (by intro val w_ hR hp; exact op_nilCheck rfl rfl ⟨Chg.refl _ _, rfl⟩) ?_; dsimp only [List.nil_append, List.cons_append]
  refine Q.Walk.plain rfl rfl (by intro val w_ hR hp; exact op_fieldAddr T rfl rfl rfl rfl rfl rfl rfl rfl ⟨Chg.refl _ _, rfl⟩) ?_; dsimp only [List.nil_append, List.cons_append]
  refine Q.Walk.plain (v := .string (str nm)) rfl rfl (by intro val w_ hR hp; exact op_load T rfl rfl rfl rfl ((hb.keep hR x2.out1).cell rfl) ⟨Chg.refl _ _, rfl⟩) ?_; dsimp only [List.nil_append, List.cons_append]
  refine Q.Walk.plain rfl rfl (by intro val w_ hR hp; exact op_move rfl rfl ⟨Chg.refl _ _, rfl⟩) ?_; dsimp only [List.nil_append, List.cons_append]
  refine Q.Walk.turn rfl (fun v w' => FsDone w2 g p (appendM s nm (sealM (bodyM r))) v w') rfl (fun v a b h hab => ⟨h.1.trans' hab, h.2.1, let ⟨p', h3, h4⟩ := h.2.2; ⟨p', h3.keep0 hab, h4⟩⟩) ?_ ?_
  · intro val w_ hR hp
    have hfirm : Firm (p.fp g) w_ (fun w => SliceOf Ru8 w (.slice Ab (sealM (bodyM r)).length cb) (sealM (bodyM r))) := (mb.firm hfp).step0 hR
    refine op_call rfl rfl rfl (append_has g s p nm Ab _ cb _ w_ (x2.fs.at_.keep0 hR) hfirm (by omega) hcalls) (fun v w' h => ?_)
    have hfull : FsDone w2 g p (appendM s nm (sealM (bodyM r))) v w' := ⟨(hR.mono (fun k hk _ => by cases hk)).trans h.1 (fun k hk _ => hk), h.2.1, let ⟨p', h3, h4⟩ := h.2.2; ⟨p', h3, fun k hk => (h4 k hk).imp id (fun h => by have := hR.size; omega)⟩⟩
    exact ⟨h.1, hfull⟩
  dsimp only [List.nil_append, List.cons_append]
  refine Q.Walk.fin ?_
  intro val w3 hc3 hp
  have hdone : FsDone w2 g p (appendM s nm (sealM (bodyM r))) (val 9) w3 := hp 9 (by omega) _ _ rfl rfl
  clear hp
  obtain ⟨hv9, hcf, p3, x3⟩ := x2.step hdone
  have hlen : ats.length < 1000000000 := by omega
  refine WL_sub (e' := [(0, .pointer (some ⟨gs, 0, none⟩)), (6, .slice Ab (sealM (bodyM r)).length cb), (28, .int .i64 (appendM s nm (sealM (bodyM r))).2)]) ⟨rfl, rfl, congrArg some hv9, trivial⟩ ?_
  generalize appendM s nm (sealM (bodyM r)) = q at *
  obtain ⟨s', er⟩ := q
  dsimp only at *
  by_cases hz : er = 0
  · subst hz
    repeat (first | refine W_seq ?_ | refine W_region ?_ | refine W_skip ?_ | refine Then_n ?_ | refine WL_nil ?_ | refine W_condF rfl ?_ | refine WL_some rfl rfl rfl ?_ | refine op_move rfl rfl ?_ | refine op_assign rfl rfl ?_ | refine op_len_slice T rfl rfl rfl rfl ?_ | refine op_neq rfl rfl rfl (fun hc => False.elim (by omega)) (fun hc => ?_))
    refine op_call rfl rfl rfl (addS_has x3.seg (sealM (bodyM r)).length hlen (by omega)) ?_
    rintro v4 w4 ⟨hc4, u4, hs4, hb4⟩
    have x4 := x3.turn hc4 hs4 hb4
    have hb5 := hs4.blk
    obtain ⟨A4, c4, rfl, _, _⟩ := hs4.own.form
    have hl4 : (ats ++ [en]).length = ats.length + 1 := by simp
    repeat (first | refine W_seq ?_ | refine W_region ?_ | refine W_ret ?_ | refine Then_n ?_ | refine WL_nil ?_ | refine WL_some rfl rfl rfl ?_ | refine op_move rfl rfl ?_ | refine op_assign rfl rfl ?_ | refine op_len_slice T rfl rfl rfl rfl ?_ | refine op_subt rfl rfl rfl (wrap_i64_in (by omega) (by omega)) ?_ | refine op_nilCheck rfl rfl ?_ | refine op_fieldAddr T rfl rfl rfl rfl rfl rfl rfl rfl ?_ | refine op_loadB T rfl rfl rfl rfl (by assumption) (by exact rfl) ?_)
    refine post2 (.inl rfl) rfl rfl rfl ⟨fun h => absurd rfl h, fun _ => ⟨?_, p3, _, x4⟩⟩
    have : (((ats ++ [en]).length : Nat) : Int) - 1 = ((ats.length : Nat) : Int) := by omega
    rw [this]
  · repeat (first | refine W_seq ?_ | refine W_region ?_ | refine W_ret ?_ | refine Then_n ?_ | refine Then_r ?_ | refine WL_nil ?_ | refine W_condT rfl ?_ | refine WL_some rfl rfl rfl ?_ | refine op_move rfl rfl ?_ | refine op_assign rfl rfl ?_ | refine op_neq rfl rfl rfl (fun hc => ?_) (fun hc => False.elim (by omega)))
    exact post2 (.inl rfl) rfl rfl rfl ⟨fun _ => ⟨rfl, p3, x3⟩, fun h => absurd h hz⟩
theorem syncS_has (x : SegO w0 w gs g s p nm ats en u) (hcalls : s.calls < 1000000000 - 1) :
    Has Go.Proofs.Tryz.prog 17 #[.pointer (some ⟨gs, 0, none⟩)] w (fun v w' => v = .int .i64 (syncM s nm).2 ∧ ∃ p', SegO w0 w' gs g (syncM s nm).1 p' nm ats en u) := by
  refine enter Go.Proofs.Tryz.func17 rfl rfl (by decide) rfl (e := [(0, .pointer (some ⟨gs, 0, none⟩))]) ⟨rfl, trivial⟩ ?_
  have hb := x.seg.blk
  repeat (first | refine W_seq ?_ | refine W_region ?_ | refine W_skip ?_ | refine Then_n ?_ | refine WL_nil ?_ | refine W_condF rfl ?_ | refine WL_some rfl rfl rfl ?_ | refine op_move rfl rfl ?_ | refine op_assign rfl rfl ?_ | refine op_eql_nilptr T rfl rfl rfl rfl rfl ?_)
  refine Q.W_walkq 9 8 (p.fp g) fol (by kernel_rfl) (by kernel_rfl) ?_
  refine Q.Walk.plain rfl rfl (by intro val w_ hR hp; exact op_move rfl rfl ⟨Chg.refl _ _, rfl⟩) ?_; dsimp only [List.nil_append, List.cons_append]
  refine Q.Walk.plain rfl rfl (by intro val w_ hR hp; exact op_nilCheck rfl rfl ⟨Chg.refl _ _, rfl⟩) ?_; dsimp only [List.nil_append, List.cons_append]
  refine Q.Walk.plain rfl rfl (by intro val w_ hR hp; exact op_fieldAddr T rfl rfl rfl rfl rfl rfl rfl rfl ⟨Chg.refl _ _, rfl⟩) ?_; dsimp only [List.nil_append, List.cons_append]
  refine Q.Walk.plain (v := ptrV g) rfl rfl (by intro val w_ hR hp; exact op_load T rfl rfl rfl rfl ((hb.keep hR x.out1).cell rfl) ⟨Chg.refl _ _, rfl⟩) ?_; dsimp only [List.nil_append, List.cons_append]
  refine Q.Walk.plain rfl rfl (by intro val w_ hR hp; exact op_move rfl rfl ⟨Chg.refl _ _, rfl⟩) ?_; dsimp only [List.nil_append, List.cons_append]
  refine Q.Walk.plain rfl rfl (by intro val w_ hR hp; exact op_nilCheck rfl rfl ⟨Chg.refl _ _, rfl⟩) ?_; dsimp only [List.nil_append, List.cons_append]
  refine Q.Walk.plain rfl rfl (by intro val w_ hR hp; exact op_fieldAddr T rfl rfl rfl rfl rfl rfl rfl rfl ⟨Chg.refl _ _, rfl⟩) ?_; dsimp only [List.nil_append, List.cons_append]
  refine Q.Walk.plain (v := .string (str nm)) rfl rfl (by intro val w_ hR hp; exact op_load T rfl rfl rfl rfl ((hb.keep hR x.out1).cell rfl) ⟨Chg.refl _ _, rfl⟩) ?_; dsimp only [List.nil_append, List.cons_append]
  refine Q.Walk.turn rfl (fun v w' => FsDone w g p (syncM s nm) v w') rfl (fun v a b h hab => ⟨h.1.trans' hab, h.2.1, let ⟨p', h3, h4⟩ := h.2.2; ⟨p', h3.keep0 hab, h4⟩⟩) ?_ ?_
  · intro val w_ hR hp
    refine op_call rfl rfl rfl (sync_has g s p nm w_ (x.fs.at_.keep0 hR) hcalls) (fun v w' h => ?_)
    exact ⟨h.1, (hR.mono (fun k hk _ => by cases hk)).trans h.1 (fun k hk _ => hk), h.2.1, let ⟨p', h3, h4⟩ := h.2.2; ⟨p', h3, fun k hk => (h4 k hk).imp id (fun h => by have := hR.size; omega)⟩⟩
  dsimp only [List.nil_append, List.cons_append]
  refine Q.Walk.fin ?_
  intro val w3 hc3 hp
  have hdone : FsDone w g p (syncM s nm) (val 8) w3 := hp 8 (by omega) _ _ rfl rfl
  clear hp
  obtain ⟨hv9, hcf, p3, x3⟩ := x.step hdone
  refine WL_sub (e' := [(13, .int .i64 (syncM s nm).2)]) ⟨congrArg some hv9, trivial⟩ ?_
  repeat (first | refine W_ret ?_ | refine Then_n ?_ | refine WL_nil ?_ | refine WL_some rfl rfl rfl ?_ | refine op_assign rfl rfl ?_)
  exact post1 (.inl rfl) rfl rfl ⟨rfl, p3, x3⟩
set_option maxHeartbeats 2000000 in
/-- Get of a record that there is. -/
theorem getS_has (x : SegO w0 w gs g s p nm ats en u) (b : List UInt8) (hread : readM s nm = some b) (hb : b.length ≤ 1000000000) (i a e_ : Nat) (ha : ats[i]? = some a) (he : (ats ++ [en])[i + 1]? = some e_) (hae : a ≤ e_) (hlim : ats.length < 1000000000) :
    Has Go.Proofs.Tryz.prog 20 #[.pointer (some ⟨gs, 0, none⟩), .int .i64 (i : Int)] w (fun v w' => Chg [] w w' ∧ v = .tuple #[.agg (recL (cellM b a e_).1).toArray, .int .i64 (cellM b a e_).2]) := by
  refine enter Go.Proofs.Tryz.func20 rfl rfl (by decide) rfl (e := [(0, .pointer (some ⟨gs, 0, none⟩)), (1, .int .i64 (i : Int))]) ⟨rfl, rfl, trivial⟩ ?_
  have hil := (List.getElem?_eq_some_iff.1 ha).1
  obtain ⟨A, c, rfl, _, _⟩ := x.seg.own.form
  repeat (first | refine W_seq ?_ | refine W_region ?_ | refine WL_some rfl rfl rfl ?_)
  refine op_alloc T rfl rfl (fun g4 w1 hs1 hc1 hg4 => ?_)
  have hg4 : Blk w1 g4 32 [.int .i64 0, .int .i64 0, .string (str []), .string (str [])] := hg4
  have x1 := x.keep0 hc1
  have hbk := x1.seg.blk
  have hcell : ∀ w2, Chg [] w1 w2 → ∀ (j n : Nat), ats[j]? = some n → ∃ ad, A = some ad ∧ w2.cell? (ad.add j) = some (.int .i64 (n : Int)) := fun w2 hc j n hj => by
    obtain ⟨gg, h1, ⟨c', h2⟩, h3⟩ := (x1.seg.own.keep0 hc).cell (show (ats.map natV)[j]? = some (natV n) from by rw [List.getElem?_map, hj]; rfl)
    injection h2 with h2
    exact ⟨_, h2, by rw [add_plain]; exact h3⟩
  refine WL_some rfl rfl rfl ?_
  refine op_assign rfl rfl ?_
  refine WL_nil ?_
  refine Then_n ?_
  refine W_seq ?_
  refine W_meet (σ := Unit) (fun _ => [(0, .pointer (some ⟨gs, 0, none⟩)), (1, .int .i64 (i : Int)), (4, .pointer (some ⟨g4, 0, none⟩))]) (fun _ w' => w' = w1) ?_ ?_
  · repeat (first | refine W_seq ?_ | refine W_block ?_ | refine W_region ?_ | refine W_skip ?_ | refine Then_n ?_ | refine InBlock_n ?_ | refine WL_nil ?_ | refine W_condF rfl ?_ | refine WL_some rfl rfl rfl ?_ | refine WL_guardT rfl rfl rfl rfl ?_ | refine op_move rfl rfl ?_ | refine op_assign rfl rfl ?_ | refine op_pick rfl rfl rfl rfl ?_ | refine op_len_slice T rfl rfl rfl rfl ?_ | refine op_nilCheck rfl rfl ?_ | refine op_lss rfl rfl rfl (fun hc => False.elim (by omega)) (fun hc => ?_) | refine op_geq rfl rfl rfl (fun hc => False.elim (by omega)) (fun hc => ?_) | refine op_fieldAddr T rfl rfl rfl rfl rfl rfl rfl rfl ?_ | refine op_eql_nilptr T rfl rfl rfl rfl rfl ?_ | refine op_loadB T rfl rfl rfl rfl (by assumption) (by exact rfl) ?_)
    exact Meet_n () ⟨rfl, rfl, rfl, trivial⟩ rfl
  rintro _ w1 rfl
  refine Then_n ?_
  refine W_seq ?_
  refine W_meet (σ := Unit) (fun _ => [(0, .pointer (some ⟨gs, 0, none⟩)), (1, .int .i64 (i : Int)), (4, .pointer (some ⟨g4, 0, none⟩)), (6, .int .i64 (en : Int))]) (fun _ w' => w' = w1) ?_ ?_
  · repeat (first | refine W_region ?_ | refine WL_nil ?_ | refine WL_some rfl rfl rfl ?_ | refine op_move rfl rfl ?_ | refine op_assign rfl rfl ?_ | refine op_nilCheck rfl rfl ?_ | refine op_fieldAddr T rfl rfl rfl rfl rfl rfl rfl rfl ?_ | refine op_loadB T rfl rfl rfl rfl (by assumption) (by exact rfl) ?_)
    exact Meet_n () ⟨rfl, rfl, rfl, rfl, trivial⟩ rfl
  rintro _ w1 rfl
  refine Then_n ?_
  refine W_seq ?_
  refine W_meet (σ := Unit) (fun _ => [(0, .pointer (some ⟨gs, 0, none⟩)), (1, .int .i64 (i : Int)), (4, .pointer (some ⟨g4, 0, none⟩)), (6, .int .i64 (e_ : Int))]) (fun _ w' => w' = w1) ?_ ?_
  · by_cases hlast : i + 1 < ats.length
    · rw [List.getElem?_append_left hlast] at he
      obtain ⟨ad, hA, hu⟩ := hcell w1 (Chg.refl _ _) _ _ he
      subst hA
      repeat (first | refine W_seq ?_ | refine W_region ?_ | refine Then_n ?_ | refine WL_nil ?_ | refine W_condT rfl ?_ | refine WL_some rfl rfl rfl ?_ | refine op_move rfl rfl ?_ | refine op_assign rfl rfl ?_ | refine op_len_slice T rfl rfl rfl rfl ?_ | refine op_add rfl rfl rfl (wrap_i64_in (by omega) (by omega)) ?_ | refine op_nilCheck rfl rfl ?_ | refine op_index_nat T rfl rfl rfl rfl rfl rfl (by omega) ?_ | refine op_load T rfl rfl rfl rfl (by assumption) ?_ | refine op_lss rfl rfl rfl (fun hc => ?_) (fun hc => False.elim (by omega)) | refine op_fieldAddr T rfl rfl rfl rfl rfl rfl rfl rfl ?_ | refine op_loadB T rfl rfl rfl rfl (by assumption) (by exact rfl) ?_)
      exact Meet_n () ⟨rfl, rfl, rfl, rfl, trivial⟩ rfl
    · obtain rfl : e_ = en := by
        rw [List.getElem?_append_right (by omega), show i + 1 - ats.length = 0 from by omega] at he
        injection he with he; exact he.symm
      repeat (first | refine W_seq ?_ | refine W_region ?_ | refine W_skip ?_ | refine Then_n ?_ | refine WL_nil ?_ | refine W_condF rfl ?_ | refine WL_some rfl rfl rfl ?_ | refine op_move rfl rfl ?_ | refine op_len_slice T rfl rfl rfl rfl ?_ | refine op_add rfl rfl rfl (wrap_i64_in (by omega) (by omega)) ?_ | refine op_nilCheck rfl rfl ?_ | refine op_lss rfl rfl rfl (fun hc => False.elim (by omega)) (fun hc => ?_) | refine op_fieldAddr T rfl rfl rfl rfl rfl rfl rfl rfl ?_ | refine op_loadB T rfl rfl rfl rfl (by assumption) (by exact rfl) ?_)
      exact Meet_n () ⟨rfl, rfl, rfl, rfl, trivial⟩ rfl
  rintro _ w1 rfl
  refine Then_n ?_
  refine W_seq ?_
  have hno : ∀ k, k ∉ ([] : List Nat) := by simp
  refine W_meet (σ := Value × World) (fun q => [(0, .pointer (some ⟨gs, 0, none⟩)), (1, .int .i64 (i : Int)), (4, .pointer (some ⟨g4, 0, none⟩)), (6, .int .i64 (e_ : Int)), (7, q.1), (8, .int .i64 0)]) (fun q w' => w' = q.2 ∧ Chg [] w1 w' ∧ Own w' 5 1 q.1 b.length (u8s b) ∧ ∀ h, q.1.ownBlock = some h → w1.heap.size ≤ h) ?_ ?_
  · refine W_walk 13 [] fol (by kernel_rfl) (by kernel_rfl) ?_
    refine Walk.plain rfl (by intro val w_ hR hp; exact op_move rfl rfl ⟨Chg.refl _ _, rfl⟩) ?_; dsimp only [List.nil_append, List.cons_append]
    refine Walk.plain rfl (by intro val w_ hR hp; exact op_nilCheck rfl rfl ⟨Chg.refl _ _, rfl⟩) ?_; dsimp only [List.nil_append, List.cons_append]
    refine Walk.plain rfl (by intro val w_ hR hp; exact op_fieldAddr T rfl rfl rfl rfl rfl rfl rfl rfl ⟨Chg.refl _ _, rfl⟩) ?_; dsimp only [List.nil_append, List.cons_append]
    refine Walk.plain (v := ptrV g) rfl (by intro val w_ hR hp; exact op_load T rfl rfl rfl rfl ((hbk.keep0 hR).cell rfl) ⟨Chg.refl _ _, rfl⟩) ?_; dsimp only [List.nil_append, List.cons_append]
    refine Walk.plain rfl (by intro val w_ hR hp; exact op_move rfl rfl ⟨Chg.refl _ _, rfl⟩) ?_; dsimp only [List.nil_append, List.cons_append]
    refine Walk.plain rfl (by intro val w_ hR hp; exact op_nilCheck rfl rfl ⟨Chg.refl _ _, rfl⟩) ?_; dsimp only [List.nil_append, List.cons_append]
    refine Walk.plain rfl (by intro val w_ hR hp; exact op_fieldAddr T rfl rfl rfl rfl rfl rfl rfl rfl ⟨Chg.refl _ _, rfl⟩) ?_; dsimp only [List.nil_append, List.cons_append]
    refine Walk.plain (v := .string (str nm)) rfl (by intro val w_ hR hp; exact op_load T rfl rfl rfl rfl ((hbk.keep0 hR).cell rfl) ⟨Chg.refl _ _, rfl⟩) ?_; dsimp only [List.nil_append, List.cons_append]
    refine Walk.rel (fun v w' => ∃ u, v = .tuple #[u, .int .i64 0] ∧ Own w' 5 1 u b.length (u8s b) ∧ ∀ h, u.ownBlock = some h → w1.heap.size ≤ h) rfl (fun v a b' ⟨u, h1, h2, h3⟩ hab => ⟨u, h1, h2.keep0 hab, h3⟩) ?_ ?_
    · intro val w_ hR hp
      refine op_call rfl rfl rfl (read_has g s p nm w_ (x1.fs.at_.keep0 hR)) (fun v w' h => ?_)
      obtain ⟨h1, h2⟩ := h
      rw [hread] at h2
      obtain ⟨u, h3, h4, h5⟩ : ∃ u, v = .tuple #[u, .int .i64 0] ∧ Own w' 5 1 u b.length (u8s b) ∧ ∀ h, u.ownBlock = some h → w_.heap.size ≤ h := h2
      exact ⟨h1, u, h3, h4, fun h hh => by have := h5 h hh; have := hR.size; omega⟩
    dsimp only [List.nil_append, List.cons_append]
    refine Walk.rel (fun v w' => ∃ u, v = .tuple #[u, .int .i64 0] ∧ Own w' 5 1 u b.length (u8s b) ∧ ∀ h, u.ownBlock = some h → w1.heap.size ≤ h) rfl (fun v a b' ⟨u, h1, h2, h3⟩ hab => ⟨u, h1, h2.keep0 hab, h3⟩) ?_ ?_
    · intro val w_ hR hp
      exact op_move rfl rfl ⟨Chg.refl _ _, hp 8 rfl _ _ rfl rfl⟩
    dsimp only [List.nil_append, List.cons_append]
    refine Walk.rel (fun u w' => Own w' 5 1 u b.length (u8s b) ∧ ∀ h, u.ownBlock = some h → w1.heap.size ≤ h) rfl (fun v a b' ⟨h2, h3⟩ hab => ⟨h2.keep0 hab, h3⟩) ?_ ?_
    · intro val w_ hR hp
      obtain ⟨u, h1, h2, h3⟩ : ∃ u, val 9 = .tuple #[u, .int .i64 0] ∧ Own w_ 5 1 u b.length (u8s b) ∧ ∀ h, u.ownBlock = some h → w1.heap.size ≤ h := hp 9 rfl _ _ rfl rfl
      exact op_extract rfl (congrArg some h1) rfl ⟨Chg.refl _ _, h2, h3⟩
    dsimp only [List.nil_append, List.cons_append]
    refine Walk.plain (v := .int .i64 0) rfl ?_ ?_
    · intro val w_ hR hp
      obtain ⟨u, h1, h2, h3⟩ : ∃ u, val 9 = .tuple #[u, .int .i64 0] ∧ Own w_ 5 1 u b.length (u8s b) ∧ ∀ h, u.ownBlock = some h → w1.heap.size ≤ h := hp 9 rfl _ _ rfl rfl
      exact op_extract rfl (congrArg some h1) rfl ⟨Chg.refl _ _, rfl⟩
    dsimp only [List.nil_append, List.cons_append]
    refine Walk.rel (fun u w' => Own w' 5 1 u b.length (u8s b) ∧ ∀ h, u.ownBlock = some h → w1.heap.size ≤ h) rfl (fun v a b' ⟨h2, h3⟩ hab => ⟨h2.keep0 hab, h3⟩) ?_ ?_
    · intro val w_ hR hp
      exact op_assign rfl rfl ⟨Chg.refl _ _, hp 10 rfl _ _ rfl rfl⟩
    dsimp only [List.nil_append, List.cons_append]
    refine Walk.fin ?_
    intro val w2 hc2 hp
    obtain ⟨ho2, hf2⟩ : Own w2 5 1 (val 12) b.length (u8s b) ∧ ∀ h, (val 12).ownBlock = some h → w1.heap.size ≤ h := hp 12 (by omega) _ _ rfl rfl
    clear hp
    repeat (first | refine WL_nil ?_ | refine WL_some rfl rfl rfl ?_ | refine op_assign rfl rfl ?_)
    exact Meet_n (val 12, w2) ⟨rfl, rfl, rfl, rfl, rfl, rfl, trivial⟩ ⟨rfl, hc2, ho2, hf2⟩
  rintro ⟨ub, w2⟩ _ ⟨rfl, hc2, ho2, hf2⟩
  dsimp only at hc2 ho2 hf2 ⊢
  refine Then_n ?_
  have hsb := ho2.bytes
  obtain ⟨Ab, cb, rfl, hcb1, hcb2⟩ := ho2.form
  unfold maxLen at hcb2
  have hg42 := hg4.keep0 hc2
  have hbk2 := hbk.keep0 hc2
  have hgs4 : gs ≠ g4 := fun e => by subst e; exact hbk.ne_ hg4 (by decide) rfl
  unfold cellM
  by_cases hshort : b.length < e_
  · rw [if_pos hshort]
    repeat (first | refine W_seq ?_ | refine W_region ?_ | refine Then_n ?_ | refine WL_nil ?_ | refine W_condT rfl ?_ | refine WL_some rfl rfl rfl ?_ | refine WL_none rfl rfl ?_ | refine WL_guardT rfl rfl rfl rfl ?_ | refine op_move rfl rfl ?_ | refine op_pick rfl rfl rfl rfl ?_ | refine op_len_slice T rfl rfl rfl rfl ?_ | refine op_lss rfl rfl rfl (fun hc => ?_) (fun hc => False.elim (by omega)) | refine op_neq rfl rfl rfl (fun hc => False.elim (by omega)) (fun hc => ?_) | refine op_build T rfl rfl rfl rfl rfl rfl ?_)
    refine op_store_agg T rfl rfl rfl rfl rfl rfl hg42 (by exact Nat.le_of_ble_eq_true rfl) (fun w3 hc3 hb3 _ => ?_)
    repeat (first | refine W_ret ?_ | refine Then_n ?_ | refine Then_r ?_ | refine WL_nil ?_ | refine WL_some rfl rfl rfl ?_ | refine op_assign rfl rfl ?_)
    exact post2c T (.inl rfl) rfl rfl rfl rfl rfl hb3 rfl ⟨(hc1.trans' hc2).trans hc3 (fun k hk hlt => by simp at hk; omega), rfl⟩
  rw [if_neg hshort]
  obtain ⟨ad, hA, hu⟩ := hcell _ hc2 _ _ ha
  subst hA
  repeat (first | refine W_seq ?_ | refine W_region ?_ | refine W_skip ?_ | refine Then_n ?_ | refine WL_nil ?_ | refine W_condF rfl ?_ | refine WL_some rfl rfl rfl ?_ | refine WL_guardT rfl rfl rfl rfl ?_ | refine op_move rfl rfl ?_ | refine op_pick rfl rfl rfl rfl ?_ | refine op_len_slice T rfl rfl rfl rfl ?_ | refine op_nilCheck rfl rfl ?_ | refine op_index_nat T rfl rfl rfl rfl rfl rfl (by omega) ?_ | refine op_load T rfl rfl rfl rfl (by assumption) ?_ | refine op_lss rfl rfl rfl (fun hc => False.elim (by omega)) (fun hc => ?_) | refine op_neq rfl rfl rfl (fun hc => False.elim (by omega)) (fun hc => ?_) | refine op_fieldAddr T rfl rfl rfl rfl rfl rfl rfl rfl ?_ | refine op_loadB T rfl rfl rfl rfl (by assumption) (by exact rfl) ?_)
  refine op_cut T (l := a) (h' := e_) rfl rfl rfl rfl rfl ⟨_, rfl⟩ ⟨_, rfl⟩ hsb hae (by omega) (fun A' hA' => ?_)
  have hs' := hA' _ hsb
  repeat (refine WL_some rfl rfl rfl ?_)
  refine op_call rfl rfl rfl (rscan_has A' _ _ _ _ hs' (by simp; omega)) ?_
  rintro _ w3 ⟨ur, rfl, hc3, hor, hfr⟩
  obtain ⟨Ar, cr, rfl, hcr1, hcr2⟩ := hor.form
  unfold maxLen at hcr2
  have hg43 := hg42.keep0 hc3
  have hbk3 := hbk2.keep0 hc3
  have hu3 := hc3.cell0 hu
  have hc03 : Chg [] w w3 := (hc1.trans' hc2).trans' hc3
  have hbd : ((rscanM ((b.take e_).drop a)).2.1 : Int) = (rscanM ((b.take e_).drop a)).2.1 := rfl
  generalize rscanM ((b.take e_).drop a) = q at *
  obtain ⟨L, tot, okk⟩ := q
  dsimp only at *
  by_cases h1 : L.length = 1
  · by_cases htot : tot = e_ - a
    · rw [if_pos ⟨h1, htot⟩]
      match L, h1, hor, hcr1 with
      | [r], h1, hor, hcr1 =>
        have hrc : ∀ j v, (recL r)[j]? = some v → ∃ g9, Ar = some ⟨g9, 0, none⟩ ∧ w3.cell? ⟨g9, j, none⟩ = some v := fun j v hj => by
          obtain ⟨gg, h1, ⟨c', h2⟩, h3⟩ := hor.cell (show ([r].flatMap recL)[j]? = some v from by simpa using hj)
          injection h2 with h2
          exact ⟨gg, h2, h3⟩
        obtain ⟨g9, rfl, _⟩ := hrc 0 _ rfl
        have hrc' : ∀ j v, (recL r)[j]? = some v → w3.cell? ((⟨g9, 0, none⟩ : Addr).add j) = some v := fun j v hj => by
          obtain ⟨gg, h2, h3⟩ := hrc j v hj
          injection h2 with h2
          injection h2 with h2 _ _
          subst h2
          rw [add_plain]; exact h3
        repeat (first | refine W_seq ?_ | refine W_region ?_ | refine W_skip ?_ | refine Then_n ?_ | refine WL_nil ?_ | refine W_condF rfl ?_ | refine WL_some rfl rfl rfl ?_ | refine WL_guardT rfl rfl rfl rfl ?_ | refine op_move rfl rfl ?_ | refine op_assign rfl rfl ?_ | refine op_pick rfl rfl rfl rfl ?_ | refine op_len_slice T rfl rfl rfl rfl ?_ | refine op_subt rfl rfl rfl (wrap_i64_in (by omega) (by omega)) ?_ | refine op_extract rfl rfl rfl ?_ | refine op_nilCheck rfl rfl ?_ | refine op_index_nat T rfl rfl rfl rfl rfl rfl (by omega) ?_ | refine op_load T rfl rfl rfl rfl (by assumption) ?_ | refine op_neq rfl rfl rfl (fun hc => False.elim (by omega)) (fun hc => ?_) | refine op_fieldAddr T rfl rfl rfl rfl rfl rfl rfl rfl ?_ | refine op_loadB T rfl rfl rfl rfl (by assumption) (by exact rfl) ?_)
        refine op_index_slice T rfl rfl rfl rfl rfl (by omega) (by omega) (p := (⟨g9, 0, none⟩ : Addr)) (by exact rfl) ?_
        repeat (refine WL_some rfl rfl rfl ?_)
        refine op_load_cells (cs := recL r) T rfl rfl rfl rfl rfl hrc' ?_
        repeat (refine WL_none rfl rfl ?_)
        refine op_store_agg T rfl rfl rfl rfl rfl rfl hg43 (by exact Nat.le_of_ble_eq_true rfl) (fun w4 hc4 hb4 _ => ?_)
        repeat (first | refine W_ret ?_ | refine Then_n ?_ | refine WL_nil ?_ | refine WL_some rfl rfl rfl ?_ | refine op_assign rfl rfl ?_)
        exact post2c T (.inl rfl) rfl rfl rfl rfl rfl hb4 rfl ⟨hc03.trans hc4 (fun k hk hlt => by simp at hk; omega), rfl⟩
    · rw [if_neg (fun h => htot h.2)]
      repeat (first | refine W_seq ?_ | refine W_region ?_ | refine Then_n ?_ | refine WL_nil ?_ | refine W_condT rfl ?_ | refine WL_some rfl rfl rfl ?_ | refine WL_none rfl rfl ?_ | refine WL_guardT rfl rfl rfl rfl ?_ | refine op_move rfl rfl ?_ | refine op_assign rfl rfl ?_ | refine op_pick rfl rfl rfl rfl ?_ | refine op_len_slice T rfl rfl rfl rfl ?_ | refine op_subt rfl rfl rfl (wrap_i64_in (by omega) (by omega)) ?_ | refine op_extract rfl rfl rfl ?_ | refine op_nilCheck rfl rfl ?_ | refine op_index_nat T rfl rfl rfl rfl rfl rfl (by omega) ?_ | refine op_load T rfl rfl rfl rfl (by assumption) ?_ | refine op_neq rfl rfl rfl (fun hc => ?_) (fun hc => False.elim (by omega)) | refine op_neq rfl rfl rfl (fun hc => False.elim (by omega)) (fun hc => ?_) | refine op_fieldAddr T rfl rfl rfl rfl rfl rfl rfl rfl ?_ | refine op_build T rfl rfl rfl rfl rfl rfl ?_ | refine op_loadB T rfl rfl rfl rfl (by assumption) (by exact rfl) ?_)
      refine op_store_agg T rfl rfl rfl rfl rfl rfl hg43 (by exact Nat.le_of_ble_eq_true rfl) (fun w4 hc4 hb4 _ => ?_)
      repeat (first | refine W_ret ?_ | refine Then_n ?_ | refine Then_r ?_ | refine WL_nil ?_ | refine WL_some rfl rfl rfl ?_ | refine op_assign rfl rfl ?_)
      exact post2c T (.inl rfl) rfl rfl rfl rfl rfl hb4 rfl ⟨hc03.trans hc4 (fun k hk hlt => by simp at hk; omega), rfl⟩
  · rw [if_neg (fun h => h1 h.1)]
    repeat (first | refine W_seq ?_ | refine W_region ?_ | refine Then_n ?_ | refine WL_nil ?_ | refine W_condT rfl ?_ | refine WL_some rfl rfl rfl ?_ | refine WL_none rfl rfl ?_ | refine WL_guardF rfl rfl rfl rfl rfl ?_ | refine op_move rfl rfl ?_ | refine op_assign rfl rfl ?_ | refine op_pick rfl rfl rfl rfl ?_ | refine op_len_slice T rfl rfl rfl rfl ?_ | refine op_extract rfl rfl rfl ?_ | refine op_neq rfl rfl rfl (fun hc => ?_) (fun hc => False.elim (by omega)) | refine op_build T rfl rfl rfl rfl rfl rfl ?_)
    refine op_store_agg T rfl rfl rfl rfl rfl rfl hg43 (by exact Nat.le_of_ble_eq_true rfl) (fun w4 hc4 hb4 _ => ?_)
    repeat (first | refine W_ret ?_ | refine Then_n ?_ | refine Then_r ?_ | refine WL_nil ?_ | refine WL_some rfl rfl rfl ?_ | refine op_assign rfl rfl ?_)
    exact post2c T (.inl rfl) rfl rfl rfl rfl rfl hb4 rfl ⟨hc03.trans hc4 (fun k hk hlt => by simp at hk; omega), rfl⟩
end
end Go.Proofs.YtbhnplghnhafiaaGreatDoor.Tryz
/-! Segments: records one behind the other, in plain words; no segment; what is out of range. -/
set_option linter.unusedVariables false
namespace Go.Vc
open Go
/-- Records one behind the other. -/
def encs (rs : List RecM) : List UInt8 := rs.flatMap fun r => sealM (bodyM r)
def offs (rs : List RecM) : List Nat := (List.range rs.length).map fun i => (encs (rs.take i)).length
theorem encs_append (a b : List RecM) : encs (a ++ b) = encs a ++ encs b := by simp [encs]
theorem encs_one (r : RecM) : encs [r] = sealM (bodyM r) := by simp [encs]
theorem offs_length (rs : List RecM) : (offs rs).length = rs.length := by simp [offs]
theorem offs_snoc (rs : List RecM) (r : RecM) : offs (rs ++ [r]) = offs rs ++ [(encs rs).length] := by
  unfold offs
  rw [List.length_append, List.length_singleton, List.range_succ, List.map_append, List.map_singleton, List.take_left' rfl]
  congr 1
  apply List.map_congr_left
  intro i hi
  rw [List.mem_range] at hi
  rw [List.take_append_of_le_length (by omega)]
theorem offs_get (rs : List RecM) {i : Nat} (hi : i < rs.length) : (offs rs)[i]? = some (encs (rs.take i)).length := by
  unfold offs
  rw [List.getElem?_map, List.getElem?_range hi]; rfl
theorem offs_next (rs : List RecM) {i : Nat} (hi : i < rs.length) : (offs rs ++ [(encs rs).length])[i + 1]? = some (encs (rs.take (i + 1))).length := by
  by_cases h : i + 1 < rs.length
  · rw [List.getElem?_append_left (by rw [offs_length]; exact h), offs_get rs h]
  · have : i + 1 = rs.length := by omega
    rw [List.getElem?_append_right (by rw [offs_length]; omega), offs_length, this, Nat.sub_self, List.take_length]; rfl
theorem encs_take (rs : List RecM) {i : Nat} {r : RecM} (hi : rs[i]? = some r) : encs (rs.take (i + 1)) = encs (rs.take i) ++ sealM (bodyM r) := by
  rw [List.take_add_one, hi, encs_append]
  simp [encs]
theorem encs_prefix (rs : List RecM) (k : Nat) : encs rs = encs (rs.take k) ++ encs (rs.drop k) := by rw [← encs_append, List.take_append_drop]
theorem encs_cut (rs : List RecM) {i : Nat} {r : RecM} (hi : rs[i]? = some r) (more : List UInt8) : ((encs rs ++ more).take (encs (rs.take (i + 1))).length).drop (encs (rs.take i)).length = sealM (bodyM r) := by
  rw [encs_prefix rs (i + 1), List.append_assoc, List.take_left' rfl, encs_take rs hi, List.drop_left' rfl]
theorem encs_len {rs : List RecM} (h : ∀ r ∈ rs, RecOk r) : (encs rs).length ≤ 4212 * rs.length := by
  induction rs with
  | nil => simp [encs]
  | cons r rs ih =>
    have h1 := bodyM_len (h r (by simp))
    have h2 := ih (fun r hr => h r (by simp [hr]))
    have : encs (r :: rs) = sealM (bodyM r) ++ encs rs := by simp [encs]
    rw [this, List.length_append, sealM_length, List.length_cons]
    omega
theorem encs_mono (rs : List RecM) (i : Nat) : (encs (rs.take i)).length ≤ (encs (rs.take (i + 1))).length := by
  cases h : rs[i]? with
  | none => rw [List.take_add_one, h]; simp
  | some r => rw [encs_take rs h]; simp
/-- A record is read again, where it lies. -/
theorem cellM_encs {rs : List RecM} {i : Nat} {r : RecM} (hi : rs[i]? = some r) (hr : RecOk r) (more : List UInt8) : cellM (encs rs ++ more) (encs (rs.take i)).length (encs (rs.take (i + 1))).length = (r, 0) := by
  have hl : (encs (rs.take (i + 1))).length ≤ (encs rs ++ more).length := by rw [encs_prefix rs (i + 1)]; simp
  have hs := rscanM_enc hr []
  rw [List.append_nil, rscanM_nil] at hs
  unfold cellM
  rw [if_neg (by omega), encs_cut rs hi, hs, if_pos ⟨rfl, by rw [encs_take rs hi]; simp⟩]
  rfl
theorem rscanM_encs {rs : List RecM} (h : ∀ r ∈ rs, RecOk r) : rscanM (encs rs) = (rs, (encs rs).length, true) := by
  induction rs with
  | nil => exact rscanM_nil
  | cons r rs ih =>
    have e : encs (r :: rs) = sealM (bodyM r) ++ encs rs := by simp [encs]
    rw [e, rscanM_enc (h r (by simp)), ih (fun r hr => h r (by simp [hr]))]
    simp
/-! ### Files that have one file -/
def oneFs (room calls : Int) (nm : Nm) (b : List UInt8) (sy : Nat) (las : Dir) (ws : List ChM) : FsM := ⟨room, calls, -1, [⟨b, sy⟩], [(nm, 0)], las, ws⟩
theorem looks_one (nm : Nm) : looks [(nm, 0)] nm = some 0 := by simp [looks]
theorem used_one (room calls : Int) (nm : Nm) (b : List UInt8) (sy : Nat) (las : Dir) (ws : List ChM) : usedM (oneFs room calls nm b sy las ws) = b.length := by simp [usedM, lenOf, oneFs]
theorem min21 : min (2 : Int) 1 = 1 := by decide
theorem create_one (n : Int) (nm : Nm) (hn : mayM nm = true) : createM (newM n) nm = (oneFs (roomM n) 1 nm [] 0 [] [⟨0, nm, [], some 0⟩], 0) := by
  unfold createM newM callM failsM changeM doM oneFs
  simp [hn, looks, ins, min21]
theorem append_one' (room calls : Int) (nm : Nm) (b : List UInt8) (sy : Nat) (las : Dir) (ws : List ChM) (c : List UInt8) : appendM (oneFs room calls nm b sy las ws) nm c = if room - b.length < c.length then (oneFs room (calls + 1) nm b sy las ws, 4) else (oneFs room (calls + 1) nm (b ++ c) sy las ws, 0) := by
  have hu : usedM (callM (oneFs room calls nm b sy las ws)) = b.length := used_one room (calls + 1) nm b sy las ws
  unfold appendM
  dsimp only
  rw [hu]
  simp [failsM, oneFs, callM, looks, min21]
theorem sync_one (room calls : Int) (nm : Nm) (b : List UInt8) (sy : Nat) (las : Dir) (ws : List ChM) : syncM (oneFs room calls nm b sy las ws) nm = (oneFs room (calls + 1) nm b b.length las ws, 0) := by
  simp [syncM, failsM, oneFs, callM, looks, min21]
theorem syncDir_one (room calls : Int) (nm : Nm) (b : List UInt8) (sy : Nat) (las : Dir) (ws : List ChM) : syncDirM (oneFs room calls nm b sy las ws) = (oneFs room (calls + 1) nm b sy [(nm, 0)] [], 0) := by
  simp [syncDirM, failsM, oneFs, callM, min21]
theorem read_one (room calls : Int) (nm : Nm) (b : List UInt8) (sy : Nat) (las : Dir) (ws : List ChM) : readM (oneFs room calls nm b sy las ws) nm = some b := by
  simp [readM, oneFs, looks]
theorem may_raw {n : Nat} (hn : n < 10) : mayM (rawNm n) = true := by
  revert n
  decide
end Go.Vc
namespace Go.Proofs.YtbhnplghnhafiaaGreatDoor.Tryz
open Go Go.Vc
theorem zero_rec : (recL zeroR) = [.int .i64 0, .int .i64 0, .string (str []), .string (str [])] := rfl
/-- Get of what there is not. -/
theorem getBad_has {w : World} {gs g : Nat} {nm : Nm} {ats : List Nat} {en : Nat} {u : Value} (x : SegB w gs g nm ats en u) (i : Int) (hi : i < 0 ∨ (ats.length : Int) ≤ i) :
    Has Go.Proofs.Tryz.prog 20 #[.pointer (some ⟨gs, 0, none⟩), .int .i64 i] w (fun v w' => Chg [] w w' ∧ v = .tuple #[.agg (recL zeroR).toArray, .int .i64 7]) := by
  refine enter Go.Proofs.Tryz.func20 rfl rfl (by decide) rfl (e := [(0, .pointer (some ⟨gs, 0, none⟩)), (1, .int .i64 i)]) ⟨rfl, rfl, trivial⟩ ?_
  obtain ⟨A, c, rfl, _, _⟩ := x.own.form
  repeat (first | refine W_seq ?_ | refine W_region ?_ | refine WL_some rfl rfl rfl ?_)
  refine op_alloc T rfl rfl (fun g4 w1 hs1 hc1 hg4 => ?_)
  have hg4 : Blk w1 g4 32 [.int .i64 0, .int .i64 0, .string (str []), .string (str [])] := hg4
  have hbk := (x.keep0 hc1).blk
  by_cases h0 : i < 0
  · repeat (first | refine W_seq ?_ | refine W_block ?_ | refine W_region ?_ | refine Then_n ?_ | refine WL_nil ?_ | refine W_condT rfl ?_ | refine W_condF rfl ?_ | refine WL_some rfl rfl rfl ?_ | refine WL_none rfl rfl ?_ | refine WL_guardF rfl rfl rfl rfl rfl ?_ | refine op_move rfl rfl ?_ | refine op_assign rfl rfl ?_ | refine op_pick rfl rfl rfl rfl ?_ | refine op_lss rfl rfl rfl (fun hc => ?_) (fun hc => False.elim (by omega)) | refine op_eql_nilptr T rfl rfl rfl rfl rfl ?_ | refine op_build T rfl rfl rfl rfl rfl rfl ?_)
    refine op_store_agg T rfl rfl rfl rfl rfl rfl hg4 (by exact Nat.le_of_ble_eq_true rfl) (fun w4 hc4 hb4 _ => ?_)
    repeat (first | refine W_ret ?_ | refine Then_n ?_ | refine Then_r ?_ | refine InBlock_r ?_ | refine WL_nil ?_ | refine WL_some rfl rfl rfl ?_ | refine op_assign rfl rfl ?_)
    exact post2c T (.inl rfl) rfl rfl rfl rfl rfl hb4 rfl ⟨hc1.trans hc4 (fun k hk hlt => by simp at hk; omega), rfl⟩
  · repeat (first | refine W_seq ?_ | refine W_block ?_ | refine W_region ?_ | refine Then_n ?_ | refine WL_nil ?_ | refine W_condT rfl ?_ | refine W_condF rfl ?_ | refine WL_some rfl rfl rfl ?_ | refine WL_none rfl rfl ?_ | refine WL_guardT rfl rfl rfl rfl ?_ | refine op_move rfl rfl ?_ | refine op_assign rfl rfl ?_ | refine op_pick rfl rfl rfl rfl ?_ | refine op_len_slice T rfl rfl rfl rfl ?_ | refine op_nilCheck rfl rfl ?_ | refine op_lss rfl rfl rfl (fun hc => False.elim (by omega)) (fun hc => ?_) | refine op_geq rfl rfl rfl (fun hc => ?_) (fun hc => False.elim (by omega)) | refine op_fieldAddr T rfl rfl rfl rfl rfl rfl rfl rfl ?_ | refine op_eql_nilptr T rfl rfl rfl rfl rfl ?_ | refine op_build T rfl rfl rfl rfl rfl rfl ?_ | refine op_loadB T rfl rfl rfl rfl (by assumption) (by exact rfl) ?_)
    refine op_store_agg T rfl rfl rfl rfl rfl rfl hg4 (by exact Nat.le_of_ble_eq_true rfl) (fun w4 hc4 hb4 _ => ?_)
    repeat (first | refine W_ret ?_ | refine Then_n ?_ | refine Then_r ?_ | refine InBlock_r ?_ | refine WL_nil ?_ | refine WL_some rfl rfl rfl ?_ | refine op_assign rfl rfl ?_)
    exact post2c T (.inl rfl) rfl rfl rfl rfl rfl hb4 rfl ⟨hc1.trans hc4 (fun k hk hlt => by simp at hk; omega), rfl⟩
theorem getNil_has (w : World) (i : Int) :
    Has Go.Proofs.Tryz.prog 20 #[.pointer none, .int .i64 i] w (fun v w' => Chg [] w w' ∧ v = .tuple #[.agg (recL zeroR).toArray, .int .i64 9]) := by
  refine enter Go.Proofs.Tryz.func20 rfl rfl (by decide) rfl (e := [(0, .pointer none), (1, .int .i64 i)]) ⟨rfl, rfl, trivial⟩ ?_
  repeat (first | refine W_seq ?_ | refine W_region ?_ | refine WL_some rfl rfl rfl ?_)
  refine op_alloc T rfl rfl (fun g4 w1 hs1 hc1 hg4 => ?_)
  have hg4 : Blk w1 g4 32 [.int .i64 0, .int .i64 0, .string (str []), .string (str [])] := hg4
  repeat (first | refine W_seq ?_ | refine W_block ?_ | refine W_region ?_ | refine Then_n ?_ | refine WL_nil ?_ | refine W_condT rfl ?_ | refine WL_some rfl rfl rfl ?_ | refine WL_none rfl rfl ?_ | refine op_move rfl rfl ?_ | refine op_assign rfl rfl ?_ | refine op_eql_nilptr T rfl rfl rfl rfl rfl ?_ | refine op_build T rfl rfl rfl rfl rfl rfl ?_)
  refine op_store_agg T rfl rfl rfl rfl rfl rfl hg4 (by exact Nat.le_of_ble_eq_true rfl) (fun w4 hc4 hb4 _ => ?_)
  repeat (first | refine W_ret ?_ | refine Then_n ?_ | refine Then_r ?_ | refine InBlock_r ?_ | refine WL_nil ?_ | refine WL_some rfl rfl rfl ?_ | refine op_assign rfl rfl ?_)
  exact post2c T (.inl rfl) rfl rfl rfl rfl rfl hb4 rfl ⟨hc1.trans hc4 (fun k hk hlt => by simp at hk; omega), rfl⟩
theorem appendNilS_has (w : World) (cs : List Value) (hcs : cs.length = 4) :
    Has Go.Proofs.Tryz.prog 16 #[.pointer none, .agg cs.toArray] w (fun v w' => Chg [] w w' ∧ v = .tuple #[.int .i64 (-1), .int .i64 9]) := by
  refine enter Go.Proofs.Tryz.func16 rfl rfl (by decide) rfl (e := [(0, .pointer none), (1, .agg cs.toArray)]) ⟨rfl, rfl, trivial⟩ ?_
  repeat (first | refine W_seq ?_ | refine W_region ?_ | refine WL_some rfl rfl rfl ?_)
  refine op_box rfl rfl (fun gr w1 hs1 hc1 hg1 => ?_)
  repeat (first | refine W_seq ?_ | refine W_region ?_ | refine W_ret ?_ | refine Then_n ?_ | refine Then_r ?_ | refine WL_nil ?_ | refine W_condT rfl ?_ | refine WL_some rfl rfl rfl ?_ | refine op_move rfl rfl ?_ | refine op_assign rfl rfl ?_ | refine op_eql_nilptr T rfl rfl rfl rfl rfl ?_)
  exact post2 (.inl rfl) rfl rfl rfl ⟨hc1, rfl⟩
theorem syncNilS_has (w : World) : Has Go.Proofs.Tryz.prog 17 #[.pointer none] w (fun v w' => w' = w ∧ v = .int .i64 9) := by
  refine enter Go.Proofs.Tryz.func17 rfl rfl (by decide) rfl (e := [(0, .pointer none)]) ⟨rfl, trivial⟩ ?_
  repeat (first | refine W_seq ?_ | refine W_region ?_ | refine W_ret ?_ | refine Then_n ?_ | refine Then_r ?_ | refine WL_nil ?_ | refine W_condT rfl ?_ | refine WL_some rfl rfl rfl ?_ | refine op_move rfl rfl ?_ | refine op_assign rfl rfl ?_ | refine op_eql_nilptr T rfl rfl rfl rfl rfl ?_)
  exact post1 (.inl rfl) rfl rfl ⟨rfl, rfl⟩
theorem sizeNilS_has (w : World) : Has Go.Proofs.Tryz.prog 42 #[.pointer none] w (fun v w' => w' = w ∧ v = .int .i64 0) := by
  refine enter Go.Proofs.Tryz.func42 rfl rfl (by decide) rfl (e := [(0, .pointer none)]) ⟨rfl, trivial⟩ ?_
  repeat (first | refine W_seq ?_ | refine W_region ?_ | refine W_ret ?_ | refine Then_n ?_ | refine Then_r ?_ | refine WL_nil ?_ | refine W_condT rfl ?_ | refine WL_some rfl rfl rfl ?_ | refine op_move rfl rfl ?_ | refine op_assign rfl rfl ?_ | refine op_eql_nilptr T rfl rfl rfl rfl rfl ?_)
  exact post1 (.inl rfl) rfl rfl ⟨rfl, rfl⟩
theorem lenNilS_has (w : World) : Has Go.Proofs.Tryz.prog 21 #[.pointer none] w (fun v w' => w' = w ∧ v = .int .i64 0) := by
  refine enter Go.Proofs.Tryz.func21 rfl rfl (by decide) rfl (e := [(0, .pointer none)]) ⟨rfl, trivial⟩ ?_
  repeat (first | refine W_seq ?_ | refine W_region ?_ | refine W_ret ?_ | refine Then_n ?_ | refine Then_r ?_ | refine WL_nil ?_ | refine W_condT rfl ?_ | refine WL_some rfl rfl rfl ?_ | refine op_move rfl rfl ?_ | refine op_assign rfl rfl ?_ | refine op_eql_nilptr T rfl rfl rfl rfl rfl ?_)
  exact post1 (.inl rfl) rfl rfl ⟨rfl, rfl⟩
end Go.Proofs.YtbhnplghnhafiaaGreatDoor.Tryz
/-! Segments: one record. -/
set_option linter.unusedVariables false
namespace Go.Vc
open Go
def kvR : RecM := ⟨1, 1, [107], [118]⟩
theorem kvR_ok : RecOk kvR := ⟨by decide, by decide, by decide, .inl rfl, by decide, by decide⟩
end Go.Vc
namespace Go.Proofs.YtbhnplghnhafiaaGreatDoor.Tryz
open Go Go.Vc
set_option maxHeartbeats 2000000 in
theorem begun15_has (w : World) : Has Go.Proofs.Tryz.prog 4 #[] w (fun v w' => Chg [] w w' ∧ v = .bool true) := by
  refine enter Go.Proofs.Tryz.func4 rfl rfl (by decide) rfl (e := []) trivial ?_
  have hcr := create_one 10000 (rawNm 3) (may_raw (by decide))
  have hlen := sealM_length (bodyM kvR)
  have hbl := bodyM_len kvR_ok
  have hap := append_one' (roomM 10000) 1 (rawNm 3) [] 0 [] [⟨0, rawNm 3, [], some 0⟩] (sealM (bodyM kvR))
  rw [if_neg (by show ¬ (10000 : Int) - ((([] : List UInt8).length : Nat) : Int) < _; simp; omega)] at hap
  have hrd := read_one (roomM 10000) (1 + 1) (rawNm 3) ([] ++ sealM (bodyM kvR)) 0 [] [⟨0, rawNm 3, [], some 0⟩]
  rw [List.nil_append] at hrd hap
  repeat (first | refine W_seq ?_ | refine W_region ?_ | refine Then_n ?_ | refine WL_nil ?_ | refine WL_some rfl rfl rfl ?_ | refine op_assign rfl rfl ?_)
  refine op_call rfl rfl rfl (newO_has 10000 w) ?_
  rintro _ w1 ⟨g, p1, rfl, x1⟩
  unfold ptrV
  repeat (first | refine W_seq ?_ | refine W_region ?_ | refine Then_n ?_ | refine WL_nil ?_ | refine WL_some rfl rfl rfl ?_ | refine op_move rfl rfl ?_ | refine op_assign rfl rfl ?_)
  refine op_call rfl rfl rfl (createS_has x1 3 (by decide) (by decide) (by decide) (by rw [hcr])) ?_
  rintro _ w2 ⟨gs, p2, u2, rfl, x2⟩
  rw [hcr] at x2
  dsimp only at x2
  unfold ptrV
  repeat (first | refine W_seq ?_ | refine W_region ?_ | refine W_skip ?_ | refine Then_n ?_ | refine WL_nil ?_ | refine W_condF rfl ?_ | refine WL_some rfl rfl rfl ?_ | refine WL_guardT rfl rfl rfl rfl ?_ | refine op_move rfl rfl ?_ | refine op_assign rfl rfl ?_ | refine op_pick rfl rfl rfl rfl ?_ | refine op_extract rfl rfl rfl ?_ | refine op_neq rfl rfl rfl (fun hc => False.elim (by omega)) (fun hc => ?_) | refine op_eql_nilptr T rfl rfl rfl rfl rfl ?_ | refine op_build T rfl rfl rfl rfl rfl rfl ?_)
  have hcall := appendS_has x2 kvR kvR_ok (by show (1 : Int) < _; decide) (by decide) (by decide)
  rw [hap] at hcall
  refine op_call rfl rfl rfl hcall ?_
  rintro v3 w3 ⟨_, h3⟩
  obtain ⟨hv3, p3, u3, x3⟩ := h3 rfl
  obtain rfl : v3 = .tuple #[.int .i64 0, .int .i64 0] := hv3
  dsimp only at x3
  rw [Nat.zero_add, List.nil_append] at x3
  repeat (first | refine W_seq ?_ | refine W_region ?_ | refine Then_n ?_ | refine WL_nil ?_ | refine WL_some rfl rfl rfl ?_ | refine op_move rfl rfl ?_ | refine op_assign rfl rfl ?_ | refine op_extract rfl rfl rfl ?_)
  have hce : cellM (sealM (bodyM kvR)) 0 (sealM (bodyM kvR)).length = (kvR, 0) := by
    have := cellM_encs (rs := [kvR]) (i := 0) rfl kvR_ok []
    simpa [encs] using this
  have hget := getS_has x3 (sealM (bodyM kvR)) hrd (by omega) 0 0 (sealM (bodyM kvR)).length rfl rfl (Nat.zero_le _) (by decide)
  rw [hce] at hget
  refine op_call rfl rfl rfl hget ?_
  rintro v4 w4 ⟨hc4, hv4⟩
  obtain rfl : v4 = .tuple #[.agg (recL kvR).toArray, .int .i64 0] := hv4
  have x4 := x3.keep0 hc4
  repeat (first | refine WL_some rfl rfl rfl ?_ | refine op_move rfl rfl ?_ | refine op_extract rfl rfl rfl ?_)
  refine op_alloc T rfl rfl (fun g5 w5 hs5 hc5 hg5 => ?_)
  have hg5 : Blk w5 g5 32 [.int .i64 0, .int .i64 0, .string (str []), .string (str [])] := hg5
  have x5 := x4.keep0 hc5
  repeat (refine WL_none rfl rfl ?_)
  refine op_store_agg T rfl rfl rfl rfl rfl rfl hg5 (by exact Nat.le_of_ble_eq_true rfl) (fun w6 hc6 hg6 _ => ?_)
  have hg6 : Blk w6 g5 32 [.int .i64 1, .int .i64 1, .string (str [107]), .string (str [118])] := hg6
  have hs5 : w4.heap.size ≤ g5 := hs5
  have hc46 : Chg [] w4 w6 := hc5.trans hc6 (fun k hk hlt => by simp at hk; omega)
  have x6 := x4.keep0 hc46
  repeat (first | refine W_seq ?_ | refine W_region ?_ | refine Then_n ?_ | refine WL_nil ?_ | refine WL_some rfl rfl rfl ?_ | refine op_move rfl rfl ?_ | refine op_assign rfl rfl ?_)
  refine op_call rfl rfl rfl (getBad_has x6.seg 1 (.inr (by decide))) ?_
  rintro _ w7 ⟨hc7, rfl⟩
  have x7 := x6.keep0 hc7
  have hg7 := hg6.keep0 hc7
  repeat (first | refine WL_some rfl rfl rfl ?_ | refine op_move rfl rfl ?_ | refine op_extract rfl rfl rfl ?_)
  refine op_alloc T rfl rfl (fun g8 w8 hs8 hc8 hg8 => ?_)
  have hg8 : Blk w8 g8 32 [.int .i64 0, .int .i64 0, .string (str []), .string (str [])] := hg8
  have hs8 : w7.heap.size ≤ g8 := hs8
  repeat (refine WL_none rfl rfl ?_)
  refine op_store_agg T rfl rfl rfl rfl rfl rfl hg8 (by exact Nat.le_of_ble_eq_true rfl) (fun w9 hc9 _ _ => ?_)
  have hc79 : Chg [] w7 w9 := hc8.trans hc9 (fun k hk hlt => by simp at hk; omega)
  have x9 := x7.keep0 hc79
  have hg9 := hg7.keep0 hc79
  repeat (first | refine W_seq ?_ | refine W_region ?_ | refine Then_n ?_ | refine WL_nil ?_ | refine WL_some rfl rfl rfl ?_ | refine WL_guardT rfl rfl rfl rfl ?_ | refine op_move rfl rfl ?_ | refine op_assign rfl rfl ?_ | refine op_pick rfl rfl rfl rfl ?_ | refine op_eql rfl rfl rfl (fun hc => ?_) (fun hc => False.elim (by omega)) | refine op_fieldAddr T rfl rfl rfl rfl rfl rfl rfl rfl ?_ | refine op_loadB T rfl rfl rfl rfl (by assumption) (by exact rfl) ?_)
  refine op_str_eql (a := [118]) (b := [118]) rfl rfl rfl (fun _ => ?_) (fun h => absurd rfl h)
  repeat (first | refine WL_some rfl rfl rfl ?_ | refine WL_guardT rfl rfl rfl rfl ?_ | refine op_move rfl rfl ?_ | refine op_pick rfl rfl rfl rfl ?_ | refine op_eql rfl rfl rfl (fun hc => ?_) (fun hc => False.elim (by omega)))
  refine op_call rfl rfl rfl (lenS_has x9.seg) ?_
  rintro v10 _ ⟨rfl, hv10⟩
  obtain rfl : v10 = .int .i64 1 := hv10
  repeat (first | refine WL_some rfl rfl rfl ?_ | refine WL_guardT rfl rfl rfl rfl ?_ | refine op_move rfl rfl ?_ | refine op_pick rfl rfl rfl rfl ?_ | refine op_eql rfl rfl rfl (fun hc => ?_) (fun hc => False.elim (by omega)))
  refine op_call rfl rfl rfl (name_has 3 _ (by decide)) ?_
  rintro _ _ ⟨rfl, rfl⟩
  repeat (refine WL_guardT rfl rfl rfl rfl ?_)
  refine op_str_eql (a := rawNm 3) (b := [51, 46, 114, 97, 119]) rfl rfl rfl (fun _ => ?_) (fun h => absurd rfl h)
  repeat (first | refine W_ret ?_ | refine Then_n ?_ | refine WL_nil ?_ | refine WL_some rfl rfl rfl ?_ | refine op_assign rfl rfl ?_ | refine op_pick rfl rfl rfl rfl ?_)
  exact post1 (.inl rfl) rfl rfl ⟨x9.chg, rfl⟩
end Go.Proofs.YtbhnplghnhafiaaGreatDoor.Tryz
/-! Segments: Open of what there is not, and of whole records. -/
set_option linter.unusedVariables false
namespace Go.Vc
open Go
theorem flat_get {α β : Type} {f : α → List β} {k : Nat} (hf : ∀ x, (f x).length = k) : ∀ (l : List α) {i j : Nat} {x : α}, l[i]? = some x → j < k → (l.flatMap f)[i * k + j]? = (f x)[j]?
  | [], i, j, x, h, _ => by simp at h
  | a :: l, 0, j, x, h, hj => by
    simp at h
    subst h
    rw [List.flatMap_cons, Nat.zero_mul, Nat.zero_add, List.getElem?_append_left (by rw [hf]; exact hj)]
  | a :: l, i + 1, j, x, h, hj => by
    rw [List.flatMap_cons, List.getElem?_append_right (by rw [hf, Nat.succ_mul]; omega), hf, show (i + 1) * k + j - k = i * k + j from by rw [Nat.succ_mul]; omega]
    exact flat_get hf l (by simpa using h) hj
end Go.Vc
namespace Go.Proofs.YtbhnplghnhafiaaGreatDoor.Tryz
open Go Go.Vc
theorem createBad_has (g : Nat) (w : World) : Has Go.Proofs.Tryz.prog 19 #[ptrV g, .int .i64 0] w (fun v w' => w' = w ∧ v = .tuple #[.pointer none, .int .i64 7]) := by
  refine enter Go.Proofs.Tryz.func19 rfl rfl (by decide) rfl (e := [(0, ptrV g), (1, .int .i64 0)]) ⟨rfl, rfl, trivial⟩ ?_
  unfold ptrV
  repeat (first | refine W_seq ?_ | refine W_region ?_ | refine W_ret ?_ | refine Then_n ?_ | refine Then_r ?_ | refine WL_nil ?_ | refine W_condT rfl ?_ | refine WL_some rfl rfl rfl ?_ | refine WL_guardF rfl rfl rfl rfl rfl ?_ | refine op_move rfl rfl ?_ | refine op_assign rfl rfl ?_ | refine op_pick rfl rfl rfl rfl ?_ | refine op_lss rfl rfl rfl (fun hc => ?_) (fun hc => False.elim (by omega)))
  exact post2 (.inl rfl) rfl rfl rfl ⟨rfl, rfl⟩
theorem openNone_has {w0 w : World} {g : Nat} {s : FsM} {p : FsP} (x : FsO w0 w g s p) (n : Nat) (hn : n < 10) (hread : readM s (rawNm n) = none) :
    Has Go.Proofs.Tryz.prog 14 #[ptrV g, .int .i64 (n : Int)] w (fun v w' => Chg [] w w' ∧ v = .tuple #[.pointer none, .int .i64 3]) := by
  refine enter Go.Proofs.Tryz.func14 rfl rfl (by decide) rfl (e := [(0, ptrV g), (1, .int .i64 (n : Int))]) ⟨rfl, rfl, trivial⟩ ?_
  unfold ptrV
  repeat (first | refine W_seq ?_ | refine W_region ?_ | refine Then_n ?_ | refine WL_nil ?_ | refine WL_some rfl rfl rfl ?_ | refine op_move rfl rfl ?_ | refine op_assign rfl rfl ?_)
  refine op_call rfl rfl rfl (name_has n w hn) ?_
  rintro _ _ ⟨rfl, rfl⟩
  repeat (refine WL_some rfl rfl rfl ?_)
  refine op_call rfl rfl rfl (readO_has x (rawNm n)) ?_
  rintro v1 w1 ⟨x1, hc1, h1⟩
  rw [hread] at h1
  obtain rfl : v1 = .tuple #[.slice none 0 0, .int .i64 3] := h1
  repeat (first | refine W_seq ?_ | refine W_region ?_ | refine W_ret ?_ | refine Then_n ?_ | refine Then_r ?_ | refine WL_nil ?_ | refine W_condT rfl ?_ | refine WL_some rfl rfl rfl ?_ | refine op_move rfl rfl ?_ | refine op_assign rfl rfl ?_ | refine op_extract rfl rfl rfl ?_ | refine op_neq rfl rfl rfl (fun hc => ?_) (fun hc => False.elim (by omega)))
  exact post2 (.inl rfl) rfl rfl rfl ⟨hc1, rfl⟩
set_option maxHeartbeats 2000000 in
/-- Open of a file of whole records. -/
theorem openS_has {w0 w : World} {g : Nat} {s : FsM} {p : FsP} (x : FsO w0 w g s p) (n : Nat) (hn : n < 10) (rs : List RecM) (hrs : ∀ r ∈ rs, RecOk r) (hlen : rs.length ≤ 1000) (hread : readM s (rawNm n) = some (encs rs)) :
    Has Go.Proofs.Tryz.prog 14 #[ptrV g, .int .i64 (n : Int)] w (fun v w' => Chg [] w w' ∧ ∃ gs u, v = .tuple #[ptrV gs, .int .i64 0] ∧ SegO w0 w' gs g s p (rawNm n) (offs rs) (encs rs).length u) := by
  refine enter Go.Proofs.Tryz.func14 rfl rfl (by decide) rfl (e := [(0, ptrV g), (1, .int .i64 (n : Int))]) ⟨rfl, rfl, trivial⟩ ?_
  have hel := encs_len hrs
  unfold ptrV
  repeat (first | refine W_seq ?_ | refine W_region ?_ | refine Then_n ?_ | refine WL_nil ?_ | refine WL_some rfl rfl rfl ?_ | refine op_move rfl rfl ?_ | refine op_assign rfl rfl ?_)
  refine op_call rfl rfl rfl (name_has n w hn) ?_
  rintro _ w ⟨rfl, rfl⟩
  repeat (refine WL_some rfl rfl rfl ?_)
  refine op_call rfl rfl rfl (readO_has x (rawNm n)) ?_
  rintro v1 w1 ⟨x1, hc1, h1⟩
  rw [hread] at h1
  obtain ⟨ub, rfl, hob, hfb⟩ : ∃ u, v1 = .tuple #[u, .int .i64 0] ∧ Own w1 5 1 u (encs rs).length (u8s (encs rs)) ∧ ∀ h, u.ownBlock = some h → _ ≤ h := h1
  have hsb := hob.bytes
  obtain ⟨Ab, cb, rfl, _, _⟩ := hob.form
  repeat (first | refine W_seq ?_ | refine W_region ?_ | refine W_skip ?_ | refine Then_n ?_ | refine WL_nil ?_ | refine W_condF rfl ?_ | refine WL_some rfl rfl rfl ?_ | refine op_move rfl rfl ?_ | refine op_assign rfl rfl ?_ | refine op_extract rfl rfl rfl ?_ | refine op_neq rfl rfl rfl (fun hc => False.elim (by omega)) (fun hc => ?_))
  refine op_call rfl rfl rfl (rscan_has Ab _ cb _ w1 hsb (by omega)) ?_
  rintro _ w2 ⟨ul, rfl, hc2, hol, hfl⟩
  rw [rscanM_encs hrs]
  rw [rscanM_encs hrs] at hol
  dsimp only at hol ⊢
  have x2 := x1.keep0 hc2
  obtain ⟨Al, cl, rfl, _, _⟩ := hol.form
  repeat (first | refine W_seq ?_ | refine W_region ?_ | refine W_skip ?_ | refine Then_n ?_ | refine WL_nil ?_ | refine W_condF rfl ?_ | refine WL_some rfl rfl rfl ?_ | refine op_move rfl rfl ?_ | refine op_assign rfl rfl ?_ | refine op_len_slice T rfl rfl rfl rfl ?_ | refine op_notT rfl rfl ?_ | refine op_extract rfl rfl rfl ?_ | refine op_lss rfl rfl rfl (fun hc => False.elim (by omega)) (fun hc => ?_))
  refine op_call rfl rfl rfl (name_has n w2 hn) ?_
  rintro _ w2 ⟨rfl, rfl⟩
  repeat (first | refine WL_some rfl rfl rfl ?_ | refine op_build T rfl rfl rfl rfl rfl rfl ?_)
  refine op_box rfl rfl (fun gs w3 hs3 hc3 hg3 => ?_)
  have hg3 : Blk w3 gs 78 [ptrV g, .string (str (rawNm n)), .slice none 0 0, .int .i64 0] := hg3
  have hge : _ ≤ gs := hs3
  have x3 := x2.keep0 hc3
  have hol3 := hol.keep0 hc3
  have xs3 : SegO w0 w3 gs g s p (rawNm n) [] 0 (.slice none 0 0) := ⟨x3, ⟨hg3, Own.nil _ _ _⟩, fun hm => by have := x2.at_.lt gs hm; omega, fun k hk => by simp [Value.ownBlock] at hk, by have := x2.chg.size; omega, fun k hk => by simp [Value.ownBlock] at hk⟩
  have hc13 : Chg [] w w3 := (hc1.trans' hc2).trans' hc3
  repeat (first | refine W_seq ?_ | refine W_block ?_ | refine W_region ?_ | refine Then_n ?_ | refine WL_nil ?_ | refine WL_some rfl rfl rfl ?_ | refine op_move rfl rfl ?_ | refine op_assign rfl rfl ?_ | refine op_len_slice T rfl rfl rfl rfl ?_)
  refine W_loop (σ := Nat) (fun k => [(12, .pointer (some ⟨gs, 0, none⟩)), (57, .slice Al rs.length cl), (58, .int .i64 (rs.length : Nat)), (59, .int .i64 (k : Int))])
    (fun k w' => k ≤ rs.length ∧ Chg [] w w' ∧ Own w' 32 4 (.slice Al rs.length cl) rs.length (rs.flatMap recL) ∧ ∃ u, SegO w0 w' gs g s p (rawNm n) (offs (rs.take k)) (encs (rs.take k)).length u ∧ ∀ h, u.ownBlock = some h → w.heap.size ≤ h)
    (fun k => rs.length - k) 0 ⟨rfl, rfl, rfl, rfl, trivial⟩ ⟨by omega, hc13, hol3, .slice none 0 0, by simpa [offs, encs] using xs3, fun h hh => by simp [Value.ownBlock] at hh⟩ ?_
  rintro k w4 ⟨hk, hc4, ho4, u4, x4, hu4⟩
  repeat (first | refine W_seq ?_ | refine W_region ?_ | refine WL_some rfl rfl rfl ?_)
  (refine op_lss rfl rfl rfl (fun hc => ?_) (fun hc => ?_))
  · have hkl : k < rs.length := by omega
    have hr : rs[k]? = some rs[k] := List.getElem?_eq_getElem hkl
    have hok := hrs _ (List.getElem_mem hkl)
    have htake := encs_take rs hr
    have hoff : offs (rs.take (k + 1)) = offs (rs.take k) ++ [(encs (rs.take k)).length] := by rw [List.take_add_one, hr]; exact offs_snoc _ _
    have hmono : (encs (rs.take (k + 1))).length ≤ (encs rs).length := by rw [encs_prefix rs (k + 1)]; simp
    have hofl : (offs (rs.take k)).length ≤ 1000 := by rw [offs_length, List.length_take]; omega
    obtain ⟨gl, hgl, hcells⟩ : ∃ gl, Al = some ⟨gl, 0, none⟩ ∧ ∀ j v, (recL rs[k])[j]? = some v → w4.cell? ((⟨gl, 0, none⟩ : Addr).add (k * 4 + j)) = some v := by
      have hcell : ∀ j v, (recL rs[k])[j]? = some v → (rs.flatMap recL)[k * 4 + j]? = some v := fun j v hj => by
        have hj4 : j < 4 := by have := (List.getElem?_eq_some_iff.1 hj).1; simpa [recL] using this
        have := flat_get (f := recL) (k := 4) (fun r => rfl) rs hr hj4
        rw [this]; exact hj
      obtain ⟨g0, h1, ⟨c', h2⟩, _⟩ := ho4.cell (hcell 0 _ rfl)
      injection h2 with h2
      refine ⟨g0, h2, fun j v hj => ?_⟩
      obtain ⟨g1, h3, _, h5⟩ := ho4.cell (hcell j v hj)
      rw [h1] at h3
      injection h3 with h3
      subst h3
      rw [add_plain]; exact h5
    subst hgl
    generalize rs[k] = r at *
    repeat (first | refine W_seq ?_ | refine W_block ?_ | refine W_region ?_ | refine W_skip ?_ | refine Then_n ?_ | refine WL_nil ?_ | refine W_condT rfl ?_ | refine WL_some rfl rfl rfl ?_)
    refine op_index_slice T rfl rfl rfl rfl rfl (by omega) (by omega) (p := (⟨gl, 0, none⟩ : Addr).add (k * 4)) (by rw [Int.toNat_natCast]) ?_
    repeat (refine WL_some rfl rfl rfl ?_)
    refine op_load_cells (cs := recL r) T rfl rfl rfl rfl rfl (fun j v hj => by rw [add_of_add]; exact hcells j v hj) ?_
    repeat (refine WL_some rfl rfl rfl ?_)
    refine op_alloc T rfl rfl (fun g5 w5 hs5 hc5 hg5 => ?_)
    have hg5 : Blk w5 g5 32 [.int .i64 0, .int .i64 0, .string (str []), .string (str [])] := hg5
    have hs5 : w4.heap.size ≤ g5 := hs5
    repeat (refine WL_none rfl rfl ?_)
    refine op_store_agg T rfl rfl rfl rfl rfl rfl hg5 (by exact Nat.le_of_ble_eq_true rfl) (fun w6 hc6 hg6 _ => ?_)
    have hg6 : Blk w6 g5 32 (recL r) := hg6
    have hc46 : Chg [] w4 w6 := hc5.trans hc6 (fun k hk hlt => by simp at hk; omega)
    repeat (first | refine W_seq ?_ | refine W_region ?_ | refine Then_n ?_ | refine WL_nil ?_ | refine WL_some rfl rfl rfl ?_ | refine op_load_agg T rfl rfl rfl rfl (by assumption) (by exact Nat.le_of_ble_eq_true rfl) (by exact rfl) ?_)
    refine op_call rfl rfl rfl (encode_has r w6) ?_
    rintro _ w7 ⟨ue, rfl, me⟩
    have henc : encM r = (sealM (bodyM r), 0) := by unfold encM; rw [if_neg (by simp [checkM_ok.2 hok])]
    rw [henc] at me
    rw [henc]
    dsimp only at me
    obtain ⟨Ae, ce, rfl, _, _⟩ := me.form
    have hc47 := hc46.trans' me.chg
    have x7 := x4.keep0 hc47
    have ho7 := ho4.keep0 hc47
    repeat (first | refine W_region ?_ | refine Then_n ?_ | refine WL_nil ?_ | refine WL_some rfl rfl rfl ?_ | refine op_move rfl rfl ?_ | refine op_assign rfl rfl ?_ | refine op_len_slice T rfl rfl rfl rfl ?_ | refine op_extract rfl rfl rfl ?_)
    refine op_call rfl rfl rfl (addS_has x7.seg (sealM (bodyM r)).length (by omega) (by rw [htake, List.length_append] at hmono; omega)) ?_
    rintro v8 w8 ⟨hc8, u8, hs8, hb8⟩
    have x8 := x7.turn hc8 hs8 hb8
    rw [← hoff, ← List.length_append, ← htake] at x8
    have ho8 := ho7.keep hc8 (fun h hh hm => by
      obtain ⟨cur, hrow⟩ := ho7.row hh
      rcases List.mem_cons.1 hm with rfl | hm
      · exact hrow.ne_ x7.seg.blk (by decide) rfl
      · obtain ⟨cur2, hrow2⟩ := x7.seg.own.row (show u4.ownBlock = some h by simpa using hm)
        exact hrow.ne_ hrow2 (by decide) rfl)
    have hgw : w.heap.size ≤ gs := by have := hc1.size; have := hc2.size; omega
    have hc08 : Chg [] w w8 := (hc4.trans' hc47).trans hc8 (fun k hk hlt => by
      rcases List.mem_cons.1 hk with rfl | hk
      · omega
      · have := hu4 k (by simpa using hk); omega)
    repeat (first | refine W_region ?_ | refine Then_n ?_ | refine InBlock_n ?_ | refine WL_nil ?_ | refine WL_some rfl rfl rfl ?_ | refine op_move rfl rfl ?_ | refine op_add rfl rfl rfl (wrap_i64_in (by omega) (by omega)) ?_)
    refine Round_n (k + 1) ⟨rfl, rfl, rfl, rfl, trivial⟩ ⟨by omega, hc08, ho8, u8, x8, fun h hh => ?_⟩ (by omega)
    rcases hb8 with hb | ⟨h', hb, hge'⟩
    · exact hu4 h (by rw [← hb]; exact hh)
    · rw [hb] at hh; injection hh with hh; have := hc4.size; have := hc47.size; omega
  · obtain rfl : k = rs.length := by omega
    rw [List.take_length] at x4
    repeat (first | refine W_seq ?_ | refine W_region ?_ | refine W_exit ?_ | refine W_ret ?_ | refine Then_n ?_ | refine Then_x ?_ | refine InBlock_hit ?_ | refine Round_x ?_ | refine WL_nil ?_ | refine W_condF rfl ?_ | refine WL_some rfl rfl rfl ?_ | refine op_move rfl rfl ?_ | refine op_assign rfl rfl ?_)
    exact post2 (.inl rfl) rfl rfl rfl ⟨hc4, gs, u4, rfl, x4⟩
end Go.Proofs.YtbhnplghnhafiaaGreatDoor.Tryz
/-! raw.Write: five steps, one after the other, until one fails. -/
set_option linter.unusedVariables false
namespace Go.Vc
open Go
def writeK (s : FsM) (nm beside : Nm) (b : List UInt8) : Nat → FsM × Int
  | 0 => createM s beside
  | 1 => appendM s beside b
  | 2 => syncM s beside
  | 3 => renameM s beside nm
  | _ => syncDirM s
/-- The steps from k on. -/
def writeG (nm beside : Nm) (b : List UInt8) : Nat → Nat → FsM → FsM × Int
  | 0, _, s => (s, 0)
  | n + 1, k, s => if (writeK s nm beside b k).2 ≠ 0 then writeK s nm beside b k else writeG nm beside b n (k + 1) (writeK s nm beside b k).1
theorem writeK_calls (s : FsM) (nm beside : Nm) (b : List UInt8) (k : Nat) : (writeK s nm beside b k).1.calls = s.calls + 1 := by
  unfold writeK
  split
  · unfold createM; dsimp only; split; · rfl
    split; · rfl
    split <;> rfl
  · unfold appendM; dsimp only; split; · rfl
    split; · rfl
    split <;> rfl
  · unfold syncM; dsimp only; split; · rfl
    split <;> rfl
  · unfold renameM; dsimp only; split; · rfl
    split; · rfl
    split <;> rfl
  · unfold syncDirM; dsimp only; split <;> rfl
def writeM (s : FsM) (nm beside : Nm) (b : List UInt8) : FsM × Int := writeG nm beside b 5 0 s
end Go.Vc
namespace Go.Proofs.YtbhnplghnhafiaaGreatDoor.Tryz
open Go Go.Vc
theorem FsDone.trans {w w1 w2 : World} {g : Nat} {p p1 : FsP} {r' : FsM × Int} {v' : Value} (h1 : Chg (p.fp g) w w1) (hg : Grows w g p p1) (h2 : FsDone w1 g p1 r' v' w2) : FsDone w g p r' v' w2 := by
  obtain ⟨h3, h4, p2, h5, h6⟩ := h2
  exact ⟨h1.fps hg h3, h4, p2, h5, hg.trans h6 h1.size⟩
section
variable {w : World} {g : Nat} {s : FsM} {p : FsP} {gf gn gb gc : Nat} {nm beside : Nm} {A : Option Addr} {n c : Nat} {b : List UInt8}
theorem write1_has (x : FsAt w g s p) (h4 : Blk w gf 25 [ptrV g]) (h6 : Blk w gb 9 [.string (str beside)]) (hk : beside.length ≤ maxLen) (hcalls : s.calls < 1000000000 - 1) :
    Has Go.Proofs.Tryz.prog 54 #[ptrV gf, ptrV gb] w (FsDone w g p (createM s beside)) := by
  refine enter Go.Proofs.Tryz.func54 rfl rfl (by decide) rfl (e := [(0, ptrV gf), (1, ptrV gb)]) ⟨rfl, rfl, trivial⟩ ?_
  unfold ptrV at *
  repeat (first | refine W_seq ?_ | refine W_region ?_ | refine Then_n ?_ | refine WL_nil ?_ | refine WL_some rfl rfl rfl ?_ | refine op_assign rfl rfl ?_ | refine op_loadB T rfl rfl rfl rfl (by assumption) (by exact rfl) ?_)
  refine op_call rfl rfl rfl (create_has g s p beside w x hk hcalls) ?_
  intro v w1 h
  have hv := h.2.1
  subst hv
  repeat (first | refine W_ret ?_ | refine Then_n ?_ | refine WL_nil ?_ | refine WL_some rfl rfl rfl ?_ | refine op_assign rfl rfl ?_)
  exact post1 (.inl rfl) rfl rfl h
theorem write2_has (x : FsAt w g s p) (h4 : Blk w gf 25 [ptrV g]) (h6 : Blk w gb 9 [.string (str beside)]) (h7 : Blk w gc 23 [.slice A n c]) (hb : Firm (p.fp g) w (fun w => SliceOf Ru8 w (.slice A n c) b)) (hbl : b.length ≤ 1000000000) (hcalls : s.calls < 1000000000 - 1) :
    Has Go.Proofs.Tryz.prog 55 #[ptrV gf, ptrV gb, ptrV gc] w (FsDone w g p (appendM s beside b)) := by
  refine enter Go.Proofs.Tryz.func55 rfl rfl (by decide) rfl (e := [(0, ptrV gf), (1, ptrV gb), (2, ptrV gc)]) ⟨rfl, rfl, rfl, trivial⟩ ?_
  unfold ptrV at *
  repeat (first | refine W_seq ?_ | refine W_region ?_ | refine Then_n ?_ | refine WL_nil ?_ | refine WL_some rfl rfl rfl ?_ | refine op_assign rfl rfl ?_ | refine op_loadB T rfl rfl rfl rfl (by assumption) (by exact rfl) ?_)
  refine op_call rfl rfl rfl (append_has g s p beside A n c b w x hb hbl hcalls) ?_
  intro v w1 h
  have hv := h.2.1
  subst hv
  repeat (first | refine W_ret ?_ | refine Then_n ?_ | refine WL_nil ?_ | refine WL_some rfl rfl rfl ?_ | refine op_assign rfl rfl ?_)
  exact post1 (.inl rfl) rfl rfl h
theorem write3_has (x : FsAt w g s p) (h4 : Blk w gf 25 [ptrV g]) (h6 : Blk w gb 9 [.string (str beside)]) (hcalls : s.calls < 1000000000 - 1) :
    Has Go.Proofs.Tryz.prog 56 #[ptrV gf, ptrV gb] w (FsDone w g p (syncM s beside)) := by
  refine enter Go.Proofs.Tryz.func56 rfl rfl (by decide) rfl (e := [(0, ptrV gf), (1, ptrV gb)]) ⟨rfl, rfl, trivial⟩ ?_
  unfold ptrV at *
  repeat (first | refine W_seq ?_ | refine W_region ?_ | refine Then_n ?_ | refine WL_nil ?_ | refine WL_some rfl rfl rfl ?_ | refine op_assign rfl rfl ?_ | refine op_loadB T rfl rfl rfl rfl (by assumption) (by exact rfl) ?_)
  refine op_call rfl rfl rfl (sync_has g s p beside w x hcalls) ?_
  intro v w1 h
  have hv := h.2.1
  subst hv
  repeat (first | refine W_ret ?_ | refine Then_n ?_ | refine WL_nil ?_ | refine WL_some rfl rfl rfl ?_ | refine op_assign rfl rfl ?_)
  exact post1 (.inl rfl) rfl rfl h
theorem write4_has (x : FsAt w g s p) (h4 : Blk w gf 25 [ptrV g]) (h6 : Blk w gb 9 [.string (str beside)]) (h5 : Blk w gn 9 [.string (str nm)]) (hk : nm.length ≤ maxLen) (hcalls : s.calls < 1000000000 - 1) :
    Has Go.Proofs.Tryz.prog 57 #[ptrV gf, ptrV gb, ptrV gn] w (FsDone w g p (renameM s beside nm)) := by
  refine enter Go.Proofs.Tryz.func57 rfl rfl (by decide) rfl (e := [(0, ptrV gf), (1, ptrV gb), (2, ptrV gn)]) ⟨rfl, rfl, rfl, trivial⟩ ?_
  unfold ptrV at *
  repeat (first | refine W_seq ?_ | refine W_region ?_ | refine Then_n ?_ | refine WL_nil ?_ | refine WL_some rfl rfl rfl ?_ | refine op_assign rfl rfl ?_ | refine op_loadB T rfl rfl rfl rfl (by assumption) (by exact rfl) ?_)
  refine op_call rfl rfl rfl (rename_has g s p beside nm w x hk hcalls) ?_
  intro v w1 h
  have hv := h.2.1
  subst hv
  repeat (first | refine W_ret ?_ | refine Then_n ?_ | refine WL_nil ?_ | refine WL_some rfl rfl rfl ?_ | refine op_assign rfl rfl ?_)
  exact post1 (.inl rfl) rfl rfl h
set_option maxHeartbeats 4000000 in
theorem write_has (x : FsAt w g s p) (hb : Firm (p.fp g) w (fun w => SliceOf Ru8 w (.slice A n c) b)) (hbl : b.length ≤ 1000000000) (hk1 : nm.length ≤ maxLen) (hk2 : beside.length ≤ maxLen) (hcalls : s.calls < 1000000000 - 10) :
    Has Go.Proofs.Tryz.prog 37 #[ptrV g, .string (str nm), .string (str beside), .slice A n c] w (FsDone w g p (writeM s nm beside b)) := by
  refine enter Go.Proofs.Tryz.func37 rfl rfl (by decide) rfl (e := [(0, ptrV g), (1, .string (str nm)), (2, .string (str beside)), (3, .slice A n c)]) ⟨rfl, rfl, rfl, rfl, trivial⟩ ?_
  repeat (first | refine W_seq ?_ | refine W_region ?_ | refine WL_some rfl rfl rfl ?_)
  refine op_box rfl rfl (fun gf w1 hs1 hc1 h4 => ?_)
  have h4 : Blk w1 gf 25 [ptrV g] := h4
  have hs1 : w.heap.size ≤ gf := hs1
  repeat (refine WL_some rfl rfl rfl ?_)
  refine op_box rfl rfl (fun gn w2 hs2 hc2 h5 => ?_)
  have h5 : Blk w2 gn 9 [.string (str nm)] := h5
  have hs2 : w1.heap.size ≤ gn := hs2
  repeat (refine WL_some rfl rfl rfl ?_)
  refine op_box rfl rfl (fun gb w3 hs3 hc3 h6 => ?_)
  have h6 : Blk w3 gb 9 [.string (str beside)] := h6
  have hs3 : w2.heap.size ≤ gb := hs3
  repeat (refine WL_some rfl rfl rfl ?_)
  refine op_box rfl rfl (fun gc w4 hs4 hc4 h7 => ?_)
  have h7 : Blk w4 gc 23 [.slice A n c] := h7
  have hs4 : w3.heap.size ≤ gc := hs4
  have h44 := ((h4.keep0 hc2).keep0 hc3).keep0 hc4
  have h54 := (h5.keep0 hc3).keep0 hc4
  have h64 := h6.keep0 hc4
  have hc04 : Chg [] w w4 := ((hc1.trans' hc2).trans' hc3).trans' hc4
  unfold ptrV at *
  repeat (first | refine W_seq ?_ | refine W_region ?_ | refine Then_n ?_ | refine WL_nil ?_ | refine WL_some rfl rfl rfl ?_ | refine op_assign rfl rfl ?_)
  refine op_makeFunc (fv := #[]) (cv := #[.pointer (some ⟨gf, 0, none⟩), .pointer (some ⟨gb, 0, none⟩)]) rfl rfl rfl ?_
  repeat (refine WL_some rfl rfl rfl ?_)
  refine op_makeFunc (fv := #[]) (cv := #[.pointer (some ⟨gf, 0, none⟩), .pointer (some ⟨gb, 0, none⟩), .pointer (some ⟨gc, 0, none⟩)]) rfl rfl rfl ?_
  repeat (refine WL_some rfl rfl rfl ?_)
  refine op_makeFunc (fv := #[]) (cv := #[.pointer (some ⟨gf, 0, none⟩), .pointer (some ⟨gb, 0, none⟩)]) rfl rfl rfl ?_
  repeat (refine WL_some rfl rfl rfl ?_)
  refine op_makeFunc (fv := #[]) (cv := #[.pointer (some ⟨gf, 0, none⟩), .pointer (some ⟨gb, 0, none⟩), .pointer (some ⟨gn, 0, none⟩)]) rfl rfl rfl ?_
  repeat (first | refine WL_some rfl rfl rfl ?_ | refine op_loadB T rfl rfl rfl rfl (by assumption) (by exact rfl) ?_)
  refine op_makeFunc (fv := #[.pointer (some ⟨g, 0, none⟩)]) (cv := #[]) rfl rfl rfl ?_
  repeat (refine WL_some rfl rfl rfl ?_)
  refine op_buildSlice T rfl rfl rfl rfl rfl rfl rfl (fun gt w5 hs5 hc5 h8 => ?_)
  repeat (first | refine W_block ?_ | refine Then_n ?_ | refine WL_nil ?_ | refine WL_some rfl rfl rfl ?_ | refine op_move rfl rfl ?_ | refine op_len_slice T rfl rfl rfl rfl ?_)
  have h8 : Blk w5 gt 36 [.func (.func 54) #[] #[ptrV gf, ptrV gb], .func (.func 55) #[] #[ptrV gf, ptrV gb, ptrV gc], .func (.func 56) #[] #[ptrV gf, ptrV gb], .func (.func 57) #[] #[ptrV gf, ptrV gb, ptrV gn], .func (.func 12) #[ptrV g] #[]] := h8
  have hc05 : Chg [] w w5 := hc04.trans' hc5
  have x5 := x.keep0 hc05
  have hb5 := hb.step0 hc05
  have hlift : ∀ r v w', FsDone w5 g p r v w' → FsDone w g p r v w' := fun r v w' ⟨a, b', p', c', d⟩ => ⟨(hc05.mono (fun k hk _ => by cases hk)).trans a (fun _ h _ => h), b', p', c', fun k hk => (d k hk).imp id (fun h => by have := hc05.size; omega)⟩
  have hnew : ∀ k, w.heap.size ≤ k → k ∉ p.fp g := fun k hk hm => by have := x.lt k hm; omega
  have hz1 := hc1.size; have hz2 := hc2.size; have hz3 := hc3.size; have hz4 := hc4.size
  refine W_loop (σ := Nat) (fun k => [(18, .slice (some ⟨gt, 0, none⟩) 5 5), (19, .int .i64 5), (20, .int .i64 (k : Int))])
    (fun k w' => k ≤ 5 ∧ ∃ s' p', FsAt w' g s' p' ∧ Chg (p.fp g) w5 w' ∧ Grows w5 g p p' ∧ s'.calls = s.calls + k ∧ writeM s nm beside b = writeG nm beside b (5 - k) k s')
    (fun k => 5 - k) 0 ⟨rfl, rfl, rfl, trivial⟩ ⟨by omega, s, p, x5, Chg.refl _ _, Grows.refl _ _ _, by omega, rfl⟩ ?_
  rintro k w6 ⟨hk, s6, p6, x6, hc6, hg6, hcl, hw⟩
  have hnf : ∀ j, w.heap.size ≤ j → j ∉ p.fp g := hnew
  have h46 := (h44.keep0 hc5).keep hc6 (hnew _ hs1)
  have h56 := (h54.keep0 hc5).keep hc6 (hnew _ (by omega))
  have h66 := (h64.keep0 hc5).keep hc6 (hnew _ (by omega))
  have h76 := (h7.keep0 hc5).keep hc6 (hnew _ (by omega))
  have h86 := h8.keep hc6 (hnew _ (by omega))
  have hb6 : Firm (p6.fp g) w6 (fun w => SliceOf Ru8 w (.slice A n c) b) := fun w1 h => hb5 w1 (hc6.fps hg6 h)
  repeat (first | refine W_seq ?_ | refine W_region ?_ | refine WL_some rfl rfl rfl ?_)
  (refine op_lss rfl rfl rfl (fun hc => ?_) (fun hc => ?_))
  · have hk5 : k < 5 := by omega
    have hstep : ∃ nk fv cv, ([.func (.func 54) #[] #[ptrV gf, ptrV gb], .func (.func 55) #[] #[ptrV gf, ptrV gb, ptrV gc], .func (.func 56) #[] #[ptrV gf, ptrV gb], .func (.func 57) #[] #[ptrV gf, ptrV gb, ptrV gn], .func (.func 12) #[ptrV g] #[]] : List Value)[k]? = some (.func (.func nk) fv cv) ∧ Has Go.Proofs.Tryz.prog nk (fv ++ #[] ++ cv) w6 (FsDone w6 g p6 (writeK s6 nm beside b k)) := by
      match k, hk5 with
      | 0, _ => exact ⟨_, _, _, rfl, write1_has x6 h46 h66 hk2 (by omega)⟩
      | 1, _ => exact ⟨_, _, _, rfl, write2_has x6 h46 h66 h76 hb6 hbl (by omega)⟩
      | 2, _ => exact ⟨_, _, _, rfl, write3_has x6 h46 h66 (by omega)⟩
      | 3, _ => exact ⟨_, _, _, rfl, write4_has x6 h46 h66 h56 hk1 (by omega)⟩
      | 4, _ => exact ⟨_, _, _, rfl, syncDir_has g s6 p6 w6 x6 (by omega)⟩
    obtain ⟨nk, fv, cv, hcell, hhas⟩ := hstep
    have hcl2 := writeK_calls s6 nm beside b k
    have hcell6 := h86.cell hcell
    have hwg : writeG nm beside b (5 - k) k s6 = if (writeK s6 nm beside b k).2 ≠ 0 then writeK s6 nm beside b k else writeG nm beside b (5 - (k + 1)) (k + 1) (writeK s6 nm beside b k).1 := by
      rw [show 5 - k = (5 - (k + 1)) + 1 from by omega]; rfl
    repeat (first | refine W_seq ?_ | refine W_block ?_ | refine W_region ?_ | refine W_skip ?_ | refine Then_n ?_ | refine WL_nil ?_ | refine W_condT rfl ?_ | refine WL_some rfl rfl rfl ?_ | refine op_move rfl rfl ?_ | refine op_assign rfl rfl ?_ | refine op_index_own T rfl rfl rfl rfl rfl rfl (by omega) ?_ | refine op_load T rfl rfl rfl rfl (by assumption) ?_)
    refine op_callf rfl rfl rfl hhas ?_
    intro v w7 hd
    have hv := hd.2.1
    subst hv
    have hd5 : FsDone w5 g p (writeK s6 nm beside b k) _ w7 := FsDone.trans hc6 hg6 hd
    by_cases hz : (writeK s6 nm beside b k).2 = 0
    · rw [if_neg (by simp [hz])] at hwg
      obtain ⟨a1, _, p7, a3, a4⟩ := hd5
      repeat (first | refine W_seq ?_ | refine W_region ?_ | refine W_skip ?_ | refine Then_n ?_ | refine InBlock_n ?_ | refine WL_nil ?_ | refine W_condF rfl ?_ | refine WL_some rfl rfl rfl ?_ | refine op_move rfl rfl ?_ | refine op_assign rfl rfl ?_ | refine op_add rfl rfl rfl (wrap_i64_in (by omega) (by omega)) ?_ | refine op_neq rfl rfl rfl (fun hc => False.elim (by omega)) (fun hc => ?_))
      exact Round_n (k + 1) ⟨rfl, rfl, rfl, trivial⟩ ⟨by omega, _, p7, a3, a1, a4, by omega, by rw [hw, hwg]⟩ (by omega)
    · rw [if_pos hz] at hwg
      repeat (first | refine W_seq ?_ | refine W_region ?_ | refine W_ret ?_ | refine Then_n ?_ | refine Then_r ?_ | refine InBlock_r ?_ | refine Round_r ?_ | refine WL_nil ?_ | refine W_condT rfl ?_ | refine WL_some rfl rfl rfl ?_ | refine op_move rfl rfl ?_ | refine op_assign rfl rfl ?_ | refine op_neq rfl rfl rfl (fun hc => ?_) (fun hc => False.elim (by omega)))
      refine post1 (.inl rfl) rfl rfl (hlift _ _ _ ?_)
      rw [hw, hwg]; exact hd5
  · obtain rfl : k = 5 := by omega
    repeat (first | refine W_seq ?_ | refine W_region ?_ | refine W_exit ?_ | refine W_ret ?_ | refine Then_n ?_ | refine Then_x ?_ | refine InBlock_hit ?_ | refine Round_x ?_ | refine WL_nil ?_ | refine W_condF rfl ?_ | refine WL_some rfl rfl rfl ?_ | refine op_assign rfl rfl ?_)
    refine post1 (.inl rfl) rfl rfl (hlift _ _ _ ⟨hc6, ?_, p6, ?_, hg6⟩)
    · rw [hw]; rfl
    · rw [hw]; exact x6
end
end Go.Proofs.YtbhnplghnhafiaaGreatDoor.Tryz
/-! Bytes read as records: their front is those records; files that have one file; in plain words. -/
set_option linter.unusedVariables false
namespace Go.Vc
open Go
/-- What is opened was sealed. -/
theorem firstM_take {l : List UInt8} (h : (firstM l).2.1 ≠ 0) : l.take (firstM l).2.1 = sealM (firstM l).1 := by
  unfold firstM at h ⊢
  by_cases h1 : l.length < 12
  · rw [if_pos h1] at h; exact absurd rfl h
  rw [if_neg h1] at h ⊢
  by_cases h2 : getFourM (l.drop 4) ≠ crcN (l.take 4)
  · rw [if_pos h2] at h; exact absurd rfl h
  rw [if_neg h2] at h ⊢
  by_cases h3 : l.length - 12 < getFourM l
  · rw [if_pos h3] at h; exact absurd rfl h
  rw [if_neg h3] at h ⊢
  by_cases h4 : getFourM (l.drop 8) ≠ crcN ((l.drop 12).take (getFourM l))
  · rw [if_pos h4] at h; exact absurd rfl h
  rw [if_neg h4] at h ⊢
  dsimp only
  have e1 := fourM_getFourM (l := l) (by omega)
  have e2 := fourM_getFourM (l := l.drop 4) (by rw [List.length_drop]; omega)
  have e3 := fourM_getFourM (l := l.drop 8) (by rw [List.length_drop]; omega)
  rw [Decidable.not_not.1 h2] at e2
  rw [Decidable.not_not.1 h4] at e3
  have hbl : ((l.drop 12).take (getFourM l)).length = getFourM l := by rw [List.length_take, List.length_drop]; omega
  unfold sealM
  rw [hbl, e3, e1, e2]
  generalize getFourM l = k at *
  have t1 : l.take (12 + k) = l.take 12 ++ (l.drop 12).take k := List.take_add
  have t2 : l.take 12 = l.take 8 ++ (l.drop 8).take 4 := List.take_add (i := 8) (j := 4)
  have t3 : l.take 8 = l.take 4 ++ (l.drop 4).take 4 := List.take_add (i := 4) (j := 4)
  rw [t1, t2, t3]
/-- The records that are told are records that may be, and lie ahead. -/
theorem rscanM_front (n : Nat) : ∀ (l : List UInt8), l.length ≤ n → (∀ r ∈ (rscanM l).1, RecOk r) ∧ (rscanM l).2.1 = (encs (rscanM l).1).length ∧ l.take (rscanM l).2.1 = encs (rscanM l).1 ∧ 12 * (rscanM l).1.length ≤ l.length ∧ (rscanM l).2.1 ≤ l.length := by
  induction n with
  | zero =>
    intro l hl
    obtain rfl : l = [] := List.eq_nil_of_length_eq_zero (by omega)
    rw [rscanM_nil]
    simp [encs]
  | succ n ih =>
    intro l hl
    by_cases h : (firstM l).2.1 = 0
    · have : rscanM l = ([], 0, (firstM l).2.2) := by unfold rscanM; rw [scanM_end h]; rfl
      rw [this]
      simp [encs]
    · have hb := (firstM_bound l).resolve_left h
      obtain ⟨h12, hle, hlen⟩ := hb
      have htake := firstM_take h
      have hstep : rscanM l = if decOk (firstM l).1 = true then (decR (firstM l).1 :: (rscanM (l.drop (firstM l).2.1)).1, (sealM (firstM l).1).length + (rscanM (l.drop (firstM l).2.1)).2.1, (rscanM (l.drop (firstM l).2.1)).2.2) else ([], 0, false) := by
        unfold rscanM
        rw [scanM_step h]
        dsimp only
        rw [recGo]
        split
        · rw [recGo_at]; simp
        · rfl
      obtain ⟨i1, i2, i3, i4, i5⟩ := ih (l.drop (firstM l).2.1) (by rw [List.length_drop]; omega)
      rw [List.length_drop] at i4 i5
      rw [hstep]
      generalize rscanM (l.drop (firstM l).2.1) = q at *
      obtain ⟨rs, e, ok⟩ := q
      dsimp only at *
      split
      · rename_i hd
        obtain ⟨d1, d2⟩ := decOk_rec hd
        have hsl := sealM_length (firstM l).1
        have he : encs (decR (firstM l).1 :: rs) = sealM (firstM l).1 ++ encs rs := by simp [encs, d2]
        dsimp only
        rw [he, List.length_append, hsl]
        refine ⟨fun r hr => ?_, by omega, ?_, by rw [List.length_cons]; omega, by omega⟩
        · rcases List.mem_cons.1 hr with rfl | hr
          · exact d1
          · exact i1 r hr
        · have e12 : 12 + (firstM l).1.length = (firstM l).2.1 := by omega
          rw [e12, List.take_add, htake, i3]
      · simp [encs]
/-! ### Files that have one file -/
structure OneAt (s : FsM) (room calls : Int) (nm : Nm) (b : List UInt8) (sy i : Nat) : Prop where
  room : s.room = room
  calls : s.calls = calls
  fail : s.fail = -1
  dir : s.dir = [(nm, i)]
  file : s.files[i]? = some ⟨b, sy⟩
/-- .. whose directory lasts. -/
structure Lasts (s : FsM) (nm : Nm) (i : Nat) : Prop where
  last : s.lasts = [(nm, i)]
  wait : s.waits = []
section
variable {s : FsM} {room calls : Int} {nm : Nm} {b c : List UInt8} {sy i : Nat}
theorem OneAt.lt (h : OneAt s room calls nm b sy i) : i < s.files.length := (List.getElem?_eq_some_iff.1 h.file).1
theorem OneAt.nofail (h : OneAt s room calls nm b sy i) : failsM s = false := by unfold failsM; rw [h.fail]; rfl
theorem OneAt.used (h : OneAt s room calls nm b sy i) : usedM s = b.length := by simp [usedM, h.dir, lenOf, h.file]
theorem OneAt.looks (h : OneAt s room calls nm b sy i) : Go.Vc.looks s.dir nm = some i := by rw [h.dir]; simp [Go.Vc.looks]
theorem OneAt.read (h : OneAt s room calls nm b sy i) : readM s nm = some b := by simp [readM, h.looks, h.file]
theorem one_made (n : Int) (hn : mayM nm = true) : (createM (newM n) nm).2 = 0 ∧ OneAt (createM (newM n) nm).1 (roomM n) 1 nm [] 0 0 := by
  rw [create_one n nm hn]
  exact ⟨rfl, rfl, rfl, rfl, rfl, rfl⟩
theorem one_append (h : OneAt s room calls nm b sy i) (hr : (b.length : Int) + c.length ≤ room) : (appendM s nm c).2 = 0 ∧ OneAt (appendM s nm c).1 room (calls + 1) nm (b ++ c) sy i ∧ (∀ j, Lasts s nm j → Lasts (appendM s nm c).1 nm j) := by
  have hu : usedM (callM s) = b.length := h.used
  have hl : Go.Vc.looks (callM s).dir nm = some i := h.looks
  have hrm : (callM s).room = room := h.room
  have e : appendM s nm c = ({ callM s with files := (callM s).files.modify i fun f => { f with b := f.b ++ c } }, 0) := by
    unfold appendM
    dsimp only
    rw [h.nofail, hl, hu]
    dsimp only
    rw [if_neg (by simp), if_neg (by rw [hrm]; omega)]
  rw [e]
  refine ⟨rfl, ⟨h.room, by show s.calls + 1 = _; rw [h.calls], by show max (s.fail - 1) (-1) = -1; rw [h.fail]; rfl, h.dir, ?_⟩, fun j hj => ⟨hj.last, hj.wait⟩⟩
  show (s.files.modify i _)[i]? = _
  rw [List.getElem?_modify, h.file]; simp
theorem one_sync (h : OneAt s room calls nm b sy i) : (syncM s nm).2 = 0 ∧ OneAt (syncM s nm).1 room (calls + 1) nm b b.length i ∧ (∀ j, Lasts s nm j → Lasts (syncM s nm).1 nm j) := by
  have hl : Go.Vc.looks (callM s).dir nm = some i := h.looks
  have e : syncM s nm = ({ callM s with files := (callM s).files.modify i fun f => { f with synced := f.b.length } }, 0) := by
    unfold syncM
    dsimp only
    rw [h.nofail, hl]
    dsimp only
    rw [if_neg (by simp)]
  rw [e]
  refine ⟨rfl, ⟨h.room, by show s.calls + 1 = _; rw [h.calls], by show max (s.fail - 1) (-1) = -1; rw [h.fail]; rfl, h.dir, ?_⟩, fun j hj => ⟨hj.last, hj.wait⟩⟩
  show (s.files.modify i _)[i]? = _
  rw [List.getElem?_modify, h.file]; simp
theorem one_syncDir (h : OneAt s room calls nm b sy i) : (syncDirM s).2 = 0 ∧ OneAt (syncDirM s).1 room (calls + 1) nm b sy i ∧ Lasts (syncDirM s).1 nm i := by
  have e : syncDirM s = ({ callM s with lasts := (callM s).dir, waits := [] }, 0) := by
    unfold syncDirM
    dsimp only
    rw [h.nofail, if_neg (by simp)]
  rw [e]
  exact ⟨rfl, ⟨h.room, by show s.calls + 1 = _; rw [h.calls], by show max (s.fail - 1) (-1) = -1; rw [h.fail]; rfl, h.dir, h.file⟩, h.dir, rfl⟩
theorem one_again (h : OneAt s room calls nm b sy i) (hn : mayM nm = true) : (createM s nm).2 = 0 ∧ OneAt (createM s nm).1 room (calls + 1) nm [] 0 s.files.length := by
  have e : createM s nm = (changeM { callM s with files := (callM s).files ++ [⟨[], 0⟩] } ⟨0, nm, [], some (callM s).files.length⟩, 0) := by
    unfold createM
    dsimp only
    rw [h.nofail, if_neg (by simp), hn, if_neg (by simp), if_neg (by simp [show (callM s).dir = [(nm, i)] from h.dir])]
  rw [e]
  refine ⟨rfl, h.room, by show s.calls + 1 = _; rw [h.calls], by show max (s.fail - 1) (-1) = -1; rw [h.fail]; rfl, ?_, ?_⟩
  · show ins s.dir nm s.files.length = _
    rw [h.dir]
    simp [ins, nm_lt_irrefl]
  · show (s.files ++ [⟨[], 0⟩])[s.files.length]? = _
    rw [List.getElem?_append_right (Nat.le_refl _), Nat.sub_self]; rfl
theorem one_crash (h : OneAt s room calls nm b sy i) (hl : Lasts s nm i) : OneAt (crashM s 0 []) room 0 nm (b.take sy) sy 0 := by
  have ed : crashDir s 0 = [(nm, i)] := by unfold crashDir; rw [hl.last]; rfl
  unfold crashM
  rw [ed]
  refine ⟨h.room, rfl, rfl, rfl, ?_⟩
  simp [crashFiles, h.file, cutM, tailOf]
/-- A file of other bytes takes its place. -/
theorem one_write (h : OneAt s room calls nm b sy i) (bes : Nm) (hlt : bes < nm) (hne : nm ≠ bes) (hm1 : mayM nm = true) (hm2 : mayM bes = true) (hr : (b.length : Int) + c.length ≤ room) : (writeM s nm bes c).2 = 0 ∧ OneAt (writeM s nm bes c).1 room (calls + 5) nm c c.length s.files.length ∧ Lasts (writeM s nm bes c).1 nm s.files.length := by
  have hfl : ∀ t : FsM, t.fail = -1 → failsM t = false := fun t e => by unfold failsM; rw [e]; rfl
  have hcf : ∀ t : FsM, t.fail = -1 → (callM t).fail = -1 := fun t e => by show max (t.fail - 1) (-1) = -1; rw [e]; rfl
  -- made
  have e1 : createM s bes = (changeM { callM s with files := (callM s).files ++ [⟨[], 0⟩] } ⟨0, bes, [], some (callM s).files.length⟩, 0) := by
    unfold createM
    dsimp only
    rw [h.nofail, if_neg (by simp), hm2, if_neg (by simp), if_neg (by simp [show (callM s).dir = [(nm, i)] from h.dir])]
  obtain ⟨s1, hs1⟩ : ∃ s1, s1 = changeM { callM s with files := (callM s).files ++ [⟨[], 0⟩] } ⟨0, bes, [], some (callM s).files.length⟩ := ⟨_, rfl⟩
  rw [← hs1] at e1
  have d1 : s1.dir = [(bes, s.files.length), (nm, i)] := by
    rw [hs1]
    show ins s.dir bes s.files.length = _
    rw [h.dir]; simp [ins, hlt]
  have f1 : s1.files = s.files ++ [⟨[], 0⟩] := by rw [hs1]; rfl
  have r1 : s1.room = room := by rw [hs1]; exact h.room
  have c1 : s1.calls = calls + 1 := by rw [hs1]; show s.calls + 1 = _; rw [h.calls]
  have l1 : s1.fail = -1 := by rw [hs1]; exact hcf s h.fail
  have fi1 : s1.files[i]? = some ⟨b, sy⟩ := by rw [f1, List.getElem?_append_left h.lt]; exact h.file
  have fn1 : s1.files[s.files.length]? = some ⟨[], 0⟩ := by rw [f1, List.getElem?_append_right (Nat.le_refl _), Nat.sub_self]; rfl
  have hin : ¬ s.files.length = i := by have := h.lt; omega
  clear hs1
  generalize s.files.length = n at *
  -- appended
  have k1 : Go.Vc.looks (callM s1).dir bes = some n := by show Go.Vc.looks s1.dir bes = _; rw [d1]; simp [Go.Vc.looks]
  have u1 : usedM (callM s1) = b.length := by
    show usedM s1 = _
    simp [usedM, d1, lenOf, fi1, fn1]
  have e2 : appendM s1 bes c = ({ callM s1 with files := (callM s1).files.modify n fun f => { f with b := f.b ++ c } }, 0) := by
    unfold appendM
    dsimp only
    rw [hfl s1 l1, k1, u1]
    dsimp only
    rw [if_neg (by simp), if_neg (by show ¬ s1.room - _ < _; rw [r1]; omega)]
  obtain ⟨s2, hs2⟩ : ∃ s2, s2 = { callM s1 with files := (callM s1).files.modify n fun f => { f with b := f.b ++ c } } := ⟨_, rfl⟩
  rw [← hs2] at e2
  have d2 : s2.dir = [(bes, n), (nm, i)] := by rw [hs2]; exact d1
  have r2 : s2.room = room := by rw [hs2]; exact r1
  have c2 : s2.calls = calls + 2 := by rw [hs2]; show s1.calls + 1 = _; rw [c1]; omega
  have l2 : s2.fail = -1 := by rw [hs2]; exact hcf s1 l1
  have fn2 : s2.files[n]? = some ⟨c, 0⟩ := by
    rw [hs2]
    show (s1.files.modify n _)[n]? = _
    rw [List.getElem?_modify, fn1]; simp
  clear hs2
  -- synced
  have k2 : Go.Vc.looks (callM s2).dir bes = some n := by show Go.Vc.looks s2.dir bes = _; rw [d2]; simp [Go.Vc.looks]
  have e3 : syncM s2 bes = ({ callM s2 with files := (callM s2).files.modify n fun f => { f with synced := f.b.length } }, 0) := by
    unfold syncM
    dsimp only
    rw [hfl s2 l2, k2]
    dsimp only
    rw [if_neg (by simp)]
  obtain ⟨s3, hs3⟩ : ∃ s3, s3 = { callM s2 with files := (callM s2).files.modify n fun f => { f with synced := f.b.length } } := ⟨_, rfl⟩
  rw [← hs3] at e3
  have d3 : s3.dir = [(bes, n), (nm, i)] := by rw [hs3]; exact d2
  have r3 : s3.room = room := by rw [hs3]; exact r2
  have c3 : s3.calls = calls + 3 := by rw [hs3]; show s2.calls + 1 = _; rw [c2]; omega
  have l3 : s3.fail = -1 := by rw [hs3]; exact hcf s2 l2
  have fn3 : s3.files[n]? = some ⟨c, c.length⟩ := by
    rw [hs3]
    show (s2.files.modify n _)[n]? = _
    rw [List.getElem?_modify, fn2]; simp
  clear hs3
  -- named
  have k3 : Go.Vc.looks (callM s3).dir bes = some n := by show Go.Vc.looks s3.dir bes = _; rw [d3]; simp [Go.Vc.looks]
  have e4 : renameM s3 bes nm = (changeM (callM s3) ⟨1, bes, nm, none⟩, 0) := by
    unfold renameM
    dsimp only
    rw [hfl s3 l3, if_neg (by simp), k3, if_neg (by simp), hm1, if_neg (by simp)]
  obtain ⟨s4, hs4⟩ : ∃ s4, s4 = changeM (callM s3) ⟨1, bes, nm, none⟩ := ⟨_, rfl⟩
  rw [← hs4] at e4
  have o4 : OneAt s4 room (calls + 4) nm c c.length n := by
    refine ⟨by rw [hs4]; exact r3, by rw [hs4]; show s3.calls + 1 = _; rw [c3]; omega, by rw [hs4]; exact hcf s3 l3, ?_, by rw [hs4]; exact fn3⟩
    rw [hs4]
    show doM s3.dir ⟨1, bes, nm, none⟩ = _
    rw [d3]
    simp [doM, Go.Vc.looks, del, ins, hne, nm_lt_irrefl]
  obtain ⟨a5, o5, las5⟩ := one_syncDir o4
  have e : writeM s nm bes c = syncDirM s4 := by
    unfold writeM
    simp [writeG, writeK, e1, e2, e3, e4, a5]
    rw [← a5]
  rw [e]
  refine ⟨a5, ?_, las5⟩
  rw [show calls + 5 = calls + 4 + 1 from by omega]
  exact o5
end
end Go.Vc
/-! The reference's records, one behind the other; what is cut, what may be. -/
set_option linter.unusedVariables false
namespace Go.Vc
open Go
theorem recGo_one {seals : List (List UInt8)} {k at_ : Nat} {cut : Bool} {s : List UInt8} (h : seals[k]? = some s) : recGo (seals.drop k) at_ cut = match oneP s with
    | some r => (r :: (recGo (seals.drop (k + 1)) (at_ + (sealM s).length) cut).1, (recGo (seals.drop (k + 1)) (at_ + (sealM s).length) cut).2)
    | none => ([], at_, false) := by
  rw [recGo_nth h, oneP_eq]
  split
  · rfl
  · rfl
/-- A record whose texts are cut. -/
def cutR (r : RecM) : RecM := ⟨r.kind, r.seq, r.key.take 110, r.val.take 300⟩
def goodR : Nat → List RecM → List RecM
  | 0, _ => []
  | _, [] => []
  | n + 1, r :: l => if checkM (cutR r) = 0 then cutR r :: goodR n l else goodR (n + 1) l
theorem goodR_nil (n : Nat) : goodR n [] = [] := by cases n <;> rfl
theorem goodR_len : ∀ (n : Nat) (l : List RecM), (goodR n l).length ≤ n
  | 0, l => by simp [goodR]
  | n + 1, [] => by simp [goodR]
  | n + 1, r :: l => by
    unfold goodR
    split
    · have := goodR_len n l; simp; omega
    · exact goodR_len (n + 1) l
theorem goodR_ok : ∀ (n : Nat) (l : List RecM), ∀ r ∈ goodR n l, RecOk r
  | 0, l => by simp [goodR]
  | n + 1, [] => by simp [goodR]
  | n + 1, r :: l => by
    unfold goodR
    split
    · rename_i h
      intro x hx
      rcases List.mem_cons.1 hx with rfl | hx
      · exact checkM_ok.1 h
      · exact goodR_ok n l x hx
    · exact goodR_ok (n + 1) l
end Go.Vc
namespace Go.Proofs.YtbhnplghnhafiaaGreatDoor.Tryz
open Go Go.Vc
set_option maxHeartbeats 2000000 in
theorem rscan2_has (A : Option Addr) (n c : Nat) (b : List UInt8) (w : World) (hl : SliceOf Ru8 w (.slice A n c) b) (hb : b.length ≤ 1000000000) :
    Has Go.Proofs.Tryz.prog 13 #[.slice A n c] w (fun v w' => ∃ u, v = .tuple #[u, .int .i64 ((rscanM b).2.1 : Nat), .bool (rscanM b).2.2] ∧ Chg [] w w' ∧ Own w' 32 4 u (rscanM b).1.length ((rscanM b).1.flatMap recL) ∧ ∀ h, u.ownBlock = some h → w.heap.size ≤ h) := by
  refine enter Go.Proofs.Tryz.func13 rfl rfl (by decide) rfl (e := [(0, .slice A n c)]) ⟨rfl, trivial⟩ ?_
  refine run ?_
  refine go T 20 rfl ?_
  refine o1 rfl ?_
  refine op_call rfl rfl rfl (rscan1_has A n c b w hl hb) ?_
  rintro _ w1 ⟨us, rfl, hc1, hos, hfs⟩
  obtain ⟨hn1, hn2⟩ := scanM_bound b.length b (Nat.le_refl _)
  unfold rscanM
  generalize scanM b = q at *
  obtain ⟨seals, tot, cut⟩ := q
  dsimp only at *
  have hss := hos.reads
  obtain ⟨As, cs, rfl, hs1, hs2⟩ := hss.form
  clear hos hfs
  unfold maxLen at hs2
  refine go T 16 rfl ?_
  refine W_loop (σ := Nat × List RecM × Nat × Value) (fun s => [(5, s.2.2.2), (6, .int .i64 s.2.2.1), (7, .slice As seals.length cs), (9, .bool cut), (10, .int .i64 s.1)])
    (fun s w' => s.1 ≤ seals.length ∧ s.2.1.length ≤ s.1 ∧ s.2.2.1 ≤ s.1 * 1000000100 ∧ recGo seals 0 cut = (s.2.1 ++ (recGo (seals.drop s.1) s.2.2.1 cut).1, (recGo (seals.drop s.1) s.2.2.1 cut).2) ∧ Chg [] w1 w' ∧ Own w' 32 4 s.2.2.2 s.2.1.length (s.2.1.flatMap recL) ∧ ∀ h, s.2.2.2.ownBlock = some h → w1.heap.size ≤ h)
    (fun s => seals.length - s.1) (0, [], 0, .slice none 0 0) ⟨rfl, rfl, rfl, rfl, rfl, trivial⟩ ⟨Nat.zero_le _, Nat.zero_le _, Nat.zero_le _, by simp, Chg.refl _ _, Own.nil _ _ _, fun h hh => by simp [Value.ownBlock] at hh⟩ ?_
  rintro ⟨k, l, at_, v⟩ w2 ⟨h1, h2, h3, h4, h5, h6, h7⟩
  dsimp only at h1 h2 h3 h4 h5 h6 h7 ⊢
  refine run ?_
  refine go T 6 rfl ?_
  refine ltS rfl rfl rfl rfl (fun hcmp => ?_) (fun hcmp => ?_)
  · have hk : k < seals.length := by omega
    obtain ⟨ad, us, rfl, hus1, hrs1⟩ := hss.get (i := k) (List.getElem?_eq_getElem hk)
    have hus := h5.cell0 hus1
    have hstep := recGo_one (at_ := at_) (cut := cut) (List.getElem?_eq_getElem hk)
    have hsl : seals[k].length ≤ b.length := hn2 _ (List.getElem_mem hk)
    generalize seals[k] = s at *
    obtain ⟨A3, c3, rfl, _, _⟩ := SliceOf.form hrs1
    have hrs1 : SliceOf Ru8 w1 (.slice A3 s.length c3) s := hrs1
    have hsz := sealM_length s
    refine go T 11 rfl ?_
    refine o1 rfl (op_index_nat T rfl rfl rfl rfl rfl rfl (by omega) ?_)
    refine o1 rfl (op_load T rfl rfl rfl rfl (by assumption) ?_)
    refine o1 rfl ?_
    refine op_call rfl rfl rfl (one_has A3 _ c3 s w2 (SliceOf.kept Ru8.kept _ _ _ _ h5 hrs1)) ?_
    rintro _ w3 ⟨hc3, rfl⟩
    refine go T 3 rfl ?_
    refine o1 rfl ?_
    refine op_alloc T rfl rfl (fun g w4 hs4 hc4 hg4 => ?_)
    have hg4 : Blk w4 g 32 [.int .i64 0, .int .i64 0, .string (str []), .string (str [])] := hg4
    have hs4 : w3.heap.size ≤ g := hs4
    refine op0 rfl rfl ?_
    refine op_store_agg T rfl rfl rfl rfl rfl rfl hg4 (by exact Nat.le_of_ble_eq_true rfl) (fun w5 hc5 hg5 _ => ?_)
    have hg5 : Blk w5 g 32 (recL ((oneP s).getD nullR)) := hg5
    have hc25 : Chg [] w2 w5 := (hc3.trans' hc4).trans hc5 (fun k hk hlt => by simp at hk; have := hc3.size; omega)
    cases hone : oneP s with
    | some r =>
      rw [hone] at hstep hg5
      dsimp only [Option.getD] at hstep hg5
      have hus5 := hc25.cell0 hus
      have h65 := h6.keep0 hc25
      unfold recL at hg5
      refine go T 16 rfl ?_
      refine o1 rfl (op_load_agg T rfl rfl rfl rfl hg5 (by exact Nat.le_of_ble_eq_true rfl) (by exact rfl) ?_)
      refine o1 rfl ?_
      refine op_buildSlice T rfl rfl rfl rfl rfl rfl rfl (fun g6 w6 hs6 hc6 hg6 => ?_)
      have hg6 : Blk w6 g6 32 (recL r) := hg6
      have h66 := h65.keep0 hc6
      obtain ⟨Av, cv, rfl, _, _⟩ := h66.form
      refine o1 rfl ?_
      refine op_append T (n := l.length) (xs := l.flatMap recL) (m := 1) (news := recL r) rfl rfl rfl rfl rfl rfl rfl rfl h66 rfl ?_ (by unfold maxLen; omega) (by show (l.length + 1) * 48 ≤ _; omega) ?_
      · intro j u hj
        exact ⟨⟨_, rfl, by rw [add_plain]; exact hg6.cell hj⟩, recL_one _ u (List.mem_of_getElem? hj)⟩
      · intro v7 w7 ho7 hc7 hb7 _
        have hfr : ∀ h, v7.ownBlock = some h → w1.heap.size ≤ h := fun h hh => by
          rcases hb7 with hb | ⟨g', hb, hge⟩
          · exact h7 h (by rw [← hb]; exact hh)
          · rw [hb] at hh; injection hh with hh; have := h5.size; have := hc25.size; have := hc6.size; omega
        have hc27 : Chg [] w1 w7 := ((h5.trans' hc25).trans' hc6).trans hc7 (fun k hk hlt => by have := h7 k (by simpa using hk); omega)
        have hus7 := hc27.cell0 hus1
        clear hus hus5
        refine go T 7 rfl ?_
        refine o1 rfl (op_index_nat T rfl rfl rfl rfl rfl rfl (by omega) ?_)
        refine o1 rfl (op_load T rfl rfl rfl rfl (by assumption) ?_)
        refine go T 1 rfl ?_
        refine adI rfl rfl rfl rfl (by omega) (by omega) ?_
        refine adI rfl rfl rfl rfl (by omega) (by omega) ?_
        refine go T 6 rfl ?_
        refine adI rfl rfl rfl rfl (by omega) (by omega) ?_
        refine go T 2 rfl ?_
        refine Round_n (k + 1, l ++ [r], at_ + (sealM s).length, v7) ⟨rfl, some_int (by dsimp only; omega), rfl, rfl, rfl, trivial⟩ ⟨by dsimp only; omega, by dsimp only; simp; omega, by dsimp only; omega, ?_, hc27, ?_, hfr⟩ (by dsimp only; omega)
        · dsimp only
          rw [h4, hstep, List.append_assoc]; rfl
        · dsimp only
          rw [List.length_append, List.flatMap_append]
          simpa using ho7
    | none =>
      rw [hone] at hstep hg5
      dsimp only at hstep
      refine go T 24 rfl ?_
      refine rndR ?_
      refine go T 2 rfl ?_
      rw [h4, hstep]
      refine post3 (.inl rfl) rfl rfl rfl rfl ⟨_, rfl, hc1.trans' (h5.trans' hc25), ?_, fun h hh => by have := h7 h hh; have := hc1.size; omega⟩
      rw [List.append_nil]
      exact h6.keep0 hc25
  · obtain rfl : k = seals.length := by omega
    rw [List.drop_length] at h4
    rw [h4]
    refine go T 5 rfl ?_
    refine rndX ?_
    refine go T 13 rfl ?_
    refine post3 (.inl rfl) rfl rfl rfl rfl ⟨_, rfl, hc1.trans' h5, ?_, fun h hh => by have := h7 h hh; have := hc1.size; omega⟩
    simp only [recGo, List.append_nil]
    exact h6
end Go.Proofs.YtbhnplghnhafiaaGreatDoor.Tryz
/-! What may be of records; whether a seal fits all the same. -/
set_option linter.unusedVariables false
namespace Go.Vc
open Go
def RrecK (_ : World) (cs : List Value) (r : RecM) : Prop := cs = recL r ∧ r.key.length ≤ maxLen ∧ r.val.length ≤ maxLen
theorem RrecK.kept : KeptK RrecK := fun _ _ _ _ _ h => h
/-- Of seals that stood in a file, and of which bytes were changed: does one fit all the same? -/
def headM (b : List UInt8) : Bool := decide (fourM (crcN (b.take 4)) = (b.drop 4).take 4)
def fitM (a b : List UInt8) : Bool := decide (a ≠ b) && headM b && (decide (a.take 8 ≠ b.take 8) || decide (fourM (crcN (b.drop 12)) = (b.drop 8).take 4))
def fitsR : List (List UInt8) → List UInt8 → List UInt8 → Bool
  | [], _, _ => false
  | s :: r, old, now => if now.length < 12 + s.length then false else if fitM (old.take (12 + s.length)) (now.take (12 + s.length)) = true then true else fitsR r (old.drop (12 + s.length)) (now.drop (12 + s.length))
end Go.Vc
namespace Go.Proofs.YtbhnplghnhafiaaGreatDoor.Tryz
open Go Go.Vc
end Go.Proofs.YtbhnplghnhafiaaGreatDoor.Tryz
/-! Fits, walked. -/
set_option linter.unusedVariables false
namespace Go.Vc
open Go
def sumL : List (List UInt8) → Nat
  | [] => 0
  | s :: r => 12 + s.length + sumL r
theorem scanM_sum : ∀ (n : Nat) (l : List UInt8), l.length ≤ n → sumL (scanM l).1 ≤ l.length
  | n, l, hn => by
    by_cases h : (firstM l).2.1 = 0
    · rw [scanM_end h]; simp [sumL]
    · rw [scanM_step h]
      rcases firstM_bound l with h' | ⟨h1, h2, h3⟩
      · exact absurd h' h
      · match n with
        | 0 => omega
        | n + 1 =>
          have := scanM_sum n (l.drop (firstM l).2.1) (by rw [List.length_drop]; omega)
          rw [List.length_drop] at this
          show 12 + (firstM l).1.length + sumL _ ≤ _
          omega
theorem take_drop_add {α : Type} (l : List α) (a n : Nat) : (l.take (a + n)).drop a = (l.drop a).take n := by rw [List.drop_take]; congr 1; omega
end Go.Vc
namespace Go.Proofs.YtbhnplghnhafiaaGreatDoor.Tryz
open Go Go.Vc
end Go.Proofs.YtbhnplghnhafiaaGreatDoor.Tryz
/-! What becomes of a segment of which bytes were changed: the plain law. -/
set_option linter.unusedVariables false
namespace Go.Vc
open Go
theorem take_append_len {α : Type} (a b : List α) (n : Nat) (h : n ≤ a.length) : (a ++ b).take n = a.take n := List.take_append_of_le_length h
/-- A slot that was changed and does not fit is told as spoilt. -/
theorem first_spoilt {body b more : List UInt8} (hb : body.length < 4294967296) (hl : b.length = 12 + body.length) (hne : sealM body ≠ b) (hf : ¬ fitM (sealM body) b = true) : firstM (b ++ more) = ([], 0, false) := by
  have h4 : (b ++ more).take 4 = b.take 4 := take_append_len _ _ _ (by omega)
  have hd4 : ((b ++ more).drop 4).take 4 = (b.drop 4).take 4 := by rw [List.drop_append_of_le_length (by omega)]; exact take_append_len _ _ _ (by rw [List.length_drop]; omega)
  have hd8 : ((b ++ more).drop 8).take 4 = (b.drop 8).take 4 := by rw [List.drop_append_of_le_length (by omega)]; exact take_append_len _ _ _ (by rw [List.length_drop]; omega)
  have hlen : (b ++ more).length = 12 + body.length + more.length := by rw [List.length_append, hl]
  unfold firstM
  rw [if_neg (by omega)]
  have hl4 : 4 ≤ ((b ++ more).drop 4).length := by rw [List.length_drop]; omega
  have hl8 : 4 ≤ ((b ++ more).drop 8).length := by rw [List.length_drop]; omega
  by_cases hh : headM b = true
  · have hh' : fourM (crcN (b.take 4)) = (b.drop 4).take 4 := by unfold headM at hh; exact of_decide_eq_true hh
    unfold fitM at hf
    simp only [Bool.and_eq_true, decide_eq_true_eq, hne, ne_eq, not_false_iff, true_and, hh, Bool.or_eq_true, not_or, Decidable.not_not] at hf
    obtain ⟨hf1, hf2⟩ := hf
    rw [if_neg (fun h => (sum_ne hl4 (crcN_lt _)).2 h (by rw [h4, hd4]; exact hh'))]
    have hg : getFourM (b ++ more) = body.length := by
      rw [← getFourM_take 8 (by decide), take_append_len _ _ _ (by omega), ← hf1, getFourM_take 8 (by decide)]
      unfold sealM
      rw [List.append_assoc, List.append_assoc]
      exact getFourM_fourM _ _ hb
    have hbody : ((b ++ more).drop 12).take body.length = b.drop 12 := by
      rw [List.drop_append_of_le_length (by omega), take_append_len _ _ _ (by rw [List.length_drop]; omega), List.take_of_length_le (by rw [List.length_drop]; omega)]
    rw [hg, if_neg (by omega), hbody, if_pos ((sum_ne hl8 (crcN_lt _)).1 (by rw [hd8]; exact hf2))]
  · have hh' : fourM (crcN (b.take 4)) ≠ (b.drop 4).take 4 := fun h => hh (by unfold headM; exact decide_eq_true h)
    rw [if_pos ((sum_ne hl4 (crcN_lt _)).1 (by rw [h4, hd4]; exact hh'))]
theorem rscan_spoilt {l : List UInt8} (h : firstM l = ([], 0, false)) : rscanM l = ([], 0, false) := by
  unfold rscanM
  rw [scanM_end (by rw [h]), h]; rfl
theorem scanM_encs {rs : List RecM} (h : ∀ r ∈ rs, RecOk r) : (scanM (encs rs)).1 = rs.map bodyM := by
  induction rs with
  | nil => show (scanM []).1 = []; rw [scanM_nil]
  | cons r rs ih =>
    have hb := bodyM_len (h r (by simp))
    have e : encs (r :: rs) = sealM (bodyM r) ++ encs rs := by simp [encs]
    rw [e, scanM_sealM _ _ (by omega)]
    dsimp only
    rw [ih (fun r hr => h r (by simp [hr]))]; rfl
theorem encs_cons (r : RecM) (rs : List RecM) : encs (r :: rs) = sealM (bodyM r) ++ encs rs := by simp [encs]
/-- The whole: nothing was changed, or it is spoilt. -/
theorem rot_scan : ∀ {rs : List RecM} {now : List UInt8}, (∀ r ∈ rs, RecOk r) → now.length = (encs rs).length → fitsR (rs.map bodyM) (encs rs) now = false → now = encs rs ∨ (rscanM now).2.2 = false
  | [], now, _, hl, _ => .inl (by simpa [encs] using hl)
  | r :: rs, now, hok, hl, hf => by
    have hb := bodyM_len (hok r (by simp))
    have hsl := sealM_length (bodyM r)
    rw [encs_cons] at hl hf ⊢
    rw [List.length_append, hsl] at hl
    rw [List.map_cons, fitsR, if_neg (by omega)] at hf
    have e1 : (sealM (bodyM r) ++ encs rs).take (12 + (bodyM r).length) = sealM (bodyM r) := List.take_left' hsl
    have e2 : (sealM (bodyM r) ++ encs rs).drop (12 + (bodyM r).length) = encs rs := List.drop_left' hsl
    rw [e1, e2] at hf
    split at hf
    · cases hf
    rename_i hnf
    have hsplit : now = now.take (12 + (bodyM r).length) ++ now.drop (12 + (bodyM r).length) := (List.take_append_drop _ _).symm
    have hnl : (now.take (12 + (bodyM r).length)).length = 12 + (bodyM r).length := by rw [List.length_take]; omega
    by_cases heq : sealM (bodyM r) = now.take (12 + (bodyM r).length)
    · rcases rot_scan (fun r hr => hok r (by simp [hr])) (by rw [List.length_drop]; omega) hf with h | h
      · left
        rw [hsplit, ← heq, h]
      · right
        rw [hsplit, ← heq, rscanM_enc (hok r (by simp))]
        exact h
    · right
      rw [hsplit, rscan_spoilt (first_spoilt (by omega) hnl heq hnf)]
theorem fits_get : ∀ {rs : List RecM} {now : List UInt8} {i : Nat} {r : RecM}, now.length = (encs rs).length → fitsR (rs.map bodyM) (encs rs) now = false → rs[i]? = some r →
    ¬ fitM (sealM (bodyM r)) ((now.drop (encs (rs.take i)).length).take (12 + (bodyM r).length)) = true
  | [], now, i, r, _, _, hi => by simp at hi
  | q :: rs, now, i, r, hl, hf, hi => by
    have hsl := sealM_length (bodyM q)
    rw [encs_cons] at hl hf
    rw [List.length_append, hsl] at hl
    rw [List.map_cons, fitsR, if_neg (by omega)] at hf
    have e1 : (sealM (bodyM q) ++ encs rs).take (12 + (bodyM q).length) = sealM (bodyM q) := List.take_left' hsl
    have e2 : (sealM (bodyM q) ++ encs rs).drop (12 + (bodyM q).length) = encs rs := List.drop_left' hsl
    rw [e1, e2] at hf
    split at hf
    · cases hf
    rename_i hnf
    match i, hi with
    | 0, hi =>
      simp at hi
      subst hi
      have : (encs ((q :: rs).take 0)).length = 0 := rfl
      rw [this, List.drop_zero]
      exact hnf
    | i + 1, hi =>
      have h := fits_get (i := i) (by rw [List.length_drop]; omega) hf (by simpa using hi)
      rw [List.take_succ_cons, encs_cons, List.length_append, hsl]
      rw [List.drop_drop] at h
      exact h
/-- A record of it: as it was, or spoilt. -/
theorem rot_cell {rs : List RecM} {now : List UInt8} {i : Nat} {r : RecM} (hok : ∀ r ∈ rs, RecOk r) (hl : now.length = (encs rs).length) (hf : fitsR (rs.map bodyM) (encs rs) now = false) (hi : rs[i]? = some r) :
    cellM now (encs (rs.take i)).length (encs (rs.take (i + 1))).length = (r, 0) ∨ (cellM now (encs (rs.take i)).length (encs (rs.take (i + 1))).length).2 = 6 := by
  have hr := hok r (List.mem_of_getElem? hi)
  have hb := bodyM_len hr
  have hnf := fits_get hl hf hi
  have hsl := sealM_length (bodyM r)
  have htl : (encs (rs.take (i + 1))).length = (encs (rs.take i)).length + (12 + (bodyM r).length) := by rw [encs_take rs hi, List.length_append, hsl]
  have hle : (encs (rs.take (i + 1))).length ≤ now.length := by rw [hl, encs_prefix rs (i + 1)]; simp
  have hcut : (now.take (encs (rs.take (i + 1))).length).drop (encs (rs.take i)).length = (now.drop (encs (rs.take i)).length).take (12 + (bodyM r).length) := by rw [htl]; exact take_drop_add _ _ _
  unfold cellM
  rw [if_neg (by omega), hcut]
  have hnl : ((now.drop (encs (rs.take i)).length).take (12 + (bodyM r).length)).length = 12 + (bodyM r).length := by rw [List.length_take, List.length_drop]; omega
  generalize (now.drop (encs (rs.take i)).length).take (12 + (bodyM r).length) = b at *
  by_cases heq : sealM (bodyM r) = b
  · left
    have hs := rscanM_enc hr []
    rw [List.append_nil, rscanM_nil, heq] at hs
    rw [hs, if_pos ⟨rfl, by simp; omega⟩]
    rfl
  · right
    have hs := rscan_spoilt (first_spoilt (more := []) (by omega) hnl heq hnf)
    rw [List.append_nil] at hs
    rw [hs, if_neg (by simp)]
theorem rot_one (room calls : Int) (nm : Nm) (b : List UInt8) (sy : Nat) (las : Dir) (ws : List ChM) (sec : Int) (x : UInt8) : rotM (oneFs room calls nm b sy las ws) nm sec x = if sec < 0 ∨ (((b.length + 63) / 64 : Nat) : Int) ≤ sec then (oneFs room calls nm b sy las ws, 7) else (oneFs room calls nm (rotB b sec.toNat x) sy las ws, 0) := by
  have hl : lenOf (oneFs room calls nm b sy las ws) 0 = b.length := by simp [lenOf, oneFs]
  unfold rotM
  rw [show looks (oneFs room calls nm b sy las ws).dir nm = some 0 from looks_one nm]
  dsimp only
  rw [hl]
  split
  · rfl
  · simp [oneFs]
end Go.Vc
/-! RawRot, walked. -/
set_option linter.unusedVariables false
namespace Go.Vc
open Go
/-- A row of the call's own whose elements have several cells. -/
theorem Own.elem {α : Type} {f : α → List Value} {k : Nat} (hf : ∀ x, (f x).length = k) {w : World} {t : TypeId} {A : Option Addr} {n c : Nat} {L : List α} (h : Own w t k (.slice A n c) n (L.flatMap f)) {i : Nat} {x : α} (hx : L[i]? = some x) (hk : 0 < k) :
    ∃ g, A = some ⟨g, 0, none⟩ ∧ ∀ j u, (f x)[j]? = some u → w.cell? ((⟨g, 0, none⟩ : Addr).add (i * k + j)) = some u := by
  have hcell : ∀ j v, (f x)[j]? = some v → (L.flatMap f)[i * k + j]? = some v := fun j v hj => by
    have hjk : j < k := by have := (List.getElem?_eq_some_iff.1 hj).1; rw [hf] at this; exact this
    rw [flat_get hf L hx hjk]; exact hj
  have h0 : (f x)[0]? = some ((f x)[0]'(by rw [hf]; exact hk)) := List.getElem?_eq_getElem _
  obtain ⟨g0, h1, ⟨c', h2⟩, _⟩ := h.cell (hcell 0 _ h0)
  injection h2 with h2
  refine ⟨g0, h2, fun j v hj => ?_⟩
  obtain ⟨g1, h3, _, h5⟩ := h.cell (hcell j v hj)
  rw [h1] at h3
  injection h3 with h3
  subst h3
  rw [add_plain]; exact h5
end Go.Vc
namespace Go.Proofs.YtbhnplghnhafiaaGreatDoor.Tryz
open Go Go.Vc
/-- Open of what is spoilt. -/
theorem openSpoilt_has {w0 w : World} {g : Nat} {s : FsM} {p : FsP} (x : FsO w0 w g s p) (n : Nat) (hn : n < 10) (b : List UInt8) (hb : b.length ≤ 1000000000) (hread : readM s (rawNm n) = some b) (hbad : (rscanM b).2.2 = false) :
    Has Go.Proofs.Tryz.prog 14 #[ptrV g, .int .i64 (n : Int)] w (fun v w' => Chg [] w w' ∧ v = .tuple #[.pointer none, .int .i64 6]) := by
  refine enter Go.Proofs.Tryz.func14 rfl rfl (by decide) rfl (e := [(0, ptrV g), (1, .int .i64 (n : Int))]) ⟨rfl, rfl, trivial⟩ ?_
  unfold ptrV
  refine run ?_
  refine go T 10 rfl ?_
  refine o1 rfl ?_
  refine op_call rfl rfl rfl (name_has n w hn) ?_
  rintro _ _ ⟨rfl, rfl⟩
  refine o1 rfl ?_
  refine op_call rfl rfl rfl (readO_has x (rawNm n)) ?_
  rintro v1 w1 ⟨x1, hc1, h1⟩
  rw [hread] at h1
  obtain ⟨ub, rfl, hob, hfb⟩ : ∃ u, v1 = .tuple #[u, .int .i64 0] ∧ Own w1 5 1 u b.length (u8s b) ∧ ∀ h, u.ownBlock = some h → _ ≤ h := h1
  have hsb := hob.bytes
  obtain ⟨Ab, cb, rfl, _, _⟩ := hob.form
  refine go T 11 rfl ?_
  refine neF rfl rfl rfl rfl (by omega) ?_
  refine go T 8 rfl ?_
  refine o1 rfl ?_
  refine op_call rfl rfl rfl (rscan_has Ab _ cb _ w1 hsb hb) ?_
  rintro _ w2 ⟨ul, rfl, hc2, hol, hfl⟩
  rw [hbad]
  refine go T 25 rfl ?_
  exact post2 (.inl rfl) rfl rfl rfl ⟨hc1.trans' hc2, rfl⟩
end Go.Proofs.YtbhnplghnhafiaaGreatDoor.Tryz
/-! Segments: Append and Sync, and what they turn. -/
set_option linter.unusedVariables false
namespace Go.Proofs.YtbhnplghnhafiaaGreatDoor.Tryz
open Go Go.Vc
section
variable {w0 w : World} {gs g : Nat} {s : FsM} {p : FsP} {nm : Nm} {ats : List Nat} {en : Nat} {u : Value}
set_option maxHeartbeats 1000000 in
/-- Append of a record that may be: what it turns. -/
theorem appendT_has (x : SegO w0 w gs g s p nm ats en u) (r : RecM) (hr : RecOk r) (hcalls : s.calls < 1000000000 - 1) (hl : ats.length < 1000000) (he : en < 1000000000) (hz : (appendM s nm (sealM (bodyM r))).2 = 0) :
    Has Go.Proofs.Tryz.prog 16 #[.pointer (some ⟨gs, 0, none⟩), .agg (recL r).toArray] w (fun v w' => v = .tuple #[.int .i64 (ats.length : Nat), .int .i64 0] ∧ Chg (p.fp g ++ gs :: u.ownBlock.toList) w w' ∧ ∃ p' u', SegO w0 w' gs g (appendM s nm (sealM (bodyM r))).1 p' nm (ats ++ [en]) (en + (sealM (bodyM r)).length) u' ∧ Grows w g p p' ∧ (u'.ownBlock = u.ownBlock ∨ ∃ h, u'.ownBlock = some h ∧ w.heap.size ≤ h)) := by
  refine enter Go.Proofs.Tryz.func16 rfl rfl (by decide) rfl (e := [(0, .pointer (some ⟨gs, 0, none⟩)), (1, .agg (recL r).toArray)]) ⟨rfl, rfl, trivial⟩ ?_
  have hbl := bodyM_len hr
  have hsl := sealM_length (bodyM r)
  have henc : encM r = (sealM (bodyM r), 0) := by unfold encM; rw [if_neg (by simp [checkM_ok.2 hr])]
  repeat (first | refine W_seq ?_ | refine W_region ?_ | refine WL_some rfl rfl rfl ?_)
  refine op_box rfl rfl (fun gr w1 hs1 hc1 hg1 => ?_)
  have hg1 : Blk w1 gr 32 (recL r) := hg1
  repeat (first | refine W_seq ?_ | refine W_region ?_ | refine W_skip ?_ | refine Then_n ?_ | refine WL_nil ?_ | refine W_condF rfl ?_ | refine WL_some rfl rfl rfl ?_ | refine op_move rfl rfl ?_ | refine op_assign rfl rfl ?_ | refine op_eql_nilptr T rfl rfl rfl rfl rfl ?_ | refine op_load_agg T rfl rfl rfl rfl (by assumption) (by exact Nat.le_of_ble_eq_true rfl) (by exact rfl) ?_)
  refine op_call rfl rfl rfl (encode_has r w1) ?_
  rintro _ w2 ⟨ub, rfl, mb⟩
  rw [henc] at mb
  rw [henc]
  dsimp only at mb
  have x2 := x.keep0 (hc1.trans' mb.chg)
  have hb := x2.seg.blk
  obtain ⟨Ab, cb, rfl, _, _⟩ := mb.form
  have hfp : ∀ k ∈ p.fp g, k < w1.heap.size := fun k hk => by have := x.fs.at_.lt k hk; have := hc1.size; omega
  have hgs : gs < w.heap.size := x.seg.blk.lt
  repeat (first | refine W_seq ?_ | refine W_region ?_ | refine W_skip ?_ | refine Then_n ?_ | refine WL_nil ?_ | refine W_condF rfl ?_ | refine WL_some rfl rfl rfl ?_ | refine op_move rfl rfl ?_ | refine op_assign rfl rfl ?_ | refine op_extract rfl rfl rfl ?_ | refine op_neq rfl rfl rfl (fun hc => False.elim (by omega)) (fun hc => ?_))
  refine Q.W_walkq 10 9 (p.fp g) fol (by kernel_rfl) (by kernel_rfl) ?_
  refine Q.Walk.plain rfl rfl (by intro val w_ hR hp; exact op_move rfl rfl ⟨Chg.refl _ _, rfl⟩) ?_; dsimp only [List.nil_append, List.cons_append]
  refine Q.Walk.plain rfl rfl (by intro val w_ hR hp; exact op_nilCheck rfl rfl ⟨Chg.refl _ _, rfl⟩) ?_; dsimp only [List.nil_append, List.cons_append]
  refine Q.Walk.plain rfl rfl (by intro val w_ hR hp; exact op_fieldAddr T rfl rfl rfl rfl rfl rfl rfl rfl ⟨Chg.refl _ _, rfl⟩) ?_; dsimp only [List.nil_append, List.cons_append]
  refine Q.Walk.plain (v := ptrV g) rfl rfl (by intro val w_ hR hp; exact op_load T rfl rfl rfl rfl ((hb.keep hR x2.out1).cell rfl) ⟨Chg.refl _ _, rfl⟩) ?_; dsimp only [List.nil_append, List.cons_append]
  refine Q.Walk.plain rfl rfl (by intro val w_ hR hp; exact op_move rfl rfl ⟨Chg.refl _ _, rfl⟩) ?_; dsimp only [List.nil_append, List.cons_append]
  refine Q.Walk.plain rfl rfl (by intro val w_ hR hp; exact op_nilCheck rfl rfl ⟨Chg.refl _ _, rfl⟩) ?_; dsimp only [List.nil_append, List.cons_append]
  refine Q.Walk.plain rfl rfl (by intro val w_ hR hp; exact op_fieldAddr T rfl rfl rfl rfl rfl rfl rfl rfl ⟨Chg.refl _ _, rfl⟩) ?_; dsimp only [List.nil_append, List.cons_append]
  refine Q.Walk.plain (v := .string (str nm)) rfl rfl (by intro val w_ hR hp; exact op_load T rfl rfl rfl rfl ((hb.keep hR x2.out1).cell rfl) ⟨Chg.refl _ _, rfl⟩) ?_; dsimp only [List.nil_append, List.cons_append]
  refine Q.Walk.plain rfl rfl (by intro val w_ hR hp; exact op_move rfl rfl ⟨Chg.refl _ _, rfl⟩) ?_; dsimp only [List.nil_append, List.cons_append]
  refine Q.Walk.turn rfl (fun v w' => FsDone w2 g p (appendM s nm (sealM (bodyM r))) v w') rfl (fun v a b h hab => ⟨h.1.trans' hab, h.2.1, let ⟨p', h3, h4⟩ := h.2.2; ⟨p', h3.keep0 hab, h4⟩⟩) ?_ ?_
  · intro val w_ hR hp
    have hfirm : Firm (p.fp g) w_ (fun w => SliceOf Ru8 w (.slice Ab (sealM (bodyM r)).length cb) (sealM (bodyM r))) := (mb.firm hfp).step0 hR
    refine op_call rfl rfl rfl (append_has g s p nm Ab _ cb _ w_ (x2.fs.at_.keep0 hR) hfirm (by omega) hcalls) (fun v w' h => ?_)
    have hfull : FsDone w2 g p (appendM s nm (sealM (bodyM r))) v w' := ⟨(hR.mono (fun k hk _ => by cases hk)).trans h.1 (fun k hk _ => hk), h.2.1, let ⟨p', h3, h4⟩ := h.2.2; ⟨p', h3, fun k hk => (h4 k hk).imp id (fun h => by have := hR.size; omega)⟩⟩
    exact ⟨h.1, hfull⟩
  dsimp only [List.nil_append, List.cons_append]
  refine Q.Walk.fin ?_
  intro val w3 hc3 hp
  have hdone : FsDone w2 g p (appendM s nm (sealM (bodyM r))) (val 9) w3 := hp 9 (by omega) _ _ rfl rfl
  clear hp
  have hgr : Chg (p.fp g) w w3 := ((hc1.trans' mb.chg).mono (fun k hk _ => by cases hk)).trans hdone.1 (fun k hk _ => hk)
  obtain ⟨hv9, hcf, p3, x3f, hg3⟩ := fsStep x2.fs hdone
  have x3 : SegO w0 w3 gs g (appendM s nm (sealM (bodyM r))).1 p3 nm ats en u := ⟨x3f, x2.seg.keep hcf x2.out1 x2.out2, grows_out hg3 x2.seg.blk.lt x2.out1, fun k hk => grows_out hg3 (x2.seg.own.lt hk) (x2.out2 k hk), x2.fr1, x2.fr2⟩
  have hg3w : Grows w g p p3 := fun k hk => (hg3 k hk).imp id (fun h => by have := (hc1.trans' mb.chg).size; omega)
  clear hdone
  have hlen : ats.length < 1000000000 := by omega
  refine WL_sub (e' := [(0, .pointer (some ⟨gs, 0, none⟩)), (6, .slice Ab (sealM (bodyM r)).length cb), (28, .int .i64 (appendM s nm (sealM (bodyM r))).2)]) ⟨rfl, rfl, congrArg some hv9, trivial⟩ ?_
  generalize appendM s nm (sealM (bodyM r)) = q at *
  obtain ⟨s', er⟩ := q
  dsimp only at *
  subst hz
  repeat (first | refine W_seq ?_ | refine W_region ?_ | refine W_skip ?_ | refine Then_n ?_ | refine WL_nil ?_ | refine W_condF rfl ?_ | refine WL_some rfl rfl rfl ?_ | refine op_move rfl rfl ?_ | refine op_assign rfl rfl ?_ | refine op_len_slice T rfl rfl rfl rfl ?_ | refine op_neq rfl rfl rfl (fun hc => False.elim (by omega)) (fun hc => ?_))
  refine op_call rfl rfl rfl (addS_has x3.seg (sealM (bodyM r)).length hlen (by omega)) ?_
  rintro v4 w4 ⟨hc4, u4, hs4, hb4⟩
  have x4 := x3.turn hc4 hs4 hb4
  have hb5 := hs4.blk
  obtain ⟨A4, c4, rfl, _, _⟩ := hs4.own.form
  have hl4 : (ats ++ [en]).length = ats.length + 1 := by simp
  repeat (first | refine W_seq ?_ | refine W_region ?_ | refine W_ret ?_ | refine Then_n ?_ | refine WL_nil ?_ | refine WL_some rfl rfl rfl ?_ | refine op_move rfl rfl ?_ | refine op_assign rfl rfl ?_ | refine op_len_slice T rfl rfl rfl rfl ?_ | refine op_subt rfl rfl rfl (wrap_i64_in (by omega) (by omega)) ?_ | refine op_nilCheck rfl rfl ?_ | refine op_fieldAddr T rfl rfl rfl rfl rfl rfl rfl rfl ?_ | refine op_loadB T rfl rfl rfl rfl (by assumption) (by exact rfl) ?_)
  refine post2 (.inl rfl) rfl rfl rfl ⟨?_, (hgr.mono (fun k hk _ => List.mem_append_left _ hk)).trans hc4 (fun k hk _ => List.mem_append_right _ hk), p3, _, x4, hg3w, hb4.imp id (fun ⟨h, h1, h2⟩ => ⟨h, h1, by have := hgr.size; omega⟩)⟩
  have : (((ats ++ [en]).length : Nat) : Int) - 1 = ((ats.length : Nat) : Int) := by omega
  rw [this]
theorem syncT_has (x : SegO w0 w gs g s p nm ats en u) (hcalls : s.calls < 1000000000 - 1) :
    Has Go.Proofs.Tryz.prog 17 #[.pointer (some ⟨gs, 0, none⟩)] w (fun v w' => v = .int .i64 (syncM s nm).2 ∧ Chg (p.fp g) w w' ∧ ∃ p', SegO w0 w' gs g (syncM s nm).1 p' nm ats en u ∧ Grows w g p p') := by
  refine enter Go.Proofs.Tryz.func17 rfl rfl (by decide) rfl (e := [(0, .pointer (some ⟨gs, 0, none⟩))]) ⟨rfl, trivial⟩ ?_
  have hb := x.seg.blk
  repeat (first | refine W_seq ?_ | refine W_region ?_ | refine W_skip ?_ | refine Then_n ?_ | refine WL_nil ?_ | refine W_condF rfl ?_ | refine WL_some rfl rfl rfl ?_ | refine op_move rfl rfl ?_ | refine op_assign rfl rfl ?_ | refine op_eql_nilptr T rfl rfl rfl rfl rfl ?_)
  refine Q.W_walkq 9 8 (p.fp g) fol (by kernel_rfl) (by kernel_rfl) ?_
  refine Q.Walk.plain rfl rfl (by intro val w_ hR hp; exact op_move rfl rfl ⟨Chg.refl _ _, rfl⟩) ?_; dsimp only [List.nil_append, List.cons_append]
  refine Q.Walk.plain rfl rfl (by intro val w_ hR hp; exact op_nilCheck rfl rfl ⟨Chg.refl _ _, rfl⟩) ?_; dsimp only [List.nil_append, List.cons_append]
  refine Q.Walk.plain rfl rfl (by intro val w_ hR hp; exact op_fieldAddr T rfl rfl rfl rfl rfl rfl rfl rfl ⟨Chg.refl _ _, rfl⟩) ?_; dsimp only [List.nil_append, List.cons_append]
  refine Q.Walk.plain (v := ptrV g) rfl rfl (by intro val w_ hR hp; exact op_load T rfl rfl rfl rfl ((hb.keep hR x.out1).cell rfl) ⟨Chg.refl _ _, rfl⟩) ?_; dsimp only [List.nil_append, List.cons_append]
  refine Q.Walk.plain rfl rfl (by intro val w_ hR hp; exact op_move rfl rfl ⟨Chg.refl _ _, rfl⟩) ?_; dsimp only [List.nil_append, List.cons_append]
  refine Q.Walk.plain rfl rfl (by intro val w_ hR hp; exact op_nilCheck rfl rfl ⟨Chg.refl _ _, rfl⟩) ?_; dsimp only [List.nil_append, List.cons_append]
  refine Q.Walk.plain rfl rfl (by intro val w_ hR hp; exact op_fieldAddr T rfl rfl rfl rfl rfl rfl rfl rfl ⟨Chg.refl _ _, rfl⟩) ?_; dsimp only [List.nil_append, List.cons_append]
  refine Q.Walk.plain (v := .string (str nm)) rfl rfl (by intro val w_ hR hp; exact op_load T rfl rfl rfl rfl ((hb.keep hR x.out1).cell rfl) ⟨Chg.refl _ _, rfl⟩) ?_; dsimp only [List.nil_append, List.cons_append]
  refine Q.Walk.turn rfl (fun v w' => FsDone w g p (syncM s nm) v w') rfl (fun v a b h hab => ⟨h.1.trans' hab, h.2.1, let ⟨p', h3, h4⟩ := h.2.2; ⟨p', h3.keep0 hab, h4⟩⟩) ?_ ?_
  · intro val w_ hR hp
    refine op_call rfl rfl rfl (sync_has g s p nm w_ (x.fs.at_.keep0 hR) hcalls) (fun v w' h => ?_)
    exact ⟨h.1, (hR.mono (fun k hk _ => by cases hk)).trans h.1 (fun k hk _ => hk), h.2.1, let ⟨p', h3, h4⟩ := h.2.2; ⟨p', h3, fun k hk => (h4 k hk).imp id (fun h => by have := hR.size; omega)⟩⟩
  dsimp only [List.nil_append, List.cons_append]
  refine Q.Walk.fin ?_
  intro val w3 hc3 hp
  have hdone : FsDone w g p (syncM s nm) (val 8) w3 := hp 8 (by omega) _ _ rfl rfl
  clear hp
  obtain ⟨hv9, hcf, p3, x3f, hg3⟩ := fsStep x.fs hdone
  have x3 : SegO w0 w3 gs g (syncM s nm).1 p3 nm ats en u := ⟨x3f, x.seg.keep hcf x.out1 x.out2, grows_out hg3 x.seg.blk.lt x.out1, fun k hk => grows_out hg3 (x.seg.own.lt hk) (x.out2 k hk), x.fr1, x.fr2⟩
  refine WL_sub (e' := [(13, .int .i64 (syncM s nm).2)]) ⟨congrArg some hv9, trivial⟩ ?_
  repeat (first | refine W_ret ?_ | refine Then_n ?_ | refine WL_nil ?_ | refine WL_some rfl rfl rfl ?_ | refine op_assign rfl rfl ?_)
  exact post1 (.inl rfl) rfl rfl ⟨rfl, hcf, p3, x3, hg3⟩
end
end Go.Proofs.YtbhnplghnhafiaaGreatDoor.Tryz
/-! The references of numbers and records, walked: Put, Text, Seal, Encode, Short. -/
set_option linter.unusedVariables false
namespace Go.Proofs.YtbhnplghnhafiaaGreatDoor.Tryz
open Go Go.Vc
set_option maxHeartbeats 1000000 in
theorem refPut_has (n : Nat) (w : World) (hn : n < 18446744073709551616) :
    Has Go.Proofs.Tryz.prog 29 #[.int .u64 (n : Int)] w (fun v w' => MadeB 5 w w' v (putM n)) := by
  have hlen := putM_len10 hn
  refine enter Go.Proofs.Tryz.func29 rfl rfl (by decide) rfl (e := [(0, .int .u64 (n : Int))]) ⟨rfl, trivial⟩ ?_
  repeat (first | refine W_seq ?_ | refine W_region ?_ | refine Then_n ?_ | refine WL_nil ?_ | refine WL_some rfl rfl rfl ?_ | refine op_assign rfl rfl ?_)
  refine W_meet (σ := Nat × List UInt8 × Value) (fun s => [(0, .int .u64 (s.1 : Int)), (3, s.2.2)]) (fun s w' => s.1 < 128 ∧ s.2.1 ++ putM s.1 = putM n ∧ MadeB 5 w w' s.2.2 s.2.1) ?_ ?_
  · refine W_block ?_
    refine W_loop (σ := Nat × List UInt8 × Value) (fun s => [(0, .int .u64 (s.1 : Int)), (3, s.2.2)]) (fun s w' => s.1 < 18446744073709551616 ∧ s.2.1 ++ putM s.1 = putM n ∧ MadeB 5 w w' s.2.2 s.2.1) (fun s => s.1) (n, [], .slice none 0 0) ⟨rfl, rfl, trivial⟩ ⟨hn, rfl, MadeB.nil _ _⟩ ?_
    rintro ⟨m, l, v⟩ w1 ⟨h1, h2, h3⟩
    dsimp only at h1 h2 h3 ⊢
    repeat (first | refine W_seq ?_ | refine W_region ?_ | refine WL_some rfl rfl rfl ?_ | refine op_move rfl rfl ?_)
    (refine op_geq rfl rfl rfl (fun hc => ?_) (fun hc => ?_))
    · have hm : ¬ m < 128 := by omega
      have hpl := putM_pos (m / 128)
      have hl : l.length ≤ 10 := by rw [← h2] at hlen; simp at hlen; omega
      repeat (first | refine W_seq ?_ | refine W_block ?_ | refine W_region ?_ | refine W_skip ?_ | refine Then_n ?_ | refine WL_nil ?_ | refine W_condT rfl ?_ | refine WL_some rfl rfl rfl ?_ | refine op_move rfl rfl ?_ | refine op_rem rfl rfl rfl (by omega) rfl ?_)
      rw [show (m : Int).tmod 128 = ((m % 128 : Nat) : Int) from by rw [Int.tmod_eq_emod_of_nonneg (Int.natCast_nonneg m)]; omega]
      refine op_add (r := ((m % 128 + 128 : Nat) : Int)) rfl rfl rfl (by rw [wrap_u64_in (by omega) (by omega)]; omega) ?_
      repeat (refine WL_some rfl rfl rfl ?_)
      refine op_convert_nat T rfl rfl rfl rfl rfl ?_
      repeat (refine WL_some rfl rfl rfl ?_)
      refine op_buildSlice T rfl rfl rfl rfl rfl rfl rfl (fun g w2 hgs hc2 hg2 => ?_)
      have hs2 := one_u8 (UInt8.ofNat (m % 128 + 128)) (by rw [← byte_cell]; exact hg2)
      repeat (refine WL_some rfl rfl rfl ?_)
      refine op_appB T rfl rfl rfl rfl rfl rfl rfl rfl rfl (h3.keep0 hc2) hs2 (by simp; omega) (fun v' w3 hm3 _ _ => ?_)
      repeat (first | refine W_region ?_ | refine Then_n ?_ | refine WL_nil ?_ | refine WL_some rfl rfl rfl ?_ | refine op_move rfl rfl ?_ | refine op_assign rfl rfl ?_)
      refine op_quo (r := ((m / 128 : Nat) : Int)) rfl rfl rfl (by decide) (by rw [show (m : Int).tdiv 128 = ((m / 128 : Nat) : Int) from by rw [Int.tdiv_eq_ediv_of_nonneg (Int.natCast_nonneg m)]; omega]; exact wrap_u64_in (by omega) (by omega)) ?_
      repeat (first | refine InBlock_n ?_ | refine WL_nil ?_ | refine WL_some rfl rfl rfl ?_ | refine op_assign rfl rfl ?_)
      refine Round_n (m / 128, l ++ [UInt8.ofNat (m % 128 + 128)], v') ⟨rfl, rfl, trivial⟩ ⟨by dsimp only; omega, ?_, hm3⟩ (by dsimp only; omega)
      dsimp only
      rw [← h2, putM_big hm, List.append_assoc]; rfl
    · repeat (first | refine W_exit ?_ | refine Then_n ?_ | refine Then_x ?_ | refine InBlock_hit ?_ | refine Round_x ?_ | refine WL_nil ?_ | refine W_condF rfl ?_)
      refine Meet_n (m, l, v) ⟨rfl, rfl, trivial⟩ ⟨?_, h2, h3⟩
      dsimp only; omega
  · rintro ⟨m, l, v⟩ w1 ⟨h1, h2, h3⟩
    dsimp only at h1 h2 h3 ⊢
    have hl : l.length ≤ 10 := by rw [← h2] at hlen; simp at hlen; omega
    repeat (first | refine W_seq ?_ | refine W_region ?_ | refine Then_n ?_ | refine WL_some rfl rfl rfl ?_ | refine op_move rfl rfl ?_)
    refine op_convert_nat T rfl rfl rfl rfl rfl ?_
    repeat (refine WL_some rfl rfl rfl ?_)
    refine op_buildSlice T rfl rfl rfl rfl rfl rfl rfl (fun g w2 hgs hc2 hg2 => ?_)
    have hs2 := one_u8 (UInt8.ofNat m) (by rw [← byte_cell]; exact hg2)
    repeat (refine WL_some rfl rfl rfl ?_)
    refine op_appB T rfl rfl rfl rfl rfl rfl rfl rfl rfl (h3.keep0 hc2) hs2 (by simp; omega) (fun v' w3 hm3 _ _ => ?_)
    repeat (first | refine W_ret ?_ | refine Then_n ?_ | refine WL_nil ?_ | refine WL_some rfl rfl rfl ?_ | refine op_assign rfl rfl ?_)
    refine post1 (.inl rfl) rfl rfl ?_
    rw [← h2, putM_small h1]
    exact hm3
theorem refText_has (s : List UInt8) (w : World) (hs : s.length < 1000000000) :
    Has Go.Proofs.Tryz.prog 30 #[.string (str s)] w (fun v w' => MadeB 5 w w' v (textM s)) := by
  refine enter Go.Proofs.Tryz.func30 rfl rfl (by decide) rfl (e := [(0, .string (str s))]) ⟨rfl, trivial⟩ ?_
  repeat (first | refine W_seq ?_ | refine W_region ?_ | refine Then_n ?_ | refine WL_nil ?_ | refine WL_some rfl rfl rfl ?_ | refine op_len_str T rfl rfl rfl rfl ?_ | refine op_move rfl rfl ?_ | refine op_assign rfl rfl ?_)
  refine op_convert_fit T rfl rfl rfl rfl (wrap_u64_in (by omega) (by omega)) ?_
  repeat (refine WL_some rfl rfl rfl ?_)
  refine op_call rfl rfl rfl (refPut_has s.length w (by omega)) ?_
  intro v w1 h1
  repeat (first | refine WL_some rfl rfl rfl ?_ | refine op_move rfl rfl ?_)
  have hp := putM_len10 (n := s.length) (by omega)
  refine op_appS T rfl rfl rfl rfl rfl rfl rfl rfl rfl rfl h1 (by omega) (fun v' w2 h2 _ => ?_)
  repeat (first | refine W_ret ?_ | refine Then_n ?_ | refine WL_nil ?_ | refine WL_some rfl rfl rfl ?_ | refine op_assign rfl rfl ?_)
  exact post1 (.inl rfl) rfl rfl h2
theorem refSeal_has (A : Option Addr) (n c : Nat) (l : List UInt8) (w : World) (hl : SliceOf Ru8 w (.slice A n c) l) (hb : l.length < 4294967296) :
    Has Go.Proofs.Tryz.prog 31 #[.slice A n c] w (fun v w' => MadeB 5 w w' v (sealM l)) := by
  obtain ⟨rfl, hl1, hl2⟩ := hl.len
  refine enter Go.Proofs.Tryz.func31 rfl rfl (by decide) rfl (e := [(0, .slice A l.length c)]) ⟨rfl, trivial⟩ ?_
  repeat (first | refine W_seq ?_ | refine W_region ?_ | refine Then_n ?_ | refine WL_nil ?_ | refine WL_some rfl rfl rfl ?_ | refine op_move rfl rfl ?_ | refine op_assign rfl rfl ?_ | refine op_len_slice T rfl rfl rfl rfl ?_)
  refine op_convert_fit T rfl rfl rfl rfl (wrap_u32_in (by omega) (by omega)) ?_
  repeat (refine WL_some rfl rfl rfl ?_)
  refine op_call rfl rfl rfl (rfour_has l.length w hb) ?_
  intro v1 w1 m1
  repeat (first | refine W_seq ?_ | refine W_region ?_ | refine Then_n ?_ | refine WL_nil ?_ | refine WL_some rfl rfl rfl ?_ | refine op_move rfl rfl ?_ | refine op_assign rfl rfl ?_)
  obtain ⟨A1, c1, rfl, _, _⟩ := m1.form
  skip
  refine op_appB T rfl rfl rfl rfl rfl rfl rfl rfl rfl (MadeB.nil _ w1) m1.reads (by simp [fourM_length]) (fun v2 w2 m2 _ _ => ?_)
  rw [List.nil_append] at m2
  have k2 := m2.base m1.chg
  have r2 := SliceOf.kept Ru8.kept _ _ _ _ m2.chg m1.reads
  repeat (first | refine WL_some rfl rfl rfl ?_ | refine op_move rfl rfl ?_)
  refine op_call rfl rfl rfl (rsum_has A1 _ c1 _ w2 r2) ?_
  rintro _ w3 ⟨rfl, rfl⟩
  repeat (refine WL_some rfl rfl rfl ?_)
  refine op_call rfl rfl rfl (rfour_has _ w3 (crcN_lt _)) ?_
  intro v4 w4 m4
  repeat (refine WL_some rfl rfl rfl ?_)
  have k4 := k2.keep0 m4.chg
  obtain ⟨A4, c4, rfl, _, _⟩ := m4.form
  refine op_appB T rfl rfl rfl rfl rfl rfl rfl rfl rfl k4 m4.reads (by simp [fourM_length]) (fun v5 w5 m5 _ _ => ?_)
  have r5 := SliceOf.kept Ru8.kept _ _ _ _ m5.chg hl
  repeat (first | refine W_seq ?_ | refine W_region ?_ | refine Then_n ?_ | refine WL_nil ?_ | refine WL_some rfl rfl rfl ?_ | refine op_move rfl rfl ?_ | refine op_assign rfl rfl ?_)
  refine op_call rfl rfl rfl (rsum_has A _ c _ w5 r5) ?_
  rintro _ w6 ⟨rfl, rfl⟩
  repeat (refine WL_some rfl rfl rfl ?_)
  refine op_call rfl rfl rfl (rfour_has _ w6 (crcN_lt _)) ?_
  intro v7 w7 m7
  repeat (refine WL_some rfl rfl rfl ?_)
  have k7 := m5.keep0 m7.chg
  obtain ⟨A7, c7, rfl, _, _⟩ := m7.form
  refine op_appB T rfl rfl rfl rfl rfl rfl rfl rfl rfl k7 m7.reads (by simp [fourM_length]) (fun v8 w8 m8 _ _ => ?_)
  have r8 := SliceOf.kept Ru8.kept _ _ _ _ m8.chg hl
  repeat (first | refine WL_some rfl rfl rfl ?_ | refine op_move rfl rfl ?_)
  refine op_appB T rfl rfl rfl rfl rfl rfl rfl rfl rfl m8 r8 (by simp [fourM_length]; omega) (fun v9 w9 m9 _ _ => ?_)
  repeat (first | refine W_ret ?_ | refine Then_n ?_ | refine WL_nil ?_ | refine WL_some rfl rfl rfl ?_ | refine op_assign rfl rfl ?_)
  exact post1 (.inl rfl) rfl rfl m9
set_option maxHeartbeats 2000000 in
theorem refEncode_has (r : RecM) (w : World) : Has Go.Proofs.Tryz.prog 8 #[.agg (recL r).toArray] w (fun v w' => MadeB 5 w w' v (encM r).1) := by
  refine enter Go.Proofs.Tryz.func8 rfl rfl (by decide) rfl (e := [(0, .agg (recL r).toArray)]) ⟨rfl, trivial⟩ ?_
  repeat (first | refine W_seq ?_ | refine W_region ?_ | refine WL_some rfl rfl rfl ?_)
  refine op_box rfl rfl (fun g w1 hgs hc1 hg1 => ?_)
  have hg1 : Blk w1 g 32 (recL r) := hg1
  repeat (first | refine W_seq ?_ | refine W_region ?_ | refine Then_n ?_ | refine WL_nil ?_ | refine WL_some rfl rfl rfl ?_ | refine op_assign rfl rfl ?_ | refine op_load_agg T rfl rfl rfl rfl (by assumption) (by exact Nat.le_of_ble_eq_true rfl) (by exact rfl) ?_)
  refine op_call rfl rfl rfl (rcheck_has r w1) ?_
  rintro _ w2 ⟨hc2, rfl⟩
  unfold encM
  by_cases hck : checkM r ≠ 0
  · rw [if_pos hck]
    repeat (first | refine W_seq ?_ | refine W_region ?_ | refine W_ret ?_ | refine Then_n ?_ | refine Then_r ?_ | refine WL_nil ?_ | refine W_condT rfl ?_ | refine WL_some rfl rfl rfl ?_ | refine op_assign rfl rfl ?_ | refine op_neq rfl rfl rfl (fun hc => ?_) (fun hc => False.elim (by omega)))
    exact post1 (.inl rfl) rfl rfl ⟨hc1.trans' hc2, Own.nil _ _ _, fun h hh => by simp [Value.ownBlock] at hh⟩
  rw [if_neg hck]
  have hok := checkM_ok.1 (Decidable.not_not.1 hck)
  have hkind : r.kind = 1 ∨ r.kind = 0 := hok.kind.imp id (·.1)
  have hs1 := hok.seq1; have hs2 := hok.seq2; have h100 := hok.key100; have h4000 := hok.val4000
  have hckz : checkM r = 0 := Decidable.not_not.1 hck
  rw [hckz]
  have hg2 := hg1.keep0 hc2
  have hc02 := hc1.trans' hc2
  unfold recL at hg2
  have hp10 := putM_len10 (n := r.seq.toNat) (by omega)
  have ht1 := textM_len r.key (by omega)
  have ht2 := textM_len r.val (by omega)
  repeat (first | refine W_seq ?_ | refine W_skip ?_ | refine Then_n ?_ | refine WL_nil ?_ | refine W_condF rfl ?_ | refine WL_some rfl rfl rfl ?_ | refine op_neq rfl rfl rfl (fun hc => False.elim (by omega)) (fun hc => ?_))
  refine W_walk 8 [] fol (by kernel_rfl) (by kernel_rfl) ?_
  refine Walk.plain rfl (by intro val w_ hR hp; exact op_fieldAddr T rfl rfl rfl rfl rfl rfl rfl rfl ⟨Chg.refl _ _, rfl⟩) ?_; dsimp only [List.nil_append, List.cons_append]
  refine Walk.plain rfl (by intro val w_ hR hp; exact op_load T rfl rfl rfl rfl ((Blk.keep0 hg2 hR).cell rfl) ⟨Chg.refl _ _, rfl⟩) ?_; dsimp only [List.nil_append, List.cons_append]
  refine Walk.plain rfl (by intro val w_ hR hp; exact op_convert_fit T rfl rfl rfl rfl (wrap_u8_in (by omega) (by omega)) ⟨Chg.refl _ _, rfl⟩) ?_; dsimp only [List.nil_append, List.cons_append]
  refine Walk.rel (fun u w => ∃ g5, u = .slice (some ⟨g5, 0, none⟩) 1 1 ∧ Blk w g5 5 [.int .u8 r.kind] ∧ w2.heap.size ≤ g5) rfl (fun u a b ⟨g5, h1, h2, h3⟩ hab => ⟨g5, h1, h2.keep0 hab, h3⟩) ?_ ?_
  · intro val w_ hR hp
    exact op_buildSlice T rfl rfl rfl rfl rfl rfl rfl (fun g5 w5 hs5 hc5 hg5 => ⟨hc5, g5, rfl, hg5, by have := hR.size; omega⟩)
  dsimp only [List.nil_append, List.cons_append]
  refine Walk.plain rfl (by intro val w_ hR hp; exact op_fieldAddr T rfl rfl rfl rfl rfl rfl rfl rfl ⟨Chg.refl _ _, rfl⟩) ?_; dsimp only [List.nil_append, List.cons_append]
  refine Walk.plain rfl (by intro val w_ hR hp; exact op_load T rfl rfl rfl rfl ((Blk.keep0 hg2 hR).cell rfl) ⟨Chg.refl _ _, rfl⟩) ?_; dsimp only [List.nil_append, List.cons_append]
  refine Walk.plain (v := .int .u64 (r.seq.toNat : Int)) rfl (by intro val w_ hR hp; exact op_convert_int T rfl rfl rfl rfl (by rw [wrap_u64_in (by omega) (by omega)]; exact (Int.toNat_of_nonneg (by omega)).symm) ⟨Chg.refl _ _, rfl⟩) ?_; dsimp only [List.nil_append, List.cons_append]
  refine Walk.rel (fun u w => MadeB 5 w2 w u (putM r.seq.toNat)) rfl (fun u a b h hab => h.keep0 hab) ?_ ?_
  · intro val w_ hR hp
    exact op_call rfl rfl rfl (refPut_has _ w_ (by omega)) (fun v w' h => ⟨h.chg, h.base hR⟩)
  dsimp only [List.nil_append, List.cons_append]
  refine Walk.fin ?_
  intro val w3 hc3 hp
  obtain ⟨g5, he, hg5, hs5⟩ : ∃ g5, val 3 = .slice (some ⟨g5, 0, none⟩) 1 1 ∧ Blk w3 g5 5 [.int .u8 r.kind] ∧ w2.heap.size ≤ g5 := hp 3 (by omega) _ _ rfl rfl
  have m7 : MadeB 5 w2 w3 (val 7) (putM r.seq.toNat) := hp 7 (by omega) _ _ rfl rfl
  clear hp
  obtain ⟨A7, c7, he7, _, _⟩ := m7.form
  have hg3 := hg2.keep0 hc3
  have m5 : MadeB 5 w2 w3 (.slice (some ⟨g5, 0, none⟩) 1 1) [UInt8.ofNat r.kind.toNat] := by
    rw [kind_byte hkind] at hg5
    exact ⟨hc3, Own.mk hg5 (Nat.le_refl _) (by decide) rfl rfl, fun h hh => by simp [Value.ownBlock] at hh; omega⟩
  refine WL_sub (e' := [(1, .pointer (some ⟨g, 0, none⟩)), (10, .slice (some ⟨g5, 0, none⟩) 1 1), (14, .slice A7 (putM r.seq.toNat).length c7)]) ⟨rfl, congrArg some he, congrArg some he7, trivial⟩ ?_
  rw [he7] at m7
  repeat (refine WL_some rfl rfl rfl ?_)
  refine op_appB T rfl rfl rfl rfl rfl rfl rfl rfl rfl m5 m7.reads (by simp; omega) (fun v8 w8 m8 hc8 _ => ?_)
  have hg8 := hg3.keep hc8 (fun hm => m5.sub hg2.lt g (by simpa using hm) rfl)
  repeat (first | refine W_seq ?_ | refine W_region ?_ | refine Then_n ?_ | refine WL_nil ?_ | refine WL_some rfl rfl rfl ?_ | refine op_move rfl rfl ?_ | refine op_assign rfl rfl ?_ | refine op_fieldAddr T rfl rfl rfl rfl rfl rfl rfl rfl ?_ | refine op_loadB T rfl rfl rfl rfl (by assumption) (by exact rfl) ?_)
  refine op_call rfl rfl rfl (refText_has r.key w8 (by omega)) ?_
  intro v9 w9 m9
  obtain ⟨A9, c9, rfl, _, _⟩ := m9.form
  have hg9 := hg8.keep0 m9.chg
  have m8' := m8.keep0 m9.chg
  repeat (refine WL_some rfl rfl rfl ?_)
  refine op_appB T rfl rfl rfl rfl rfl rfl rfl rfl rfl m8' m9.reads (by simp; omega) (fun v10 w10 m10 hc10 _ => ?_)
  have hg10 := hg9.keep hc10 (fun hm => m8'.sub hg2.lt g (by simpa using hm) rfl)
  by_cases hk1 : r.kind = 1
  · have eb : bodyM r = [UInt8.ofNat r.kind.toNat] ++ putM r.seq.toNat ++ textM r.key ++ textM r.val := by unfold bodyM; rw [if_pos hk1]; rfl
    repeat (first | refine W_seq ?_ | refine W_region ?_ | refine Then_n ?_ | refine WL_nil ?_ | refine W_condT rfl ?_ | refine WL_some rfl rfl rfl ?_ | refine op_move rfl rfl ?_ | refine op_assign rfl rfl ?_ | refine op_eql rfl rfl rfl (fun hc => ?_) (fun hc => False.elim (by omega)) | refine op_fieldAddr T rfl rfl rfl rfl rfl rfl rfl rfl ?_ | refine op_loadB T rfl rfl rfl rfl (by assumption) (by exact rfl) ?_)
    refine op_call rfl rfl rfl (refText_has r.val w10 (by omega)) ?_
    intro v11 w11 m11
    obtain ⟨A11, c11, rfl, _, _⟩ := m11.form
    repeat (refine WL_some rfl rfl rfl ?_)
    refine op_appB T rfl rfl rfl rfl rfl rfl rfl rfl rfl (m10.keep0 m11.chg) m11.reads (by simp; omega) (fun v12 w12 m12 _ _ => ?_)
    rw [← eb] at m12
    obtain ⟨A12, c12, rfl, _, _⟩ := m12.form
    have hbl := bodyM_len hok
    repeat (first | refine W_seq ?_ | refine W_region ?_ | refine Then_n ?_ | refine WL_nil ?_ | refine WL_some rfl rfl rfl ?_ | refine op_move rfl rfl ?_ | refine op_assign rfl rfl ?_)
    refine op_call rfl rfl rfl (refSeal_has A12 _ c12 _ w12 m12.reads (by omega)) ?_
    intro v13 w13 m13
    repeat (first | refine W_ret ?_ | refine Then_n ?_ | refine WL_nil ?_ | refine WL_some rfl rfl rfl ?_ | refine op_assign rfl rfl ?_)
    exact post1 (.inl rfl) rfl rfl (m13.base (hc02.trans' m12.chg))
  · have eb : bodyM r = [UInt8.ofNat r.kind.toNat] ++ putM r.seq.toNat ++ textM r.key := by unfold bodyM; rw [if_neg hk1, List.append_nil]; rfl
    rw [← eb] at m10
    obtain ⟨A12, c12, rfl, _, _⟩ := m10.form
    have hbl := bodyM_len hok
    repeat (first | refine W_seq ?_ | refine W_region ?_ | refine W_skip ?_ | refine Then_n ?_ | refine WL_nil ?_ | refine W_condF rfl ?_ | refine WL_some rfl rfl rfl ?_ | refine op_move rfl rfl ?_ | refine op_assign rfl rfl ?_ | refine op_eql rfl rfl rfl (fun hc => False.elim (by omega)) (fun hc => ?_) | refine op_fieldAddr T rfl rfl rfl rfl rfl rfl rfl rfl ?_ | refine op_loadB T rfl rfl rfl rfl (by assumption) (by exact rfl) ?_)
    refine op_call rfl rfl rfl (refSeal_has A12 _ c12 _ w10 m10.reads (by omega)) ?_
    intro v13 w13 m13
    repeat (first | refine W_ret ?_ | refine Then_n ?_ | refine WL_nil ?_ | refine WL_some rfl rfl rfl ?_ | refine op_assign rfl rfl ?_)
    exact post1 (.inl rfl) rfl rfl (m13.base (hc02.trans' m10.chg))
/-- The front of a row. -/
theorem short_has (A : Option Addr) (n c : Nat) (l : List UInt8) (k : Nat) (w : World) (hl : SliceOf Ru8 w (.slice A n c) l) (hk : k < 1000000000) :
    Has Go.Proofs.Tryz.prog 10 #[.slice A n c, .int .i64 (k : Int)] w (fun v w' => w' = w ∧ ∃ A' c', v = .slice A' (l.take k).length c' ∧ SliceOf Ru8 w v (l.take k)) := by
  obtain ⟨rfl, hl1, hl2⟩ := hl.len
  unfold maxLen at hl2
  refine enter Go.Proofs.Tryz.func10 rfl rfl (by decide) rfl (e := [(0, .slice A l.length c), (1, .int .i64 (k : Int))]) ⟨rfl, rfl, trivial⟩ ?_
  by_cases h : k < l.length
  · refine run ?_
    refine go T 11 rfl ?_
    refine gtT rfl rfl rfl rfl (by omega) ?_
    refine go T 7 rfl ?_
    refine o1 rfl ?_
    refine op_slice_to T (h' := k) (k := .i64) rfl rfl rfl rfl rfl (by omega) ?_
    refine go T 5 rfl ?_
    exact post1 (.inl rfl) rfl rfl ⟨rfl, A, c, by rw [List.length_take, Nat.min_eq_left (by omega)], hl.take (by omega)⟩
  · rw [List.take_of_length_le (by omega)]
    refine run ?_
    refine go T 11 rfl ?_
    refine gtF rfl rfl rfl rfl (by omega) ?_
    refine go T 12 rfl ?_
    exact post1 (.inl rfl) rfl rfl ⟨rfl, A, c, rfl, hl⟩
end Go.Proofs.YtbhnplghnhafiaaGreatDoor.Tryz
/-! Segments: Open in general; whether one holds just these records. -/
set_option linter.unusedVariables false
namespace Go.Vc
open Go
def newNm (n : Nat) : Nm := [UInt8.ofNat (48 + n), 46, 110, 101, 119]
theorem newNm_raw {n : Nat} (hn : n < 10) : newNm n < rawNm n ∧ rawNm n ≠ newNm n ∧ mayM (newNm n) = true := by
  revert n
  decide
end Go.Vc
namespace Go.Proofs.YtbhnplghnhafiaaGreatDoor.Tryz
open Go Go.Vc
set_option maxHeartbeats 4000000 in
/-- Open of a file of any bytes that is not spoilt. -/
theorem openT_has {w0 w : World} {g : Nat} {s : FsM} {p : FsP} (x : FsO w0 w g s p) (n : Nat) (hn : n < 10) {room calls : Int} {b : List UInt8} {i : Nat} (h : OneAt s room calls (rawNm n) b b.length i) (hl : Lasts s (rawNm n) i) (hb : b.length ≤ 100000) (hroom : (b.length : Int) + b.length ≤ room) (hcalls : calls ≤ 1000) (hok : (rscanM b).2.2 = true) (hlen : (rscanM b).1.length ≤ 10000) :
    Has Go.Proofs.Tryz.prog 14 #[ptrV g, .int .i64 (n : Int)] w (fun v w' => Chg (p.fp g) w w' ∧ ∃ gs u s' p' calls' i', v = .tuple #[ptrV gs, .int .i64 0] ∧ SegO w0 w' gs g s' p' (rawNm n) (offs (rscanM b).1) (encs (rscanM b).1).length u ∧ OneAt s' room calls' (rawNm n) (encs (rscanM b).1) (encs (rscanM b).1).length i' ∧ Lasts s' (rawNm n) i' ∧ calls' ≤ calls + 5 ∧ Grows w g p p' ∧ w.heap.size ≤ gs ∧ ∀ k, u.ownBlock = some k → w.heap.size ≤ k) := by
  refine enter Go.Proofs.Tryz.func14 rfl rfl (by decide) rfl (e := [(0, ptrV g), (1, .int .i64 (n : Int))]) ⟨rfl, rfl, trivial⟩ ?_
  obtain ⟨hrs, hen, htk, h12, hle⟩ := rscanM_front b.length b (Nat.le_refl _)
  have hread := h.read
  unfold ptrV
  repeat (first | refine W_seq ?_ | refine W_region ?_ | refine Then_n ?_ | refine WL_nil ?_ | refine WL_some rfl rfl rfl ?_ | refine op_move rfl rfl ?_ | refine op_assign rfl rfl ?_)
  refine op_call rfl rfl rfl (name_has n w hn) ?_
  rintro _ w ⟨rfl, rfl⟩
  repeat (refine WL_some rfl rfl rfl ?_)
  refine op_call rfl rfl rfl (readO_has x (rawNm n)) ?_
  rintro v1 w1 ⟨x1, hc1, h1⟩
  rw [hread] at h1
  obtain ⟨ub, rfl, hob, hfb⟩ : ∃ u, v1 = .tuple #[u, .int .i64 0] ∧ Own w1 5 1 u b.length (u8s b) ∧ ∀ h, u.ownBlock = some h → w.heap.size ≤ h := h1
  have hsb := hob.bytes
  obtain ⟨Ab, cb, rfl, hcb, hcb2⟩ := hob.form
  unfold maxLen at hcb2
  repeat (first | refine W_seq ?_ | refine W_region ?_ | refine W_skip ?_ | refine Then_n ?_ | refine WL_nil ?_ | refine W_condF rfl ?_ | refine WL_some rfl rfl rfl ?_ | refine op_move rfl rfl ?_ | refine op_assign rfl rfl ?_ | refine op_extract rfl rfl rfl ?_ | refine op_neq rfl rfl rfl (fun hc => False.elim (by omega)) (fun hc => ?_))
  refine op_call rfl rfl rfl (rscan_has Ab _ cb _ w1 hsb (by omega)) ?_
  rintro _ w2 ⟨ul, rfl, hc2, hol, hfl⟩
  generalize rscanM b = q at *
  obtain ⟨rs, en, okk⟩ := q
  dsimp only at hok hlen hrs hen htk h12 hle hol ⊢
  subst hok
  have x2 := x1.keep0 hc2
  obtain ⟨Al, cl, rfl, _, _⟩ := hol.form
  have hC : Chg (p.fp g) w w2 := ((hc1.trans' hc2).mono (fun k hk _ => by cases hk))
  have hG : Grows w g p p := fun k hk => .inl hk
  by_cases hcut : en = b.length
  · rw [hcut, List.take_length] at htk
    rw [htk] at h
    obtain ⟨s2, hs2⟩ : ∃ s2, s2 = s := ⟨_, rfl⟩
    obtain ⟨p2, hp2⟩ : ∃ p2, p2 = p := ⟨_, rfl⟩
    have o2 := h; have l2 := hl
    have hcl : calls ≤ calls + 5 := by omega
    obtain ⟨cl2, hcl2⟩ : ∃ c2, c2 = calls := ⟨_, rfl⟩
    obtain ⟨i2, hi2⟩ : ∃ i2, i2 = i := ⟨_, rfl⟩
    rw [← hs2, ← hcl2, ← hi2] at o2
    rw [← hs2, ← hi2] at l2
    rw [← hs2, ← hp2] at x2
    rw [← hp2] at hG
    replace hG : Grows w g p p2 := by rw [hp2]; exact fun k hk => .inl hk
    replace hcl : cl2 ≤ calls + 5 := by omega
    clear hs2 hp2 hi2
    repeat (first | refine W_seq ?_ | refine W_region ?_ | refine W_skip ?_ | refine Then_n ?_ | refine WL_nil ?_ | refine W_condF rfl ?_ | refine WL_some rfl rfl rfl ?_ | refine op_move rfl rfl ?_ | refine op_assign rfl rfl ?_ | refine op_len_slice T rfl rfl rfl rfl ?_ | refine op_notT rfl rfl ?_ | refine op_extract rfl rfl rfl ?_ | refine op_lss rfl rfl rfl (fun hc => False.elim (by omega)) (fun hc => ?_))
    refine op_call rfl rfl rfl (name_has n w2 hn) ?_
    rintro _ w2 ⟨rfl, rfl⟩
    repeat (first | refine WL_some rfl rfl rfl ?_ | refine op_build T rfl rfl rfl rfl rfl rfl ?_)
    refine op_box rfl rfl (fun gs w3 hs3 hc3 hg3 => ?_)
    have hg3 : Blk w3 gs 78 [ptrV g, .string (str (rawNm n)), .slice none 0 0, .int .i64 0] := hg3
    have hge : w2.heap.size ≤ gs := hs3
    have x3 := x2.keep0 hc3
    have hol3 := hol.keep0 hc3
    have xs3 : SegO w0 w3 gs g s2 p2 (rawNm n) [] 0 (.slice none 0 0) := ⟨x3, ⟨hg3, Own.nil _ _ _⟩, fun hm => by have := x2.at_.lt gs hm; omega, fun k hk => by simp [Value.ownBlock] at hk, by have := x2.chg.size; omega, fun k hk => by simp [Value.ownBlock] at hk⟩
    have hc13 : Chg (p.fp g) w w3 := hC.trans' hc3
    have hgw : w.heap.size ≤ gs := by have := hC.size; omega
    repeat (first | refine W_seq ?_ | refine W_block ?_ | refine W_region ?_ | refine Then_n ?_ | refine WL_nil ?_ | refine WL_some rfl rfl rfl ?_ | refine op_move rfl rfl ?_ | refine op_assign rfl rfl ?_ | refine op_len_slice T rfl rfl rfl rfl ?_)
    refine W_loop (σ := Nat) (fun k => [(12, .pointer (some ⟨gs, 0, none⟩)), (57, .slice Al rs.length cl), (58, .int .i64 (rs.length : Nat)), (59, .int .i64 (k : Int))])
      (fun k w' => k ≤ rs.length ∧ Chg (p.fp g) w w' ∧ Own w' 32 4 (.slice Al rs.length cl) rs.length (rs.flatMap recL) ∧ ∃ u, SegO w0 w' gs g s2 p2 (rawNm n) (offs (rs.take k)) (encs (rs.take k)).length u ∧ ∀ h, u.ownBlock = some h → w.heap.size ≤ h)
      (fun k => rs.length - k) 0 ⟨rfl, rfl, rfl, rfl, trivial⟩ ⟨by omega, hc13, hol3, .slice none 0 0, by simpa [offs, encs] using xs3, fun h hh => by simp [Value.ownBlock] at hh⟩ ?_
    rintro k w4 ⟨hk, hc4, ho4, u4, x4, hu4⟩
    repeat (first | refine W_seq ?_ | refine W_region ?_ | refine WL_some rfl rfl rfl ?_)
    (refine op_lss rfl rfl rfl (fun hc => ?_) (fun hc => ?_))
    · have hkl : k < rs.length := by omega
      have hr : rs[k]? = some rs[k] := List.getElem?_eq_getElem hkl
      have hok := hrs _ (List.getElem_mem hkl)
      have htake := encs_take rs hr
      have hoff : offs (rs.take (k + 1)) = offs (rs.take k) ++ [(encs (rs.take k)).length] := by rw [List.take_add_one, hr]; exact offs_snoc _ _
      have hmono : (encs (rs.take (k + 1))).length ≤ (encs rs).length := by rw [encs_prefix rs (k + 1)]; simp
      have hofl : (offs (rs.take k)).length ≤ 10000 := by rw [offs_length, List.length_take]; omega
      obtain ⟨gl, hgl, hcells⟩ := ho4.elem (f := recL) (fun r => rfl) hr (by decide)
      subst hgl
      generalize rs[k] = r at *
      repeat (first | refine W_seq ?_ | refine W_block ?_ | refine W_region ?_ | refine W_skip ?_ | refine Then_n ?_ | refine WL_nil ?_ | refine W_condT rfl ?_ | refine WL_some rfl rfl rfl ?_)
      refine op_index_slice T rfl rfl rfl rfl rfl (by omega) (by omega) (p := (⟨gl, 0, none⟩ : Addr).add (k * 4)) (by rw [Int.toNat_natCast]) ?_
      repeat (refine WL_some rfl rfl rfl ?_)
      refine op_load_cells (cs := recL r) T rfl rfl rfl rfl rfl (fun j v hj => by rw [add_of_add]; exact hcells j v hj) ?_
      repeat (refine WL_some rfl rfl rfl ?_)
      refine op_alloc T rfl rfl (fun g5 w5 hs5 hc5 hg5 => ?_)
      have hg5 : Blk w5 g5 32 [.int .i64 0, .int .i64 0, .string (str []), .string (str [])] := hg5
      have hs5 : w4.heap.size ≤ g5 := hs5
      repeat (refine WL_none rfl rfl ?_)
      refine op_store_agg T rfl rfl rfl rfl rfl rfl hg5 (by exact Nat.le_of_ble_eq_true rfl) (fun w6 hc6 hg6 _ => ?_)
      have hg6 : Blk w6 g5 32 (recL r) := hg6
      have hc46 : Chg [] w4 w6 := hc5.trans hc6 (fun k hk hlt => by simp at hk; omega)
      repeat (first | refine W_seq ?_ | refine W_region ?_ | refine Then_n ?_ | refine WL_nil ?_ | refine WL_some rfl rfl rfl ?_ | refine op_load_agg T rfl rfl rfl rfl (by assumption) (by exact Nat.le_of_ble_eq_true rfl) (by exact rfl) ?_)
      refine op_call rfl rfl rfl (encode_has r w6) ?_
      rintro _ w7 ⟨ue, rfl, me⟩
      have henc : encM r = (sealM (bodyM r), 0) := by unfold encM; rw [if_neg (by simp [checkM_ok.2 hok])]
      rw [henc] at me
      rw [henc]
      dsimp only at me
      obtain ⟨Ae, ce, rfl, _, _⟩ := me.form
      have hc47 := hc46.trans' me.chg
      have x7 := x4.keep0 hc47
      have ho7 := ho4.keep0 hc47
      repeat (first | refine W_region ?_ | refine Then_n ?_ | refine WL_nil ?_ | refine WL_some rfl rfl rfl ?_ | refine op_move rfl rfl ?_ | refine op_assign rfl rfl ?_ | refine op_len_slice T rfl rfl rfl rfl ?_ | refine op_extract rfl rfl rfl ?_)
      refine op_call rfl rfl rfl (addS_has x7.seg (sealM (bodyM r)).length (by omega) (by rw [htake, List.length_append] at hmono; omega)) ?_
      rintro v8 w8 ⟨hc8, u8, hs8, hb8⟩
      have x8 := x7.turn hc8 hs8 hb8
      rw [← hoff, ← List.length_append, ← htake] at x8
      have ho8 := ho7.keep hc8 (fun h hh hm => by
        obtain ⟨cur, hrow⟩ := ho7.row hh
        rcases List.mem_cons.1 hm with rfl | hm
        · exact hrow.ne_ x7.seg.blk (by decide) rfl
        · obtain ⟨cur2, hrow2⟩ := x7.seg.own.row (show u4.ownBlock = some h by simpa using hm)
          exact hrow.ne_ hrow2 (by decide) rfl)
      have hc08 : Chg (p.fp g) w w8 := (hc4.trans' hc47).trans hc8 (fun k hk hlt => by
        rcases List.mem_cons.1 hk with rfl | hk
        · omega
        · have := hu4 k (by simpa using hk); omega)
      repeat (first | refine W_region ?_ | refine Then_n ?_ | refine InBlock_n ?_ | refine WL_nil ?_ | refine WL_some rfl rfl rfl ?_ | refine op_move rfl rfl ?_ | refine op_add rfl rfl rfl (wrap_i64_in (by omega) (by omega)) ?_)
      refine Round_n (k + 1) ⟨rfl, rfl, rfl, rfl, trivial⟩ ⟨by omega, hc08, ho8, u8, x8, fun h hh => ?_⟩ (by omega)
      rcases hb8 with hb | ⟨h', hb, hge'⟩
      · exact hu4 h (by rw [← hb]; exact hh)
      · rw [hb] at hh; injection hh with hh; have := hc4.size; have := hc47.size; omega
    · obtain rfl : k = rs.length := by omega
      rw [List.take_length] at x4
      repeat (first | refine W_seq ?_ | refine W_region ?_ | refine W_exit ?_ | refine W_ret ?_ | refine Then_n ?_ | refine Then_x ?_ | refine InBlock_hit ?_ | refine Round_x ?_ | refine WL_nil ?_ | refine W_condF rfl ?_ | refine WL_some rfl rfl rfl ?_ | refine op_move rfl rfl ?_ | refine op_assign rfl rfl ?_)
      exact post2 (.inl rfl) rfl rfl rfl ⟨hc4, gs, u4, s2, p2, cl2, i2, rfl, x4, o2, l2, hcl, hG, hgw, hu4⟩
  have hltb : en < b.length := by omega
  have hob2 := hob.keep0 hc2
  have hnn := newNm_raw hn
  have hcl0 := h.calls
  repeat (first | refine W_seq ?_ | refine W_region ?_ | refine W_skip ?_ | refine Then_n ?_ | refine WL_nil ?_ | refine W_condT rfl ?_ | refine W_condF rfl ?_ | refine WL_some rfl rfl rfl ?_ | refine op_move rfl rfl ?_ | refine op_assign rfl rfl ?_ | refine op_len_slice T rfl rfl rfl rfl ?_ | refine op_notT rfl rfl ?_ | refine op_extract rfl rfl rfl ?_ | refine op_lss rfl rfl rfl (fun hc => ?_) (fun hc => False.elim (by omega)))
  refine W_walk 9 [] fol (by kernel_rfl) (by kernel_rfl) ?_
  refine Walk.plain rfl (by intro val w_ hR hp; exact op_move rfl rfl ⟨Chg.refl _ _, rfl⟩) ?_; dsimp only [List.nil_append, List.cons_append]
  refine Walk.plain rfl (by intro val w_ hR hp; exact op_move rfl rfl ⟨Chg.refl _ _, rfl⟩) ?_; dsimp only [List.nil_append, List.cons_append]
  refine Walk.plain (v := .string (str (rawNm n))) rfl (by intro val w_ hR hp; exact op_call rfl rfl rfl (name_has n _ hn) (fun v w' ⟨h1, h2⟩ => ⟨h1 ▸ Chg.refl _ _, h2⟩)) ?_; dsimp only [List.nil_append, List.cons_append]
  refine Walk.plain rfl (by intro val w_ hR hp; exact op_move rfl rfl ⟨Chg.refl _ _, rfl⟩) ?_; dsimp only [List.nil_append, List.cons_append]
  refine Walk.plain (v := .string (str [UInt8.ofNat (48 + n)])) rfl (by intro val w_ hR hp; exact op_call rfl rfl rfl (formatInt_has n _ hn) (fun v w' ⟨h1, h2⟩ => ⟨h1 ▸ Chg.refl _ _, h2⟩)) ?_; dsimp only [List.nil_append, List.cons_append]
  refine Walk.plain (v := .string (str (newNm n))) rfl (by intro val w_ hR hp; exact op_str_add (a := [UInt8.ofNat (48 + n)]) (b := [46, 110, 101, 119]) rfl rfl rfl (by simp) ⟨Chg.refl _ _, rfl⟩) ?_; dsimp only [List.nil_append, List.cons_append]
  refine Walk.plain rfl (by intro val w_ hR hp; exact op_move rfl rfl ⟨Chg.refl _ _, rfl⟩) ?_; dsimp only [List.nil_append, List.cons_append]
  refine Walk.plain rfl (by intro val w_ hR hp; exact op_move rfl rfl ⟨Chg.refl _ _, rfl⟩) ?_; dsimp only [List.nil_append, List.cons_append]
  refine Walk.plain (v := .slice Ab en cb) rfl (by intro val w_ hR hp; exact op_slice_to T (h' := en) (k := .i64) rfl rfl (some_int (by omega)) rfl rfl (by omega) ⟨Chg.refl _ _, rfl⟩) ?_; dsimp only [List.nil_append, List.cons_append]
  refine Walk.fin ?_
  intro val w3 hc3 hp
  clear hp
  have x3 := x2.keep0 hc3
  have hob3 := hob2.keep0 hc3
  have hol3 := hol.keep0 hc3
  have hC3 := hC.trans' hc3
  have hfirm : Firm (p.fp g) w3 (fun w => SliceOf Ru8 w (.slice Ab en cb) (encs rs)) := fun w' hc' => by
    have := ((hob3.keep hc' (fun k hk hm => by have := x.at_.lt k hm; have := hfb k hk; omega)).bytes).take (k := en) (m := en) (by omega)
    rw [htk] at this
    exact this
  have hws := hen
  obtain ⟨z1, z2, z3⟩ := one_write (c := encs rs) h (newNm n) hnn.1 hnn.2.1 (may_raw hn) hnn.2.2 (by omega)
  have hcall := write_has (nm := rawNm n) (beside := newNm n) x3.at_ hfirm (by omega) (by rw [rawNm_len]; decide) (by show 5 ≤ _; decide) (by omega)
  rw [show (Value.pointer (some ⟨g, 0, none⟩)) = ptrV g from rfl]
  repeat (refine WL_some rfl rfl rfl ?_)
  refine op_call rfl rfl rfl hcall ?_
  intro v4 wa hd
  obtain ⟨rfl, hc4, p2, x4, hg4⟩ := fsStep x3 hd
  rw [z1]
  generalize (writeM s (rawNm n) (newNm n) (encs rs)).1 = s2 at *
  have hol4 := hol3.keep hc4 (fun k hk hm => by have := x.at_.lt k hm; have := hfl k hk; have := hc1.size; omega)
  have hC4 : Chg (p.fp g) w wa := hC3.trans hc4 (fun k hk _ => hk)
  have hG4 : Grows w g p p2 := fun k hk => (hg4 k hk).imp id (fun h => by have := hC3.size; omega)
  have hcl : calls + 5 ≤ calls + 5 := by omega
  generalize s.files.length = i2 at *
  obtain ⟨cl2, hcl2⟩ : ∃ c2, c2 = calls + 5 := ⟨_, rfl⟩
  rw [← hcl2] at z2
  replace hcl : cl2 ≤ calls + 5 := by omega
  clear hcall hd hC hG hol hol3 hob2 hob3 hc3 x3 x2 hc2
  have x2 := x4; have hol := hol4; have hC := hC4; have hG := hG4; have o2 := z2; have l2 := z3
  clear x4 hol4 hC4 hG4 z2 z3
  repeat (first | refine W_seq ?_ | refine W_region ?_ | refine W_skip ?_ | refine Then_n ?_ | refine WL_nil ?_ | refine W_condF rfl ?_ | refine WL_some rfl rfl rfl ?_ | refine op_move rfl rfl ?_ | refine op_assign rfl rfl ?_ | refine op_neq rfl rfl rfl (fun hc => False.elim (by omega)) (fun hc => ?_))
  refine op_call rfl rfl rfl (name_has n wa hn) ?_
  rintro _ wa ⟨rfl, rfl⟩
  repeat (first | refine WL_some rfl rfl rfl ?_ | refine op_build T rfl rfl rfl rfl rfl rfl ?_)
  refine op_box rfl rfl (fun gs w3 hs3 hc3 hg3 => ?_)
  have hg3 : Blk w3 gs 78 [ptrV g, .string (str (rawNm n)), .slice none 0 0, .int .i64 0] := hg3
  have hge : wa.heap.size ≤ gs := hs3
  have x3 := x2.keep0 hc3
  have hol3 := hol.keep0 hc3
  have xs3 : SegO w0 w3 gs g s2 p2 (rawNm n) [] 0 (.slice none 0 0) := ⟨x3, ⟨hg3, Own.nil _ _ _⟩, fun hm => by have := x2.at_.lt gs hm; omega, fun k hk => by simp [Value.ownBlock] at hk, by have := x2.chg.size; omega, fun k hk => by simp [Value.ownBlock] at hk⟩
  have hc13 : Chg (p.fp g) w w3 := hC.trans' hc3
  have hgw : w.heap.size ≤ gs := by have := hC.size; omega
  repeat (first | refine W_seq ?_ | refine W_block ?_ | refine W_region ?_ | refine Then_n ?_ | refine WL_nil ?_ | refine WL_some rfl rfl rfl ?_ | refine op_move rfl rfl ?_ | refine op_assign rfl rfl ?_ | refine op_len_slice T rfl rfl rfl rfl ?_)
  refine W_loop (σ := Nat) (fun k => [(12, .pointer (some ⟨gs, 0, none⟩)), (57, .slice Al rs.length cl), (58, .int .i64 (rs.length : Nat)), (59, .int .i64 (k : Int))])
    (fun k w' => k ≤ rs.length ∧ Chg (p.fp g) w w' ∧ Own w' 32 4 (.slice Al rs.length cl) rs.length (rs.flatMap recL) ∧ ∃ u, SegO w0 w' gs g s2 p2 (rawNm n) (offs (rs.take k)) (encs (rs.take k)).length u ∧ ∀ h, u.ownBlock = some h → w.heap.size ≤ h)
    (fun k => rs.length - k) 0 ⟨rfl, rfl, rfl, rfl, trivial⟩ ⟨by omega, hc13, hol3, .slice none 0 0, by simpa [offs, encs] using xs3, fun h hh => by simp [Value.ownBlock] at hh⟩ ?_
  rintro k w4 ⟨hk, hc4, ho4, u4, x4, hu4⟩
  repeat (first | refine W_seq ?_ | refine W_region ?_ | refine WL_some rfl rfl rfl ?_)
  (refine op_lss rfl rfl rfl (fun hc => ?_) (fun hc => ?_))
  · have hkl : k < rs.length := by omega
    have hr : rs[k]? = some rs[k] := List.getElem?_eq_getElem hkl
    have hok := hrs _ (List.getElem_mem hkl)
    have htake := encs_take rs hr
    have hoff : offs (rs.take (k + 1)) = offs (rs.take k) ++ [(encs (rs.take k)).length] := by rw [List.take_add_one, hr]; exact offs_snoc _ _
    have hmono : (encs (rs.take (k + 1))).length ≤ (encs rs).length := by rw [encs_prefix rs (k + 1)]; simp
    have hofl : (offs (rs.take k)).length ≤ 10000 := by rw [offs_length, List.length_take]; omega
    obtain ⟨gl, hgl, hcells⟩ := ho4.elem (f := recL) (fun r => rfl) hr (by decide)
    subst hgl
    generalize rs[k] = r at *
    repeat (first | refine W_seq ?_ | refine W_block ?_ | refine W_region ?_ | refine W_skip ?_ | refine Then_n ?_ | refine WL_nil ?_ | refine W_condT rfl ?_ | refine WL_some rfl rfl rfl ?_)
    refine op_index_slice T rfl rfl rfl rfl rfl (by omega) (by omega) (p := (⟨gl, 0, none⟩ : Addr).add (k * 4)) (by rw [Int.toNat_natCast]) ?_
    repeat (refine WL_some rfl rfl rfl ?_)
    refine op_load_cells (cs := recL r) T rfl rfl rfl rfl rfl (fun j v hj => by rw [add_of_add]; exact hcells j v hj) ?_
    repeat (refine WL_some rfl rfl rfl ?_)
    refine op_alloc T rfl rfl (fun g5 w5 hs5 hc5 hg5 => ?_)
    have hg5 : Blk w5 g5 32 [.int .i64 0, .int .i64 0, .string (str []), .string (str [])] := hg5
    have hs5 : w4.heap.size ≤ g5 := hs5
    repeat (refine WL_none rfl rfl ?_)
    refine op_store_agg T rfl rfl rfl rfl rfl rfl hg5 (by exact Nat.le_of_ble_eq_true rfl) (fun w6 hc6 hg6 _ => ?_)
    have hg6 : Blk w6 g5 32 (recL r) := hg6
    have hc46 : Chg [] w4 w6 := hc5.trans hc6 (fun k hk hlt => by simp at hk; omega)
    repeat (first | refine W_seq ?_ | refine W_region ?_ | refine Then_n ?_ | refine WL_nil ?_ | refine WL_some rfl rfl rfl ?_ | refine op_load_agg T rfl rfl rfl rfl (by assumption) (by exact Nat.le_of_ble_eq_true rfl) (by exact rfl) ?_)
    refine op_call rfl rfl rfl (encode_has r w6) ?_
    rintro _ w7 ⟨ue, rfl, me⟩
    have henc : encM r = (sealM (bodyM r), 0) := by unfold encM; rw [if_neg (by simp [checkM_ok.2 hok])]
    rw [henc] at me
    rw [henc]
    dsimp only at me
    obtain ⟨Ae, ce, rfl, _, _⟩ := me.form
    have hc47 := hc46.trans' me.chg
    have x7 := x4.keep0 hc47
    have ho7 := ho4.keep0 hc47
    repeat (first | refine W_region ?_ | refine Then_n ?_ | refine WL_nil ?_ | refine WL_some rfl rfl rfl ?_ | refine op_move rfl rfl ?_ | refine op_assign rfl rfl ?_ | refine op_len_slice T rfl rfl rfl rfl ?_ | refine op_extract rfl rfl rfl ?_)
    refine op_call rfl rfl rfl (addS_has x7.seg (sealM (bodyM r)).length (by omega) (by rw [htake, List.length_append] at hmono; omega)) ?_
    rintro v8 w8 ⟨hc8, u8, hs8, hb8⟩
    have x8 := x7.turn hc8 hs8 hb8
    rw [← hoff, ← List.length_append, ← htake] at x8
    have ho8 := ho7.keep hc8 (fun h hh hm => by
      obtain ⟨cur, hrow⟩ := ho7.row hh
      rcases List.mem_cons.1 hm with rfl | hm
      · exact hrow.ne_ x7.seg.blk (by decide) rfl
      · obtain ⟨cur2, hrow2⟩ := x7.seg.own.row (show u4.ownBlock = some h by simpa using hm)
        exact hrow.ne_ hrow2 (by decide) rfl)
    have hc08 : Chg (p.fp g) w w8 := (hc4.trans' hc47).trans hc8 (fun k hk hlt => by
      rcases List.mem_cons.1 hk with rfl | hk
      · omega
      · have := hu4 k (by simpa using hk); omega)
    repeat (first | refine W_region ?_ | refine Then_n ?_ | refine InBlock_n ?_ | refine WL_nil ?_ | refine WL_some rfl rfl rfl ?_ | refine op_move rfl rfl ?_ | refine op_add rfl rfl rfl (wrap_i64_in (by omega) (by omega)) ?_)
    refine Round_n (k + 1) ⟨rfl, rfl, rfl, rfl, trivial⟩ ⟨by omega, hc08, ho8, u8, x8, fun h hh => ?_⟩ (by omega)
    rcases hb8 with hb | ⟨h', hb, hge'⟩
    · exact hu4 h (by rw [← hb]; exact hh)
    · rw [hb] at hh; injection hh with hh; have := hc4.size; have := hc47.size; omega
  · obtain rfl : k = rs.length := by omega
    rw [List.take_length] at x4
    repeat (first | refine W_seq ?_ | refine W_region ?_ | refine W_exit ?_ | refine W_ret ?_ | refine Then_n ?_ | refine Then_x ?_ | refine InBlock_hit ?_ | refine Round_x ?_ | refine WL_nil ?_ | refine W_condF rfl ?_ | refine WL_some rfl rfl rfl ?_ | refine op_move rfl rfl ?_ | refine op_assign rfl rfl ?_)
    exact post2 (.inl rfl) rfl rfl rfl ⟨hc4, gs, u4, s2, p2, cl2, i2, rfl, x4, o2, l2, hcl, hG, hgw, hu4⟩
set_option maxHeartbeats 2000000 in
/-- A segment holds just these records. -/
theorem sameR_has {w0 w : World} {gs g : Nat} {s : FsM} {p : FsP} {nm : Nm} {u : Value} {rs : List RecM} {A : Option Addr} {c : Nat} (x : SegO w0 w gs g s p nm (offs rs) (encs rs).length u) (hread : readM s nm = some (encs rs)) (hok : ∀ r ∈ rs, RecOk r) (hlen : rs.length ≤ 10000) (hm : Own w 32 4 (.slice A rs.length c) rs.length (rs.flatMap recL)) :
    Has Go.Proofs.Tryz.prog 15 #[ptrV gs, .slice A rs.length c] w (fun v w' => Chg [] w w' ∧ v = .bool true) := by
  refine enter Go.Proofs.Tryz.func15 rfl rfl (by decide) rfl (e := [(0, ptrV gs), (1, .slice A rs.length c)]) ⟨rfl, rfl, trivial⟩ ?_
  have hel := encs_len hok
  have hoffl : (offs rs).length = rs.length := offs_length rs
  unfold ptrV
  refine run ?_
  refine go T 12 rfl ?_
  refine o1 rfl ?_
  refine op_call rfl rfl rfl (lenS_has x.seg) ?_
  rintro _ w ⟨rfl, rfl⟩
  rw [hoffl]
  refine go T 2 rfl ?_
  refine neF rfl rfl rfl rfl (by omega) ?_
  refine go T 18 rfl ?_
  refine W_loop (σ := Nat) (fun k => [(0, .pointer (some ⟨gs, 0, none⟩)), (1, .slice A rs.length c), (5, .int .i64 ((encs (rs.take k)).length : Nat)), (6, .int .i64 (k : Int))])
    (fun k w' => k ≤ rs.length ∧ Chg [] w w') (fun k => rs.length - k) 0 ⟨rfl, rfl, rfl, rfl, trivial⟩ ⟨by omega, Chg.refl _ _⟩ ?_
  rintro i w1 ⟨hi, hc1⟩
  have x1 := x.keep0 hc1
  have hm1 := hm.keep0 hc1
  refine run ?_
  refine go T 6 rfl ?_
  refine ltS rfl rfl rfl rfl (fun hcmp => ?_) (fun hcmp => ?_)
  · have hi2 : i < rs.length := by omega
    have hr : rs[i]? = some rs[i] := List.getElem?_eq_getElem hi2
    have hrok := hok _ (List.getElem_mem hi2)
    have htake := encs_take rs hr
    have hmono : (encs (rs.take (i + 1))).length ≤ (encs rs).length := by rw [encs_prefix rs (i + 1)]; simp
    have hcell := cellM_encs hr hrok []
    rw [List.append_nil] at hcell
    obtain ⟨gl, rfl, hcells⟩ := hm1.elem (f := recL) (fun r => rfl) hr (by decide)
    generalize rs[i] = r at *
    have hcall := getS_has x1 (encs rs) hread (by omega) i _ _ (offs_get rs hi2) (offs_next rs hi2) (encs_mono _ _) (by omega)
    rw [hcell] at hcall
    rw [htake, List.length_append] at hmono
    refine go T 11 rfl ?_
    refine o1 rfl ?_
    refine op_call rfl rfl rfl hcall ?_
    rintro _ w13 ⟨hc13, rfl⟩
    refine go T 3 rfl ?_
    refine o1 rfl ?_
    refine op_alloc T rfl rfl (fun g14 w14 hs14 hc14 hg14 => ?_)
    have hg14 : Blk w14 g14 32 [.int .i64 0, .int .i64 0, .string (str []), .string (str [])] := hg14
    have hs14 : w13.heap.size ≤ g14 := hs14
    refine op0 rfl rfl ?_
    refine op_store_agg T rfl rfl rfl rfl rfl rfl hg14 (by exact Nat.le_of_ble_eq_true rfl) (fun w15 hc15 hg15 _ => ?_)
    have hg15 : Blk w15 g14 32 (recL r) := hg15
    have hc1315 : Chg [] w13 w15 := hc14.trans hc15 (fun k hk hlt => by simp at hk; omega)
    have hc1215 := hc13.trans' hc1315
    clear hg14
    have hcells15 : ∀ j v, (recL r)[j]? = some v → w15.cell? ((⟨gl, 0, none⟩ : Addr).add (i * 4 + j)) = some v := fun j v hj => hc1215.cell0 (hcells j v hj)
    have heq : recEq r r = true := recEq_iff.2 rfl
    refine go T 5 rfl ?_
    refine W_walk 8 [] fol (by kernel_rfl) (by kernel_rfl) ?_
    refine Walk.plain rfl (by intro val w_ hR hp; exact op_move rfl rfl ⟨Chg.refl _ _, rfl⟩) ?_; dsimp only [List.nil_append, List.cons_append]
    refine Walk.plain rfl (by intro val w_ hR hp; exact op_neq rfl rfl rfl (fun hcmp => False.elim (by omega)) (fun hcmp => ⟨Chg.refl _ _, rfl⟩)) ?_; dsimp only [List.nil_append, List.cons_append]
    refine Walk.plain rfl (by intro val w_ hR hp; exact op_move rfl rfl ⟨Chg.refl _ _, rfl⟩) ?_; dsimp only [List.nil_append, List.cons_append]
    refine Walk.guardT rfl rfl rfl (fun _ => rfl) (by intro val w_ hR hp; exact op_load_agg T rfl rfl rfl rfl (hg15.keep0 hR) (by exact Nat.le_of_ble_eq_true rfl) (by exact rfl) ⟨Chg.refl _ _, rfl⟩) ?_; dsimp only [List.nil_append, List.cons_append]
    refine Walk.guardT rfl rfl rfl (fun _ => rfl) (by intro val w_ hR hp; exact op_move rfl rfl ⟨Chg.refl _ _, rfl⟩) ?_; dsimp only [List.nil_append, List.cons_append]
    refine Walk.guardT rfl rfl rfl (fun _ => rfl) (by intro val w_ hR hp; exact op_move rfl rfl ⟨Chg.refl _ _, rfl⟩) ?_; dsimp only [List.nil_append, List.cons_append]
    refine Walk.guardT (v := .pointer (some ((⟨gl, 0, none⟩ : Addr).add (i * 4)))) rfl rfl rfl (fun _ => rfl) (by intro val w_ hR hp; exact op_index_slice T rfl rfl rfl rfl rfl (by omega) (by omega) (by rw [Int.toNat_natCast]) ⟨Chg.refl _ _, rfl⟩) ?_; dsimp only [List.nil_append, List.cons_append]
    refine Walk.guardT (v := .agg (recL r).toArray) rfl rfl rfl (fun _ => rfl) (by intro val w_ hR hp; exact op_load_cells (cs := recL r) T rfl rfl rfl rfl rfl (fun j v hj => by rw [add_of_add]; exact hR.cell0 (hcells15 j v hj)) ⟨Chg.refl _ _, rfl⟩) ?_; dsimp only [List.nil_append, List.cons_append]
    skip
    refine Walk.fin ?_
    intro val w16 hc16 hp
    clear hp
    replace hc15 := hc15.trans' hc16
    replace hg15 := hg15.keep0 hc16
    replace hc1315 := hc1315.trans' hc16
    replace hc1215 := hc1215.trans' hc16
    refine runL ?_
    refine o1 rfl ?_
    refine op_call rfl rfl rfl (req_has r r w16) ?_
    rintro _ w17 ⟨hc17, rfl⟩
    rw [heq]
    have hc117 : Chg [] w1 w17 := hc1215.trans' hc17
    have hcells17 : ∀ j v, (recL r)[j]? = some v → w17.cell? ((⟨gl, 0, none⟩ : Addr).add (i * 4 + j)) = some v := fun j v hj => hc117.cell0 (hcells j v hj)
    refine go T 11 rfl ?_
    refine o1 rfl ?_
    refine op_index_slice T rfl rfl rfl rfl rfl (by omega) (by omega) (p := (⟨gl, 0, none⟩ : Addr).add (i * 4)) (by rw [Int.toNat_natCast]) ?_
    refine o1 rfl ?_
    refine op_load_cells (cs := recL r) T rfl rfl rfl rfl rfl (fun j v hj => by rw [add_of_add]; exact hcells17 j v hj) ?_
    refine o1 rfl ?_
    refine op_call rfl rfl rfl (refEncode_has r w17) ?_
    intro v18 w18 m18
    have henc : encM r = (sealM (bodyM r), 0) := by unfold encM; rw [if_neg (by simp [checkM_ok.2 hrok])]
    rw [henc] at m18
    dsimp only at m18
    obtain ⟨A18, c18, rfl, _, _⟩ := m18.form
    refine go T 1 rfl ?_
    refine adI rfl rfl rfl rfl (by omega) (by omega) ?_
    refine go T 6 rfl ?_
    refine adI rfl rfl rfl rfl (by omega) (by omega) ?_
    refine go T 2 rfl ?_
    refine Round_n (i + 1) ⟨rfl, rfl, ?_, rfl, trivial⟩ ⟨by omega, (hc1.trans' hc117).trans' m18.chg⟩ (by omega)
    rw [htake, List.length_append, Int.natCast_add]; rfl
  obtain rfl : i = rs.length := by omega
  rw [List.take_length]
  refine go T 5 rfl ?_
  refine rndX ?_
  refine go T 5 rfl ?_
  refine o1 rfl ?_
  refine op_call rfl rfl rfl (sizeS_has x1.seg) ?_
  rintro _ w1 ⟨rfl, rfl⟩
  refine go T 1 rfl ?_
  refine eqT rfl rfl rfl rfl (by omega) ?_
  refine go T 4 rfl ?_
  exact post1 (.inl rfl) rfl rfl ⟨hc1, rfl⟩
end Go.Proofs.YtbhnplghnhafiaaGreatDoor.Tryz
/-! Regions that draw their order, one of whose operations (number q) may turn blocks that the region itself has made, while all others turn none. What stands ahead of it holds until it comes up. -/
set_option linter.unusedSimpArgs false
set_option linter.unusedVariables false
namespace Go.Vc.F
open Go Go.RowKit Go.Vc

theorem OpW_mono' {P : Program} {N : Nat} {o : Oper} {e : Env} {w : World} {K K' : Value → World → Prop} (h : OpW P N o e w K) (hk : ∀ v w', K v w' → K' v w') : OpW P N o e w K' := by
  unfold OpW at *
  intro a ha K1 Q1 h1
  exact h a ha K1 Q1 (fun v w' hv => h1 v w' (hk v w' hv))
/-- What is told of a value: of one that is no constant, only where b. -/
def Tells (b : Bool) : VS → Value → World → Prop
  | .c u, v, _ => v = u
  | .r R, v, w => b = true → R v w
theorem Tells.of {s : VS} {b : Bool} {v : Value} {w : World} (h : s.holds v w) : Tells b s v w := by
  cases s with
  | c u => exact h
  | r R => exact fun _ => h
theorem Tells.less {s : VS} {b b' : Bool} {v : Value} {w : World} (h : Tells b s v w) (hb : b' = true → b = true) : Tells b' s v w := by
  cases s with
  | c u => exact h
  | r R => exact fun h' => h (hb h')
/-- What operation i may turn, n blocks being there before the region. -/
def Turns (q n i : Nat) (w w' : World) : Prop := ∃ S : List Nat, (∀ k ∈ S, n ≤ k ∧ i = q) ∧ Chg S w w'
theorem Turns.chg {q n i : Nat} {w w' : World} (h : Turns q n i w w') (hi : i ≠ q) : Chg [] w w' := by
  obtain ⟨S, h1, h2⟩ := h
  exact h2.mono (fun k hk _ => absurd (h1 k hk).2 hi)
theorem Turns.none (q n i : Nat) {w w' : World} (h : Chg [] w w') : Turns q n i w w' := ⟨[], fun _ h => (by cases h), h⟩

/-- What is asked of front operation i. -/
def FrontOp (P : Program) (N : Nat) (q : Nat) (l : List Oper) (Vs : List VS) (e : Env) (w : World) (i : Nat) (o : Oper) : Prop :=
  ∀ (val : Nat → Value) (w1 : World), Chg [] w w1 → (∀ j, (predsOf o).contains j = true → ∀ oj d, l[j]? = some oj → oj.dst = some d → Tells (Nat.beq i q) (vsAt Vs j) (valOf Vs val j) w1) →
    match o.guard with
    | none => OpW P N o (opEnv l Vs e i o val) w1 (fun v w' => Turns q w.heap.size i w1 w' ∧ (vsAt Vs i).holds v w')
    | some (j, want) => ∃ b, (predsOf o).contains j = true ∧ ((l[j]?).bind (·.dst)).isSome = true ∧ (valOf Vs val j = .bool b ∨ (b = (!want) ∧ valOf Vs val j = undef)) ∧
        (b = want → OpW P N o (opEnv l Vs e i o val) w1 (fun v w' => Turns q w.heap.size i w1 w' ∧ (vsAt Vs i).holds v w')) ∧ (b = !want → (vsAt Vs i).holds undef w1)
def Front (P : Program) (N : Nat) (q : Nat) (l : List Oper) (Vs : List VS) (e : Env) (w : World) : Nat → Nat → List Oper → Prop
  | _, 0, _ => True
  | _, _ + 1, [] => True
  | i, m + 1, o :: r => FrontOp P N q l Vs e w i o ∧ Front P N q l Vs e w (i + 1) m r

theorem Front.get {P : Program} {N : Nat} {q : Nat} {l : List Oper} {Vs : List VS} {e : Env} {w : World} :
    ∀ (r : List Oper) (i m : Nat), Front P N q l Vs e w i m r → ∀ k o, k < m → r[k]? = some o → FrontOp P N q l Vs e w (i + k) o
  | [], i, m, h, k, o, hk, ho => by simp at ho
  | p :: r, i, 0, h, k, o, hk, ho => by omega
  | p :: r, i, m + 1, h, 0, o, hk, ho => by simp at ho; subst ho; exact h.1
  | p :: r, i, m + 1, h, k + 1, o, hk, ho => by
    have := Front.get r (i + 1) m h.2 k o (by omega) (by simpa using ho)
    rw [show i + (k + 1) = i + 1 + k from by omega]; exact this

/-- The state in the middle of a region. -/
structure Mid (N : Nat) (q : Nat) (l : List Oper) (m : Nat) (Vs : List VS) (e : Env) (w0 : World) (listed : Array Bool) (a : Act) (w : World) : Prop where
  size : a.tmps.size = N
  defers : a.defers = []
  chg : Chg [] w0 w
  lsize : listed.size = l.length
  front : ∀ i, i < l.length → m ≤ i → listed.getD i true = false
  down : ∀ i o, l[i]? = some o → listed.getD i true = true → ∀ j, (predsOf o).contains j = true → listed.getD j false = true
  old : ∀ t v, look e t = some v → (∀ i o, l[i]? = some o → o.dst = some t → listed.getD i true = false) → a.tmps[t]? = some v
  new : ∀ i o d, l[i]? = some o → o.dst = some d → listed.getD i true = true → ∃ v, a.tmps[d]? = some v ∧ Tells (Nat.beq i q || !listed.getD q false) (vsAt Vs i) v w

section
variable {P : Program} {N : Nat} {q : Nat} {l : List Oper} {m : Nat} {Vs : List VS} {e : Env} {w0 : World} {listed : Array Bool} {a : Act} {w : World}

/-- The values that the listed front operations have left, as a function of their numbers. -/
theorem Mid.vals (hM : Mid N q l m Vs e w0 listed a w) : ∃ val : Nat → Value, ∀ i o d, l[i]? = some o → o.dst = some d → listed.getD i true = true → a.tmps[d]? = some (valOf Vs val i) ∧ Tells (Nat.beq i q || !listed.getD q false) (vsAt Vs i) (valOf Vs val i) w := by
  refine ⟨fun i => ((l[i]?).bind (·.dst)).elim undef fun d => a.tmps.getD d undef, fun i o d ho hd hl => ?_⟩
  obtain ⟨v, hv, hh⟩ := hM.new i o d ho hd hl
  unfold valOf
  cases hvs : Vs[i]? with
  | none => simp [ho, hd, Array.getD_eq_getD_getElem?, hv]; simpa [vsAt, hvs] using hh
  | some s =>
    cases s with
    | c u =>
      have : v = u := by simpa [vsAt, hvs, Tells] using hh
      subst this
      exact ⟨hv, by simp [vsAt, hvs, Tells]⟩
    | r R => simp [ho, hd, Array.getD_eq_getD_getElem?, hv]; simpa [vsAt, hvs] using hh

/-- One front operation more. -/
theorem Mid.step (hdst : dstsOk N l = true) (hM : Mid N q l m Vs e w0 listed a w) {i : Nat} {o : Oper} (ho : l[i]? = some o) (him : i < m) (hun : listed.getD i true = false)
    (hpre : ∀ j, (predsOf o).contains j = true → listed.getD j false = true) (hfirm : ∀ i, (vsAt Vs i).firm []) {v : Value} {w' : World} (hc : Turns q w0.heap.size i w w') (hv : (vsAt Vs i).holds v w') :
    Mid N q l m Vs e w0 (listed.setIfInBounds i true) (a.put o.dst v) w' := by
  have hi : i < listed.size := by rw [hM.lsize]; exact (List.getElem?_eq_some_iff.1 ho).1
  refine ⟨by cases hd : o.dst <;> simp [Act.put, hM.size], by cases hd : o.dst <;> simp [Act.put, hM.defers], ?_, by simp [hM.lsize], fun k hk hmk => ?_, fun k ok hok hlk j hj => ?_, fun t u hu hall => ?_, fun k ok d hok hd hlk => ?_⟩
  · obtain ⟨S, h1, h2⟩ := hc
    exact hM.chg.trans h2 (fun k hk hlt => by have := (h1 k hk).1; omega)
  · rw [getD_set hi, if_neg (by omega)]; exact hM.front k hk hmk
  · rw [getD_set hi] at hlk ⊢
    by_cases hij : i = j
    · rw [if_pos hij]
    · rw [if_neg hij]
      by_cases hik : i = k
      · subst hik
        rw [ho] at hok; injection hok with hok; subst hok
        exact hpre j hj
      · rw [if_neg hik] at hlk
        exact hM.down k ok hok hlk j hj
  · have h1 := hM.old t u hu (fun k ok hok hd => by
      have := hall k ok hok hd
      rw [getD_set hi] at this
      split at this
      · cases this
      · exact this)
    cases hd : o.dst with
    | none => simpa [Act.put] using h1
    | some d =>
      have hne : d ≠ t := fun h => by
        subst h
        have := hall i o ho hd
        rw [getD_set hi, if_pos rfl] at this
        cases this
      simp only [Act.put, Array.getElem?_setIfInBounds_ne hne]
      exact h1
  · rw [getD_set hi] at hlk
    by_cases hik : i = k
    · subst hik
      rw [ho] at hok; injection hok with hok; subst hok
      have := (dsts_spec hdst ho hd).1
      exact ⟨v, by simp [Act.put, hd, hM.size, this], Tells.of hv⟩
    · rw [if_neg hik] at hlk
      obtain ⟨u, hu, hh⟩ := hM.new k ok d hok hd hlk
      refine ⟨u, ?_, ?_⟩
      · cases hdo : o.dst with
        | none => simpa [Act.put] using hu
        | some d' =>
          have hne : d' ≠ d := fun h => by
            subst h
            exact hik ((dsts_spec hdst ho hdo).2 k ok hok hd).symm
          simp only [Act.put, Array.getElem?_setIfInBounds_ne hne]
          exact hu
      · by_cases hiq : i = q
        · subst hiq
          have hkq : Nat.beq k i = false := by
            cases hx : Nat.beq k i with
            | false => rfl
            | true => exact absurd (Nat.eq_of_beq_eq_true hx).symm hik
          rw [getD_set hi, if_pos rfl, hkq]
          revert hh
          cases vsAt Vs k with
          | c u' => exact fun h => h
          | r R => exact fun _ h => absurd h (by simp)
        · have hc0 := hc.chg hiq
          rw [getD_set hi, if_neg hiq]
          have hf := hfirm k
          revert hh hf
          cases vsAt Vs k with
          | c u' => exact fun h _ => h
          | r R => exact fun h hf hb => hf _ _ _ (h hb) hc0

theorem Mid.fits (hdst : dstsOk N l = true) (hM : Mid N q l m Vs e w0 listed a w) {i : Nat} {o : Oper} (ho : l[i]? = some o) (hun : listed.getD i true = false)
    (hpre : ∀ j, (predsOf o).contains j = true → listed.getD j false = true) {val : Nat → Value}
    (hval : ∀ i o d, l[i]? = some o → o.dst = some d → listed.getD i true = true → a.tmps[d]? = some (valOf Vs val i) ∧ Tells (Nat.beq i q || !listed.getD q false) (vsAt Vs i) (valOf Vs val i) w) :
    Fits N (opEnv l Vs e i o val) a := by
  refine ⟨hM.size, hM.defers, fun t v hv => ?_⟩
  unfold opEnv at hv
  rw [look_append] at hv
  cases hp : look (predEnv l Vs val (predsOf o)) t with
  | some u =>
    rw [hp] at hv
    simp at hv
    subst hv
    obtain ⟨j, oj, hj, hoj, hd, rfl⟩ := look_predEnv val _ _ _ hp
    have h1 := hpre j (by simpa using hj)
    have h2 : listed.getD j true = true := by
      have : j < listed.size := by rw [hM.lsize]; exact (List.getElem?_eq_some_iff.1 hoj).1
      simpa [Array.getD_eq_getD_getElem?, this] using h1
    exact (hval j oj t hoj hd h2).1
  | none =>
    rw [hp] at hv
    simp at hv
    obtain ⟨h1, h2⟩ := look_filter hv
    refine hM.old t v h1 (fun k ok hok hd => ?_)
    unfold freeAt at h2
    have h3 := List.all_eq_true.1 h2 (ok, k) (by rw [List.mem_zipIdx_iff_getElem?]; exact hok)
    simp only [hd, Bool.or_eq_true] at h3
    rcases h3 with (h3 | h3) | h3
    · simp at h3
    · cases hlk : listed.getD k true with
      | false => rfl
      | true =>
        have := hM.down k ok hok hlk i h3
        have hi : i < listed.size := by rw [hM.lsize]; exact (List.getElem?_eq_some_iff.1 ho).1
        simp [Array.getD_eq_getD_getElem?, hi] at this hun
        rw [this] at hun; cases hun
    · have : k = i := Nat.eq_of_beq_eq_true h3
      subst this
      exact hun

/-- Once operation m may come up, all front operations have. -/
theorem tail_all (h : tailOk m l = true) (hM : Mid N q l m Vs e w0 listed a w) {o : Oper} (ho : l[m]? = some o) (hpre : ∀ j, (predsOf o).contains j = true → listed.getD j false = true) :
    ∀ k, k < m → listed.getD k false = true := by
  unfold tailOk at h
  rw [ho] at h
  simp only [Bool.and_eq_true] at h
  have hc := h.1.2
  have key : ∀ n k, m - k ≤ n → k < m → listed.getD k false = true := by
    intro n
    induction n with
    | zero => intro k h1 h2; omega
    | succ n ih =>
      intro k h1 h2
      have h3 := List.all_eq_true.1 hc k (by simpa using h2)
      obtain ⟨c, hcm, h4⟩ := List.any_eq_true.1 h3
      simp only [Bool.and_eq_true] at h4
      have hkc : k < c := by simpa [Nat.blt_eq] using h4.1
      have hcm' : c < m + 1 := by simpa using hcm
      cases hoc : l[c]? with
      | none => simp [hoc] at h4
      | some oc =>
        simp only [hoc] at h4
        by_cases hcc : c = m
        · subst hcc
          rw [ho] at hoc; injection hoc with hoc; subst hoc
          exact hpre k h4.2
        · have h5 := ih c (by omega) (by omega)
          have hlt : c < listed.size := by rw [hM.lsize]; exact (List.getElem?_eq_some_iff.1 hoc).1
          have h6 : listed.getD c true = true := by
            simp [Array.getD_eq_getD_getElem?, hlt] at h5 ⊢; exact h5
          exact hM.down c oc hoc h6 k h4.2
  exact fun k hk => key (m - k) k (Nat.le_refl _) hk

theorem Mid.full (hM : Mid N q l m Vs e w0 listed a w) (hall : ∀ k, k < m → listed.getD k true = true) {val : Nat → Value}
    (hval : ∀ i o d, l[i]? = some o → o.dst = some d → listed.getD i true = true → a.tmps[d]? = some (valOf Vs val i) ∧ Tells (Nat.beq i q || !listed.getD q false) (vsAt Vs i) (valOf Vs val i) w) :
    Fits N (frontEnv Vs val 0 m l ++ e) a := by
  refine ⟨hM.size, hM.defers, fun t v hv => ?_⟩
  rw [look_append] at hv
  cases hp : look (frontEnv Vs val 0 m l) t with
  | some u =>
    rw [hp] at hv; simp at hv; subst hv
    obtain ⟨j, o, hj, ho, hd, rfl⟩ := look_frontEnv val _ _ _ _ _ hp
    rw [Nat.zero_add]
    exact (hval j o t ho hd (hall j hj)).1
  | none =>
    rw [hp] at hv; simp at hv
    refine hM.old t v hv (fun i o ho hd => ?_)
    by_cases hi : i < m
    · exact absurd hd (look_front_none l 0 m hp i o hi ho)
    · exact hM.front i (List.getElem?_eq_some_iff.1 ho).1 (by omega)

theorem mid_any {Q : Post} (hdst : dstsOk N l = true) (htl : tailOk m l = true) (hfirm : ∀ i, (vsAt Vs i).firm [])
    (hfront : ∀ i o, i < m → l[i]? = some o → FrontOp P N q l Vs e w0 i o)
    (hend : ∀ (val : Nat → Value) (w1 : World), Chg [] w0 w1 → (∀ i, i < m → ∀ o d, l[i]? = some o → o.dst = some d → Tells (Nat.beq i q) (vsAt Vs i) (valOf Vs val i) w1) → WL P N l.toArray (l.drop m) Q (frontEnv Vs val 0 m l ++ e) w1) :
    ∀ (fuel : Nat) (listed : Array Bool) (a : Act) (w : World), openCount listed l.length = fuel → Mid N q l m Vs e w0 listed a w → wpAny P .any l.toArray (Lift N Q) fuel listed a w := by
  have hml : m ≤ l.length := by
    unfold tailOk at htl
    simp only [Bool.and_eq_true] at htl
    exact Nat.le_of_ble_eq_true htl.1.1
  -- all front operations have come up: the tail
  have hdone : ∀ (listed : Array Bool) (a : Act) (w : World), Mid N q l m Vs e w0 listed a w → (∀ k, k < m → listed.getD k true = true) → wpAny P .any l.toArray (Lift N Q) (l.drop m).length listed a w := by
    intro listed a w hM hall
    obtain ⟨val, hval⟩ := hM.vals
    have hW := hend val w hM.chg (fun i hi o d ho hd => (hval i o d ho hd (hall i hi)).2.less (fun h => by rw [h]; rfl))
    unfold WL at hW
    refine tail_any htl (l.drop m) m listed a w (Nat.le_refl _) rfl hM.lsize (fun k hk => ?_) (hW a (hM.full hall hval))
    by_cases hkm : k < m
    · rw [hall k hkm]; simp [hkm]
    · rw [hM.front k hk (by omega)]; simp [hkm]
  have hcount : ∀ (listed : Array Bool), (∀ k, k < m → listed.getD k true = true) → (∀ i, i < l.length → m ≤ i → listed.getD i true = false) → openCount listed l.length = (l.drop m).length := by
    intro listed h1 h2
    have : ∀ n, n ≤ l.length → openCount listed n = n - m := by
      intro n
      induction n with
      | zero => intro _; simp [openCount]
      | succ n ih =>
        intro hn
        simp only [openCount]
        rw [ih (by omega)]
        by_cases hnm : n < m
        · rw [h1 n hnm]; simp; omega
        · rw [h2 n (by omega) (by omega)]; simp; omega
    rw [this _ (Nat.le_refl _)]; simp
  intro fuel
  induction fuel with
  | zero =>
    intro listed a w hcnt hM
    have hall : ∀ k, k < l.length → listed.getD k true = true := by
      have : ∀ n, openCount listed n = 0 → ∀ k, k < n → listed.getD k true = true := by
        intro n
        induction n with
        | zero => intro _ k hk; omega
        | succ n ih =>
          intro h k hk
          simp only [openCount] at h
          by_cases hkn : k = n
          · subst hkn
            cases hx : listed.getD k true with
            | true => rfl
            | false => rw [hx] at h; simp at h
          · exact ih (by omega) k (by omega)
      exact this _ hcnt
    have hd := hdone listed a w hM (fun k hk => hall k (by omega))
    rw [← hcount listed (fun k hk => hall k (by omega)) hM.front, hcnt] at hd
    exact hd
  | succ fuel ih =>
    intro listed a w hcnt hM
    by_cases hall : ∀ k, k < m → listed.getD k true = true
    · have hd := hdone listed a w hM hall
      rw [← hcount listed hall hM.front, hcnt] at hd
      exact hd
    · -- some front operation is open: the least one may come up; and whatever may come up is a front operation
      have hready : ∀ i, i ∈ Region.ready .any l.toArray listed → i < m := by
        intro i hi
        obtain ⟨o, ho, hun, hpre⟩ := ready_spec hi
        rcases Nat.lt_or_ge i m with h | h
        · exact h
        · exfalso
          have hil := (List.getElem?_eq_some_iff.1 ho).1
          rcases Nat.lt_or_ge m i with h2 | h2
          · have h3 := hpre (i - 1) ((tail_preds htl ho).1 h2)
            have h4 := hM.front (i - 1) (by omega) (by omega)
            have hsz : i - 1 < listed.size := by rw [hM.lsize]; omega
            simp [Array.getD_eq_getD_getElem?, hsz] at h3 h4
            rw [h3] at h4; cases h4
          · have hmi : i = m := by omega
            subst hmi
            refine hall (fun k hk => ?_)
            have h3 := tail_all htl hM ho hpre k hk
            have hsz : k < listed.size := by rw [hM.lsize]; omega
            simp [Array.getD_eq_getD_getElem?, hsz] at h3 ⊢; exact h3
      refine ⟨fun hnil => ?_, fun i hi => ?_⟩
      · exfalso
        have hmin : ∃ k, k < m ∧ listed.getD k true = false ∧ ∀ j, j < k → listed.getD j true = true := by
          have : ∀ n, (∃ k, k < n ∧ ¬ listed.getD k true = true) → ∃ k, k < n ∧ listed.getD k true = false ∧ ∀ j, j < k → listed.getD j true = true := by
            intro n
            induction n with
            | zero => rintro ⟨k, hk, _⟩; omega
            | succ n ih =>
              rintro ⟨k, hk, hx⟩
              by_cases hex : ∃ k, k < n ∧ ¬ listed.getD k true = true
              · obtain ⟨k', h1, h2, h3⟩ := ih hex
                exact ⟨k', by omega, h2, h3⟩
              · have hkn : k = n := by
                  rcases Nat.lt_or_ge k n with h | h
                  · exact absurd ⟨k, h, hx⟩ hex
                  · omega
                subst hkn
                refine ⟨k, by omega, by simpa using hx, fun j hj => ?_⟩
                cases hxj : listed.getD j true with
                | true => rfl
                | false => exact absurd ⟨j, hj, by simp [hxj]⟩ hex
          have hex : ∃ k, k < m ∧ ¬ listed.getD k true = true := by
            refine Classical.byContradiction fun hno => hall fun k hk => ?_
            cases hx : listed.getD k true with
            | true => rfl
            | false => exact absurd ⟨k, hk, by simp [hx]⟩ hno
          exact this m hex
        obtain ⟨k, hkm, hku, hkl⟩ := hmin
        have hkl' : k < l.length := by omega
        have ho : l[k]? = some l[k] := List.getElem?_eq_getElem hkl'
        have : k ∈ Region.ready .any l.toArray listed := by
          unfold Region.ready
          simp only [List.mem_filter, List.mem_range, Bool.and_eq_true, Bool.not_eq_true']
          refine ⟨by simpa using hkl', hku, ?_⟩
          simp [hkl']
          intro q hq
          by_cases hb : Region.binds .any l[k].after[q] = true
          · refine .inr ?_
            have hlt := (tail_preds htl ho).2 (l[k].after[q]).on (by
              simp only [predsOf, List.contains_eq_mem, List.mem_map, List.mem_filter, decide_eq_true_eq]
              exact ⟨l[k].after[q], ⟨by simp, hb⟩, rfl⟩)
            have h2 := hkl (l[k].after[q]).on hlt
            have hsz : (l[k].after[q]).on < listed.size := by rw [hM.lsize]; omega
            simp [Array.getD_eq_getD_getElem?, hsz] at h2 ⊢
            exact h2
          · exact .inl (by simpa using hb)
        rw [hnil] at this; cases this
      · have him := hready i hi
        obtain ⟨o, ho, hun, hpre⟩ := ready_spec hi
        have hlit : l.toArray[i]? = some o := by simpa using ho
        obtain ⟨val, hval⟩ := hM.vals
        have hfit := hM.fits hdst ho hun hpre hval
        have hisz : i < listed.size := by rw [hM.lsize]; exact (List.getElem?_eq_some_iff.1 ho).1
        have hil := (List.getElem?_eq_some_iff.1 ho).1
        have hpv : ∀ j, (predsOf o).contains j = true → ∀ oj, l[j]? = some oj → ∀ d, oj.dst = some d → a.tmps[d]? = some (valOf Vs val j) ∧ Tells (Nat.beq i q) (vsAt Vs j) (valOf Vs val j) w := fun j hj oj hoj d hd => by
          have h1 := hpre j hj
          have hsz : j < listed.size := by rw [hM.lsize]; exact (List.getElem?_eq_some_iff.1 hoj).1
          obtain ⟨h2, h3⟩ := hval j oj d hoj hd (by simp [Array.getD_eq_getD_getElem?, hsz] at h1 ⊢; exact h1)
          refine ⟨h2, h3.less (fun h => ?_)⟩
          have hiq : i = q := Nat.eq_of_beq_eq_true h
          subst hiq
          have hun' : listed.getD i false = false := by
            simp [Array.getD_eq_getD_getElem?, hisz] at hun ⊢; exact hun
          rw [hun']; simp
        have hF := hfront i o him ho val w hM.chg (fun j hj oj d hoj hd => (hpv j hj oj hoj d hd).2)
        have hgo : ∀ v w', Turns q w0.heap.size i w w' ∧ (vsAt Vs i).holds v w' → wpAny P .any l.toArray (Lift N Q) fuel (listed.setIfInBounds i true) (a.put o.dst v) w' := fun v w' ⟨hc, hv⟩ =>
          ih _ _ _ (by have := openCount_set hisz hun l.length hil; omega) (hM.step hdst ho him hun hpre hfirm hc hv)
        unfold wpOp
        rw [hlit]
        simp only
        cases hg : o.guard with
        | none =>
          rw [hg] at hF
          have hwa : Region.wanted o (yielded l.toArray a.tmps) = true := by simp [Region.wanted, hg]
          rw [if_pos hwa]
          unfold OpW at hF
          exact .inl (hF a hfit _ _ hgo)
        | some g =>
          obtain ⟨j, want⟩ := g
          rw [hg] at hF
          obtain ⟨b, hj, hjd, hb, h1, h2⟩ := hF
          have hwa : Region.wanted o (yielded l.toArray a.tmps) = (b == want) := by
            cases hoj : l[j]? with
            | none => simp [hoj] at hjd
            | some oj =>
              cases hd : oj.dst with
              | none => simp [hoj, hd] at hjd
              | some d =>
                have := (hpv j hj oj hoj d hd).1
                unfold Region.wanted yielded
                rcases hb with hb | ⟨hbw, hb⟩
                · rw [hb] at this
                  simp only [hg, List.getElem?_toArray, hoj, Option.bind_some, hd, this]
                  cases b <;> cases want <;> rfl
                · rw [hb] at this
                  simp only [hg, List.getElem?_toArray, hoj, Option.bind_some, hd, this]
                  subst hbw
                  cases want <;> rfl
          rw [hwa]
          by_cases hbw : b = want
          · subst hbw
            rw [if_pos (by simp)]
            have h3 := h1 rfl
            unfold OpW at h3
            exact .inl (h3 a hfit _ _ hgo)
          · have hbn : b = !want := by cases b <;> cases want <;> first | rfl | exact absurd rfl hbw
            rw [if_neg (by simpa using hbw)]
            exact hgo undef w ⟨Turns.none _ _ _ (Chg.refl _ _), h2 hbn⟩

def Firms : List VS → Prop
  | [] => True
  | s :: r => s.firm [] ∧ Firms r
theorem Firms.at : ∀ {Vs : List VS}, Firms Vs → ∀ i, (vsAt Vs i).firm []
  | [], _, i => by simp [vsAt, VS.firm]
  | s :: r, h, 0 => h.1
  | s :: r, h, i + 1 => Firms.at h.2 i
theorem Firms.snoc {s : VS} : ∀ {Vs : List VS}, Firms Vs → s.firm [] → Firms (Vs ++ [s])
  | [], _, h => ⟨h, trivial⟩
  | a :: A, hf, h => ⟨hf.1, Firms.snoc hf.2 h⟩

/-- **A region that draws its order.** m: how many operations stand in front; Vs: what they leave; -/
theorem W_draw {id : Nat} {Q : Post} (m q : Nat) (Vs : List VS) (hfol : P.follows .mixedOrders = true) (hdst : dstsOk N l = true) (htl : tailOk m l = true) (hfirms : Firms Vs)
    (hfront : Front P N q l Vs e w 0 m l)
    (hend : ∀ (val : Nat → Value) (w1 : World), Chg [] w w1 → (∀ i, i < m → ∀ o d, l[i]? = some o → o.dst = some d → Tells (Nat.beq i q) (vsAt Vs i) (valOf Vs val i) w1) → WL P N l.toArray (l.drop m) Q (frontEnv Vs val 0 m l ++ e) w1) :
    W P N (.region id l.toArray true) Q e w := by
  have hfirm : ∀ i, (vsAt Vs i).firm [] := fun i => hfirms.at i
  unfold W
  intro a ha
  refine wp_region_any hfol ?_
  have hc0 : openCount (Array.replicate l.length false) l.length = l.length := by
    have : ∀ n, n ≤ l.length → openCount (Array.replicate l.length false) n = n := by
      intro n
      induction n with
      | zero => intro _; rfl
      | succ n ih =>
        intro hn
        have h1 : (Array.replicate l.length false).getD n true = false := by rw [Array.getD_eq_getD_getElem?, Array.getElem?_replicate, if_pos (by omega)]; rfl
        simp only [openCount]; rw [ih (by omega), h1]; rfl
    exact this _ (Nat.le_refl _)
  have hM : Mid N q l m Vs e w (Array.replicate l.length false) a { w with drawn := w.drawn + 1 } := by
    refine ⟨ha.size, ha.defers, Chg.drawn [] w _, by simp, fun i hi _ => by simp [Array.getD_eq_getD_getElem?, hi], fun i o ho hl => ?_, fun t v hv _ => ha.look t v hv, fun i o d ho _ hl => ?_⟩
    · have hi := (List.getElem?_eq_some_iff.1 ho).1
      simp [Array.getD_eq_getD_getElem?, hi] at hl
    · have hi := (List.getElem?_eq_some_iff.1 ho).1
      simp [Array.getD_eq_getD_getElem?, hi] at hl
  have := mid_any (P := P) (Q := Q) hdst htl hfirm (fun i o him ho => by simpa using Front.get l 0 m hfront i o him ho) hend l.length _ _ _ hc0 hM
  simpa using this

/-! ### The same, walked in the text's order: what an operation leaves is found on the way -/
/-- Operation i, what the elder ones leave being Vs; it leaves s. -/
def StepP (P : Program) (N : Nat) (q : Nat) (l : List Oper) (Vs : List VS) (e : Env) (w : World) (i : Nat) (o : Oper) (s : VS) : Prop :=
  ∀ (val : Nat → Value) (w1 : World), Chg [] w w1 → (∀ j, (predsOf o).contains j = true → ∀ oj d, l[j]? = some oj → oj.dst = some d → Tells (Nat.beq i q) (vsAt Vs j) (valOf Vs val j) w1) →
    match o.guard with
    | none => OpW P N o (opEnv l Vs e i o val) w1 (fun v w' => Turns q w.heap.size i w1 w' ∧ s.holds v w')
    | some (j, want) => ∃ b, (predsOf o).contains j = true ∧ ((l[j]?).bind (·.dst)).isSome = true ∧ (valOf Vs val j = .bool b ∨ (b = (!want) ∧ valOf Vs val j = undef)) ∧
        (b = want → OpW P N o (opEnv l Vs e i o val) w1 (fun v w' => Turns q w.heap.size i w1 w' ∧ s.holds v w')) ∧ (b = !want → s.holds undef w1)
def Walk (P : Program) (N : Nat) (q : Nat) (l : List Oper) (e : Env) (w : World) (fin : List VS → Prop) : Nat → List Oper → List VS → Prop
  | _, [], Vs => fin Vs
  | i, o :: r, Vs => ∃ s : VS, s.firm [] ∧ StepP P N q l Vs e w i o s ∧ Walk P N q l e w fin (i + 1) r (Vs ++ [s])

theorem walk_front (htl : tailOk m l = true) (hml : m ≤ l.length) {fin : List VS → Prop} : ∀ (r : List Oper) (i : Nat) (Vs : List VS), Vs.length = i → (l.take m).drop i = r → Firms Vs → Walk P N q l e w fin i r Vs →
    ∃ rest : List VS, rest.length = r.length ∧ Firms (Vs ++ rest) ∧ fin (Vs ++ rest) ∧ ∀ k o, r[k]? = some o → FrontOp P N q l (Vs ++ rest) e w (i + k) o
  | [], i, Vs, hi, hr, hf, h => ⟨[], rfl, by simpa using hf, by simpa [Walk] using h, fun k o hk => by simp at hk⟩
  | o :: r, i, Vs, hi, hr, hf, h => by
    obtain ⟨s, hs, hst, hw⟩ := h
    have hr' : (l.take m).drop (i + 1) = r := by rw [← List.drop_drop, hr]; rfl
    have hf' : Firms (Vs ++ [s]) := hf.snoc hs
    obtain ⟨rest, hl, h1, h2, h3⟩ := walk_front htl hml r (i + 1) (Vs ++ [s]) (by simp [hi]) hr' hf' hw
    rw [List.append_assoc] at h1 h2 h3
    refine ⟨s :: rest, by simp [hl], h1, h2, fun k ok hk => ?_⟩
    cases k with
    | zero =>
      simp at hk
      subst hk
      rw [Nat.add_zero]
      have ho : l[i]? = some o := by
        have h4 : ((l.take m).drop i)[0]? = some o := by rw [hr]; rfl
        rw [List.getElem?_drop, Nat.add_zero, List.getElem?_take] at h4
        split at h4
        · exact h4
        · cases h4
      have hpl : ∀ j, (predsOf o).contains j = true → j < Vs.length := fun j hj => by rw [hi]; exact (tail_preds htl ho).2 j hj
      have hpe : ∀ val, opEnv l (Vs ++ s :: rest) e i o val = opEnv l Vs e i o val := fun val => by
        unfold opEnv; rw [predEnv_append _ (fun j hj => hpl j (by simpa using hj))]
      have hvs : vsAt (Vs ++ s :: rest) i = s := by rw [← hi]; exact vsAt_at
      intro val w1 hc hp
      have hq := hst val w1 hc (fun j hj oj d h5 h6 => by
        have := hp j hj oj d h5 h6
        rw [vsAt_append (hpl j hj), valOf_append (hpl j hj)] at this; exact this)
      rw [hpe val, hvs]
      cases hg : o.guard with
      | none => rw [hg] at hq; exact hq
      | some g =>
        obtain ⟨j, want⟩ := g
        rw [hg] at hq
        obtain ⟨b, h5, h6, h7, h8, h9⟩ := hq
        exact ⟨b, h5, h6, by rw [valOf_append (hpl j h5)]; exact h7, h8, h9⟩
    | succ k =>
      have := h3 k ok (by simpa using hk)
      rw [show i + (k + 1) = i + 1 + k from by omega]; exact this

theorem front_of {Vs : List VS} : ∀ (r : List Oper) (i k : Nat), (∀ j o, j < k → r[j]? = some o → FrontOp P N q l Vs e w (i + j) o) → Front P N q l Vs e w i k r
  | [], i, k, h => by cases k <;> exact trivial
  | o :: r, i, 0, h => trivial
  | o :: r, i, k + 1, h => ⟨h 0 o (by omega) rfl, front_of r (i + 1) k (fun j oj hj hoj => by
      have := h (j + 1) oj (by omega) (by simpa using hoj)
      rw [show i + 1 + j = i + (j + 1) from by omega]; exact this)⟩

/-- **A region that draws, walked in the text's order.** -/
theorem W_walkr {id : Nat} {Q : Post} (m q : Nat) (hfol : P.follows .mixedOrders = true) (hdst : dstsOk N l = true) (htl : tailOk m l = true)
    (h : Walk P N q l e w (fun Vs => ∀ (val : Nat → Value) (w1 : World), Chg [] w w1 → (∀ i, i < m → ∀ o d, l[i]? = some o → o.dst = some d → Tells (Nat.beq i q) (vsAt Vs i) (valOf Vs val i) w1) → WL P N l.toArray (l.drop m) Q (frontEnv Vs val 0 m l ++ e) w1) 0 (l.take m) []) :
    W P N (.region id l.toArray true) Q e w := by
  have hml : m ≤ l.length := by
    have h2 := htl
    unfold tailOk at h2
    simp only [Bool.and_eq_true] at h2
    exact Nat.le_of_ble_eq_true h2.1.1
  obtain ⟨rest, hl, h1, h2, h3⟩ := walk_front htl hml (l.take m) 0 [] rfl (by simp) trivial h
  rw [List.nil_append] at h1 h2 h3
  refine W_draw m q rest hfol hdst htl h1 (front_of l 0 m fun j o hj ho => ?_) h2
  exact h3 j o (by rw [List.getElem?_take, if_pos hj]; exact ho)

theorem Walk.plain {fin : List VS → Prop} {i : Nat} {r : List Oper} {Vs : List VS} {o : Oper} {v : Value} (hg : o.guard = none)
    (h : ∀ (val : Nat → Value) (w1 : World), Chg [] w w1 → (∀ j, (predsOf o).contains j = true → ∀ oj d, l[j]? = some oj → oj.dst = some d → Tells (Nat.beq i q) (vsAt Vs j) (valOf Vs val j) w1) → OpW P N o (opEnv l Vs e i o val) w1 (fun u w' => Chg [] w1 w' ∧ u = v))
    (hr : Walk P N q l e w fin (i + 1) r (Vs ++ [.c v])) : Walk P N q l e w fin i (o :: r) Vs := by
  refine ⟨.c v, trivial, fun val w1 hc hp => ?_, hr⟩
  rw [hg]
  exact OpW_mono' (h val w1 hc hp) (fun u w' ⟨h1, h2⟩ => ⟨Turns.none _ _ _ h1, h2⟩)
theorem Walk.guardT {fin : List VS → Prop} {i j : Nat} {want : Bool} {r : List Oper} {Vs : List VS} {o : Oper} {v : Value} (hg : o.guard = some (j, want)) (hj : (predsOf o).contains j = true) (hjd : ((l[j]?).bind (·.dst)).isSome = true) (hb : ∀ val, valOf Vs val j = .bool want)
    (h : ∀ (val : Nat → Value) (w1 : World), Chg [] w w1 → (∀ j, (predsOf o).contains j = true → ∀ oj d, l[j]? = some oj → oj.dst = some d → Tells (Nat.beq i q) (vsAt Vs j) (valOf Vs val j) w1) → OpW P N o (opEnv l Vs e i o val) w1 (fun u w' => Chg [] w1 w' ∧ u = v))
    (hr : Walk P N q l e w fin (i + 1) r (Vs ++ [.c v])) : Walk P N q l e w fin i (o :: r) Vs := by
  refine ⟨.c v, trivial, fun val w1 hc hp => ?_, hr⟩
  rw [hg]
  exact ⟨want, hj, hjd, .inl (hb val), (fun _ => OpW_mono' (h val w1 hc hp) (fun u w' ⟨h1, h2⟩ => ⟨Turns.none _ _ _ h1, h2⟩)), (fun hn => by cases want <;> cases hn)⟩
theorem Walk.guardR {fin : List VS → Prop} {i j : Nat} {want : Bool} {r : List Oper} {Vs : List VS} {o : Oper} (R : Value → World → Prop) (hg : o.guard = some (j, want)) (hj : (predsOf o).contains j = true) (hjd : ((l[j]?).bind (·.dst)).isSome = true) (hb : ∀ val, valOf Vs val j = .bool want) (hR : ∀ v w w', R v w → Chg [] w w' → R v w')
    (h : ∀ (val : Nat → Value) (w1 : World), Chg [] w w1 → (∀ j, (predsOf o).contains j = true → ∀ oj d, l[j]? = some oj → oj.dst = some d → Tells (Nat.beq i q) (vsAt Vs j) (valOf Vs val j) w1) → OpW P N o (opEnv l Vs e i o val) w1 (fun u w' => Chg [] w1 w' ∧ R u w'))
    (hr : Walk P N q l e w fin (i + 1) r (Vs ++ [.r R])) : Walk P N q l e w fin i (o :: r) Vs := by
  refine ⟨.r R, hR, fun val w1 hc hp => ?_, hr⟩
  rw [hg]
  exact ⟨want, hj, hjd, .inl (hb val), (fun _ => OpW_mono' (h val w1 hc hp) (fun u w' ⟨h1, h2⟩ => ⟨Turns.none _ _ _ h1, h2⟩)), (fun hn => by cases want <;> cases hn)⟩
/-- The one that turns what the region has made. -/
theorem Walk.guardQ {fin : List VS → Prop} {i j : Nat} {want : Bool} {r : List Oper} {Vs : List VS} {o : Oper} (hi : i = q) (R : Value → World → Prop) (hg : o.guard = some (j, want)) (hj : (predsOf o).contains j = true) (hjd : ((l[j]?).bind (·.dst)).isSome = true) (hb : ∀ val, valOf Vs val j = .bool want) (hR : ∀ v w w', R v w → Chg [] w w' → R v w')
    (h : ∀ (val : Nat → Value) (w1 : World), Chg [] w w1 → (∀ j, (predsOf o).contains j = true → ∀ oj d, l[j]? = some oj → oj.dst = some d → (vsAt Vs j).holds (valOf Vs val j) w1) → OpW P N o (opEnv l Vs e i o val) w1 (fun u w' => (∃ S : List Nat, (∀ k ∈ S, w.heap.size ≤ k) ∧ Chg S w1 w') ∧ R u w'))
    (hr : Walk P N q l e w fin (i + 1) r (Vs ++ [.r R])) : Walk P N q l e w fin i (o :: r) Vs := by
  refine ⟨.r R, hR, fun val w1 hc hp => ?_, hr⟩
  rw [hg]
  have hp' : ∀ j, (predsOf o).contains j = true → ∀ oj d, l[j]? = some oj → oj.dst = some d → (vsAt Vs j).holds (valOf Vs val j) w1 := fun j h1 oj d h2 h3 => by
    have h4 := hp j h1 oj d h2 h3
    have hb : Nat.beq i q = true := by rw [hi]; simp
    revert h4
    cases vsAt Vs j with
    | c u => exact fun h => h
    | r R => exact fun h => h hb
  exact ⟨want, hj, hjd, .inl (hb val), (fun _ => OpW_mono' (h val w1 hc hp') (fun u w' ⟨⟨S, h1, h2⟩, h3⟩ => ⟨⟨S, fun k hk => ⟨h1 k hk, hi⟩, h2⟩, h3⟩)), (fun hn => by cases want <;> cases hn)⟩
theorem Walk.fin {fin : List VS → Prop} {i : Nat} {Vs : List VS} (h : fin Vs) : Walk P N q l e w fin i [] Vs := h
attribute [irreducible] Walk
end
end Go.Vc.F
/-! Rows whose elements have several cells. -/
set_option linter.unusedVariables false
set_option linter.unusedSimpArgs false
namespace Go.Vc
open Go
/-- The cells cs lie behind ad, from the m-th on. -/
def Elem (w : World) (ad : Addr) (m : Nat) (cs : List Value) : Prop := ∀ j u, cs[j]? = some u → w.cell? (ad.add (m + j)) = some u
theorem Elem.keep0 {w w' : World} {ad : Addr} {m : Nat} {cs : List Value} (h : Elem w ad m cs) (hc : Chg [] w w') : Elem w' ad m cs := fun j u hj => hc.cell0 (h j u hj)
/-- Elements that read as their cells. -/
def RdL {α : Type} (f : α → List Value) (_ : World) (cs : List Value) (x : α) : Prop := cs = f x
theorem RdL.kept {α : Type} {f : α → List Value} : KeptK (RdL f) := fun _ _ _ _ _ h => h
section
variable {α : Type} {f : α → List Value} {k : Nat} {w w' : World} {v : Value} {L : List α}
theorem SliceK.keepR (h : SliceK k (RdL f) w v L) (hc : Chg [] w w') : SliceK k (RdL f) w' v L := h.keep RdL.kept hc
theorem SliceK.at {A : Option Addr} {n c : Nat} (h : SliceK k (RdL f) w (.slice A n c) L) {i : Nat} {x : α} (hx : L[i]? = some x) : ∃ ad, A = some ad ∧ Elem w ad (i * k) (f x) := by
  obtain ⟨ad, cs, h1, _, h2, h3⟩ := h.get hx
  unfold RdL at h3
  subst h3
  exact ⟨ad, h1, h2⟩
theorem rk_len (hf : ∀ x, (f x).length = k) : ∀ L : List α, (L.flatMap f).length = L.length * k
  | [] => by simp
  | x :: L => by rw [List.flatMap_cons, List.length_append, hf, rk_len hf L, List.length_cons, Nat.succ_mul]; omega
theorem rk_get (hf : ∀ x, (f x).length = k) : ∀ (L : List α) {i j : Nat} {x : α}, L[i]? = some x → j < k → (L.flatMap f)[i * k + j]? = (f x)[j]?
  | [], i, j, x, h, _ => by simp at h
  | a :: l, 0, j, x, h, hj => by
    simp at h
    subst h
    rw [List.flatMap_cons, Nat.zero_mul, Nat.zero_add, List.getElem?_append_left (by rw [hf]; exact hj)]
  | a :: l, i + 1, j, x, h, hj => by
    rw [List.flatMap_cons, List.getElem?_append_right (by rw [hf, Nat.succ_mul]; omega), hf, show (i + 1) * k + j - k = i * k + j from by rw [Nat.succ_mul]; omega]
    exact rk_get hf l (by simpa using h) hj
theorem rk_lt {i n k : Nat} (hi : i < n) : i * k + k ≤ n * k := by
  have : (i + 1) * k ≤ n * k := Nat.mul_le_mul_right k hi
  rw [Nat.succ_mul] at this
  exact this
/-- A row of the call's own, its cells. -/
def RowB (w : World) (g : Nat) (t : TypeId) (f : α → List Value) (L : List α) (rest : List Value) : Prop := Blk w g t (L.flatMap f ++ rest)
theorem RowB.keep0 {g : Nat} {t : TypeId} {rest : List Value} (h : RowB w g t f L rest) (hc : Chg [] w w') : RowB w' g t f L rest := Blk.keep0 h hc
theorem RowB.keep {S : List Nat} {g : Nat} {t : TypeId} {rest : List Value} (h : RowB w g t f L rest) (hc : Chg S w w') (hn : g ∉ S) : RowB w' g t f L rest := Blk.keep h hc hn
theorem RowB.lt {g : Nat} {t : TypeId} {rest : List Value} (h : RowB w g t f L rest) : g < w.heap.size := Blk.lt h
theorem RowB.elem (hf : ∀ x, (f x).length = k) {g : Nat} {t : TypeId} {rest : List Value} (h : RowB w g t f L rest) {i : Nat} {x : α} (hx : L[i]? = some x) : Elem w ⟨g, 0, none⟩ (i * k) (f x) := fun j u hj => by
  have hjk : j < k := by have := (List.getElem?_eq_some_iff.1 hj).1; rw [hf] at this; exact this
  have hi := (List.getElem?_eq_some_iff.1 hx).1
  rw [add_plain]
  unfold RowB at h
  refine h.cell ?_
  rw [List.getElem?_append_left (by rw [rk_len hf]; have := rk_lt (k := k) hi; omega), rk_get hf L hx hjk]
  exact hj
theorem Own.rowB {t : TypeId} {g n c : Nat} (h : Own w t k (.slice (some ⟨g, 0, none⟩) n c) n (L.flatMap f)) : ∃ rest, RowB w g t f L rest ∧ (L.flatMap f ++ rest).length = c * k := by
  rcases h.cases with ⟨h1, _⟩ | ⟨g', cap, cur, h1, _, _, h2, h3, h4⟩
  · cases h1
  · injection h1 with e1 _ e2
    injection e1 with e1
    injection e1 with e1 _ _
    subst e1; subst e2
    refine ⟨cur.drop (n * k), ?_, ?_⟩
    · unfold RowB
      rw [← h4, List.take_append_drop]
      exact h2
    · rw [← h4, List.take_append_drop]; exact h3
theorem RowB.own (hf : ∀ x, (f x).length = k) {g c : Nat} {t : TypeId} {rest : List Value} (h : RowB w g t f L rest) (hl : (L.flatMap f ++ rest).length = c * k) (hc : L.length ≤ c) (hm : c ≤ maxLen) : Own w t k (.slice (some ⟨g, 0, none⟩) L.length c) L.length (L.flatMap f) :=
  Own.mk h hc hm hl (by rw [← rk_len hf L]; exact List.take_left' rfl)
theorem Own.addr {t : TypeId} {A : Option Addr} {n c : Nat} {xs : List Value} (h : Own w t k (.slice A n c) n xs) (hn : 0 < n) : ∃ g, A = some ⟨g, 0, none⟩ := by
  obtain ⟨g, cap, cur, h1, _⟩ := h.blk hn
  injection h1 with h1
  exact ⟨g, h1⟩
theorem Own.readsK (hf : ∀ x, (f x).length = k) {t : TypeId} (h : Own w t k v L.length (L.flatMap f)) : SliceK k (RdL f) w v L := by
  obtain ⟨A, c, rfl, h1, h2⟩ := h.form
  unfold SliceK
  refine ⟨A, c, rfl, h1, h2, fun i x hx => ?_⟩
  obtain ⟨g, rfl⟩ := h.addr (by have := (List.getElem?_eq_some_iff.1 hx).1; omega)
  obtain ⟨rest, hr, _⟩ := h.rowB
  exact ⟨_, f x, rfl, hf x, hr.elem hf hx, rfl⟩
theorem rk_set (hf : ∀ x, (f x).length = k) (rest : List Value) : ∀ (L : List α) (i : Nat) (x : α), i < L.length → (L.flatMap f ++ rest).take (i * k) ++ f x ++ (L.flatMap f ++ rest).drop (i * k + (f x).length) = (L.set i x).flatMap f ++ rest
  | [], i, x, h => by simp at h
  | a :: L, 0, x, h => by
    rw [List.flatMap_cons, Nat.zero_mul, List.take_zero, List.nil_append, Nat.zero_add, hf, List.append_assoc, List.drop_left' (hf a), List.set_cons_zero, List.flatMap_cons, List.append_assoc]
  | a :: L, i + 1, x, h => by
    have ih := rk_set hf rest L i x (by simpa using h)
    have e1 : (i + 1) * k = (f a).length + i * k := by rw [hf, Nat.succ_mul]; omega
    have e0 : (a :: L).flatMap f ++ rest = f a ++ (L.flatMap f ++ rest) := by rw [List.flatMap_cons, List.append_assoc]
    rw [e0, e1, List.take_length_add_append, Nat.add_assoc, List.drop_length_add_append, List.set_cons_succ, List.flatMap_cons]
    have ih' := congrArg (fun l => f a ++ l) ih
    simpa only [List.append_assoc] using ih'
theorem rk_set1 (hf : ∀ x, (f x).length = k) (rest : List Value) : ∀ (L : List α) (i j : Nat) (x x' : α) (u : Value), L[i]? = some x → (f x).set j u = f x' → j < k → (L.flatMap f ++ rest).set (i * k + j) u = (L.set i x').flatMap f ++ rest
  | [], i, j, x, x', u, h, _, _ => by simp at h
  | a :: L, 0, j, x, x', u, h, h2, hj => by
    simp at h
    subst h
    rw [List.flatMap_cons, List.append_assoc, Nat.zero_mul, Nat.zero_add, List.set_append_left _ _ (by rw [hf]; exact hj), h2, List.set_cons_zero, List.flatMap_cons, List.append_assoc]
  | a :: L, i + 1, j, x, x', u, h, h2, hj => by
    rw [List.flatMap_cons, List.append_assoc, show (i + 1) * k + j = (f a).length + (i * k + j) from by rw [hf, Nat.succ_mul]; omega, List.set_append_right _ _ (by omega), Nat.add_sub_cancel_left, rk_set1 hf rest L i j x x' u (by simpa using h) h2 hj, List.set_cons_succ, List.flatMap_cons, List.append_assoc]
end
section
variable {P : Program} {N : Nat} {e : Env} {w : World} {o : Oper} {K : Value → World → Prop} {α : Type} {f : α → List Value} {k : Nat}
/-- An element, whole. -/
theorem op_loadE (T : Types P) {x : Operand} {t : TypeId} {d : TInfo} {ad : Addr} {m : Nat} {cs : List Value} (h0 : Elem w ad m cs)
    (hop : o.op = .load t x) (hx : ev e x = some (.pointer (some (ad.add m)))) (ht : T.tbl t = some d) (hd : aggI d = true) (hs' : Nat.beq d.size cs.length = true) (h : K (.agg cs.toArray) w) : OpW P N o e w K :=
  op_load_cells T hop hx ht hd hs' (fun j u hj => by rw [add_of_add]; exact h0 j u hj) h
/-- A cell of an element. -/
theorem op_loadF (T : Types P) {x : Operand} {t : TypeId} {d : TInfo} {ad : Addr} {m j : Nat} {cs : List Value} {v : Value} (h0 : Elem w ad m cs)
    (hop : o.op = .load t x) (hx : ev e x = some (.pointer (some ((ad.add m).add j)))) (ht : T.tbl t = some d) (hd : aggI d = false) (hv : nth cs j = some v) (h : K v w) : OpW P N o e w K :=
  op_load T hop hx ht hd (by rw [add_of_add]; exact h0 j v (by rw [← nth_eq]; exact hv)) h
theorem op_loadF2 (T : Types P) {x : Operand} {t : TypeId} {d : TInfo} {ad : Addr} {m j j2 : Nat} {cs : List Value} {v : Value} (h0 : Elem w ad m cs)
    (hop : o.op = .load t x) (hx : ev e x = some (.pointer (some (((ad.add m).add j).add j2)))) (ht : T.tbl t = some d) (hd : aggI d = false) (hv : nth cs (j + j2) = some v) (h : K v w) : OpW P N o e w K :=
  op_load T hop hx ht hd (by rw [add_of_add, add_of_add]; exact h0 (j + j2) v (by rw [← nth_eq]; exact hv)) h
theorem op_loadF3 (T : Types P) {x : Operand} {t : TypeId} {d : TInfo} {ad : Addr} {m j j2 j3 : Nat} {cs : List Value} {v : Value} (h0 : Elem w ad m cs)
    (hop : o.op = .load t x) (hx : ev e x = some (.pointer (some ((((ad.add m).add j).add j2).add j3)))) (ht : T.tbl t = some d) (hd : aggI d = false) (hv : nth cs (j + j2 + j3) = some v) (h : K v w) : OpW P N o e w K :=
  op_load T hop hx ht hd (by rw [add_of_add, add_of_add, add_of_add, show j + (j2 + j3) = j + j2 + j3 from by omega]; exact h0 (j + j2 + j3) v (by rw [← nth_eq]; exact hv)) h
/-- The address of an element. -/
theorem op_indexK (T : Types P) {x y : Operand} {t el : TypeId} {ad : Addr} {n c : Nat} {kk : IntKind} {i : Nat} {j : TInfo}
    (hop : o.op = .indexAddr t x y) (hx : ev e x = some (.slice (some ad) n c)) (hy : ev e y = some (.int kk (i : Int))) (ht : T.d t = some (.slice el)) (hel : T.tbl el = some j)
    (h1 : i < n) (h : K (.pointer (some (ad.add (i * j.size)))) w) : OpW P N o e w K :=
  op_index_slice T hop hx hy ht hel (by omega) (by omega) (by rw [Int.toNat_natCast]) h
/-- An element of a row of the call's own is written. -/
theorem op_storeR (T : Types P) (hf : ∀ x, (f x).length = k) {x y : Operand} {t el : TypeId} {d : TInfo} {g i : Nat} {a : α} {L : List α} {rest : List Value}
    (hb : RowB w g el f L rest) (hop : o.op = .store t x y) (hx : ev e x = some (.pointer (some ((⟨g, 0, none⟩ : Addr).add (i * k))))) (hy : ev e y = some (.agg (f a).toArray)) (ht : T.tbl t = some d) (hd : Nat.beq d.size (f a).length = true) (h1 : (f a).all (fun u => u.oneCell') = true)
    (hi : i < L.length) (h : ∀ w1, Chg [g] w w1 → RowB w1 g el f (L.set i a) rest → w1.heap.size = w.heap.size → K undef w1) : OpW P N o e w K := by
  unfold RowB at hb
  have hlen : i * k + (f a).length ≤ (L.flatMap f ++ rest).length := by
    rw [List.length_append, rk_len hf, hf]; have := rk_lt (k := k) hi; omega
  refine op_store_agg T (vs := (f a).toArray) hop (by rw [← add_plain]; exact hx) hy ht (by simpa using hd) (by simpa using h1) hb (by simpa using hlen) (fun w1 hc hb1 hz => h w1 hc ?_ hz)
  unfold RowB
  rw [← rk_set hf rest L i a hi]
  simpa using hb1
/-- append(v, x), v a row of the call's own, x in a block of its own. -/
theorem op_appendK (T : Types P) (hf : ∀ x, (f x).length = k) {x y : Operand} {t el : TypeId} {d : TInfo} {v : Value} {g5 c : Nat} {L : List α} {a : α} {ts : Array TypeId}
    (hop : o.op = .call { callee := .builtin .append, args := #[x, y], argTypes := ts }) (hts : ts = #[t, t]) (hx : ev e x = some v) (hy : ev e y = some (.slice (some ⟨g5, 0, none⟩) 1 c)) (ht : T.d t = some (.slice el)) (hel : T.tbl el = some d)
    (hz : Nat.beq d.zero.cells.size d.size = true) (hpos : Nat.blt 0 d.size = true) (hsz : Nat.beq d.size k = true) (hby : Nat.ble d.bytes 1000 = true)
    (hown : Own w el k v L.length (L.flatMap f)) (hg : Blk w g5 el (f a)) (h1 : ∀ u ∈ f a, u.oneCell' = true) (hlim : L.length < 1000000)
    (h : ∀ v' w1, Own w1 el k v' (L ++ [a]).length ((L ++ [a]).flatMap f) → Chg v.ownBlock.toList w w1 → (v'.ownBlock = v.ownBlock ∨ ∃ g, v'.ownBlock = some g ∧ w.heap.size ≤ g) → K v' w1) : OpW P N o e w K := by
  obtain rfl : d.size = k := Nat.eq_of_beq_eq_true hsz
  have hby' := Nat.le_of_ble_eq_true hby
  refine op_append T (n := L.length) (xs := L.flatMap f) (m := 1) (news := f a) hop hts hx hy ht hel hz hpos hown (by rw [hf, Nat.one_mul]) ?_ (by unfold maxLen; omega) ?_ (fun v' w1 ho hc hb _ => h v' w1 ?_ hc hb)
  · intro j u hj
    exact ⟨⟨_, rfl, by rw [add_plain]; exact hg.cell hj⟩, h1 u (List.mem_of_getElem? hj)⟩
  · have : (L.length + 1) * d.bytes ≤ (L.length + 1) * 1000 := Nat.mul_le_mul_left _ hby'
    omega
  · rw [List.length_append, List.flatMap_append]
    simpa using ho
end
end Go.Vc
/-! RawAny, walked. -/
set_option linter.unusedVariables false
namespace Go.Vc
open Go
def moreR : RecM := ⟨1, 9, [109, 111, 114, 101], [111, 102, 32, 105, 116]⟩
theorem moreR_ok : RecOk moreR := ⟨by decide, by decide, by decide, .inl rfl, by decide, by decide⟩
theorem one_crash_lasts {s : FsM} {room calls : Int} {nm : Nm} {b : List UInt8} {sy i : Nat} (h : OneAt s room calls nm b sy i) (hl : Lasts s nm i) : Lasts (crashM s 0 []) nm 0 := by
  have ed : crashDir s 0 = [(nm, i)] := by unfold crashDir; rw [hl.last]; rfl
  unfold crashM
  rw [ed]
  exact ⟨rfl, rfl⟩
theorem encM_len (r : RecM) : (encM r).1.length ≤ 4212 := by
  unfold encM
  by_cases h : checkM r = 0
  · rw [if_neg (by simp [h])]
    have := bodyM_len (checkM_ok.1 h)
    have := sealM_length (bodyM r)
    dsimp only; omega
  · rw [if_pos h]; simp
end Go.Vc
namespace Go.Proofs.YtbhnplghnhafiaaGreatDoor.Tryz
open Go Go.Vc
set_option maxHeartbeats 16000000 in
theorem rawAny_has (A : Option Addr) (n c : Nat) (L : List RecM) (Ar : Option Addr) (nr cr : Nat) (rest : List UInt8) (cut : Int) (w : World) (hl : SliceK 4 RrecK w (.slice A n c) L) (hr : SliceOf Ru8 w (.slice Ar nr cr) rest) (hcb : -9223372036854775808 ≤ cut ∧ cut ≤ 9223372036854775807) :
    Has Go.Proofs.Tryz.prog 3 #[.slice A n c, .slice Ar nr cr, .int .i64 cut] w (fun v w' => Chg [] w w' ∧ v = .bool true) := by
  obtain ⟨rfl, hl1, hl2⟩ := hl.len
  unfold maxLen at hl2
  refine enter Go.Proofs.Tryz.func3 rfl rfl (by decide) rfl (e := [(0, .slice A L.length c), (1, .slice Ar nr cr), (2, .int .i64 cut)]) ⟨rfl, rfl, rfl, trivial⟩ ?_
  refine run ?_
  refine go T 7 rfl ?_
  refine o1 rfl ?_
  refine op_call rfl rfl rfl (begun15_has w) ?_
  rintro _ w2 ⟨hc2, rfl⟩
  refine go T 15 rfl ?_
  refine o1 rfl ?_
  refine op_call rfl rfl rfl (newO_has 1048576 w2) ?_
  rintro _ w3 ⟨g, p3, rfl, x3⟩
  unfold ptrV
  obtain ⟨z1, o4⟩ := one_made 1048576 (nm := rawNm 7) (may_raw (by decide))
  rw [show roomM 1048576 = 1048576 from by decide] at o4
  refine go T 6 rfl ?_
  refine o1 rfl ?_
  refine op_call rfl rfl rfl (createO_has x3 (rawNm 7) (by rw [rawNm_len]; decide) (by show (0 : Int) < _; decide)) ?_
  rintro _ w4 ⟨rfl, p4, x4⟩
  rw [z1]
  generalize (createM (newM 1048576) (rawNm 7)).1 = s4 at *
  refine go T 8 rfl ?_
  refine W_meet (σ := FsM × FsP × List UInt8 × Int) (fun q => [(1, .slice Ar nr cr), (2, .int .i64 cut), (8, .pointer (some ⟨g, 0, none⟩))])
    (fun q w' => FsO w2 w' g q.1 q.2.1 ∧ OneAt q.1 1048576 q.2.2.2 (rawNm 7) q.2.2.1 0 0 ∧ q.2.2.1.length ≤ 25272 ∧ 0 ≤ q.2.2.2 ∧ q.2.2.2 ≤ 10) ?_ ?_
  · refine run ?_
    refine go T 1 rfl ?_
    refine W_loop (σ := Nat) (fun k => [(0, .slice A L.length c), (1, .slice Ar nr cr), (2, .int .i64 cut), (8, .pointer (some ⟨g, 0, none⟩)), (9, .int .i64 (k : Int))])
      (fun k w' => k ≤ 6 ∧ k ≤ L.length ∧ ∃ s p b, FsO w2 w' g s p ∧ OneAt s 1048576 (1 + (k : Int)) (rawNm 7) b 0 0 ∧ b.length ≤ 4212 * k)
      (fun k => L.length - k) 0 ⟨rfl, rfl, rfl, rfl, rfl, trivial⟩ ⟨by omega, by omega, s4, p4, [], x4, o4, by simp⟩ ?_
    rintro k w5 ⟨hk6, hkL, s5, p5, b5, x5, o5, hb5⟩
    have hc5 : Chg [] w w5 := hc2.trans' x5.chg
    have hcl5 := o5.calls
    by_cases hgo : k < L.length ∧ k < 6
    · obtain ⟨hgo1, hgo2⟩ := hgo
      obtain ⟨ad, cs, rfl, _, hcell, rfl, hk, hv⟩ := hl.get (i := k) (List.getElem?_eq_getElem hgo1)
      generalize L[k] = r at *
      have hlen := encM_len r
      refine run ?_
      refine go T 6 rfl ?_
      refine ltT rfl rfl rfl rfl (by omega) ?_
      refine go T 2 rfl ?_
      refine ltT rfl rfl rfl rfl (by omega) ?_
      refine go T 12 rfl ?_
      refine o1 rfl (op_indexK T rfl rfl rfl rfl rfl (by omega) ?_)
      refine o1 rfl ?_
      refine op_load_cells (cs := recL r) T rfl rfl rfl rfl rfl (fun j u hj => hc5.cell0 (by rw [add_of_add]; exact hcell j u hj)) ?_
      refine o1 rfl ?_
      refine op_call rfl rfl rfl (refEncode_has r w5) ?_
      intro v6 w6 m6
      obtain ⟨A6, c6, rfl, _, _⟩ := m6.form
      have x6 := x5.keep0 m6.chg
      obtain ⟨z2, o7, _⟩ := one_append (c := (encM r).1) o5 (by omega)
      refine o1 rfl ?_
      refine op_call rfl rfl rfl (appendO_has x6 (rawNm 7) (m6.firm (fun k hk => x5.at_.lt k hk)) (by omega) (by omega)) ?_
      rintro _ w7 ⟨rfl, p7, x7⟩
      rw [z2]
      refine go T 5 rfl ?_
      refine adI rfl rfl rfl rfl (by omega) (by omega) ?_
      refine go T 2 rfl ?_
      refine Round_n (k + 1) ⟨rfl, rfl, rfl, rfl, rfl, trivial⟩ ⟨by omega, by omega, _, p7, b5 ++ (encM r).1, x7, ?_, ?_⟩ (by omega)
      · rw [show (1 : Int) + ((k + 1 : Nat) : Int) = 1 + k + 1 from by omega]; exact o7
      · rw [List.length_append]; omega
    · rcases (show k = L.length ∨ (k < L.length ∧ k = 6) by omega) with hkL' | ⟨hkL', hk6'⟩
      · refine run ?_
        refine go T 6 rfl ?_
        refine ltF rfl rfl rfl rfl (by omega) ?_
        refine go T 9 rfl ?_
        refine rndX ?_
        refine go T 1 rfl ?_
        exact Meet_n (s5, p5, b5, 1 + (k : Int)) ⟨rfl, rfl, rfl, trivial⟩ ⟨x5, o5, by dsimp only; omega, by dsimp only; omega, by dsimp only; omega⟩
      · refine run ?_
        refine go T 6 rfl ?_
        refine ltT rfl rfl rfl rfl (by omega) ?_
        refine go T 2 rfl ?_
        refine ltF rfl rfl rfl rfl (by omega) ?_
        refine go T 6 rfl ?_
        refine rndX ?_
        refine go T 1 rfl ?_
        exact Meet_n (s5, p5, b5, 1 + (k : Int)) ⟨rfl, rfl, rfl, trivial⟩ ⟨x5, o5, by dsimp only; omega, by dsimp only; omega, by dsimp only; omega⟩
  rintro ⟨s10, p10, b5, c0⟩ w5 ⟨x5, o10, hb5, hc0⟩
  dsimp only at x5 o10 hb5 hc0
  have hc5 : Chg [] w w5 := hc2.trans' x5.chg
  have hread := o10.read
  refine runX ?_
  refine go T 4 rfl ?_
  refine o1 rfl ?_
  refine op_call rfl rfl rfl (readO_has x5 (rawNm 7)) ?_
  rintro v7 w7 ⟨x7, hc7, h7⟩
  rw [hread] at h7
  obtain ⟨ub, rfl, hob, hfb⟩ : ∃ u, v7 = .tuple #[u, .int .i64 0] ∧ Own w7 5 1 u b5.length (u8s b5) ∧ ∀ h, u.ownBlock = some h → _ ≤ h := h7
  have hsb := hob.bytes
  obtain ⟨Ab, cb, rfl, _, _⟩ := hob.form
  refine go T 10 rfl ?_
  refine o1 rfl ?_
  refine op_appB T rfl rfl rfl rfl rfl rfl rfl rfl rfl (MadeB.nil _ w7) hsb (by simp; omega) (fun v8 w8 m8 hc8 hb8 => ?_)
  rw [List.nil_append] at m8
  refine go T 1 rfl ?_
  refine o1 rfl ?_
  refine op_call rfl rfl rfl (short_has Ar nr cr rest 40 w8 (SliceOf.kept Ru8.kept _ _ _ _ ((hc5.trans' hc7).trans' m8.chg) hr) (by decide)) ?_
  rintro _ w8 ⟨rfl, As, csh, rfl, hsh⟩
  have hshl : (rest.take 40).length ≤ 40 := by rw [List.length_take]; omega
  refine o1 rfl ?_
  refine op_appB T rfl rfl rfl rfl rfl rfl rfl rfl rfl m8 hsh (by omega) (fun v10 w10 m10 hc10 hb10 => ?_)
  have x10 := x7.keep0 m10.chg
  have hfl : (b5 ++ rest.take 40).length ≤ 25312 := by rw [List.length_append]; omega
  have hfirm0 := m10.firm (fun k (hk : k ∈ p10.fp g) => x7.at_.lt k hk)
  obtain ⟨A10, c10, rfl, hcap, hcap2⟩ := m10.form
  unfold maxLen at hcap2
  generalize b5 ++ rest.take 40 = full at *
  clear m8 m10 x7 hob hfb hsb hsh x5 hread
  refine WL_some rfl rfl rfl ?_
  refine op_assign rfl rfl ?_
  refine WL_nil ?_
  refine Then_n ?_
  refine W_seq ?_
  refine W_seq ?_
  refine W_meet (σ := Bool) (fun b => [(2, .int .i64 cut), (8, .pointer (some ⟨g, 0, none⟩)), (10, .slice A10 full.length c10), (60, .bool b)]) (fun b w' => w' = w10 ∧ (b = true ↔ (0 < cut ∧ cut ≤ full.length))) ?_ ?_
  · by_cases h1 : 0 < cut
    · by_cases h2 : cut ≤ full.length
      · refine run ?_
        refine go T 2 rfl ?_
        refine gtT rfl rfl rfl rfl (by omega) ?_
        refine go T 4 rfl ?_
        refine leT rfl rfl rfl rfl (by omega) ?_
        refine go T 2 rfl ?_
        exact Meet_n true ⟨rfl, rfl, rfl, rfl, trivial⟩ ⟨rfl, by simp; omega⟩
      · refine run ?_
        refine go T 2 rfl ?_
        refine gtT rfl rfl rfl rfl (by omega) ?_
        refine go T 4 rfl ?_
        refine leF rfl rfl rfl rfl (by omega) ?_
        refine go T 2 rfl ?_
        exact Meet_n false ⟨rfl, rfl, rfl, rfl, trivial⟩ ⟨rfl, by simp; omega⟩
    · refine run ?_
      refine go T 2 rfl ?_
      refine gtF rfl rfl rfl rfl (by omega) ?_
      refine go T 7 rfl ?_
      exact Meet_n false ⟨rfl, rfl, rfl, rfl, trivial⟩ ⟨rfl, by simp; omega⟩
  rintro bc w10 ⟨rfl, hbc⟩
  refine Then_n ?_
  refine W_meet (σ := Nat) (fun m => [(8, .pointer (some ⟨g, 0, none⟩)), (10, .slice A10 m c10)]) (fun m w' => w' = w10 ∧ m ≤ full.length) ?_ ?_
  · cases bc with
    | true =>
      obtain ⟨h1, h2⟩ := hbc.1 rfl
      obtain ⟨h', hh⟩ : ∃ h', h' = full.length - cut.toNat := ⟨_, rfl⟩
      refine run ?_
      refine go T 6 rfl ?_
      refine sbI rfl rfl rfl rfl (by omega) (by omega) ?_
      refine o1 rfl ?_
      refine op_slice_to T (h' := h') (k := .i64) rfl rfl (some_int (by omega)) rfl rfl (by omega) ?_
      refine go T 2 rfl ?_
      exact Meet_n h' ⟨rfl, rfl, trivial⟩ ⟨rfl, by omega⟩
    | false =>
      refine run ?_
      refine go T 2 rfl ?_
      exact Meet_n full.length ⟨rfl, rfl, trivial⟩ ⟨rfl, Nat.le_refl _⟩
  rintro m w10 ⟨rfl, hm⟩
  refine Then_n ?_
  have hBl0 : (full.take m).length = m := by rw [List.length_take]; omega
  have hfirm : Firm (p10.fp g) w10 (fun w => SliceOf Ru8 w (.slice A10 m c10) (full.take m)) := fun w' hc' => (hfirm0 w' hc').take (by omega)
  generalize full.take m = B at *
  subst hBl0
  have hBl : B.length ≤ 25312 := by omega
  clear hfirm0 hbc
  refine run ?_
  refine go T 3 rfl ?_
  refine o1 rfl ?_
  obtain ⟨z1, o11⟩ := one_again o10 (may_raw (by decide))
  have hcl10 := o10.calls
  refine op_call rfl rfl rfl (create_has g s10 p10 (rawNm 7) w10 x10.at_ (by rw [rawNm_len]; decide) (by omega)) ?_
  intro v11 w11 hd
  obtain ⟨rfl, hC11, p11, x11, hG11⟩ := fsStep x10 hd
  rw [z1]
  clear z1 hd
  generalize (createM s10 (rawNm 7)).1 = s11 at *
  generalize s10.files.length = i11 at *
  refine go T 6 rfl ?_
  refine o1 rfl ?_
  have hf11 : Firm (p11.fp g) w11 (fun w => SliceOf Ru8 w (.slice A10 B.length c10) B) := fun w' h => hfirm w' (hC11.fps hG11 h)
  obtain ⟨z2, o12, _⟩ := one_append (c := B) o11 (by simp; omega)
  rw [List.nil_append] at o12
  have hcl11 := o11.calls
  refine op_call rfl rfl rfl (append_has g s11 p11 (rawNm 7) A10 _ c10 B w11 x11.at_ hf11 (by omega) (by omega)) ?_
  intro v12 w12 hd
  obtain ⟨rfl, hC12', p12, x12, hG12'⟩ := fsStep x11 hd
  have hC12 := hC11.fps hG11 hC12'
  have hG12 := hG11.trans hG12' hC11.size
  rw [z2]
  clear z2 hd hC12' hG12' hf11
  generalize (appendM s11 (rawNm 7) B).1 = s12 at *
  refine go T 5 rfl ?_
  refine o1 rfl ?_
  obtain ⟨z3, o13, _⟩ := one_sync o12
  have hcl12 := o12.calls
  refine op_call rfl rfl rfl (sync_has g s12 p12 (rawNm 7) w12 x12.at_ (by omega)) ?_
  intro v13 w13 hd
  obtain ⟨rfl, hC13', p13, x13, hG13'⟩ := fsStep x12 hd
  have hC13 := hC12.fps hG12 hC13'
  have hG13 := hG12.trans hG13' hC12.size
  rw [z3]
  clear z3 hd hC13' hG13'
  generalize (syncM s12 (rawNm 7)).1 = s13 at *
  refine go T 5 rfl ?_
  refine o1 rfl ?_
  obtain ⟨z4, o14, l14⟩ := one_syncDir o13
  have hcl13 := o13.calls
  refine op_call rfl rfl rfl (syncDir_has g s13 p13 w13 x13.at_ (by omega)) ?_
  intro v14 w14 hd
  obtain ⟨rfl, hC14', p14, x14, hG14'⟩ := fsStep x13 hd
  have hC14 := hC13.fps hG13 hC14'
  rw [z4]
  clear z4 hd hC14' hG14' hG13 hG12 hG11
  generalize (syncDirM s13).1 = s14 at *
  have hs14 := hfirm w14 hC14
  clear hfirm hC14 hC13 hC12 hC11 x13 x12 x11 x10 o13 o12 o11 o10
  refine go T 5 rfl ?_
  refine o1 rfl ?_
  refine op_call rfl rfl rfl (rscan2_has A10 _ c10 B w14 hs14 (by omega)) ?_
  rintro _ w15 ⟨um, rfl, hc15, hom, hfm⟩
  obtain ⟨hrs, hen, htk, h12, hle⟩ := rscanM_front B.length B (Nat.le_refl _)
  have x15 := x14.keep0 hc15
  obtain ⟨Am, cm, rfl, _, _⟩ := hom.form
  have hcl14 := o14.calls
  cases hok : (rscanM B).2.2 with
  | false =>
    refine go T 12 rfl ?_
    refine o1 rfl ?_
    refine op_call rfl rfl rfl (openSpoilt_has x15 7 (by decide) B (by omega) o14.read hok) ?_
    rintro _ w16 ⟨hc16, rfl⟩
    refine go T 18 rfl ?_
    refine eqT rfl rfl rfl rfl (by omega) ?_
    refine go T 9 rfl ?_
    exact post1 (.inl rfl) rfl rfl ⟨hc2.trans' (x15.keep0 hc16).chg, rfl⟩
  | true =>
    have hopen := openT_has x15 7 (by decide) o14 l14 (by omega) (by omega) (by omega) hok (by omega)
    generalize rscanM B = q at *
    obtain ⟨rs, en, okk⟩ := q
    dsimp only at hok hrs hen htk h12 hle hom hopen hfm ⊢
    subst hok
    refine go T 12 rfl ?_
    refine o1 rfl ?_
    refine op_call rfl rfl rfl hopen ?_
    rintro _ w16 ⟨hC16, gs, u16, s16, p16, c16, i16, rfl, x16, o16, l16, hc16le, hG16, hgs, hu16⟩
    clear hopen
    unfold ptrV
    have hom16 := hom.keep hC16 (fun k hk hm => by have := x14.at_.lt k hm; have := hfm k hk; omega)
    have hoffl : (offs rs).length = rs.length := offs_length rs
    have hfm15 : ∀ k, (Value.slice Am rs.length cm).ownBlock = some k → k < w15.heap.size := fun k hk => hom.lt hk
    refine go T 21 rfl ?_
    refine neF rfl rfl rfl rfl (by omega) ?_
    refine go T 3 rfl ?_
    refine o1 rfl ?_
    refine op_call rfl rfl rfl (sameR_has x16 o16.read hrs (by omega) hom16) ?_
    rintro _ w17 ⟨hc17, rfl⟩
    refine go T 9 rfl ?_
    refine o1 rfl (op_build T rfl rfl rfl rfl rfl rfl ?_)
    refine o1 rfl ?_
    refine op_alloc T rfl rfl (fun g17 w18 hs18 hc18 hg18 => ?_)
    have hg18 : Blk w18 g17 32 [.int .i64 0, .int .i64 0, .string (str []), .string (str [])] := hg18
    have hs18 : w17.heap.size ≤ g17 := hs18
    refine op0 rfl rfl ?_
    refine op_store_agg T rfl rfl rfl rfl rfl rfl hg18 (by exact Nat.le_of_ble_eq_true rfl) (fun w19 hc19 hg19 _ => ?_)
    have hg19 : Blk w19 g17 32 (recL moreR) := hg19
    have hc1719 : Chg [] w17 w19 := hc18.trans hc19 (fun k hk hlt => by simp at hk; omega)
    clear hg18
    have x19 := (x16.keep0 hc17).keep0 hc1719
    have hom19 := (hom16.keep0 hc17).keep0 hc1719
    have hlt16 : ∀ k ∈ p16.fp g, k < w16.heap.size := fun k hk => x16.fs.at_.lt k hk
    have hgs16 : gs < w16.heap.size := x16.seg.blk.lt
    have hu16l : ∀ k, u16.ownBlock = some k → k < w16.heap.size := fun k hk => x16.seg.own.lt hk
    have hz17 := hc17.size
    have hz16 := hC16.size
    have hz15 := hc15.size
    have hz19 := hc1719.size
    have hg19l := hg19.lt
    have hml := bodyM_len moreR_ok
    have hmsl := sealM_length (bodyM moreR)
    have hel : (encs rs).length ≤ 25312 := by omega
    obtain ⟨z5, o20, ll20⟩ := one_append (c := sealM (bodyM moreR)) o16 (by omega)
    have hE : encs rs ++ sealM (bodyM moreR) = encs (rs ++ [moreR]) := by rw [encs_append, encs_one]
    have hE2 : (encs (rs ++ [moreR])).length ≤ 30000 := by rw [← hE, List.length_append]; omega
    rw [hE] at o20
    have l20 := ll20 _ l16
    have hcl16 := o16.calls
    have hmout : ∀ k, (Value.slice Am rs.length cm).ownBlock = some k → k ∉ p16.fp g := fun k hk hm => by
      rcases hG16 k hm with h | h
      · have := x14.at_.lt k h; have := hfm k hk; omega
      · have := hfm15 k hk; omega
    refine go T 5 rfl ?_
    refine o1 rfl (op_load_agg T rfl rfl rfl rfl hg19 (by exact Nat.le_of_ble_eq_true rfl) (by exact rfl) ?_)
    refine o1 rfl ?_
    refine op_call rfl rfl rfl (appendT_has x19 moreR moreR_ok (by omega) (by omega) (by omega) z5) ?_
    rintro _ w20 ⟨rfl, hC20, p20, u20, x20, hG20, hb20⟩
    rw [hoffl]
    have hom20 := hom19.keep hC20 (fun k hk hm => by
      rcases List.mem_append.1 hm with hm | hm
      · exact hmout k hk hm
      rcases List.mem_cons.1 hm with rfl | hm
      · have := hfm15 k hk; omega
      · have := hfm15 k hk; have := hu16 k (by simpa using hm); omega)
    have hg20 := hg19.keep hC20 (fun hm => by
      rcases List.mem_append.1 hm with hm | hm
      · have := hlt16 _ hm; omega
      rcases List.mem_cons.1 hm with rfl | hm
      · omega
      · have := hu16l _ (by simpa using hm); omega)
    have hz20 := hC20.size
    generalize (appendM s16 (rawNm 7) (sealM (bodyM moreR))).1 = s20 at *
    have hcl20 := o20.calls
    obtain ⟨z6, o21, ll21⟩ := one_sync o20
    have l21 := ll21 _ l20
    refine go T 11 rfl ?_
    refine neF rfl rfl rfl rfl (by omega) ?_
    refine go T 4 rfl ?_
    refine neF rfl rfl rfl rfl (by omega) ?_
    refine go T 3 rfl ?_
    refine o1 rfl ?_
    refine op_call rfl rfl rfl (syncT_has x20 (by omega)) ?_
    rintro _ w21 ⟨rfl, hC21, p21, x21, hG21⟩
    rw [z6]
    have hom21 := hom20.keep hC21 (fun k hk hm => by
      rcases hG20 k hm with h | h
      · exact hmout k hk h
      · have := hfm15 k hk; omega)
    have hg21 := hg20.keep hC21 (fun hm => by
      rcases hG20 _ hm with h | h
      · have := hlt16 _ h; omega
      · omega)
    generalize (syncM s20 (rawNm 7)).1 = s21 at *
    have hcl21 := o21.calls
    have o22 := one_crash o21 l21
    have l22 := one_crash_lasts o21 l21
    rw [List.take_length] at o22
    refine neF rfl rfl rfl rfl (by omega) ?_
    refine go T 9 rfl ?_
    refine o1 rfl ?_
    refine op_call rfl rfl rfl (crashO_has x21.fs 0 (SliceOf.nil Ri64 w21) (by omega)) ?_
    rintro _ w22 ⟨x22, hc22, gc, pc, rfl, y22⟩
    unfold ptrV
    have hok2 : ∀ r ∈ rs ++ [moreR], RecOk r := fun r hr => by
      rcases List.mem_append.1 hr with hr | hr
      · exact hrs r hr
      · simp at hr; subst hr; exact moreR_ok
    have hl2 : (rs ++ [moreR]).length = rs.length + 1 := by simp
    have hopen := openT_has y22 7 (by decide) o22 l22 (by omega) (by omega) (by omega) (by rw [rscanM_encs hok2]) (by rw [rscanM_encs hok2]; dsimp only; omega)
    rw [rscanM_encs hok2] at hopen
    dsimp only at hopen
    refine o1 rfl ?_
    refine op_call rfl rfl rfl hopen ?_
    rintro _ w23 ⟨hC23, gt, u23, s23, p23, c23, i23, rfl, x23, o23, _, _, _, _, _⟩
    clear hopen
    unfold ptrV
    have hom21l : ∀ k, (Value.slice Am rs.length cm).ownBlock = some k → k < w21.heap.size := fun k hk => hom21.lt hk
    have hom23 := (hom21.keep0 hc22).keep hC23 (fun k hk hm => by have := y22.fresh k hm; have := hom21l k hk; omega)
    have hg23 := (hg21.keep0 hc22).keep hC23 (fun hm => by have := y22.fresh _ hm; have := hg21.lt; omega)
    have hend : Chg [] w w23 := (hc2.trans' x21.chg).trans' x23.chg
    clear hom20 hom21 hom19 hom16 hom hg19 hg20 hg21 x19 x20 x16 x15 x14 x22 y22
    refine go T 8 rfl ?_
    refine F.W_walkr 9 8 fol (by kernel_rfl) (by kernel_rfl) ?_
    refine F.Walk.plain rfl (by intro val w_ hR hp; exact op_move rfl rfl ⟨Chg.refl _ _, rfl⟩) ?_; dsimp only [List.nil_append, List.cons_append]
    refine F.Walk.plain rfl (by intro val w_ hR hp; exact op_eql rfl rfl rfl (fun hc => ⟨Chg.refl _ _, rfl⟩) (fun hc => False.elim (by omega))) ?_; dsimp only [List.nil_append, List.cons_append]
    refine F.Walk.plain rfl (by intro val w_ hR hp; exact op_move rfl rfl ⟨Chg.refl _ _, rfl⟩) ?_; dsimp only [List.nil_append, List.cons_append]
    refine F.Walk.guardT rfl rfl rfl (fun _ => rfl) (by intro val w_ hR hp; exact op_move rfl rfl ⟨Chg.refl _ _, rfl⟩) ?_; dsimp only [List.nil_append, List.cons_append]
    refine F.Walk.guardT rfl rfl rfl (fun _ => rfl) (by intro val w_ hR hp; exact op_move rfl rfl ⟨Chg.refl _ _, rfl⟩) ?_; dsimp only [List.nil_append, List.cons_append]
    refine F.Walk.guardR (fun v w' => Own w' 32 4 v rs.length (rs.flatMap recL) ∧ ∀ k, v.ownBlock = some k → w23.heap.size ≤ k) rfl rfl rfl (fun _ => rfl) (fun v a b h hab => ⟨h.1.keep0 hab, h.2⟩) ?_ ?_
    · intro val w_ hR hp
      have homw := hom23.keep0 hR
      refine op_append T (n := 0) (xs := []) (m := rs.length) (news := rs.flatMap recL) rfl rfl rfl rfl rfl rfl rfl rfl (Own.nil _ _ _) (show (rs.flatMap recL).length = rs.length * 4 from rk_len (f := recL) (k := 4) (fun r => rfl) rs) ?_ (by unfold maxLen; omega) (by show (0 + rs.length) * 48 ≤ _; omega) ?_
      · intro j u hj
        obtain ⟨gg, _, ⟨c', h2⟩, h3⟩ := homw.cell hj
        injection h2 with h2
        refine ⟨⟨_, h2, by rw [add_plain]; exact h3⟩, ?_⟩
        obtain ⟨r, hr, hu⟩ := List.mem_flatMap.1 (List.mem_of_getElem? hj)
        exact recL_one r u hu
      · intro v w6 hu6 hc6 hb6 _
        rw [Nat.zero_add, List.nil_append] at hu6
        refine ⟨hc6.mono (fun k hk _ => by simp [Value.ownBlock] at hk), hu6, fun k hk => ?_⟩
        rcases hb6 with hb | ⟨h, hb, hge⟩
        · rw [hb] at hk; simp [Value.ownBlock] at hk
        · rw [hb] at hk; injection hk with hk; have := hR.size; omega
    dsimp only [List.nil_append, List.cons_append]
    refine F.Walk.guardT (v := .agg (recL moreR).toArray) rfl rfl rfl (fun _ => rfl) (by intro val w_ hR hp; exact op_load_agg T rfl rfl rfl rfl (Blk.keep0 hg23 hR) (Nat.le_of_ble_eq_true rfl) rfl ⟨Chg.refl _ _, rfl⟩) ?_; dsimp only [List.nil_append, List.cons_append]
    refine F.Walk.guardR (fun v w' => ∃ g7, v = .slice (some ⟨g7, 0, none⟩) 1 1 ∧ Blk w' g7 32 (recL moreR)) rfl rfl rfl (fun _ => rfl) (fun v a b ⟨g7, h1, h2⟩ hab => ⟨g7, h1, h2.keep0 hab⟩) ?_ ?_
    · intro val w_ hR hp
      exact op_buildSlice T rfl rfl rfl rfl rfl rfl rfl (fun g7 w7 hs7 hc7 hg7 => ⟨hc7, g7, rfl, hg7⟩)
    dsimp only [List.nil_append, List.cons_append]
    refine F.Walk.guardQ rfl (fun v w' => Own w' 32 4 v (rs ++ [moreR]).length ((rs ++ [moreR]).flatMap recL)) rfl rfl rfl (fun _ => rfl) (fun v a b h hab => h.keep0 hab) ?_ ?_
    · intro val w_ hR hp
      obtain ⟨ho5, hf5⟩ : Own w_ 32 4 (val 5) rs.length (rs.flatMap recL) ∧ ∀ k, (val 5).ownBlock = some k → w23.heap.size ≤ k := hp 5 rfl _ _ rfl rfl
      obtain ⟨g7, he7, hg7⟩ : ∃ g7, val 7 = .slice (some ⟨g7, 0, none⟩) 1 1 ∧ Blk w_ g7 32 (recL moreR) := hp 7 rfl _ _ rfl rfl
      refine op_append T (v := val 5) (n := rs.length) (xs := rs.flatMap recL) (m := 1) (news := recL moreR) rfl rfl rfl (congrArg some he7) rfl rfl rfl rfl ho5 rfl ?_ (by unfold maxLen; omega) (by show (rs.length + 1) * 48 ≤ _; omega) ?_
      · intro j u hj
        exact ⟨⟨_, rfl, by rw [add_plain]; exact hg7.cell hj⟩, recL_one _ u (List.mem_of_getElem? hj)⟩
      · intro v w6 hu6 hc6 hb6 _
        refine ⟨⟨_, fun k hk => hf5 k (by simpa using hk), hc6⟩, ?_⟩
        rw [List.length_append, List.flatMap_append]
        simpa using hu6
    dsimp only [List.nil_append, List.cons_append]
    refine F.Walk.fin ?_
    intro val w24 hc24 hp
    have ho24 : Own w24 32 4 (val 8) (rs ++ [moreR]).length ((rs ++ [moreR]).flatMap recL) := hp 8 (by omega) _ _ rfl rfl rfl
    clear hp
    refine WL_sub (e' := [(131, .bool true), (132, .pointer (some ⟨gt, 0, none⟩)), (137, val 8)]) ⟨rfl, rfl, rfl, trivial⟩ ?_
    generalize val 8 = v8 at ho24
    obtain ⟨A8, c8, rfl, _, _⟩ := ho24.form
    have x24 := x23.keep0 hc24
    refine runL ?_
    refine o1 rfl ?_
    refine op_call rfl rfl rfl (sameR_has x24 o23.read hok2 (by omega) ho24) ?_
    rintro _ w25 ⟨hc25, rfl⟩
    refine go T 5 rfl ?_
    exact post1 (.inl rfl) rfl rfl ⟨(hend.trans' hc24).trans' hc25, rfl⟩
end Go.Proofs.YtbhnplghnhafiaaGreatDoor.Tryz
/-! From a law's walk to its row: arguments opened by their types' shape; arguments stay; the contract. -/
set_option linter.unusedVariables false
set_option linter.unusedSimpArgs false
namespace Go.Vc
open Go Go.RowKit Go.ChangeShapes Go.WideShapes Go.ChangeAt

/-- A reading of one cell at type t gives some a with R. -/
def Opens (P : Program) (t : TypeId) {α : Type} (R : World → Value → α → Prop) : Prop :=
  ∀ {H : Type} (enc : TypeId × Value → H) (w : World) (base : Nat) (spare : Nat → Bool) (held : Bool) (fuel : Nat) (cs : List Value) (x : DataW H × List MemPlace),
    DataW.trod enc P w base spare held fuel t cs = some x → ∃ u a, cs = [u] ∧ R w u a

theorem list_of {α : Type} {p : Nat → α → Prop} : ∀ n, (∀ i, i < n → ∃ a, p i a) → ∃ L : List α, L.length = n ∧ ∀ i a, L[i]? = some a → p i a
  | 0, _ => ⟨[], rfl, fun i a h => by simp at h⟩
  | n + 1, h => by
    obtain ⟨L, hl, hp⟩ := list_of n (fun i hi => h i (by omega))
    obtain ⟨a, ha⟩ := h n (by omega)
    refine ⟨L ++ [a], by simp [hl], fun i b hb => ?_⟩
    by_cases hi : i < L.length
    · rw [List.getElem?_append_left hi] at hb; exact hp i b hb
    · have : i = L.length := by have := (List.getElem?_eq_some_iff.1 hb).1; simp at this; omega
      subst this
      rw [List.getElem?_append_right (Nat.le_refl _)] at hb
      simp at hb; subst hb; rw [hl]; exact ha

theorem Opens.slice {P : Program} {t e : TypeId} {α : Type} {R : World → Value → α → Prop} (ht : P.underlying t = some (.slice e)) (hc : P.cellsOf e = 1) (hR : Opens P e R) : Opens P t (SliceOf R) := by
  intro H enc w base spare held fuel cs x h
  rcases Go.Deep.open_slice1 ht hc h with ⟨rfl, _⟩ | ⟨a, len, cap, m, n, V, D, Pl, rfl, hb, hl, hm, hmm, _, hx⟩
  · exact ⟨_, [], rfl, SliceOf.nil _ _⟩
  · have hlm : len ≤ m := by rw [hmm]; split <;> omega
    obtain ⟨L, hlen, hL⟩ := list_of (p := fun i a' => R w (V i) a') len (fun i hi => by
      obtain ⟨_, htr⟩ := hx i (by omega)
      obtain ⟨u, a', hu, hr⟩ := hR enc w base spare held n _ _ htr
      injection hu with hu _
      subst hu
      exact ⟨a', hr⟩)
    refine ⟨_, L, rfl, SliceOf.mk hlen.symm (by omega) hm fun i a' ha => ?_⟩
    have hi : i < len := by have := (List.getElem?_eq_some_iff.1 ha).1; omega
    exact ⟨a, V i, rfl, (hx i (by omega)).1, hL i a' ha⟩

theorem Opens.u8 {P : Program} {t : TypeId} (ht : P.underlying t = some (.int .u8)) : Opens P t Ru8 := by
  intro H enc w base spare held fuel cs x h
  obtain ⟨n, rfl, _, hw⟩ := DataW.trod_int ht h
  have hb : 0 ≤ n ∧ n ≤ 255 := by simp [Lit.wf, IntKind.min, IntKind.max, IntKind.signed, IntKind.bits] at hw; omega
  refine ⟨_, UInt8.ofNat n.toNat, rfl, ?_⟩
  unfold Ru8
  have : ((UInt8.ofNat n.toNat).toNat : Int) = n := by
    rw [UInt8.toNat_ofNat']; omega
  rw [this]
theorem Opens.i64 {P : Program} {t : TypeId} (ht : P.underlying t = some (.int .i64)) : Opens P t Ri64 := by
  intro H enc w base spare held fuel cs x h
  obtain ⟨n, rfl, _, hw⟩ := DataW.trod_int ht h
  have hb : -9223372036854775808 ≤ n ∧ n ≤ 9223372036854775807 := by simp [Lit.wf, IntKind.min, IntKind.max, IntKind.signed, IntKind.bits] at hw; omega
  exact ⟨_, n, rfl, rfl, hb.1, hb.2⟩
theorem Opens.bool {P : Program} {t : TypeId} (ht : P.underlying t = some .bool) : Opens P t Rbool := by
  intro H enc w base spare held fuel cs x h
  obtain ⟨b, rfl, _⟩ := DataW.trod_bool ht h
  exact ⟨_, b, rfl, rfl⟩
theorem Opens.str {P : Program} {t : TypeId} (ht : P.underlying t = some .string) : Opens P t Rstr := by
  intro H enc w base spare held fuel cs x h
  obtain ⟨s, rfl, _, hs⟩ := DataW.trod_string ht h
  exact ⟨_, s, rfl, rfl, hs⟩

/-- An argument, opened. -/
theorem Opens.arg {P : Program} {t : TypeId} {α : Type} {R : World → Value → α → Prop} (h : Opens P t R) {w : World} {r : Reach} {base : Nat} {v : Value} {H : Type} {enc : TypeId × Value → H} {sp : Nat → Bool} {held : Bool} {d : DataW H} {ps : List MemPlace} {b0 : Nat}
    (hd : P.underlying t = some .bool ∨ P.underlying t = some .string ∨ (∃ k, P.underlying t = some (.int k)) ∨ ∃ e, P.underlying t = some (.slice e))
    (hval : Value.okWide P w r base t v) (ht : DataW.Trod enc P w b0 sp held t v d ps) : ∃ a, R w v a := by
  obtain ⟨fuel, hf⟩ := ht
  obtain ⟨u, a, hu, hr⟩ := h enc w b0 sp held fuel _ _ hf
  have hv : v.cells = #[v] := by
    rcases hd with hd | hd | ⟨k, hd⟩ | ⟨e, hd⟩
    · obtain ⟨b, rfl⟩ := okWide_bool hd hval; rfl
    · obtain ⟨b, rfl⟩ := okWide_string hd hval; rfl
    · obtain ⟨b, rfl⟩ := okWide_int hd hval; rfl
    · obtain ⟨a, l, c, rfl⟩ := okWide_slice hd hval; rfl
  rw [hv] at hu
  simp at hu
  subst hu
  exact ⟨a, hr⟩

theorem args_stay {H : Type} {enc : TypeId × Value → H} {P : Program} (hl : laidOutB P = true) {W W' : World} (hb : Below W.heap.size W W') :
    ∀ (ts : List TypeId) (vs : List Value) (ds : List (DataW H)) (ps : List MemPlace), (∀ t ∈ ts, P.readableRec t = true ∧ t < P.types.size) → DataW.TrodAll enc P W 0 (fun _ => true) true ts vs ds ps → (∀ x ∈ ps, x.block < W.heap.size) →
      DataW.TrodAll enc P W' 0 (fun b => decide (b < W.heap.size)) true ts vs ds ps
  | [], vs, ds, ps, _, h, _ => by
    obtain ⟨rfl, rfl, rfl⟩ := trodAll_nil h
    exact trodAll_mk0
  | t :: ts, vs, ds, ps, ht, h, hlt => by
    obtain ⟨v, vs', d, ds', p, q, rfl, rfl, rfl, h0, r0⟩ := trodAll_cons h
    exact trodAll_cons_mk (Below.trod hl (ht t (by simp)).1 (ht t (by simp)).2 h0 hb (fun x hx => hlt x (by simp [hx])))
      (args_stay hl hb ts vs' ds' q (fun t' h' => ht t' (by simp [h'])) r0 (fun x hx => hlt x (by simp [hx])))

/-- The contract of a law's row, from its walk. -/
theorem law_lifted {C : Checked} {os : Os} {f : FuncId} {fn : Func} {s : ChangeSpec} {H : Type} {enc : TypeId × Value → H} {tb : TypeId}
    (own : ownKnob C.prog.godebug = none) (laid : laidOutB C.prog = true) (started : os.Started) (noInit : C.prog.inits.idxOf? f = none) (hfn : C.prog.funcs[f]? = some fn)
    (hvars : s.vars = []) (hres : fn.resultTypes = #[tb]) (htb : C.prog.underlying tb = some .bool)
    (hparams : ∀ t ∈ fn.params.toList, C.prog.readableRec t = true ∧ t < C.prog.types.size)
    (hspec : ∀ ds : List (DataW H), ds.length = fn.params.size → s.fn H ds = { results := [.lit (.bool true)], args := ds })
    (witness : ∃ (w : World) (tape : Tape) (i : Input), w.os = os ∧ (w.forCall tape i).Shaped C.prog ∧ i.vars = [] ∧ Input.okWide C.prog (w.forCall tape i) .any w.heap.size f i ∧
      s.pre6 enc C.prog fn [] false (w.forCall tape i).memory i.args ∧ ({} : Assume).holds C.prog (lone (Frame.enter C.prog f i.args .normal) [] (w.forCall tape i)))
    (walk : ∀ (W : World) (base : Nat) (args : Array Value) (ds : List (DataW H)) (ps : List MemPlace), (∀ (j : Nat) t v, fn.params[j]? = some t → args[j]? = some v → Value.okWide C.prog W .any base t v) →
      DataW.TrodAll enc C.prog W 0 (fun _ => true) true fn.params.toList args.toList ds ps → Calls C.prog f args W fun e W' => e = .returned (.bool true) ∧ Chg [] W W') :
    ReturnsInHanded {} C os f .any (s.pre6 enc C.prog fn [] false) (s.post enc C.prog fn false true false false) := by
  refine returnsInHanded_of_change own started noInit hfn witness ?_
  intro W base args ds gs before hval hW _ _
  have hW' := hW
  obtain ⟨p, q, hA, hV, rfl, hfz, hnd⟩ := hW
  rw [hvars] at hV
  obtain ⟨rfl, rfl⟩ := trodVars_none hV
  refine (walk W base args ds p hval hA).mono fun e W' ⟨he, hc⟩ => ?_
  subst he
  have bel := hc.below
  have hlen : ds.length = fn.params.size := by
    have := trodAll_length hA
    have h2 := this.1; have h3 := this.2
    simp at h2 h3 ⊢
    omega
  have hsp := hspec ds hlen
  refine ⟨_, rfl, ds, [], p ++ [], [], p, [], hW', ?_, ?_, ?_, bel.frame _, fun h => by cases h⟩
  · rw [List.append_nil, hsp, hres]
    exact trodAll_mk1 (shut_bool htb _)
  · rw [List.append_nil, hsp]
    exact args_stay laid bel _ _ _ _ hparams hA (fun x hx => hW'.lt x (by simp [hx]))
  · rw [hvars, List.append_nil, hsp]; exact rfl
end Go.Vc
/-! Arguments that are slices of structs, opened. -/
set_option linter.unusedVariables false
set_option linter.unusedSimpArgs false
namespace Go.Vc
open Go Go.RowKit Go.ChangeShapes Go.WideShapes Go.ChangeAt
/-- A reading at type t, of k cells, gives some a with R. -/
def OpensK (P : Program) (t : TypeId) (k : Nat) {α : Type} (R : World → List Value → α → Prop) : Prop :=
  ∀ {H : Type} (enc : TypeId × Value → H) (w : World) (base : Nat) (spare : Nat → Bool) (held : Bool) (fuel : Nat) (cs : List Value) (x : DataW H × List MemPlace),
    DataW.trod enc P w base spare held fuel t cs = some x → ∃ a, cs.length = k ∧ R w cs a
theorem OpensK.slice {P : Program} {t e : TypeId} {k : Nat} {α : Type} {R : World → List Value → α → Prop} (ht : P.underlying t = some (.slice e)) (hc : P.cellsOf e = k) (hR : OpensK P e k R) : Opens P t (SliceK k R) := by
  intro H enc w base spare held fuel cs x h
  rcases Go.Deep.open_slice ht h with ⟨rfl, _⟩ | ⟨a, len, cap, m, n, D, Pl, rfl, hb, hl, hm, hmm, _, hx⟩
  · exact ⟨_, [], rfl, SliceK.nil _ _ _⟩
  · have hlm : len ≤ m := by rw [hmm]; split <;> omega
    obtain ⟨L, hlen, hL⟩ := list_of (p := fun i a' => ∃ cs', cs'.length = k ∧ (∀ j u, cs'[j]? = some u → w.cell? (a.add (i * k + j)) = some u) ∧ R w cs' a') len (fun i hi => by
      obtain ⟨cs', h1, htr⟩ := hx i (by omega)
      rw [hc] at h1
      obtain ⟨_, hl', hcell⟩ := World.cells?_some h1
      obtain ⟨a', _, hr⟩ := hR enc w base spare held n _ _ htr
      refine ⟨a', cs', hl', fun j u hu => ?_, hr⟩
      have hj : j < k := by have := (List.getElem?_eq_some_iff.1 hu).1; omega
      have := hcell j hj
      rw [add_of_add] at this
      rw [this]; exact hu)
    refine ⟨_, L, rfl, ?_⟩
    unfold SliceK
    refine ⟨some a, cap, by rw [hlen], by omega, hm, fun i a' ha => ?_⟩
    obtain ⟨cs', h1, h2, h3⟩ := hL i a' ha
    exact ⟨a, cs', rfl, h1, h2, h3⟩
/-- A field of a struct. -/
theorem trod_field {H : Type} {enc : TypeId × Value → H} {P : Program} {w : World} {base : Nat} {spare : Nat → Bool} {held : Bool} {fuel : Nat} {t : TypeId} {cs : List Value} {x : DataW H × List MemPlace} {fs : Array Field} (ht : P.underlying t = some (.struct fs))
    (h : DataW.trod enc P w base spare held fuel t cs = some x) : cs.length = P.cellsOf t ∧ ∃ n, ∀ (i : Nat) (f : Field), fs[i]? = some f → ∃ y, DataW.trod enc P w base spare held n f.type ((cs.drop f.offset).take (P.cellsOf f.type)) = some y := by
  obtain ⟨xs, n, _, _, h1, h2, h3⟩ := DataW.trod_struct ht h
  refine ⟨h1, n, fun i f hf => ?_⟩
  have hi := (Array.getElem?_eq_some_iff.1 hf).1
  rw [h3 i f hf]
  exact ⟨_, List.getElem?_eq_getElem (by omega)⟩
end Go.Vc
/-! Records that come in. -/
set_option linter.unusedVariables false
set_option linter.unusedSimpArgs false
namespace Go.Proofs.YtbhnplghnhafiaaGreatDoor.Tryz
open Go Go.Vc Go.RowKit Go.ChangeShapes Go.WideShapes Go.ChangeAt
set_option maxRecDepth 100000 in
theorem recOpens : OpensK Go.Proofs.Tryz.prog 32 4 RrecK := by
  intro H enc w base spare held fuel cs x h
  obtain ⟨hl, n, hf⟩ := trod_field Go.Proofs.Tryz.underlying32 h
  have hl : cs.length = 4 := hl.trans (by kernel_rfl)
  match cs, hl with
  | [c0, c1, c2, c3], _ =>
  obtain ⟨y0, h0⟩ := hf 0 _ rfl
  have h0 : DataW.trod enc Go.Proofs.Tryz.prog w base spare held n 3 (([c0, c1, c2, c3].drop 0).take (Go.Proofs.Tryz.prog.cellsOf 3)) = some y0 := h0
  rw [show Go.Proofs.Tryz.prog.cellsOf 3 = 1 from by kernel_rfl] at h0
  obtain ⟨u0, a0, e0, r0⟩ := (Opens.i64 Go.Proofs.Tryz.underlying3 : Opens Go.Proofs.Tryz.prog 3 _) enc w base spare held n _ _ h0
  obtain rfl : c0 = u0 := by have e0 : [c0] = [u0] := e0; injection e0
  obtain ⟨y1, h1⟩ := hf 1 _ rfl
  have h1 : DataW.trod enc Go.Proofs.Tryz.prog w base spare held n 2 (([c0, c1, c2, c3].drop 1).take (Go.Proofs.Tryz.prog.cellsOf 2)) = some y1 := h1
  rw [show Go.Proofs.Tryz.prog.cellsOf 2 = 1 from by kernel_rfl] at h1
  obtain ⟨u1, a1, e1, r1⟩ := (Opens.i64 Go.Proofs.Tryz.underlying2 : Opens Go.Proofs.Tryz.prog 2 _) enc w base spare held n _ _ h1
  obtain rfl : c1 = u1 := by have e1 : [c1] = [u1] := e1; injection e1
  obtain ⟨y2, h2⟩ := hf 2 _ rfl
  have h2 : DataW.trod enc Go.Proofs.Tryz.prog w base spare held n 9 (([c0, c1, c2, c3].drop 2).take (Go.Proofs.Tryz.prog.cellsOf 9)) = some y2 := h2
  rw [show Go.Proofs.Tryz.prog.cellsOf 9 = 1 from by kernel_rfl] at h2
  obtain ⟨u2, a2, e2, r2⟩ := (Opens.str Go.Proofs.Tryz.underlying9 : Opens Go.Proofs.Tryz.prog 9 _) enc w base spare held n _ _ h2
  obtain rfl : c2 = u2 := by have e2 : [c2] = [u2] := e2; injection e2
  obtain ⟨y3, h3⟩ := hf 3 _ rfl
  have h3 : DataW.trod enc Go.Proofs.Tryz.prog w base spare held n 9 (([c0, c1, c2, c3].drop 3).take (Go.Proofs.Tryz.prog.cellsOf 9)) = some y3 := h3
  rw [show Go.Proofs.Tryz.prog.cellsOf 9 = 1 from by kernel_rfl] at h3
  obtain ⟨u3, a3, e3, r3⟩ := (Opens.str Go.Proofs.Tryz.underlying9 : Opens Go.Proofs.Tryz.prog 9 _) enc w base spare held n _ _ h3
  obtain rfl : c3 = u3 := by have e3 : [c3] = [u3] := e3; injection e3
  obtain ⟨s2, rfl⟩ := str_of a2; obtain ⟨s3, rfl⟩ := str_of a3; obtain ⟨rfl, _⟩ := r0; obtain ⟨rfl, _⟩ := r1; obtain ⟨rfl, l2⟩ := r2; obtain ⟨rfl, l3⟩ := r3; rw [str_size] at l2 l3; exact ⟨⟨a0, a1, s2, s3⟩, rfl, rfl, l2, l3⟩
end Go.Proofs.YtbhnplghnhafiaaGreatDoor.Tryz
/-! From a walk to a row whose list of laid variables is not empty. -/
set_option linter.unusedVariables false
namespace Go.Vc
open Go Go.ChangeShapes Go.WideShapes Go.ChangeAt Go.RowKit
theorem law_laid {C : Checked} {os : Os} {f : FuncId} {fn : Func} {s : ChangeSpec} {H : Type} {enc : TypeId × Value → H} {tb : TypeId} {L : List (String × DataW Unit)}
    (own : ownKnob C.prog.godebug = none) (laid : laidOutB C.prog = true) (started : os.Started) (noInit : C.prog.inits.idxOf? f = none) (hfn : C.prog.funcs[f]? = some fn)
    (hvars : s.vars = []) (hres : fn.resultTypes = #[tb]) (htb : C.prog.underlying tb = some .bool)
    (hparams : ∀ t ∈ fn.params.toList, C.prog.readableRec t = true ∧ t < C.prog.types.size)
    (hspec : ∀ ds : List (DataW H), ds.length = fn.params.size → s.fn H ds = { results := [.lit (.bool true)], args := ds })
    (witness : ∃ (w : World) (tape : Tape) (i : Input), w.os = os ∧ (w.forCall tape i).Shaped C.prog ∧ i.vars = [] ∧ Input.okWide C.prog (w.forCall tape i) .any w.heap.size f i ∧
      ((s.pre enc C.prog fn [] false (w.forCall tape i).memory i.args ∧ laidMetH C.prog L (w.forCall tape i).memory) ∧ sizedMet enc C.prog fn (OpenSpec.ofChange s) false (w.forCall tape i).memory i.args) ∧ ({} : Assume).holds C.prog (lone (Frame.enter C.prog f i.args .normal) [] (w.forCall tape i)))
    (walk : ∀ (W : World) (base : Nat) (args : Array Value) (ds : List (DataW H)) (ps : List MemPlace), (∀ (j : Nat) t v, fn.params[j]? = some t → args[j]? = some v → Value.okWide C.prog W .any base t v) →
      DataW.TrodAll enc C.prog W 0 (fun _ => true) true fn.params.toList args.toList ds ps → Calls C.prog f args W fun e W' => e = .returned (.bool true) ∧ Chg [] W W') :
    ReturnsInHanded {} C os f .any (fun w args => (s.pre enc C.prog fn [] false w args ∧ laidMetH C.prog L w) ∧ sizedMet enc C.prog fn (OpenSpec.ofChange s) false w args) (s.post enc C.prog fn false true false false) := by
  refine returnsInHanded_of_change_and (X := fun w _ => laidMetH C.prog L w) (fun _ _ _ hh h => h.of_heap hh) own started noInit hfn witness ?_
  intro W base args ds gs before hval hW _ _ _ _
  have hW' := hW
  obtain ⟨p, q, hA, hV, rfl, hfz, hnd⟩ := hW
  rw [hvars] at hV
  obtain ⟨rfl, rfl⟩ := trodVars_none hV
  refine (walk W base args ds p hval hA).mono fun e W' ⟨he, hc⟩ => ?_
  subst he
  have bel := hc.below
  have hlen : ds.length = fn.params.size := by
    have := trodAll_length hA
    have h2 := this.1; have h3 := this.2
    simp at h2 h3 ⊢
    omega
  have hsp := hspec ds hlen
  refine ⟨_, rfl, ds, [], p ++ [], [], p, [], hW', ?_, ?_, ?_, bel.frame _, fun h => by cases h⟩
  · rw [List.append_nil, hsp, hres]
    exact trodAll_mk1 (shut_bool htb _)
  · rw [List.append_nil, hsp]
    exact args_stay laid bel _ _ _ _ hparams hA (fun x hx => hW'.lt x (by simp [hx]))
  · rw [hvars, List.append_nil, hsp]; exact rfl
end Go.Vc
/- RawAny: whatever the arguments that can be read as data, in whatever memory, the call returns true and leaves what was there as it was. No condition. -/
set_option linter.unusedVariables false
namespace Go.Proofs.YtbhnplghnhafiaaGreatDoor
open Go Go.Vc Go.ChangeShapes Go.WideShapes Go.ChangeAt Go.RowKit
theorem rawAny_own : ownKnob Go.Proofs.Tryz.prog.godebug = none := by kernel_rfl
theorem rawAny_laid : laidOutB Go.Proofs.Tryz.prog = true := by kernel_rfl
set_option maxRecDepth 100000 in
theorem rawAny_walk (W : World) (base : Nat) (args : Array Value) {H : Type} {enc : TypeId × Value → H} (ds : List (DataW H)) (ps : List MemPlace) (hval0 : ∀ (j : Nat) t v, Go.Proofs.Tryz.f3.params[j]? = some t → args[j]? = some v → Value.okWide Go.Proofs.Tryz.prog W .any base t v)
    (hA : DataW.TrodAll enc Go.Proofs.Tryz.prog W 0 (fun _ => true) true Go.Proofs.Tryz.f3.params.toList args.toList ds ps) : Calls Go.Proofs.Tryz.prog 3 args W fun e W' => e = .returned (.bool true) ∧ Chg [] W W' := by
  have hval := hval0
  rw [Go.Proofs.Tryz.params3] at hA hval
  obtain ⟨v0, vs0, d0, ds0, p0, q0, hargs, rfl, rfl, h0, r0⟩ := trodAll_cons hA
  obtain ⟨v1, vs1, d1, ds1, p1, q1, rfl, rfl, rfl, h1, r1⟩ := trodAll_cons r0
  obtain ⟨v2, vs2, d2, ds2, p2, q2, rfl, rfl, rfl, h2, r2⟩ := trodAll_cons r1
  obtain ⟨rfl, rfl, rfl⟩ := trodAll_nil r2
  obtain rfl : args = #[v0, v1, v2] := by cases args; simp_all
  obtain ⟨a0, x0⟩ := Opens.arg (OpensK.slice (k := 4) Go.Proofs.Tryz.underlying22 (by kernel_rfl : Go.Proofs.Tryz.prog.cellsOf 32 = 4) Tryz.recOpens) (.inr (.inr (.inr ⟨_, Go.Proofs.Tryz.underlying22⟩))) (hval 0 _ v0 rfl rfl) h0
  obtain ⟨a1, x1⟩ := Opens.arg (Opens.slice Go.Proofs.Tryz.underlying23 (by kernel_rfl : Go.Proofs.Tryz.prog.cellsOf 5 = 1) (Opens.u8 Go.Proofs.Tryz.underlying5)) (.inr (.inr (.inr ⟨_, Go.Proofs.Tryz.underlying23⟩))) (hval 1 _ v1 rfl rfl) h1
  obtain ⟨a2, x2⟩ := Opens.arg (Opens.i64 Go.Proofs.Tryz.underlying3) (.inr (.inr (.inl ⟨_, Go.Proofs.Tryz.underlying3⟩))) (hval 2 _ v2 rfl rfl) h2
  obtain ⟨Aa, ca, rfl, _, _⟩ := SliceK.form x0; obtain ⟨Ab, cb, rfl, _, _⟩ := SliceOf.form x1; obtain ⟨rfl, hb0, hb1⟩ := x2
  refine (Tryz.rawAny_has Aa _ ca a0 Ab _ cb a1 a2 W x0 x1 ⟨hb0, hb1⟩).2.mono ?_
  rintro e W' ⟨v, rfl, hc, rfl⟩
  exact ⟨rfl, hc⟩
theorem rawAny_door (os : Os) (args : Array Value) : laidMetH Go.Proofs.Tryz.prog Rows.rawAnyRow.laid ((World.doorLaid Go.Proofs.Tryz.prog 400 os).forCall (fun _ _ => 0) ⟨#[], args, []⟩).memory :=
  laidMetH_of_parts3 (fuel := 8) (laidMet_of_run' 8 (by kernel_rfl) (by kernel_rfl)) (by kernel_rfl) (by kernel_rfl)
set_option maxRecDepth 100000 in
theorem rawAny_lifted (os : Os) (started : os.Started) (H : Type) (enc : TypeId × Value → H) :
    ReturnsInHanded {} Go.Proofs.Tryz.checked os 3 .any (fun w args => (Rows.rawAnySpec.pre enc Go.Proofs.Tryz.prog Go.Proofs.Tryz.f3 [] false w args ∧ laidMetH Go.Proofs.Tryz.prog Rows.rawAnyRow.laid w) ∧ sizedMet enc Go.Proofs.Tryz.prog Go.Proofs.Tryz.f3 (OpenSpec.ofChange Rows.rawAnySpec) false w args) (Rows.rawAnySpec.post enc Go.Proofs.Tryz.prog Go.Proofs.Tryz.f3 false true false false) := by
  refine law_laid (C := Go.Proofs.Tryz.checked) (tb := 4) (L := Rows.rawAnyRow.laid) rawAny_own rawAny_laid started (by kernel_rfl) Go.Proofs.Tryz.func3 rfl rfl Go.Proofs.Tryz.underlying4 ?_ ?_
    (ChangeSpec.witness_shaped (enc := enc) (C := Go.Proofs.Tryz.checked) (os := os) (X := fun w _ => laidMetH Go.Proofs.Tryz.prog Rows.rawAnyRow.laid w) false (World.doorLaid Go.Proofs.Tryz.prog 400 os) #[.slice none 0 0, .slice none 0 0, .int .i64 0] 8 rfl (World.shaped_of_RefB (by kernel_rfl) (by kernel_rfl)) (by kernel_rfl) (by kernel_rfl) (by kernel_rfl) (rawAny_door os _)) (fun W base args ds ps hval hA => rawAny_walk W base args ds ps hval hA)
  · intro t ht
    rw [Go.Proofs.Tryz.params3] at ht
    simp only [List.mem_cons, List.not_mem_nil, or_false] at ht
    rcases ht with rfl | rfl | rfl
    all_goals exact ⟨by kernel_rfl, of_decide_eq_true (by kernel_rfl)⟩
  · intro ds hd
    rw [Go.Proofs.Tryz.params3] at hd
    match ds, hd with
    | [d0, d1, d2], _ => rfl
theorem rawAny_holds : Rows.RawAnySaid :=
  OpenClaim.holds_of_wide 3 Go.Proofs.Tryz.f3 rfl rfl rfl rfl rfl rfl rfl ⟨rfl, rfl, rfl, rfl, rfl⟩ rfl rfl rfl rfl rfl (by kernel_rfl) Go.Proofs.Tryz.func3 (by kernel_rfl)
    (of_decide_eq_true (by kernel_rfl)) (by unfold Func.isWrapper; first | (rw [if_pos (by decide +kernel)]; kernel_rfl) | (rw [if_neg (by decide +kernel)]; exact ⟨rfl, rfl⟩))
    (fun os started H enc _ => rawAny_lifted os started H enc)
theorem rawAny_card : Rows.RawAnyCardSaid :=
  Claim7.holds_tied_plain_at .later [] [.data, .data, .data] true (true, "8598bd4958a8abf902c99cea17d2ba399dff19ef0ce30047164fcc5704fed348") true
    rawAny_holds (fun _ h => by cases h) (by kernel_rfl) (fun _ h => by cases h) rawAny_row_tie rfl ⟨rfl, rfl⟩ (by kernel_rfl) rfl
    (fun f fn hf hfn => by
      obtain rfl : f = 3 := Option.some.inj ((show Go.Proofs.Tryz.prog.funcNamed Rows.rawAnyRow.func = some 3 by kernel_rfl).symm.trans hf) |>.symm
      obtain rfl : fn = Go.Proofs.Tryz.f3 := (Option.some.inj (Go.Proofs.Tryz.func3.symm.trans hfn)).symm
      exact ⟨by kernel_rfl, fun j t ht => by
        rw [Go.Proofs.Tryz.params3] at ht
        have hall : (Go.Proofs.Tryz.f3.params.toList.all fun u => !Go.Proofs.Tryz.prog.wantsStandIn u) = true := by kernel_rfl
        have hm : t ∈ Go.Proofs.Tryz.f3.params.toList := by rw [Go.Proofs.Tryz.params3]; exact List.mem_of_getElem? (by simpa using ht)
        exact (show Go.Proofs.Tryz.prog.wantsStandIn t = false by simpa using List.all_eq_true.1 hall t hm)⟩)
    (by kernel_rfl)
#print axioms rawAny_card
end Go.Proofs.YtbhnplghnhafiaaGreatDoor
