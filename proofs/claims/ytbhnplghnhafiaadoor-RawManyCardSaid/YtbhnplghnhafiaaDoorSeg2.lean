import Derived.Test.YtbhnplghnhafiaaDoorSeg1
/-! Segments: Append, Get, Sync. -/
set_option linter.unusedVariables false
namespace Go.Vc
open Go
def zeroR : RecM := ⟨0, 0, [], []⟩
/-- What Get tells of a file's bytes from a to e. -/
def cellM (b : List UInt8) (a e : Nat) : RecM × Int :=
  if b.length < e then (zeroR, 6)
  else if (rscanM ((b.take e).drop a)).1.length = 1 ∧ (rscanM ((b.take e).drop a)).2.1 = e - a then ((rscanM ((b.take e).drop a)).1.headD zeroR, 0)
  else (zeroR, 6)
end Go.Vc
namespace Go.Proofs.YtbhnplghnhafiaaDoor.Tryd
open Go Go.Vc
section
variable {w0 w : World} {gs g : Nat} {s : FsM} {p : FsP} {nm : Nm} {ats : List Nat} {en : Nat} {u : Value}
set_option maxHeartbeats 1000000 in
/-- Append of a record that may be. -/
theorem appendS_has (x : SegO w0 w gs g s p nm ats en u) (r : RecM) (hr : RecOk r) (hcalls : s.calls < 1000000000 - 1) (hl : ats.length < 1000000) (he : en < 1000000000) :
    Has Go.Proofs.Tryd.prog 10 #[.pointer (some ⟨gs, 0, none⟩), .agg (recL r).toArray] w (fun v w' =>
      ((appendM s nm (sealM (bodyM r))).2 ≠ 0 → v = .tuple #[.int .i64 (-1), .int .i64 (appendM s nm (sealM (bodyM r))).2] ∧ ∃ p', SegO w0 w' gs g (appendM s nm (sealM (bodyM r))).1 p' nm ats en u) ∧
      ((appendM s nm (sealM (bodyM r))).2 = 0 → v = .tuple #[.int .i64 (ats.length : Nat), .int .i64 0] ∧ ∃ p' u', SegO w0 w' gs g (appendM s nm (sealM (bodyM r))).1 p' nm (ats ++ [en]) (en + (sealM (bodyM r)).length) u')) := by
  refine enter Go.Proofs.Tryd.func10 rfl rfl (by decide) rfl (e := [(0, .pointer (some ⟨gs, 0, none⟩)), (1, .agg (recL r).toArray)]) ⟨rfl, rfl, trivial⟩ ?_
  have hbl := bodyM_len hr
  have hsl := sealM_length (bodyM r)
  have henc : encM r = (sealM (bodyM r), 0) := by unfold encM; rw [if_neg (by simp [checkM_ok.2 hr])]
  repeat (first | refine W_seq ?_ | refine W_region ?_ | refine WL_some rfl rfl rfl ?_)
  refine op_box rfl rfl (fun gr w1 hs1 hc1 hg1 => ?_)
  have hg1 : Blk w1 gr 33 (recL r) := hg1
  repeat (first | refine W_seq ?_ | refine W_region ?_ | refine W_skip ?_ | refine Then_n ?_ | refine WL_nil ?_ | refine W_condF rfl ?_ | refine WL_some rfl rfl rfl ?_ | refine op_move rfl rfl ?_ | refine op_assign rfl rfl ?_ | refine op_eql_nilptr T rfl rfl rfl rfl rfl ?_ | refine op_load_agg T rfl rfl rfl rfl (by assumption) (by exact Nat.le_of_ble_eq_true rfl) (by exact rfl) ?_)
  refine op_call rfl rfl rfl (encode_has r w1) ?_
  rintro _ w2 ⟨ub, rfl, mb⟩
  rw [henc] at mb
  rw [henc]
  dsimp only at mb
  have x2 := x.keep0 (hc1.trans' mb.chg)
  have hb := x2.seg.blk
  obtain ⟨Ab, cb, rfl, _, _⟩ := mb.form
  have hfp : ∀ k ∈ p.fp g, k < w1.heap.size := fun k hk => by have := x.fs.at_.lt k hk; have := hc1.size; omega
  have hgs : gs < w.heap.size := x.seg.blk.lt
  repeat (first | refine W_seq ?_ | refine W_region ?_ | refine W_skip ?_ | refine Then_n ?_ | refine WL_nil ?_ | refine W_condF rfl ?_ | refine WL_some rfl rfl rfl ?_ | refine op_move rfl rfl ?_ | refine op_assign rfl rfl ?_ | refine op_extract rfl rfl rfl ?_ | refine op_neq rfl rfl rfl (fun hc => False.elim (by omega)) (fun hc => ?_))
  refine Q.W_walkq 10 9 (p.fp g) fol (by kernel_rfl) (by kernel_rfl) ?_
  refine Q.Walk.plain rfl rfl (by intro val w_ hR hp; exact op_move rfl rfl ⟨Chg.refl _ _, rfl⟩) ?_; dsimp only [List.nil_append, List.cons_append]
  refine Q.Walk.plain rfl rfl (by intro val w_ hR hp; exact op_nilCheck rfl rfl ⟨Chg.refl _ _, rfl⟩) ?_; dsimp only [List.nil_append, List.cons_append]
  refine Q.Walk.plain rfl rfl (by intro val w_ hR hp; exact op_fieldAddr T rfl rfl rfl rfl rfl rfl rfl rfl ⟨Chg.refl _ _, rfl⟩) ?_; dsimp only [List.nil_append, List.cons_append]
  refine Q.Walk.plain (v := ptrV g) rfl rfl (by intro val w_ hR hp; exact op_load T rfl rfl rfl rfl ((hb.keep hR x2.out1).cell rfl) ⟨Chg.refl _ _, rfl⟩) ?_; dsimp only [List.nil_append, List.cons_append]
  refine Q.Walk.plain rfl rfl (by intro val w_ hR hp; exact op_move rfl rfl ⟨Chg.refl _ _, rfl⟩) ?_; dsimp only [List.nil_append, List.cons_append]
  refine Q.Walk.plain rfl rfl (by intro val w_ hR hp; exact op_nilCheck rfl rfl ⟨Chg.refl _ _, rfl⟩) ?_; dsimp only [List.nil_append, List.cons_append]
  refine Q.Walk.plain rfl rfl (by intro val w_ hR hp; exact op_fieldAddr T rfl rfl rfl rfl rfl rfl rfl rfl ⟨Chg.refl _ _, rfl⟩) ?_; dsimp only [List.nil_append, List.cons_append]
  refine Q.Walk.plain (v := .string (str nm)) rfl rfl (by intro val w_ hR hp; exact op_load T rfl rfl rfl rfl ((hb.keep hR x2.out1).cell rfl) ⟨Chg.refl _ _, rfl⟩) ?_; dsimp only [List.nil_append, List.cons_append]
  refine Q.Walk.plain rfl rfl (by intro val w_ hR hp; exact op_move rfl rfl ⟨Chg.refl _ _, rfl⟩) ?_; dsimp only [List.nil_append, List.cons_append]
  refine Q.Walk.turn rfl (fun v w' => FsDone w2 g p (appendM s nm (sealM (bodyM r))) v w') rfl (fun v a b h hab => ⟨h.1.trans' hab, h.2.1, let ⟨p', h3, h4⟩ := h.2.2; ⟨p', h3.keep0 hab, h4⟩⟩) ?_ ?_
  · intro val w_ hR hp
    have hfirm : Firm (p.fp g) w_ (fun w => SliceOf Ru8 w (.slice Ab (sealM (bodyM r)).length cb) (sealM (bodyM r))) := (mb.firm hfp).step0 hR
    refine op_call rfl rfl rfl (append_has g s p nm Ab _ cb _ w_ (x2.fs.at_.keep0 hR) hfirm (by omega) hcalls) (fun v w' h => ?_)
    have hfull : FsDone w2 g p (appendM s nm (sealM (bodyM r))) v w' := ⟨(hR.mono (fun k hk _ => by cases hk)).trans h.1 (fun k hk _ => hk), h.2.1, let ⟨p', h3, h4⟩ := h.2.2; ⟨p', h3, fun k hk => (h4 k hk).imp id (fun h => by have := hR.size; omega)⟩⟩
    exact ⟨h.1, hfull⟩
  dsimp only [List.nil_append, List.cons_append]
  refine Q.Walk.fin ?_
  intro val w3 hc3 hp
  have hdone : FsDone w2 g p (appendM s nm (sealM (bodyM r))) (val 9) w3 := hp 9 (by omega) _ _ rfl rfl
  clear hp
  obtain ⟨hv9, hcf, p3, x3⟩ := x2.step hdone
  have hlen : ats.length < 1000000000 := by omega
  refine WL_sub (e' := [(0, .pointer (some ⟨gs, 0, none⟩)), (6, .slice Ab (sealM (bodyM r)).length cb), (28, .int .i64 (appendM s nm (sealM (bodyM r))).2)]) ⟨rfl, rfl, congrArg some hv9, trivial⟩ ?_
  generalize appendM s nm (sealM (bodyM r)) = q at *
  obtain ⟨s', er⟩ := q
  dsimp only at *
  by_cases hz : er = 0
  · subst hz
    repeat (first | refine W_seq ?_ | refine W_region ?_ | refine W_skip ?_ | refine Then_n ?_ | refine WL_nil ?_ | refine W_condF rfl ?_ | refine WL_some rfl rfl rfl ?_ | refine op_move rfl rfl ?_ | refine op_assign rfl rfl ?_ | refine op_len_slice T rfl rfl rfl rfl ?_ | refine op_neq rfl rfl rfl (fun hc => False.elim (by omega)) (fun hc => ?_))
    refine op_call rfl rfl rfl (addS_has x3.seg (sealM (bodyM r)).length hlen (by omega)) ?_
    rintro v4 w4 ⟨hc4, u4, hs4, hb4⟩
    have x4 := x3.turn hc4 hs4 hb4
    have hb5 := hs4.blk
    obtain ⟨A4, c4, rfl, _, _⟩ := hs4.own.form
    have hl4 : (ats ++ [en]).length = ats.length + 1 := by simp
    repeat (first | refine W_seq ?_ | refine W_region ?_ | refine W_ret ?_ | refine Then_n ?_ | refine WL_nil ?_ | refine WL_some rfl rfl rfl ?_ | refine op_move rfl rfl ?_ | refine op_assign rfl rfl ?_ | refine op_len_slice T rfl rfl rfl rfl ?_ | refine op_subt rfl rfl rfl (wrap_i64_in (by omega) (by omega)) ?_ | refine op_nilCheck rfl rfl ?_ | refine op_fieldAddr T rfl rfl rfl rfl rfl rfl rfl rfl ?_ | refine op_loadB T rfl rfl rfl rfl (by assumption) (by exact rfl) ?_)
    refine post2 (.inl rfl) rfl rfl rfl ⟨fun h => absurd rfl h, fun _ => ⟨?_, p3, _, x4⟩⟩
    have : (((ats ++ [en]).length : Nat) : Int) - 1 = ((ats.length : Nat) : Int) := by omega
    rw [this]
  · repeat (first | refine W_seq ?_ | refine W_region ?_ | refine W_ret ?_ | refine Then_n ?_ | refine Then_r ?_ | refine WL_nil ?_ | refine W_condT rfl ?_ | refine WL_some rfl rfl rfl ?_ | refine op_move rfl rfl ?_ | refine op_assign rfl rfl ?_ | refine op_neq rfl rfl rfl (fun hc => ?_) (fun hc => False.elim (by omega)))
    exact post2 (.inl rfl) rfl rfl rfl ⟨fun _ => ⟨rfl, p3, x3⟩, fun h => absurd h hz⟩
theorem syncS_has (x : SegO w0 w gs g s p nm ats en u) (hcalls : s.calls < 1000000000 - 1) :
    Has Go.Proofs.Tryd.prog 16 #[.pointer (some ⟨gs, 0, none⟩)] w (fun v w' => v = .int .i64 (syncM s nm).2 ∧ ∃ p', SegO w0 w' gs g (syncM s nm).1 p' nm ats en u) := by
  refine enter Go.Proofs.Tryd.func16 rfl rfl (by decide) rfl (e := [(0, .pointer (some ⟨gs, 0, none⟩))]) ⟨rfl, trivial⟩ ?_
  have hb := x.seg.blk
  repeat (first | refine W_seq ?_ | refine W_region ?_ | refine W_skip ?_ | refine Then_n ?_ | refine WL_nil ?_ | refine W_condF rfl ?_ | refine WL_some rfl rfl rfl ?_ | refine op_move rfl rfl ?_ | refine op_assign rfl rfl ?_ | refine op_eql_nilptr T rfl rfl rfl rfl rfl ?_)
  refine Q.W_walkq 9 8 (p.fp g) fol (by kernel_rfl) (by kernel_rfl) ?_
  refine Q.Walk.plain rfl rfl (by intro val w_ hR hp; exact op_move rfl rfl ⟨Chg.refl _ _, rfl⟩) ?_; dsimp only [List.nil_append, List.cons_append]
  refine Q.Walk.plain rfl rfl (by intro val w_ hR hp; exact op_nilCheck rfl rfl ⟨Chg.refl _ _, rfl⟩) ?_; dsimp only [List.nil_append, List.cons_append]
  refine Q.Walk.plain rfl rfl (by intro val w_ hR hp; exact op_fieldAddr T rfl rfl rfl rfl rfl rfl rfl rfl ⟨Chg.refl _ _, rfl⟩) ?_; dsimp only [List.nil_append, List.cons_append]
  refine Q.Walk.plain (v := ptrV g) rfl rfl (by intro val w_ hR hp; exact op_load T rfl rfl rfl rfl ((hb.keep hR x.out1).cell rfl) ⟨Chg.refl _ _, rfl⟩) ?_; dsimp only [List.nil_append, List.cons_append]
  refine Q.Walk.plain rfl rfl (by intro val w_ hR hp; exact op_move rfl rfl ⟨Chg.refl _ _, rfl⟩) ?_; dsimp only [List.nil_append, List.cons_append]
  refine Q.Walk.plain rfl rfl (by intro val w_ hR hp; exact op_nilCheck rfl rfl ⟨Chg.refl _ _, rfl⟩) ?_; dsimp only [List.nil_append, List.cons_append]
  refine Q.Walk.plain rfl rfl (by intro val w_ hR hp; exact op_fieldAddr T rfl rfl rfl rfl rfl rfl rfl rfl ⟨Chg.refl _ _, rfl⟩) ?_; dsimp only [List.nil_append, List.cons_append]
  refine Q.Walk.plain (v := .string (str nm)) rfl rfl (by intro val w_ hR hp; exact op_load T rfl rfl rfl rfl ((hb.keep hR x.out1).cell rfl) ⟨Chg.refl _ _, rfl⟩) ?_; dsimp only [List.nil_append, List.cons_append]
  refine Q.Walk.turn rfl (fun v w' => FsDone w g p (syncM s nm) v w') rfl (fun v a b h hab => ⟨h.1.trans' hab, h.2.1, let ⟨p', h3, h4⟩ := h.2.2; ⟨p', h3.keep0 hab, h4⟩⟩) ?_ ?_
  · intro val w_ hR hp
    refine op_call rfl rfl rfl (sync_has g s p nm w_ (x.fs.at_.keep0 hR) hcalls) (fun v w' h => ?_)
    exact ⟨h.1, (hR.mono (fun k hk _ => by cases hk)).trans h.1 (fun k hk _ => hk), h.2.1, let ⟨p', h3, h4⟩ := h.2.2; ⟨p', h3, fun k hk => (h4 k hk).imp id (fun h => by have := hR.size; omega)⟩⟩
  dsimp only [List.nil_append, List.cons_append]
  refine Q.Walk.fin ?_
  intro val w3 hc3 hp
  have hdone : FsDone w g p (syncM s nm) (val 8) w3 := hp 8 (by omega) _ _ rfl rfl
  clear hp
  obtain ⟨hv9, hcf, p3, x3⟩ := x.step hdone
  refine WL_sub (e' := [(13, .int .i64 (syncM s nm).2)]) ⟨congrArg some hv9, trivial⟩ ?_
  repeat (first | refine W_ret ?_ | refine Then_n ?_ | refine WL_nil ?_ | refine WL_some rfl rfl rfl ?_ | refine op_assign rfl rfl ?_)
  exact post1 (.inl rfl) rfl rfl ⟨rfl, p3, x3⟩
set_option maxHeartbeats 2000000 in
/-- Get of a record that there is. -/
theorem getS_has (x : SegO w0 w gs g s p nm ats en u) (b : List UInt8) (hread : readM s nm = some b) (hb : b.length ≤ 1000000000) (i a e_ : Nat) (ha : ats[i]? = some a) (he : (ats ++ [en])[i + 1]? = some e_) (hae : a ≤ e_) (hlim : ats.length < 1000000000) :
    Has Go.Proofs.Tryd.prog 14 #[.pointer (some ⟨gs, 0, none⟩), .int .i64 (i : Int)] w (fun v w' => Chg [] w w' ∧ v = .tuple #[.agg (recL (cellM b a e_).1).toArray, .int .i64 (cellM b a e_).2]) := by
  refine enter Go.Proofs.Tryd.func14 rfl rfl (by decide) rfl (e := [(0, .pointer (some ⟨gs, 0, none⟩)), (1, .int .i64 (i : Int))]) ⟨rfl, rfl, trivial⟩ ?_
  have hil := (List.getElem?_eq_some_iff.1 ha).1
  obtain ⟨A, c, rfl, _, _⟩ := x.seg.own.form
  repeat (first | refine W_seq ?_ | refine W_region ?_ | refine WL_some rfl rfl rfl ?_)
  refine op_alloc T rfl rfl (fun g4 w1 hs1 hc1 hg4 => ?_)
  have hg4 : Blk w1 g4 33 [.int .i64 0, .int .i64 0, .string (str []), .string (str [])] := hg4
  have x1 := x.keep0 hc1
  have hbk := x1.seg.blk
  have hcell : ∀ w2, Chg [] w1 w2 → ∀ (j n : Nat), ats[j]? = some n → ∃ ad, A = some ad ∧ w2.cell? (ad.add j) = some (.int .i64 (n : Int)) := fun w2 hc j n hj => by
    obtain ⟨gg, h1, ⟨c', h2⟩, h3⟩ := (x1.seg.own.keep0 hc).cell (show (ats.map natV)[j]? = some (natV n) from by rw [List.getElem?_map, hj]; rfl)
    injection h2 with h2
    exact ⟨_, h2, by rw [add_plain]; exact h3⟩
  refine WL_some rfl rfl rfl ?_
  refine op_assign rfl rfl ?_
  refine WL_nil ?_
  refine Then_n ?_
  refine W_seq ?_
  refine W_meet (σ := Unit) (fun _ => [(0, .pointer (some ⟨gs, 0, none⟩)), (1, .int .i64 (i : Int)), (4, .pointer (some ⟨g4, 0, none⟩))]) (fun _ w' => w' = w1) ?_ ?_
  · repeat (first | refine W_seq ?_ | refine W_block ?_ | refine W_region ?_ | refine W_skip ?_ | refine Then_n ?_ | refine InBlock_n ?_ | refine WL_nil ?_ | refine W_condF rfl ?_ | refine WL_some rfl rfl rfl ?_ | refine WL_guardT rfl rfl rfl rfl ?_ | refine op_move rfl rfl ?_ | refine op_assign rfl rfl ?_ | refine op_pick rfl rfl rfl rfl ?_ | refine op_len_slice T rfl rfl rfl rfl ?_ | refine op_nilCheck rfl rfl ?_ | refine op_lss rfl rfl rfl (fun hc => False.elim (by omega)) (fun hc => ?_) | refine op_geq rfl rfl rfl (fun hc => False.elim (by omega)) (fun hc => ?_) | refine op_fieldAddr T rfl rfl rfl rfl rfl rfl rfl rfl ?_ | refine op_eql_nilptr T rfl rfl rfl rfl rfl ?_ | refine op_loadB T rfl rfl rfl rfl (by assumption) (by exact rfl) ?_)
    exact Meet_n () ⟨rfl, rfl, rfl, trivial⟩ rfl
  rintro _ w1 rfl
  refine Then_n ?_
  refine W_seq ?_
  refine W_meet (σ := Unit) (fun _ => [(0, .pointer (some ⟨gs, 0, none⟩)), (1, .int .i64 (i : Int)), (4, .pointer (some ⟨g4, 0, none⟩)), (6, .int .i64 (en : Int))]) (fun _ w' => w' = w1) ?_ ?_
  · repeat (first | refine W_region ?_ | refine WL_nil ?_ | refine WL_some rfl rfl rfl ?_ | refine op_move rfl rfl ?_ | refine op_assign rfl rfl ?_ | refine op_nilCheck rfl rfl ?_ | refine op_fieldAddr T rfl rfl rfl rfl rfl rfl rfl rfl ?_ | refine op_loadB T rfl rfl rfl rfl (by assumption) (by exact rfl) ?_)
    exact Meet_n () ⟨rfl, rfl, rfl, rfl, trivial⟩ rfl
  rintro _ w1 rfl
  refine Then_n ?_
  refine W_seq ?_
  refine W_meet (σ := Unit) (fun _ => [(0, .pointer (some ⟨gs, 0, none⟩)), (1, .int .i64 (i : Int)), (4, .pointer (some ⟨g4, 0, none⟩)), (6, .int .i64 (e_ : Int))]) (fun _ w' => w' = w1) ?_ ?_
  · by_cases hlast : i + 1 < ats.length
    · rw [List.getElem?_append_left hlast] at he
      obtain ⟨ad, hA, hu⟩ := hcell w1 (Chg.refl _ _) _ _ he
      subst hA
      repeat (first | refine W_seq ?_ | refine W_region ?_ | refine Then_n ?_ | refine WL_nil ?_ | refine W_condT rfl ?_ | refine WL_some rfl rfl rfl ?_ | refine op_move rfl rfl ?_ | refine op_assign rfl rfl ?_ | refine op_len_slice T rfl rfl rfl rfl ?_ | refine op_add rfl rfl rfl (wrap_i64_in (by omega) (by omega)) ?_ | refine op_nilCheck rfl rfl ?_ | refine op_index_nat T rfl rfl rfl rfl rfl rfl (by omega) ?_ | refine op_load T rfl rfl rfl rfl (by assumption) ?_ | refine op_lss rfl rfl rfl (fun hc => ?_) (fun hc => False.elim (by omega)) | refine op_fieldAddr T rfl rfl rfl rfl rfl rfl rfl rfl ?_ | refine op_loadB T rfl rfl rfl rfl (by assumption) (by exact rfl) ?_)
      exact Meet_n () ⟨rfl, rfl, rfl, rfl, trivial⟩ rfl
    · obtain rfl : e_ = en := by
        rw [List.getElem?_append_right (by omega), show i + 1 - ats.length = 0 from by omega] at he
        injection he with he; exact he.symm
      repeat (first | refine W_seq ?_ | refine W_region ?_ | refine W_skip ?_ | refine Then_n ?_ | refine WL_nil ?_ | refine W_condF rfl ?_ | refine WL_some rfl rfl rfl ?_ | refine op_move rfl rfl ?_ | refine op_len_slice T rfl rfl rfl rfl ?_ | refine op_add rfl rfl rfl (wrap_i64_in (by omega) (by omega)) ?_ | refine op_nilCheck rfl rfl ?_ | refine op_lss rfl rfl rfl (fun hc => False.elim (by omega)) (fun hc => ?_) | refine op_fieldAddr T rfl rfl rfl rfl rfl rfl rfl rfl ?_ | refine op_loadB T rfl rfl rfl rfl (by assumption) (by exact rfl) ?_)
      exact Meet_n () ⟨rfl, rfl, rfl, rfl, trivial⟩ rfl
  rintro _ w1 rfl
  refine Then_n ?_
  refine W_seq ?_
  have hno : ∀ k, k ∉ ([] : List Nat) := by simp
  refine W_meet (σ := Value × World) (fun q => [(0, .pointer (some ⟨gs, 0, none⟩)), (1, .int .i64 (i : Int)), (4, .pointer (some ⟨g4, 0, none⟩)), (6, .int .i64 (e_ : Int)), (7, q.1), (8, .int .i64 0)]) (fun q w' => w' = q.2 ∧ Chg [] w1 w' ∧ Own w' 5 1 q.1 b.length (u8s b) ∧ ∀ h, q.1.ownBlock = some h → w1.heap.size ≤ h) ?_ ?_
  · refine W_walk 13 [] fol (by kernel_rfl) (by kernel_rfl) ?_
    refine Walk.plain rfl (by intro val w_ hR hp; exact op_move rfl rfl ⟨Chg.refl _ _, rfl⟩) ?_; dsimp only [List.nil_append, List.cons_append]
    refine Walk.plain rfl (by intro val w_ hR hp; exact op_nilCheck rfl rfl ⟨Chg.refl _ _, rfl⟩) ?_; dsimp only [List.nil_append, List.cons_append]
    refine Walk.plain rfl (by intro val w_ hR hp; exact op_fieldAddr T rfl rfl rfl rfl rfl rfl rfl rfl ⟨Chg.refl _ _, rfl⟩) ?_; dsimp only [List.nil_append, List.cons_append]
    refine Walk.plain (v := ptrV g) rfl (by intro val w_ hR hp; exact op_load T rfl rfl rfl rfl ((hbk.keep0 hR).cell rfl) ⟨Chg.refl _ _, rfl⟩) ?_; dsimp only [List.nil_append, List.cons_append]
    refine Walk.plain rfl (by intro val w_ hR hp; exact op_move rfl rfl ⟨Chg.refl _ _, rfl⟩) ?_; dsimp only [List.nil_append, List.cons_append]
    refine Walk.plain rfl (by intro val w_ hR hp; exact op_nilCheck rfl rfl ⟨Chg.refl _ _, rfl⟩) ?_; dsimp only [List.nil_append, List.cons_append]
    refine Walk.plain rfl (by intro val w_ hR hp; exact op_fieldAddr T rfl rfl rfl rfl rfl rfl rfl rfl ⟨Chg.refl _ _, rfl⟩) ?_; dsimp only [List.nil_append, List.cons_append]
    refine Walk.plain (v := .string (str nm)) rfl (by intro val w_ hR hp; exact op_load T rfl rfl rfl rfl ((hbk.keep0 hR).cell rfl) ⟨Chg.refl _ _, rfl⟩) ?_; dsimp only [List.nil_append, List.cons_append]
    refine Walk.rel (fun v w' => ∃ u, v = .tuple #[u, .int .i64 0] ∧ Own w' 5 1 u b.length (u8s b) ∧ ∀ h, u.ownBlock = some h → w1.heap.size ≤ h) rfl (fun v a b' ⟨u, h1, h2, h3⟩ hab => ⟨u, h1, h2.keep0 hab, h3⟩) ?_ ?_
    · intro val w_ hR hp
      refine op_call rfl rfl rfl (read_has g s p nm w_ (x1.fs.at_.keep0 hR)) (fun v w' h => ?_)
      obtain ⟨h1, h2⟩ := h
      rw [hread] at h2
      obtain ⟨u, h3, h4, h5⟩ : ∃ u, v = .tuple #[u, .int .i64 0] ∧ Own w' 5 1 u b.length (u8s b) ∧ ∀ h, u.ownBlock = some h → w_.heap.size ≤ h := h2
      exact ⟨h1, u, h3, h4, fun h hh => by have := h5 h hh; have := hR.size; omega⟩
    dsimp only [List.nil_append, List.cons_append]
    refine Walk.rel (fun v w' => ∃ u, v = .tuple #[u, .int .i64 0] ∧ Own w' 5 1 u b.length (u8s b) ∧ ∀ h, u.ownBlock = some h → w1.heap.size ≤ h) rfl (fun v a b' ⟨u, h1, h2, h3⟩ hab => ⟨u, h1, h2.keep0 hab, h3⟩) ?_ ?_
    · intro val w_ hR hp
      exact op_move rfl rfl ⟨Chg.refl _ _, hp 8 rfl _ _ rfl rfl⟩
    dsimp only [List.nil_append, List.cons_append]
    refine Walk.rel (fun u w' => Own w' 5 1 u b.length (u8s b) ∧ ∀ h, u.ownBlock = some h → w1.heap.size ≤ h) rfl (fun v a b' ⟨h2, h3⟩ hab => ⟨h2.keep0 hab, h3⟩) ?_ ?_
    · intro val w_ hR hp
      obtain ⟨u, h1, h2, h3⟩ : ∃ u, val 9 = .tuple #[u, .int .i64 0] ∧ Own w_ 5 1 u b.length (u8s b) ∧ ∀ h, u.ownBlock = some h → w1.heap.size ≤ h := hp 9 rfl _ _ rfl rfl
      exact op_extract rfl (congrArg some h1) rfl ⟨Chg.refl _ _, h2, h3⟩
    dsimp only [List.nil_append, List.cons_append]
    refine Walk.plain (v := .int .i64 0) rfl ?_ ?_
    · intro val w_ hR hp
      obtain ⟨u, h1, h2, h3⟩ : ∃ u, val 9 = .tuple #[u, .int .i64 0] ∧ Own w_ 5 1 u b.length (u8s b) ∧ ∀ h, u.ownBlock = some h → w1.heap.size ≤ h := hp 9 rfl _ _ rfl rfl
      exact op_extract rfl (congrArg some h1) rfl ⟨Chg.refl _ _, rfl⟩
    dsimp only [List.nil_append, List.cons_append]
    refine Walk.rel (fun u w' => Own w' 5 1 u b.length (u8s b) ∧ ∀ h, u.ownBlock = some h → w1.heap.size ≤ h) rfl (fun v a b' ⟨h2, h3⟩ hab => ⟨h2.keep0 hab, h3⟩) ?_ ?_
    · intro val w_ hR hp
      exact op_assign rfl rfl ⟨Chg.refl _ _, hp 10 rfl _ _ rfl rfl⟩
    dsimp only [List.nil_append, List.cons_append]
    refine Walk.fin ?_
    intro val w2 hc2 hp
    obtain ⟨ho2, hf2⟩ : Own w2 5 1 (val 12) b.length (u8s b) ∧ ∀ h, (val 12).ownBlock = some h → w1.heap.size ≤ h := hp 12 (by omega) _ _ rfl rfl
    clear hp
    repeat (first | refine WL_nil ?_ | refine WL_some rfl rfl rfl ?_ | refine op_assign rfl rfl ?_)
    exact Meet_n (val 12, w2) ⟨rfl, rfl, rfl, rfl, rfl, rfl, trivial⟩ ⟨rfl, hc2, ho2, hf2⟩
  rintro ⟨ub, w2⟩ _ ⟨rfl, hc2, ho2, hf2⟩
  dsimp only at hc2 ho2 hf2 ⊢
  refine Then_n ?_
  have hsb := ho2.bytes
  obtain ⟨Ab, cb, rfl, hcb1, hcb2⟩ := ho2.form
  unfold maxLen at hcb2
  have hg42 := hg4.keep0 hc2
  have hbk2 := hbk.keep0 hc2
  have hgs4 : gs ≠ g4 := fun e => by subst e; exact hbk.ne_ hg4 (by decide) rfl
  unfold cellM
  by_cases hshort : b.length < e_
  · rw [if_pos hshort]
    repeat (first | refine W_seq ?_ | refine W_region ?_ | refine Then_n ?_ | refine WL_nil ?_ | refine W_condT rfl ?_ | refine WL_some rfl rfl rfl ?_ | refine WL_none rfl rfl ?_ | refine WL_guardT rfl rfl rfl rfl ?_ | refine op_move rfl rfl ?_ | refine op_pick rfl rfl rfl rfl ?_ | refine op_len_slice T rfl rfl rfl rfl ?_ | refine op_lss rfl rfl rfl (fun hc => ?_) (fun hc => False.elim (by omega)) | refine op_neq rfl rfl rfl (fun hc => False.elim (by omega)) (fun hc => ?_) | refine op_build T rfl rfl rfl rfl rfl rfl ?_)
    refine op_store_agg T rfl rfl rfl rfl rfl rfl hg42 (by exact Nat.le_of_ble_eq_true rfl) (fun w3 hc3 hb3 _ => ?_)
    repeat (first | refine W_ret ?_ | refine Then_n ?_ | refine Then_r ?_ | refine WL_nil ?_ | refine WL_some rfl rfl rfl ?_ | refine op_assign rfl rfl ?_)
    exact post2c T (.inl rfl) rfl rfl rfl rfl rfl hb3 rfl ⟨(hc1.trans' hc2).trans hc3 (fun k hk hlt => by simp at hk; omega), rfl⟩
  rw [if_neg hshort]
  obtain ⟨ad, hA, hu⟩ := hcell _ hc2 _ _ ha
  subst hA
  repeat (first | refine W_seq ?_ | refine W_region ?_ | refine W_skip ?_ | refine Then_n ?_ | refine WL_nil ?_ | refine W_condF rfl ?_ | refine WL_some rfl rfl rfl ?_ | refine WL_guardT rfl rfl rfl rfl ?_ | refine op_move rfl rfl ?_ | refine op_pick rfl rfl rfl rfl ?_ | refine op_len_slice T rfl rfl rfl rfl ?_ | refine op_nilCheck rfl rfl ?_ | refine op_index_nat T rfl rfl rfl rfl rfl rfl (by omega) ?_ | refine op_load T rfl rfl rfl rfl (by assumption) ?_ | refine op_lss rfl rfl rfl (fun hc => False.elim (by omega)) (fun hc => ?_) | refine op_neq rfl rfl rfl (fun hc => False.elim (by omega)) (fun hc => ?_) | refine op_fieldAddr T rfl rfl rfl rfl rfl rfl rfl rfl ?_ | refine op_loadB T rfl rfl rfl rfl (by assumption) (by exact rfl) ?_)
  refine op_cut T (l := a) (h' := e_) rfl rfl rfl rfl rfl ⟨_, rfl⟩ ⟨_, rfl⟩ hsb hae (by omega) (fun A' hA' => ?_)
  have hs' := hA' _ hsb
  repeat (refine WL_some rfl rfl rfl ?_)
  refine op_call rfl rfl rfl (rscan_has A' _ _ _ _ hs' (by simp; omega)) ?_
  rintro _ w3 ⟨ur, rfl, hc3, hor, hfr⟩
  obtain ⟨Ar, cr, rfl, hcr1, hcr2⟩ := hor.form
  unfold maxLen at hcr2
  have hg43 := hg42.keep0 hc3
  have hbk3 := hbk2.keep0 hc3
  have hu3 := hc3.cell0 hu
  have hc03 : Chg [] w w3 := (hc1.trans' hc2).trans' hc3
  have hbd : ((rscanM ((b.take e_).drop a)).2.1 : Int) = (rscanM ((b.take e_).drop a)).2.1 := rfl
  generalize rscanM ((b.take e_).drop a) = q at *
  obtain ⟨L, tot, okk⟩ := q
  dsimp only at *
  by_cases h1 : L.length = 1
  · by_cases htot : tot = e_ - a
    · rw [if_pos ⟨h1, htot⟩]
      match L, h1, hor, hcr1 with
      | [r], h1, hor, hcr1 =>
        have hrc : ∀ j v, (recL r)[j]? = some v → ∃ g9, Ar = some ⟨g9, 0, none⟩ ∧ w3.cell? ⟨g9, j, none⟩ = some v := fun j v hj => by
          obtain ⟨gg, h1, ⟨c', h2⟩, h3⟩ := hor.cell (show ([r].flatMap recL)[j]? = some v from by simpa using hj)
          injection h2 with h2
          exact ⟨gg, h2, h3⟩
        obtain ⟨g9, rfl, _⟩ := hrc 0 _ rfl
        have hrc' : ∀ j v, (recL r)[j]? = some v → w3.cell? ((⟨g9, 0, none⟩ : Addr).add j) = some v := fun j v hj => by
          obtain ⟨gg, h2, h3⟩ := hrc j v hj
          injection h2 with h2
          injection h2 with h2 _ _
          subst h2
          rw [add_plain]; exact h3
        repeat (first | refine W_seq ?_ | refine W_region ?_ | refine W_skip ?_ | refine Then_n ?_ | refine WL_nil ?_ | refine W_condF rfl ?_ | refine WL_some rfl rfl rfl ?_ | refine WL_guardT rfl rfl rfl rfl ?_ | refine op_move rfl rfl ?_ | refine op_assign rfl rfl ?_ | refine op_pick rfl rfl rfl rfl ?_ | refine op_len_slice T rfl rfl rfl rfl ?_ | refine op_subt rfl rfl rfl (wrap_i64_in (by omega) (by omega)) ?_ | refine op_extract rfl rfl rfl ?_ | refine op_nilCheck rfl rfl ?_ | refine op_index_nat T rfl rfl rfl rfl rfl rfl (by omega) ?_ | refine op_load T rfl rfl rfl rfl (by assumption) ?_ | refine op_neq rfl rfl rfl (fun hc => False.elim (by omega)) (fun hc => ?_) | refine op_fieldAddr T rfl rfl rfl rfl rfl rfl rfl rfl ?_ | refine op_loadB T rfl rfl rfl rfl (by assumption) (by exact rfl) ?_)
        refine op_index_slice T rfl rfl rfl rfl rfl (by omega) (by omega) (p := (⟨g9, 0, none⟩ : Addr)) (by exact rfl) ?_
        repeat (refine WL_some rfl rfl rfl ?_)
        refine op_load_cells (cs := recL r) T rfl rfl rfl rfl rfl hrc' ?_
        repeat (refine WL_none rfl rfl ?_)
        refine op_store_agg T rfl rfl rfl rfl rfl rfl hg43 (by exact Nat.le_of_ble_eq_true rfl) (fun w4 hc4 hb4 _ => ?_)
        repeat (first | refine W_ret ?_ | refine Then_n ?_ | refine WL_nil ?_ | refine WL_some rfl rfl rfl ?_ | refine op_assign rfl rfl ?_)
        exact post2c T (.inl rfl) rfl rfl rfl rfl rfl hb4 rfl ⟨hc03.trans hc4 (fun k hk hlt => by simp at hk; omega), rfl⟩
    · rw [if_neg (fun h => htot h.2)]
      repeat (first | refine W_seq ?_ | refine W_region ?_ | refine Then_n ?_ | refine WL_nil ?_ | refine W_condT rfl ?_ | refine WL_some rfl rfl rfl ?_ | refine WL_none rfl rfl ?_ | refine WL_guardT rfl rfl rfl rfl ?_ | refine op_move rfl rfl ?_ | refine op_assign rfl rfl ?_ | refine op_pick rfl rfl rfl rfl ?_ | refine op_len_slice T rfl rfl rfl rfl ?_ | refine op_subt rfl rfl rfl (wrap_i64_in (by omega) (by omega)) ?_ | refine op_extract rfl rfl rfl ?_ | refine op_nilCheck rfl rfl ?_ | refine op_index_nat T rfl rfl rfl rfl rfl rfl (by omega) ?_ | refine op_load T rfl rfl rfl rfl (by assumption) ?_ | refine op_neq rfl rfl rfl (fun hc => ?_) (fun hc => False.elim (by omega)) | refine op_neq rfl rfl rfl (fun hc => False.elim (by omega)) (fun hc => ?_) | refine op_fieldAddr T rfl rfl rfl rfl rfl rfl rfl rfl ?_ | refine op_build T rfl rfl rfl rfl rfl rfl ?_ | refine op_loadB T rfl rfl rfl rfl (by assumption) (by exact rfl) ?_)
      refine op_store_agg T rfl rfl rfl rfl rfl rfl hg43 (by exact Nat.le_of_ble_eq_true rfl) (fun w4 hc4 hb4 _ => ?_)
      repeat (first | refine W_ret ?_ | refine Then_n ?_ | refine Then_r ?_ | refine WL_nil ?_ | refine WL_some rfl rfl rfl ?_ | refine op_assign rfl rfl ?_)
      exact post2c T (.inl rfl) rfl rfl rfl rfl rfl hb4 rfl ⟨hc03.trans hc4 (fun k hk hlt => by simp at hk; omega), rfl⟩
  · rw [if_neg (fun h => h1 h.1)]
    repeat (first | refine W_seq ?_ | refine W_region ?_ | refine Then_n ?_ | refine WL_nil ?_ | refine W_condT rfl ?_ | refine WL_some rfl rfl rfl ?_ | refine WL_none rfl rfl ?_ | refine WL_guardF rfl rfl rfl rfl rfl ?_ | refine op_move rfl rfl ?_ | refine op_assign rfl rfl ?_ | refine op_pick rfl rfl rfl rfl ?_ | refine op_len_slice T rfl rfl rfl rfl ?_ | refine op_extract rfl rfl rfl ?_ | refine op_neq rfl rfl rfl (fun hc => ?_) (fun hc => False.elim (by omega)) | refine op_build T rfl rfl rfl rfl rfl rfl ?_)
    refine op_store_agg T rfl rfl rfl rfl rfl rfl hg43 (by exact Nat.le_of_ble_eq_true rfl) (fun w4 hc4 hb4 _ => ?_)
    repeat (first | refine W_ret ?_ | refine Then_n ?_ | refine Then_r ?_ | refine WL_nil ?_ | refine WL_some rfl rfl rfl ?_ | refine op_assign rfl rfl ?_)
    exact post2c T (.inl rfl) rfl rfl rfl rfl rfl hb4 rfl ⟨hc03.trans hc4 (fun k hk hlt => by simp at hk; omega), rfl⟩
end
end Go.Proofs.YtbhnplghnhafiaaDoor.Tryd
