import Derived.Test.YtbhnplghnhafiaaDoorDskB
import Derived.Test.YtbhnplghnhafiaaDoorRec5
/-! Segments that grow: where one lies; Name, Create, Len, Size, add. -/
set_option linter.unusedVariables false
namespace Go.Vc
open Go
theorem grows_out {w : World} {g k : Nat} {p p' : FsP} (h : Grows w g p p') (hk : k < w.heap.size) (hn : k ∉ p.fp g) : k ∉ p'.fp g := fun hm => by
  rcases h k hm with h | h
  · exact hn h
  · omega
def natV (n : Nat) : Value := .int .i64 (n : Int)
def rawNm (n : Nat) : Nm := [UInt8.ofNat (48 + n), 46, 114, 97, 119]
end Go.Vc
namespace Go.Proofs.YtbhnplghnhafiaaDoor.Tryd
open Go Go.Vc

theorem fsStep {w0 w w' : World} {g : Nat} {s : FsM} {p : FsP} (x : FsO w0 w g s p) {r : FsM × Int} {v : Value} (h : FsDone w g p r v w') : v = .int .i64 r.2 ∧ Chg (p.fp g) w w' ∧ ∃ p', FsO w0 w' g r.1 p' ∧ Grows w g p p' := by
  obtain ⟨h1, h2, p', h3, h4⟩ := h
  exact ⟨h2, h1, p', ⟨x.chgFp h1, h3, fun k hk => by
    rcases h4 k hk with h | h
    · exact x.fresh k h
    · have := x.chg.size; omega⟩, h4⟩
/-- A segment in memory. -/
structure SegB (w : World) (gs g : Nat) (nm : Nm) (ats : List Nat) (en : Nat) (u : Value) : Prop where
  blk : Blk w gs 60 [ptrV g, .string (str nm), u, .int .i64 (en : Int)]
  own : Own w 3 1 u ats.length (ats.map natV)
section
variable {w0 w w' : World} {gs g : Nat} {nm : Nm} {ats : List Nat} {en : Nat} {u : Value}
theorem SegB.ne (h : SegB w gs g nm ats en u) : ∀ k, u.ownBlock = some k → k ≠ gs := fun k hk e => by
  obtain ⟨cur, hr⟩ := h.own.row hk
  subst e
  exact h.blk.ne_ hr (by decide) rfl
theorem SegB.keep {S : List Nat} (h : SegB w gs g nm ats en u) (hc : Chg S w w') (h1 : gs ∉ S) (h2 : ∀ k, u.ownBlock = some k → k ∉ S) : SegB w' gs g nm ats en u := ⟨h.blk.keep hc h1, h.own.keep hc h2⟩
theorem SegB.keep0 (h : SegB w gs g nm ats en u) (hc : Chg [] w w') : SegB w' gs g nm ats en u := h.keep hc (by simp) (by simp)
end
/-- A segment and its files, made since w0. -/
structure SegO (w0 w : World) (gs g : Nat) (s : FsM) (p : FsP) (nm : Nm) (ats : List Nat) (en : Nat) (u : Value) : Prop where
  fs : FsO w0 w g s p
  seg : SegB w gs g nm ats en u
  out1 : gs ∉ p.fp g
  out2 : ∀ k, u.ownBlock = some k → k ∉ p.fp g
  fr1 : w0.heap.size ≤ gs
  fr2 : ∀ k, u.ownBlock = some k → w0.heap.size ≤ k
section
variable {w0 w w' : World} {gs g : Nat} {s : FsM} {p : FsP} {nm : Nm} {ats : List Nat} {en : Nat} {u : Value}
theorem SegO.keep0 (x : SegO w0 w gs g s p nm ats en u) (hc : Chg [] w w') : SegO w0 w' gs g s p nm ats en u := ⟨x.fs.keep0 hc, x.seg.keep0 hc, x.out1, x.out2, x.fr1, x.fr2⟩
theorem SegO.chg (x : SegO w0 w gs g s p nm ats en u) : Chg [] w0 w := x.fs.chg
theorem SegO.base {w1 : World} (x : SegO w1 w gs g s p nm ats en u) (hc : Chg [] w0 w1) : SegO w0 w gs g s p nm ats en u := ⟨x.fs.base hc, x.seg, x.out1, x.out2, by have := x.fr1; have := hc.size; omega, fun k hk => by have := x.fr2 k hk; have := hc.size; omega⟩
/-- The files went on. -/
theorem SegO.step (x : SegO w0 w gs g s p nm ats en u) {r : FsM × Int} {v : Value} (h : FsDone w g p r v w') : v = .int .i64 r.2 ∧ Chg (p.fp g) w w' ∧ ∃ p', SegO w0 w' gs g r.1 p' nm ats en u := by
  obtain ⟨h1, h2, p', h3, h4⟩ := fsStep x.fs h
  exact ⟨h1, h2, p', h3, x.seg.keep h2 x.out1 x.out2, grows_out h4 x.seg.blk.lt x.out1, fun k hk => grows_out h4 (x.seg.own.lt hk) (x.out2 k hk), x.fr1, x.fr2⟩
/-- The segment went on. -/
theorem SegO.turn (x : SegO w0 w gs g s p nm ats en u) (hc : Chg (gs :: u.ownBlock.toList) w w') {ats' : List Nat} {en' : Nat} {u' : Value} (hs : SegB w' gs g nm ats' en' u') (hb : u'.ownBlock = u.ownBlock ∨ ∃ h, u'.ownBlock = some h ∧ w.heap.size ≤ h) : SegO w0 w' gs g s p nm ats' en' u' := by
  have hdis : ∀ k ∈ p.fp g, k ∉ gs :: u.ownBlock.toList := fun k hk hm => by
    rcases List.mem_cons.1 hm with rfl | hm
    · exact x.out1 hk
    · exact x.out2 k (by simpa using hm) hk
  refine ⟨⟨x.fs.chg.trans hc (fun k hk hlt => ?_), x.fs.at_.keep hc hdis, x.fs.fresh⟩, hs, x.out1, fun k hk hm => ?_, x.fr1, fun k hk => ?_⟩
  · rcases List.mem_cons.1 hk with rfl | hk
    · have := x.fr1; omega
    · have := x.fr2 k (by simpa using hk); omega
  · rcases hb with hb | ⟨h, hb, hge⟩
    · exact x.out2 k (by rw [← hb]; exact hk) hm
    · rw [hb] at hk; injection hk with hk; subst hk
      have := x.fs.at_.lt h hm; omega
  · rcases hb with hb | ⟨h, hb, hge⟩
    · exact x.fr2 k (by rw [← hb]; exact hk)
    · rw [hb] at hk; injection hk with hk; subst hk
      have := x.fs.chg.size; omega
end
theorem name_has (n : Nat) (w : World) (hn : n < 10) : Has Go.Proofs.Tryd.prog 26 #[.int .i64 (n : Int)] w (fun v w' => w' = w ∧ v = .string (str (rawNm n))) := by
  refine enter Go.Proofs.Tryd.func26 rfl rfl (by decide) rfl (e := [(0, .int .i64 (n : Int))]) ⟨rfl, trivial⟩ ?_
  repeat (first | refine W_seq ?_ | refine W_region ?_ | refine Then_n ?_ | refine WL_nil ?_ | refine WL_some rfl rfl rfl ?_ | refine op_move rfl rfl ?_ | refine op_assign rfl rfl ?_)
  refine op_call rfl rfl rfl (formatInt_has n w hn) ?_
  rintro _ _ ⟨rfl, rfl⟩
  repeat (refine WL_some rfl rfl rfl ?_)
  refine op_str_add (a := [UInt8.ofNat (48 + n)]) (b := [46, 114, 97, 119]) rfl rfl rfl (by simp) ?_
  repeat (first | refine W_ret ?_ | refine Then_n ?_ | refine WL_nil ?_ | refine WL_some rfl rfl rfl ?_ | refine op_assign rfl rfl ?_)
  exact post1 (.inl rfl) rfl rfl ⟨rfl, rfl⟩
theorem rawNm_len (n : Nat) : (rawNm n).length = 5 := rfl
/-- An empty segment of a number from 1 to 9. -/
theorem createS_has {w0 w : World} {g : Nat} {s : FsM} {p : FsP} (x : FsO w0 w g s p) (n : Nat) (h1 : 1 ≤ n) (hn : n < 10) (hcalls : s.calls < 1000000000 - 1) (hok : (createM s (rawNm n)).2 = 0) :
    Has Go.Proofs.Tryd.prog 9 #[ptrV g, .int .i64 (n : Int)] w (fun v w' => ∃ gs p' u, v = .tuple #[ptrV gs, .int .i64 0] ∧ SegO w0 w' gs g (createM s (rawNm n)).1 p' (rawNm n) [] 0 u) := by
  refine enter Go.Proofs.Tryd.func9 rfl rfl (by decide) rfl (e := [(0, ptrV g), (1, .int .i64 (n : Int))]) ⟨rfl, rfl, trivial⟩ ?_
  unfold ptrV
  repeat (first | refine W_seq ?_ | refine W_region ?_ | refine W_skip ?_ | refine Then_n ?_ | refine WL_nil ?_ | refine W_condF rfl ?_ | refine WL_some rfl rfl rfl ?_ | refine WL_guardT rfl rfl rfl rfl ?_ | refine op_move rfl rfl ?_ | refine op_assign rfl rfl ?_ | refine op_pick rfl rfl rfl rfl ?_ | refine op_lss rfl rfl rfl (fun hc => False.elim (by omega)) (fun hc => ?_) | refine op_gtr rfl rfl rfl (fun hc => False.elim (by omega)) (fun hc => ?_))
  refine op_call rfl rfl rfl (name_has n w hn) ?_
  rintro _ _ ⟨rfl, rfl⟩
  repeat (refine WL_some rfl rfl rfl ?_)
  refine op_call rfl rfl rfl (createO_has x (rawNm n) (by rw [rawNm_len]; decide) hcalls) ?_
  rintro v1 w1 ⟨hv1, p1, x1⟩
  rw [hok] at hv1
  subst hv1
  repeat (first | refine W_seq ?_ | refine W_region ?_ | refine W_skip ?_ | refine Then_n ?_ | refine WL_nil ?_ | refine W_condF rfl ?_ | refine WL_some rfl rfl rfl ?_ | refine op_move rfl rfl ?_ | refine op_assign rfl rfl ?_ | refine op_neq rfl rfl rfl (fun hc => False.elim (by omega)) (fun hc => ?_))
  refine op_call rfl rfl rfl (name_has n w1 hn) ?_
  rintro _ _ ⟨rfl, rfl⟩
  repeat (first | refine WL_some rfl rfl rfl ?_ | refine op_build T rfl rfl rfl rfl rfl rfl ?_)
  refine op_box rfl rfl (fun gs w2 hs2 hc2 hg2 => ?_)
  have hg2 : Blk w2 gs 60 [ptrV g, .string (str (rawNm n)), .slice none 0 0, .int .i64 0] := hg2
  have hge : _ ≤ gs := hs2
  have x2 := x1.keep0 hc2
  repeat (first | refine W_ret ?_ | refine Then_n ?_ | refine WL_nil ?_ | refine WL_some rfl rfl rfl ?_ | refine op_assign rfl rfl ?_)
  refine post2 (.inl rfl) rfl rfl rfl ⟨gs, p1, .slice none 0 0, rfl, x2, ⟨hg2, Own.nil _ _ _⟩, fun hm => ?_, fun k hk => by simp [Value.ownBlock] at hk, ?_, fun k hk => by simp [Value.ownBlock] at hk⟩
  · have := x1.at_.lt gs hm; omega
  · have := x1.chg.size; omega
section
variable {w : World} {gs g : Nat} {nm : Nm} {ats : List Nat} {en : Nat} {u : Value}
theorem lenS_has (x : SegB w gs g nm ats en u) : Has Go.Proofs.Tryd.prog 11 #[.pointer (some ⟨gs, 0, none⟩)] w (fun v w' => w' = w ∧ v = .int .i64 (ats.length : Nat)) := by
  refine enter Go.Proofs.Tryd.func11 rfl rfl (by decide) rfl (e := [(0, .pointer (some ⟨gs, 0, none⟩))]) ⟨rfl, trivial⟩ ?_
  have hb := x.blk
  obtain ⟨A, c, rfl, _, _⟩ := x.own.form
  repeat (first | refine W_seq ?_ | refine W_region ?_ | refine W_skip ?_ | refine W_ret ?_ | refine Then_n ?_ | refine WL_nil ?_ | refine W_condF rfl ?_ | refine WL_some rfl rfl rfl ?_ | refine op_move rfl rfl ?_ | refine op_assign rfl rfl ?_ | refine op_len_slice T rfl rfl rfl rfl ?_ | refine op_nilCheck rfl rfl ?_ | refine op_fieldAddr T rfl rfl rfl rfl rfl rfl rfl rfl ?_ | refine op_eql_nilptr T rfl rfl rfl rfl rfl ?_ | refine op_loadB T rfl rfl rfl rfl (by assumption) (by exact rfl) ?_)
  exact post1 (.inl rfl) rfl rfl ⟨rfl, rfl⟩
theorem sizeS_has (x : SegB w gs g nm ats en u) : Has Go.Proofs.Tryd.prog 17 #[.pointer (some ⟨gs, 0, none⟩)] w (fun v w' => w' = w ∧ v = .int .i64 (en : Int)) := by
  refine enter Go.Proofs.Tryd.func17 rfl rfl (by decide) rfl (e := [(0, .pointer (some ⟨gs, 0, none⟩))]) ⟨rfl, trivial⟩ ?_
  have hb := x.blk
  repeat (first | refine W_seq ?_ | refine W_region ?_ | refine W_skip ?_ | refine W_ret ?_ | refine Then_n ?_ | refine WL_nil ?_ | refine W_condF rfl ?_ | refine WL_some rfl rfl rfl ?_ | refine op_move rfl rfl ?_ | refine op_assign rfl rfl ?_ | refine op_nilCheck rfl rfl ?_ | refine op_fieldAddr T rfl rfl rfl rfl rfl rfl rfl rfl ?_ | refine op_eql_nilptr T rfl rfl rfl rfl rfl ?_ | refine op_loadB T rfl rfl rfl rfl (by assumption) (by exact rfl) ?_)
  exact post1 (.inl rfl) rfl rfl ⟨rfl, rfl⟩
set_option maxHeartbeats 1000000 in
theorem addS_has (x : SegB w gs g nm ats en u) (n : Nat) (hl : ats.length < 1000000000) (he : en + n < 1000000000000) :
    Has Go.Proofs.Tryd.prog 31 #[.pointer (some ⟨gs, 0, none⟩), .int .i64 (n : Int)] w (fun v w' => Chg (gs :: u.ownBlock.toList) w w' ∧ ∃ u', SegB w' gs g nm (ats ++ [en]) (en + n) u' ∧ (u'.ownBlock = u.ownBlock ∨ ∃ h, u'.ownBlock = some h ∧ w.heap.size ≤ h)) := by
  refine enter Go.Proofs.Tryd.func31 rfl rfl (by decide) rfl (e := [(0, .pointer (some ⟨gs, 0, none⟩)), (1, .int .i64 (n : Int))]) ⟨rfl, rfl, trivial⟩ ?_
  have hb := x.blk
  have ho := x.own
  have hne := x.ne
  obtain ⟨A, c, rfl, _, _⟩ := x.own.form
  generalize hu : Value.slice A ats.length c = u at *
  have hgo : gs ∉ u.ownBlock.toList := fun hm => hne gs (by simpa using hm) rfl
  repeat (refine W_seq ?_)
  refine Q.W_walkq 11 10 u.ownBlock.toList fol (by kernel_rfl) (by kernel_rfl) ?_
  refine Q.Walk.plain rfl rfl (by intro val w_ hR hp; exact op_move rfl rfl ⟨Chg.refl _ _, rfl⟩) ?_; dsimp only [List.nil_append, List.cons_append]
  refine Q.Walk.plain rfl rfl (by intro val w_ hR hp; exact op_move rfl rfl ⟨Chg.refl _ _, rfl⟩) ?_; dsimp only [List.nil_append, List.cons_append]
  refine Q.Walk.plain rfl rfl (by intro val w_ hR hp; exact op_nilCheck rfl rfl ⟨Chg.refl _ _, rfl⟩) ?_; dsimp only [List.nil_append, List.cons_append]
  refine Q.Walk.plain rfl rfl (by intro val w_ hR hp; exact op_fieldAddr T rfl rfl rfl rfl rfl rfl rfl rfl ⟨Chg.refl _ _, rfl⟩) ?_; dsimp only [List.nil_append, List.cons_append]
  refine Q.Walk.plain (v := u) rfl rfl (by intro val w_ hR hp; exact op_load T rfl rfl rfl rfl ((hb.keep hR hgo).cell rfl) ⟨Chg.refl _ _, rfl⟩) ?_; dsimp only [List.nil_append, List.cons_append]
  refine Q.Walk.plain rfl rfl (by intro val w_ hR hp; exact op_move rfl rfl ⟨Chg.refl _ _, rfl⟩) ?_; dsimp only [List.nil_append, List.cons_append]
  refine Q.Walk.plain rfl rfl (by intro val w_ hR hp; exact op_nilCheck rfl rfl ⟨Chg.refl _ _, rfl⟩) ?_; dsimp only [List.nil_append, List.cons_append]
  refine Q.Walk.plain rfl rfl (by intro val w_ hR hp; exact op_fieldAddr T rfl rfl rfl rfl rfl rfl rfl rfl ⟨Chg.refl _ _, rfl⟩) ?_; dsimp only [List.nil_append, List.cons_append]
  refine Q.Walk.plain (v := .int .i64 (en : Int)) rfl rfl (by intro val w_ hR hp; exact op_load T rfl rfl rfl rfl ((hb.keep hR hgo).cell rfl) ⟨Chg.refl _ _, rfl⟩) ?_; dsimp only [List.nil_append, List.cons_append]
  refine Q.Walk.rel rfl (fun v w' => ∃ g5, v = .slice (some ⟨g5, 0, none⟩) 1 1 ∧ Blk w' g5 3 [.int .i64 (en : Int)] ∧ w.heap.size ≤ g5) rfl (fun v a b ⟨g5, h1, h2, h3⟩ hab => ⟨g5, h1, h2.keep hab (fun hm => by have := ho.lt (show u.ownBlock = some g5 by simpa using hm); omega), h3⟩) ?_ ?_
  · intro val w_ hR hp
    exact op_buildSlice T rfl rfl rfl rfl rfl rfl rfl (fun g5 w5 hs5 hc5 hg5 => ⟨hc5, g5, rfl, hg5, by have := hR.size; omega⟩)
  dsimp only [List.nil_append, List.cons_append]
  refine Q.Walk.turn rfl (fun v w' => Own w' 3 1 v (ats.length + 1) ((ats ++ [en]).map natV) ∧ (v.ownBlock = u.ownBlock ∨ ∃ h, v.ownBlock = some h ∧ w.heap.size ≤ h)) rfl (fun v a b h hab => ⟨h.1.keep0 hab, h.2⟩) ?_ ?_
  · intro val w_ hR hp
    obtain ⟨g5, he5, hg5, hs5⟩ : ∃ g5, val 9 = .slice (some ⟨g5, 0, none⟩) 1 1 ∧ Blk w_ g5 3 [.int .i64 (en : Int)] ∧ w.heap.size ≤ g5 := hp 9 rfl _ _ rfl rfl
    refine op_append T (n := ats.length) (xs := ats.map natV) (m := 1) (news := [.int .i64 (en : Int)]) rfl rfl rfl (congrArg some he5) rfl rfl rfl rfl (ho.keep0 hR) rfl ?_ (by unfold maxLen; omega) (by show (ats.length + 1) * 8 ≤ _; omega) ?_
    · intro j v hj
      match j, hj with
      | 0, hj => cases hj; exact ⟨⟨_, rfl, by rw [add_plain]; exact hg5.cell rfl⟩, rfl⟩
    · intro v w6 hu6 hc6 hb6 _
      refine ⟨hc6, ?_, hb6.imp id (fun ⟨h, h1, h2⟩ => ⟨h, h1, by have := hR.size; omega⟩)⟩
      rw [List.map_append]
      exact hu6
  dsimp only [List.nil_append, List.cons_append]
  refine Q.Walk.fin ?_
  intro val w6 hc6 hp
  obtain ⟨ho6, hb6⟩ : Own w6 3 1 (val 10) (ats.length + 1) ((ats ++ [en]).map natV) ∧ ((val 10).ownBlock = u.ownBlock ∨ ∃ h, (val 10).ownBlock = some h ∧ w.heap.size ≤ h) := hp 10 (by omega) _ _ rfl rfl
  clear hp
  refine WL_sub (e' := [(0, .pointer (some ⟨gs, 0, none⟩)), (1, .int .i64 (n : Int)), (4, .pointer (some ⟨gs, 0, none⟩)), (14, val 10)]) ⟨rfl, rfl, rfl, rfl, trivial⟩ ?_
  generalize val 10 = u6 at ho6 hb6
  obtain ⟨A6, c6, rfl, _, _⟩ := ho6.form
  have hbk := hb.keep hc6 hgo
  repeat (first | refine WL_some rfl rfl rfl ?_ | refine WL_none rfl rfl ?_ | refine op_nilCheck rfl rfl ?_ | refine op_fieldAddr T rfl rfl rfl rfl rfl rfl rfl rfl ?_)
  refine op_store T rfl rfl rfl rfl rfl rfl hbk (by simp) (fun w7 hc7 hb7 _ => ?_)
  have hb7 : Blk w7 gs 60 [ptrV g, .string (str nm), .slice A6 (ats.length + 1) c6, .int .i64 (en : Int)] := hb7
  have hn6 : ∀ k, (Value.slice A6 (ats.length + 1) c6).ownBlock = some k → k ∉ [gs] := fun k hk hm => by
    simp at hm; subst hm
    obtain ⟨cur, hr⟩ := ho6.row hk
    exact hbk.ne_ hr (by decide) rfl
  have ho7 := ho6.keep hc7 hn6
  repeat (first | refine W_region ?_ | refine Then_n ?_ | refine WL_nil ?_ | refine WL_some rfl rfl rfl ?_ | refine WL_none rfl rfl ?_ | refine op_move rfl rfl ?_ | refine op_add rfl rfl rfl (wrap_i64_in (by omega) (by omega)) ?_ | refine op_nilCheck rfl rfl ?_ | refine op_fieldAddr T rfl rfl rfl rfl rfl rfl rfl rfl ?_ | refine op_loadB T rfl rfl rfl rfl (by assumption) (by exact rfl) ?_)
  refine op_store T rfl rfl rfl rfl rfl rfl hb7 (by simp) (fun w8 hc8 hb8 _ => ?_)
  have ho8 := ho7.keep hc8 hn6
  repeat (refine WL_nil ?_)
  refine post0 (.inr rfl) rfl ⟨(hc6.mono (fun k hk _ => List.mem_cons_of_mem _ hk)).trans (hc7.trans hc8 (fun k hk _ => hk)) (fun k hk _ => by simp at hk; simp [hk]), .slice A6 (ats.length + 1) c6, ⟨?_, by rw [List.length_append]; exact ho8⟩, hb6⟩
  rw [show ((en + n : Nat) : Int) = (en : Int) + n from by omega]
  exact hb8
end
end Go.Proofs.YtbhnplghnhafiaaDoor.Tryd
