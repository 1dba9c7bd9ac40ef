import Derived.Test.YtbhnplghnhafiaaDoorDsk9
/-! Files: a crash. -/
set_option linter.unusedVariables false
set_option linter.unusedSimpArgs false
namespace Go.Proofs.YtbhnplghnhafiaaDoor.Tryd
open Go Go.Vc

/-- The file system that a crash leaves, under way: files laid anew so far. -/
structure NewFiles (w0 w : World) (s : FsM) (d : Dir) (tails : List Int) (nb : List (Nat × Value)) : Prop where
  blk : ∀ (j : Nat) q r, nb[j]? = some q → d[j]? = some r → Blk w q.1 65 [q.2, .int .i64 (cutM ((s.files[r.2]?).getD ⟨[], 0⟩) tails j).synced]
  own : ∀ (j : Nat) q r, nb[j]? = some q → d[j]? = some r → Own w 5 1 q.2 (cutM ((s.files[r.2]?).getD ⟨[], 0⟩) tails j).b.length (u8s (cutM ((s.files[r.2]?).getD ⟨[], 0⟩) tails j).b)
  fresh : ∀ q ∈ nb, w0.heap.size ≤ q.1 ∧ q.1 < w.heap.size ∧ ∀ h, q.2.ownBlock = some h → w0.heap.size ≤ h ∧ h < w.heap.size
  apart2 : (nb.map (·.1)).Nodup
  apart3 : ∀ (i j : Nat) q q' h, nb[i]? = some q → nb[j]? = some q' → q.2.ownBlock = some h → q'.2.ownBlock = some h → i = j
theorem NewFiles.keep {w0 w w' : World} {s : FsM} {d : Dir} {tails : List Int} {nb : List (Nat × Value)} {S : List Nat} (x : NewFiles w0 w s d tails nb) (hl : nb.length ≤ d.length) (hc : Chg S w w') (hS : ∀ k ∈ S, ∀ t cs, ¬ Blk w k t cs) : NewFiles w0 w' s d tails nb :=
  ⟨fun j q r h1 h2 => (x.blk j q r h1 h2).keep hc (fun hm => hS _ hm _ _ (x.blk j q r h1 h2)), fun j q r h1 h2 => (x.own j q r h1 h2).keep hc (fun h hh hm => by
    obtain ⟨cur, hr⟩ := (x.own j q r h1 h2).row hh
    exact hS _ hm _ _ hr), fun q hq => by
      obtain ⟨a1, a2, a3⟩ := x.fresh q hq
      have := hc.size
      exact ⟨a1, by omega, fun h hh => ⟨(a3 h hh).1, by have := (a3 h hh).2; omega⟩⟩, x.apart2, x.apart3⟩
theorem NewFiles.snoc {w0 w : World} {s : FsM} {d : Dir} {tails : List Int} {nb : List (Nat × Value)} (x : NewFiles w0 w s d tails nb) {r : Nm × Nat} (hr : d[nb.length]? = some r) {b : Nat} {v : Value}
    (hb : Blk w b 65 [v, .int .i64 (cutM ((s.files[r.2]?).getD ⟨[], 0⟩) tails nb.length).synced]) (ho : Own w 5 1 v (cutM ((s.files[r.2]?).getD ⟨[], 0⟩) tails nb.length).b.length (u8s (cutM ((s.files[r.2]?).getD ⟨[], 0⟩) tails nb.length).b))
    (hb0 : w0.heap.size ≤ b) (hv0 : ∀ h, v.ownBlock = some h → w0.heap.size ≤ h) (hbn : ∀ q ∈ nb, q.1 ≠ b) (hvn : ∀ q ∈ nb, ∀ h, q.2.ownBlock = some h → v.ownBlock ≠ some h) : NewFiles w0 w s d tails (nb ++ [(b, v)]) := by
  have hget : ∀ (j : Nat) q, (nb ++ [(b, v)])[j]? = some q → (j < nb.length ∧ nb[j]? = some q) ∨ (j = nb.length ∧ q = (b, v)) := fun j q h => by
    by_cases hj : j < nb.length
    · rw [List.getElem?_append_left hj] at h; exact .inl ⟨hj, h⟩
    · rw [List.getElem?_append_right (by omega)] at h
      have := (List.getElem?_eq_some_iff.1 h).1
      simp at this
      obtain rfl : j = nb.length := by omega
      simp at h; exact .inr ⟨rfl, h.symm⟩
  refine ⟨fun j q r' h1 h2 => ?_, fun j q r' h1 h2 => ?_, fun q hq => ?_, ?_, fun i j q q' h h1 h2 h3 h4 => ?_⟩
  · rcases hget j q h1 with ⟨_, h1⟩ | ⟨rfl, rfl⟩
    · exact x.blk j q r' h1 h2
    · rw [hr] at h2; injection h2 with h2; subst h2; exact hb
  · rcases hget j q h1 with ⟨_, h1⟩ | ⟨rfl, rfl⟩
    · exact x.own j q r' h1 h2
    · rw [hr] at h2; injection h2 with h2; subst h2; exact ho
  · rcases List.mem_append.1 hq with hq | hq
    · exact x.fresh q hq
    · simp at hq; subst hq; exact ⟨hb0, hb.lt, fun h hh => ⟨hv0 h hh, ho.lt hh⟩⟩
  · rw [List.map_append]
    refine List.nodup_append.2 ⟨x.apart2, by simp, fun a ha c hc e => ?_⟩
    obtain ⟨q, hq, rfl⟩ := List.mem_map.1 ha
    simp at hc
    exact hbn q hq (e.trans hc)
  · rcases hget i q h1 with ⟨_, h1⟩ | ⟨rfl, rfl⟩
    · rcases hget j q' h2 with ⟨_, h2⟩ | ⟨rfl, rfl⟩
      · exact x.apart3 i j q q' h h1 h2 h3 h4
      · exact absurd h4 (hvn q (List.mem_of_getElem? h1) h h3)
    · rcases hget j q' h2 with ⟨_, h2⟩ | ⟨rfl, rfl⟩
      · exact absurd h3 (hvn q' (List.mem_of_getElem? h2) h h4)
      · rfl

set_option maxHeartbeats 8000000 in
theorem crash_has (g : Nat) (s : FsM) (p : FsP) (n : Int) (At : Option Addr) (nt ct : Nat) (tails : List Int) (w : World) (x : FsAt w g s p) (ht : SliceOf Ri64 w (.slice At nt ct) tails) (hcalls : s.calls < 1000000000) :
    Has Go.Proofs.Tryd.prog 25 #[ptrV g, .int .i64 n, .slice At nt ct] w
    (fun v w' => Chg [] w w' ∧ ∃ gc pc, v = ptrV gc ∧ FsAt w' gc (crashM s n tails) pc ∧ ∀ k ∈ pc.fp gc, w.heap.size ≤ k) := by
  obtain ⟨rfl, ht1, ht2⟩ := ht.len
  unfold maxLen at ht2
  have hwl := x.ok.waits
  have hwl2 : s.waits.length < 1000000000 := by omega
  refine enter Go.Proofs.Tryd.func25 rfl rfl (by decide) rfl (e := [(0, ptrV g), (1, .int .i64 n), (2, .slice At tails.length ct)]) ⟨rfl, rfl, rfl, trivial⟩ ?_
  unfold ptrV
  have hb := x.blk
  obtain ⟨Aw, cw, hwv, hw1, hw2⟩ := x.waitsM.form
  repeat (first | refine W_seq ?_ | refine W_region ?_ | refine W_skip ?_ | refine Then_n ?_ | refine WL_nil ?_ | refine W_condF rfl ?_ | refine WL_some rfl rfl rfl ?_ | refine op_move rfl rfl ?_ | refine op_assign rfl rfl ?_ | refine op_eql_nilptr T rfl rfl rfl rfl rfl ?_)
  refine W_walk 11 [] fol (by kernel_rfl) (by kernel_rfl) ?_
  refine Walk.plain rfl (by intro val w_ hR hp; exact op_move rfl rfl ⟨Chg.refl _ _, rfl⟩) ?_; dsimp only [List.nil_append, List.cons_append]
  refine Walk.plain rfl (by intro val w_ hR hp; exact op_nilCheck rfl rfl ⟨Chg.refl _ _, rfl⟩) ?_; dsimp only [List.nil_append, List.cons_append]
  refine Walk.plain rfl (by intro val w_ hR hp; exact op_fieldAddr T rfl rfl rfl rfl rfl rfl rfl rfl ⟨Chg.refl _ _, rfl⟩) ?_; dsimp only [List.nil_append, List.cons_append]
  refine Walk.plain rfl (by intro val w_ hR hp; exact op_load T rfl rfl rfl rfl ((Blk.keep0 hb hR).cell rfl) ⟨Chg.refl _ _, rfl⟩) ?_; dsimp only [List.nil_append, List.cons_append]
  refine Walk.plain rfl (by intro val w_ hR hp; exact op_move rfl rfl ⟨Chg.refl _ _, rfl⟩) ?_; dsimp only [List.nil_append, List.cons_append]
  refine Walk.plain rfl (by intro val w_ hR hp; exact op_nilCheck rfl rfl ⟨Chg.refl _ _, rfl⟩) ?_; dsimp only [List.nil_append, List.cons_append]
  refine Walk.plain rfl (by intro val w_ hR hp; exact op_fieldAddr T rfl rfl rfl rfl rfl rfl rfl rfl ⟨Chg.refl _ _, rfl⟩) ?_; dsimp only [List.nil_append, List.cons_append]
  refine Walk.plain rfl (by intro val w_ hR hp; exact op_load T rfl rfl rfl rfl ((Blk.keep0 hb hR).cell rfl) ⟨Chg.refl _ _, rfl⟩) ?_; dsimp only [List.nil_append, List.cons_append]
  refine Walk.rel (fun u w_ => ∃ m, u = .map (some m) ∧ w.heap.size ≤ m ∧ MapAt keyV ptrV w_ m (at2 p.fb s.lasts)) rfl (fun u a b ⟨m, h1, h2, h3⟩ hab => ⟨m, h1, h2, h3.keep0 hab⟩) ?_ ?_
  · intro val w_ hR hp
    refine op_call rfl rfl rfl (cloneD_has (x.lastsM.keep0 hR)) ?_
    rintro v w' ⟨m, rfl, hs, hc, hm⟩
    exact ⟨hc, m, rfl, by have := hR.size; omega, hm⟩
  dsimp only [List.nil_append, List.cons_append]
  refine Walk.rel (fun u w_ => ∃ m, u = .agg #[.int .i64 s.room, .map none, .map (some m), .slice none 0 0, .int .i64 0, .int .i64 (-1)] ∧ w.heap.size ≤ m ∧ MapAt keyV ptrV w_ m (at2 p.fb s.lasts)) rfl (fun u a b ⟨m, h1, h2, h3⟩ hab => ⟨m, h1, h2, h3.keep0 hab⟩) ?_ ?_
  · intro val w_ hR hp
    obtain ⟨m, he, hs, hm⟩ : ∃ m, val 8 = .map (some m) ∧ w.heap.size ≤ m ∧ MapAt keyV ptrV w_ m (at2 p.fb s.lasts) := hp 8 rfl _ _ rfl rfl
    refine OpW_sub (e' := [(20, .int .i64 s.room), (25, .map (some m))]) ⟨rfl, congrArg some he, trivial⟩ ?_
    refine op_build T rfl rfl rfl rfl rfl rfl ?_
    exact ⟨Chg.refl _ _, m, rfl, hs, hm⟩
  dsimp only [List.nil_append, List.cons_append]
  refine Walk.rel (fun u w_ => ∃ gc m, u = .pointer (some ⟨gc, 0, none⟩) ∧ w.heap.size ≤ gc ∧ Blk w_ gc 56 [.int .i64 s.room, .map none, .map (some m), .slice none 0 0, .int .i64 0, .int .i64 (-1)] ∧ w.heap.size ≤ m ∧ MapAt keyV ptrV w_ m (at2 p.fb s.lasts)) rfl
    (fun u a b ⟨gc, m, h1, h2, h3, h4, h5⟩ hab => ⟨gc, m, h1, h2, h3.keep0 hab, h4, h5.keep0 hab⟩) ?_ ?_
  · intro val w_ hR hp
    obtain ⟨m, he, hs, hm⟩ : ∃ m, val 9 = .agg #[.int .i64 s.room, .map none, .map (some m), .slice none 0 0, .int .i64 0, .int .i64 (-1)] ∧ w.heap.size ≤ m ∧ MapAt keyV ptrV w_ m (at2 p.fb s.lasts) := hp 9 rfl _ _ rfl rfl
    refine OpW_sub (e' := [(26, .agg #[.int .i64 s.room, .map none, .map (some m), .slice none 0 0, .int .i64 0, .int .i64 (-1)])]) ⟨congrArg some he, trivial⟩ ?_
    exact op_box rfl rfl (fun gc w' hs' hc' hg' => ⟨hc', gc, m, rfl, by have := hR.size; omega, hg', hs, hm.keep0 hc'⟩)
  dsimp only [List.nil_append, List.cons_append]
  refine Walk.fin ?_
  intro val w1 hc1 hp
  obtain ⟨gc, m, he, hgc, hb1, hmf, hm1⟩ : ∃ gc m, val 10 = .pointer (some ⟨gc, 0, none⟩) ∧ w.heap.size ≤ gc ∧ Blk w1 gc 56 [.int .i64 s.room, .map none, .map (some m), .slice none 0 0, .int .i64 0, .int .i64 (-1)] ∧ w.heap.size ≤ m ∧ MapAt keyV ptrV w1 m (at2 p.fb s.lasts) := hp 10 (by omega) _ _ rfl rfl
  clear hp
  refine WL_sub (e' := [(0, .pointer (some ⟨g, 0, none⟩)), (1, .int .i64 n), (2, .slice At tails.length ct), (27, .pointer (some ⟨gc, 0, none⟩))]) ⟨rfl, rfl, rfl, congrArg some he, trivial⟩ ?_
  clear he
  have hgb1 : Blk w1 g 56 [.int .i64 s.room, .map (some p.md), .map (some p.ml), .slice Aw s.waits.length cw, .int .i64 s.calls, .int .i64 s.fail] := by rw [← hwv]; exact hb.keep0 hc1
  repeat (first | refine W_seq ?_ | refine W_block ?_ | refine W_region ?_ | refine Then_n ?_ | refine WL_nil ?_ | refine WL_some rfl rfl rfl ?_ | refine op_move rfl rfl ?_ | refine op_assign rfl rfl ?_ | refine op_len_slice T rfl rfl rfl rfl ?_ | refine op_nilCheck rfl rfl ?_ | refine op_fieldAddr T rfl rfl rfl rfl rfl rfl rfl rfl ?_ | refine op_loadB T rfl rfl rfl rfl (by assumption) (by exact rfl) ?_)
  refine W_loop (σ := Nat) (fun k => [(1, .int .i64 n), (2, .slice At tails.length ct), (7, .pointer (some ⟨gc, 0, none⟩)), (31, .slice Aw s.waits.length cw), (32, .int .i64 s.waits.length), (33, .int .i64 k)])
    (fun (k : Nat) w' => k ≤ s.waits.length ∧ Chg [] w w' ∧ Blk w' gc 56 [.int .i64 s.room, .map none, .map (some m), .slice none 0 0, .int .i64 0, .int .i64 (-1)] ∧ MapAt keyV ptrV w' m (at2 p.fb (crashTo s n k))) (fun k => s.waits.length - k) 0
    ⟨rfl, rfl, rfl, rfl, rfl, rfl, trivial⟩ ⟨by omega, hc1, hb1, by rw [crashTo_zero]; exact hm1⟩ ?_
  clear hb1 hm1 hgb1 hc1
  rintro k w2 ⟨hk, hc2, hb2, hm2⟩
  by_cases hkl : k < s.waits.length
  · have hck : s.waits[k]? = some s.waits[k] := List.getElem?_eq_getElem hkl
    generalize s.waits[k] = c at hck
    have x2 := x.keep0 hc2
    obtain ⟨gw, cap, cur, hv', hq1, hq2, hbw, hcl, hct⟩ := x2.waitsM.blk (by omega)
    rw [hwv] at hv'
    injection hv' with e1 e2 e3
    subst e1; subst e3
    obtain ⟨ip, hip⟩ := idV_form p.fb c.id
    have hcv : chV p.fb c = [.int .i64 c.kind, .string (str c.name), .string (str c.to), .pointer ip] := by unfold chV; rw [hip]; rfl
    have hchunk : (cur.drop (k * 4)).take 4 = [.int .i64 c.kind, .string (str c.name), .string (str c.to), .pointer ip] := by
      rw [← hcv, ← chunk p.fb s.waits k c hck, ← hct, List.drop_take, List.take_take]
      congr 1
      omega
    repeat (first | refine W_seq ?_ | refine W_block ?_ | refine W_region ?_ | refine W_skip ?_ | refine Then_n ?_ | refine WL_nil ?_ | refine W_condT rfl ?_ | refine WL_some rfl rfl rfl ?_ | refine op_move rfl rfl ?_ | refine op_lss rfl rfl rfl (fun hc => ?_) (fun hc => False.elim (by omega)))
    refine op_index_slice T rfl rfl rfl rfl rfl (by omega) (by omega) (p := ⟨gw, k * 4, none⟩) (by rw [Int.toNat_natCast]; exact add_plain _ _) ?_
    repeat (refine WL_some rfl rfl rfl ?_)
    refine op_load_agg (c' := #[.int .i64 c.kind, .string (str c.name), .string (str c.to), .pointer ip]) T rfl rfl rfl rfl hbw (by show k * 4 + 4 ≤ cur.length; omega) (by show ((cur.drop (k * 4)).take 4).toArray = _; rw [hchunk]) ?_
    repeat (refine WL_some rfl rfl rfl ?_)
    refine op_alloc T rfl rfl (fun g9 w3 hs3 hc3 hg3 => ?_)
    repeat (first | refine WL_some rfl rfl rfl ?_ | refine WL_none rfl rfl ?_ | refine op_assign rfl rfl ?_)
    refine op_store_agg T rfl rfl rfl rfl rfl rfl hg3 (Nat.le_of_ble_eq_true rfl) (fun w4 hc4 hg4 _ => ?_)
    have hg4 : Blk w4 g9 81 [.int .i64 c.kind, .string (str c.name), .string (str c.to), .pointer ip] := hg4
    have hc24 : Chg [] w2 w4 := hc3.trans hc4 (fun j hj hlt => by simp at hj; omega)
    have hb4 := hb2.keep0 hc24
    have hm4 := hm2.keep0 hc24
    by_cases hkn : (k : Int) < n
    · obtain ⟨hd, hf⟩ := crashTo_fit x.ok hck hkn
      have hids := x.ok.replay.ids c (List.mem_of_getElem? hck)
      repeat (first | refine W_seq ?_ | refine W_region ?_ | refine Then_n ?_ | refine WL_nil ?_ | refine W_condT rfl ?_ | refine WL_some rfl rfl rfl ?_ | refine op_move rfl rfl ?_ | refine op_lss rfl rfl rfl (fun hc => ?_) (fun hc => False.elim (by omega)))
      refine W_walk 5 [] fol (by kernel_rfl) (by kernel_rfl) ?_
      refine Walk.plain rfl (by intro val w_ hR hp; exact op_move rfl rfl ⟨Chg.refl _ _, rfl⟩) ?_; dsimp only [List.nil_append, List.cons_append]
      refine Walk.plain rfl (by intro val w_ hR hp; exact op_nilCheck rfl rfl ⟨Chg.refl _ _, rfl⟩) ?_; dsimp only [List.nil_append, List.cons_append]
      refine Walk.plain rfl (by intro val w_ hR hp; exact op_fieldAddr T rfl rfl rfl rfl rfl rfl rfl rfl ⟨Chg.refl _ _, rfl⟩) ?_; dsimp only [List.nil_append, List.cons_append]
      refine Walk.plain rfl (by intro val w_ hR hp; exact op_load T rfl rfl rfl rfl ((Blk.keep0 hb4 hR).cell rfl) ⟨Chg.refl _ _, rfl⟩) ?_; dsimp only [List.nil_append, List.cons_append]
      refine Walk.plain rfl (by intro val w_ hR hp; exact op_load_agg T rfl rfl rfl rfl (Blk.keep0 hg4 hR) (Nat.le_of_ble_eq_true rfl) rfl ⟨Chg.refl _ _, rfl⟩) ?_; dsimp only [List.nil_append, List.cons_append]
      refine Walk.fin ?_
      intro val w5 hc5 _
      have hm5 := hm4.keep0 hc5
      have hdo := do_has m p.fb (crashTo s n k) c w5 hm5 (by rw [x.len]; exact hd) hf (by rw [x.len]; exact hids)
      rw [hcv] at hdo
      refine WL_sub (e' := [(1, .int .i64 n), (2, .slice (At) tails.length ct), (7, .pointer (some ⟨gc, 0, none⟩)), (31, .slice (some ⟨gw, 0, none⟩) s.waits.length cw), (32, .int .i64 s.waits.length), (33, .int .i64 k), (44, .map (some m)), (45, .agg #[.int .i64 c.kind, .string (str c.name), .string (str c.to), .pointer ip])]) ⟨rfl, rfl, rfl, rfl, rfl, rfl, rfl, rfl, trivial⟩ ?_
      repeat (refine WL_some rfl rfl rfl ?_)
      refine op_call rfl rfl rfl hdo ?_
      rintro v w6 ⟨hc6, hm6⟩
      rw [← crashTo_step hck hkn] at hm6
      repeat (first | refine W_region ?_ | refine Then_n ?_ | refine InBlock_n ?_ | refine WL_nil ?_ | refine WL_some rfl rfl rfl ?_ | refine op_move rfl rfl ?_ | refine op_add rfl rfl rfl (wrap_i64_in (by omega) (by omega)) ?_)
      exact Round_n (k + 1) ⟨rfl, rfl, rfl, rfl, rfl, rfl, trivial⟩ ⟨by omega, ((hc2.trans' hc24).trans' hc5).trans hc6 (fun j hj hlt => by simp at hj; omega), (hb4.keep0 hc5).keep hc6 (by simpa using fun e => hm5.ne_blk (hb4.keep0 hc5) e.symm), hm6⟩ (by omega)
    · repeat (first | refine W_seq ?_ | refine W_region ?_ | refine W_skip ?_ | refine Then_n ?_ | refine InBlock_n ?_ | refine WL_nil ?_ | refine W_condF rfl ?_ | refine WL_some rfl rfl rfl ?_ | refine op_move rfl rfl ?_ | refine op_add rfl rfl rfl (wrap_i64_in (by omega) (by omega)) ?_ | refine op_lss rfl rfl rfl (fun hc => False.elim (by omega)) (fun hc => ?_))
      exact Round_n (k + 1) ⟨rfl, rfl, rfl, rfl, rfl, rfl, trivial⟩ ⟨by omega, hc2.trans' hc24, hb4, by rw [crashTo_stop hkn]; exact hm4⟩ (by omega)
  obtain rfl : k = s.waits.length := by omega
  rw [crashTo_end] at hm2
  have hd := crashDir_ok x.ok n
  have hfew := hd.few
  have hnd := hd.up.nodup
  have hcr : crashM s n tails = ⟨s.room, 0, -1, crashFiles s (crashDir s n) tails, (crashDir s n).mapIdx fun j p => (p.1, j), (crashDir s n).mapIdx fun j p => (p.1, j), []⟩ := rfl
  have hok := crashM_ok x.ok n tails
  rw [hcr] at hok ⊢
  clear hcr
  have hdl : DirOk p.fb.length (crashDir s n) := by rw [x.len]; exact hd
  generalize crashDir s n = d at hm2 hd hfew hnd hok hdl ⊢
  repeat (first | refine W_seq ?_ | refine W_region ?_ | refine W_exit ?_ | refine Then_n ?_ | refine Then_x ?_ | refine InBlock_hit ?_ | refine Round_x ?_ | refine WL_nil ?_ | refine W_condF rfl ?_ | refine WL_some rfl rfl rfl ?_ | refine op_move rfl rfl ?_ | refine op_nilCheck rfl rfl ?_ | refine op_lss rfl rfl rfl (fun hc => False.elim (by omega)) (fun hc => ?_) | refine op_fieldAddr T rfl rfl rfl rfl rfl rfl rfl rfl ?_ | refine op_loadB T rfl rfl rfl rfl (by assumption) (by exact rfl) ?_)
  refine op_call rfl rfl rfl (keysD_has m w2) ?_
  rintro _ _ ⟨rfl, rfl⟩
  repeat (refine WL_some rfl rfl rfl ?_)
  refine op_call rfl rfl rfl (sortedD_has hm2 (d.map (·.1)) (fun k hk => ?_) (by simp; omega)) ?_
  · have hmem := (at2_isSome hdl k).1 hk
    refine ⟨hmem, ?_⟩
    obtain ⟨q, hq, rfl⟩ := List.mem_map.1 hmem
    have := (hd.name q hq).1
    unfold maxLen; omega
  rintro nv w3 ⟨hc3, ss, hn, hs, ho, hfr⟩
  have hp : ss.Perm (d.map (·.1)) := (List.perm_ext_iff_of_nodup hn hnd).2 fun k => by rw [hs, at2_isSome hdl]
  rw [sorted_eq hp hd.up] at ho
  have hlen : ss.length = d.length := by rw [hp.length_eq, List.length_map]
  rw [hlen] at ho
  clear hp hlen hn hs ss
  have hfr' : ∀ h, nv.ownBlock = some h → w.heap.size ≤ h := fun h hh => by have := hfr h hh; have := hc2.size; omega
  obtain ⟨An, cn, rfl, hn1, hn2⟩ := ho.form
  have hm3 : MapAt keyV ptrV w3 m (hAt p.fb [] d) := (hm2.keep0 hc3).congr (fun k => (hAt_start _ _ _).symm)
  have hb3 := hb2.keep0 hc3
  have hc03 := hc2.trans' hc3
  repeat (first | refine W_block ?_ | refine Then_n ?_ | refine WL_nil ?_ | refine WL_some rfl rfl rfl ?_ | refine op_move rfl rfl ?_ | refine op_len_slice T rfl rfl rfl rfl ?_)
  refine W_loop (σ := List (Nat × Value)) (fun nb => [(2, .slice At tails.length ct), (7, .pointer (some ⟨gc, 0, none⟩)), (53, .slice An d.length cn), (54, .int .i64 d.length), (55, .int .i64 nb.length)])
    (fun (nb : List (Nat × Value)) w' => nb.length ≤ d.length ∧ Chg [] w w' ∧ Blk w' gc 56 [.int .i64 s.room, .map none, .map (some m), .slice none 0 0, .int .i64 0, .int .i64 (-1)] ∧ MapAt keyV ptrV w' m (hAt p.fb nb d) ∧ NewFiles w w' s d tails nb ∧ Own w' 9 1 (.slice An d.length cn) d.length ((d.map (·.1)).map keyV)) (fun nb => d.length - nb.length) []
    ⟨rfl, rfl, rfl, rfl, rfl, trivial⟩ ⟨by simp, hc03, hb3, hm3, ⟨(fun j q r h => by simp at h), (fun j q r h => by simp at h), (fun q hq => by cases hq), List.nodup_nil, (fun i j q q' h h1 => by simp at h1)⟩, ho⟩ ?_
  clear hb2 hm2 hb3 hm3 hc3 hc03 ho hfr hk hkl hc2
  rintro nb w4 ⟨hnl, hc4, hb4, hm4, hnf, ho4⟩
  by_cases hj : nb.length < d.length
  · have hr : d[nb.length]? = some d[nb.length] := List.getElem?_eq_getElem hj
    generalize d[nb.length] = r at hr
    have x4 := x.keep0 hc4
    have hri := (hdl.name r (List.mem_of_getElem? hr)).2
    have hq : p.fb[r.2]? = some p.fb[r.2] := List.getElem?_eq_getElem hri
    generalize p.fb[r.2] = q at hq
    obtain ⟨f, hfi⟩ : ∃ f, s.files[r.2]? = some f := ⟨_, List.getElem?_eq_getElem (by rw [← x.len]; exact hri)⟩
    have hfo := x.ok.files f (List.mem_of_getElem? hfi)
    obtain ⟨gn, hgn, ⟨cn', hvn⟩, hcell⟩ := ho4.cell (j := nb.length) (u := keyV r.1) (by rw [List.getElem?_map, List.getElem?_map, hr]; rfl)
    injection hvn with e1 _ e3
    subst e1
    have hcell : w4.cell? ⟨gn, nb.length, none⟩ = some (.string (str r.1)) := hcell
    have hbf := x4.fblk r.2 q f hq hfi
    have hof := x4.fown r.2 q f hq hfi
    obtain ⟨Aq, cq, hqv, hq1, hq2⟩ := hof.form
    rw [hqv] at hbf hof
    have htl := tailOf_le f tails nb.length hfo.1
    have htl0 : f.synced ≤ tailOf f tails nb.length := by unfold tailOf; omega
    have hat := hAt_at hnd hr hq
    repeat (first | refine W_seq ?_ | refine W_block ?_ | refine W_region ?_ | refine W_skip ?_ | refine Then_n ?_ | refine WL_nil ?_ | refine W_condT rfl ?_ | refine WL_some rfl rfl rfl ?_ | refine op_move rfl rfl ?_ | refine op_assign rfl rfl ?_ | refine op_nilCheck rfl rfl ?_ | refine op_index_own T rfl rfl rfl rfl rfl rfl (by omega) ?_ | refine op_load T rfl rfl rfl rfl (by assumption) ?_ | refine op_lss rfl rfl rfl (fun hc => ?_) (fun hc => False.elim (by omega)) | refine op_fieldAddr T rfl rfl rfl rfl rfl rfl rfl rfl ?_ | refine op_loadB T rfl rfl rfl rfl (by assumption) (by exact rfl) ?_)
    refine op_lookup_v T strKey rfl rfl rfl rfl rfl rfl hm4 (v := ptrV q.1) (fun b hb => by rw [hat] at hb; injection hb with hb; rw [hb]) (fun hn => by rw [hat] at hn; cases hn) ?_
    unfold ptrV
    repeat (first | refine W_seq ?_ | refine W_region ?_ | refine Then_n ?_ | refine WL_nil ?_ | refine WL_some rfl rfl rfl ?_ | refine op_move rfl rfl ?_ | refine op_assign rfl rfl ?_ | refine op_len_slice T rfl rfl rfl rfl ?_)
    refine op_lss_b rfl rfl rfl ?_
    repeat (first | refine Then_n ?_ | refine WL_nil ?_)
    refine W_meet (σ := Unit) (fun _ => [(2, .slice At tails.length ct), (7, .pointer (some ⟨gc, 0, none⟩)), (53, .slice (some ⟨gn, 0, none⟩) d.length cn), (54, .int .i64 d.length), (55, .int .i64 nb.length), (11, .string (str r.1)), (12, .pointer (some ⟨q.1, 0, none⟩)), (13, .int .i64 ((tailOf f tails nb.length - f.synced : Nat) : Int))]) (fun _ w' => Chg [] w4 w') ?_ ?_
    · refine W_cond rfl (fun h => ?_) (fun h => ?_)
      · have hjt : nb.length < tails.length := by have := of_decide_eq_true h; omega
        have htj : tails[nb.length]? = some tails[nb.length] := List.getElem?_eq_getElem hjt
        generalize tails[nb.length] = tj at htj
        obtain ⟨ad, u, rfl, hu, rfl, hu1, hu2⟩ := (SliceOf.kept Ri64.kept _ _ _ _ hc4 ht).get htj
        have hsyn := hfo.1
        have hfl := hfo.2
        skip
        refine W_walk 16 [] fol (by kernel_rfl) (by kernel_rfl) ?_
        refine Walk.plain rfl (by intro val w_ hR hp; exact op_move rfl rfl ⟨Chg.refl _ _, rfl⟩) ?_; dsimp only [List.nil_append, List.cons_append]
        refine Walk.plain rfl (by intro val w_ hR hp; exact op_move rfl rfl ⟨Chg.refl _ _, rfl⟩) ?_; dsimp only [List.nil_append, List.cons_append]
        refine Walk.plain rfl (by intro val w_ hR hp; exact op_index_nat T rfl rfl rfl rfl rfl rfl (by omega) ⟨Chg.refl _ _, rfl⟩) ?_; dsimp only [List.nil_append, List.cons_append]
        refine Walk.plain rfl (by intro val w_ hR hp; exact op_load T rfl rfl rfl rfl (hR.cell0 (by assumption)) ⟨Chg.refl _ _, rfl⟩) ?_; dsimp only [List.nil_append, List.cons_append]
        refine Walk.plain rfl (by intro val w_ hR hp; exact op_max rfl rfl rfl ⟨Chg.refl _ _, rfl⟩) ?_; dsimp only [List.nil_append, List.cons_append]
        refine Walk.plain rfl (by intro val w_ hR hp; exact op_move rfl rfl ⟨Chg.refl _ _, rfl⟩) ?_; dsimp only [List.nil_append, List.cons_append]
        refine Walk.plain rfl (by intro val w_ hR hp; exact op_nilCheck rfl rfl ⟨Chg.refl _ _, rfl⟩) ?_; dsimp only [List.nil_append, List.cons_append]
        refine Walk.plain rfl (by intro val w_ hR hp; exact op_fieldAddr T rfl rfl rfl rfl rfl rfl rfl rfl ⟨Chg.refl _ _, rfl⟩) ?_; dsimp only [List.nil_append, List.cons_append]
        refine Walk.plain rfl (by intro val w_ hR hp; exact op_load T rfl rfl rfl rfl ((Blk.keep0 hbf hR).cell rfl) ⟨Chg.refl _ _, rfl⟩) ?_; dsimp only [List.nil_append, List.cons_append]
        refine Walk.plain rfl (by intro val w_ hR hp; exact op_len_slice T rfl rfl rfl rfl ⟨Chg.refl _ _, rfl⟩) ?_; dsimp only [List.nil_append, List.cons_append]
        refine Walk.plain rfl (by intro val w_ hR hp; exact op_move rfl rfl ⟨Chg.refl _ _, rfl⟩) ?_; dsimp only [List.nil_append, List.cons_append]
        refine Walk.plain rfl (by intro val w_ hR hp; exact op_nilCheck rfl rfl ⟨Chg.refl _ _, rfl⟩) ?_; dsimp only [List.nil_append, List.cons_append]
        refine Walk.plain rfl (by intro val w_ hR hp; exact op_fieldAddr T rfl rfl rfl rfl rfl rfl rfl rfl ⟨Chg.refl _ _, rfl⟩) ?_; dsimp only [List.nil_append, List.cons_append]
        refine Walk.plain rfl (by intro val w_ hR hp; exact op_load T rfl rfl rfl rfl ((Blk.keep0 hbf hR).cell rfl) ⟨Chg.refl _ _, rfl⟩) ?_; dsimp only [List.nil_append, List.cons_append]
        refine Walk.plain rfl (by intro val w_ hR hp; exact op_subt rfl rfl rfl (wrap_i64_in (by omega) (by omega)) ⟨Chg.refl _ _, rfl⟩) ?_; dsimp only [List.nil_append, List.cons_append]
        refine Walk.plain rfl (by intro val w_ hR hp; exact op_min rfl rfl rfl ⟨Chg.refl _ _, rfl⟩) ?_; dsimp only [List.nil_append, List.cons_append]
        refine Walk.fin ?_
        intro val w5 hc5 _
        have hval : min (max tj 0) ((f.b.length : Int) - (f.synced : Int)) = ((tailOf f tails nb.length - f.synced : Nat) : Int) := by
          unfold tailOf
          rw [htj]
          simp only
          have hmm : ((min (max tj 0).toNat (f.b.length - f.synced) : Nat) : Int) = min (max tj 0) ((f.b.length : Int) - (f.synced : Int)) := by
            by_cases h1 : (max tj 0).toNat ≤ f.b.length - f.synced
            · rw [Nat.min_eq_left h1]; omega
            · rw [Nat.min_eq_right (by omega)]; omega
          rw [Nat.add_sub_cancel_left, hmm]
        refine WL_sub (e' := [(2, .slice (some ad) tails.length ct), (7, .pointer (some ⟨gc, 0, none⟩)), (53, .slice (some ⟨gn, 0, none⟩) d.length cn), (54, .int .i64 d.length), (55, .int .i64 nb.length), (11, .string (str r.1)), (12, .pointer (some ⟨q.1, 0, none⟩)), (85, .int .i64 ((tailOf f tails nb.length - f.synced : Nat) : Int))]) ⟨rfl, rfl, rfl, rfl, rfl, rfl, rfl, some_int hval, trivial⟩ ?_
        repeat (first | refine WL_nil ?_ | refine WL_some rfl rfl rfl ?_ | refine op_assign rfl rfl ?_)
        exact Meet_n () ⟨rfl, rfl, rfl, rfl, rfl, rfl, rfl, rfl, trivial⟩ hc5
      · have hjt : tails[nb.length]? = none := List.getElem?_eq_none_iff.2 (by have := of_decide_eq_false h; omega)
        have hz : tailOf f tails nb.length - f.synced = 0 := by unfold tailOf; rw [hjt]; simp
        rw [hz]
        repeat (refine W_skip ?_)
        exact Meet_n () ⟨rfl, rfl, rfl, rfl, rfl, rfl, rfl, rfl, trivial⟩ (Chg.refl _ _)
    intro _ w5 hc5
    have hbf5 := hbf.keep0 hc5
    have hof5 := hof.keep0 hc5
    have hm5 := hm4.keep0 hc5
    have hb5 := hb4.keep0 hc5
    have hnf5 := hnf.keep hnl hc5 (fun k hk => by cases hk)
    have ho5 := ho4.keep0 hc5
    have hfl := hfo.2
    repeat (first | refine W_seq ?_ | refine Then_n ?_)
    refine W_walk 12 [] fol (by kernel_rfl) (by kernel_rfl) ?_
    refine Walk.plain rfl (by intro val w_ hR hp; exact op_move rfl rfl ⟨Chg.refl _ _, rfl⟩) ?_; dsimp only [List.nil_append, List.cons_append]
    refine Walk.plain rfl (by intro val w_ hR hp; exact op_nilCheck rfl rfl ⟨Chg.refl _ _, rfl⟩) ?_; dsimp only [List.nil_append, List.cons_append]
    refine Walk.plain rfl (by intro val w_ hR hp; exact op_fieldAddr T rfl rfl rfl rfl rfl rfl rfl rfl ⟨Chg.refl _ _, rfl⟩) ?_; dsimp only [List.nil_append, List.cons_append]
    refine Walk.plain rfl (by intro val w_ hR hp; exact op_load T rfl rfl rfl rfl ((Blk.keep0 hbf5 hR).cell rfl) ⟨Chg.refl _ _, rfl⟩) ?_; dsimp only [List.nil_append, List.cons_append]
    refine Walk.plain rfl (by intro val w_ hR hp; exact op_move rfl rfl ⟨Chg.refl _ _, rfl⟩) ?_; dsimp only [List.nil_append, List.cons_append]
    refine Walk.plain rfl (by intro val w_ hR hp; exact op_nilCheck rfl rfl ⟨Chg.refl _ _, rfl⟩) ?_; dsimp only [List.nil_append, List.cons_append]
    refine Walk.plain rfl (by intro val w_ hR hp; exact op_fieldAddr T rfl rfl rfl rfl rfl rfl rfl rfl ⟨Chg.refl _ _, rfl⟩) ?_; dsimp only [List.nil_append, List.cons_append]
    refine Walk.plain rfl (by intro val w_ hR hp; exact op_load T rfl rfl rfl rfl ((Blk.keep0 hbf5 hR).cell rfl) ⟨Chg.refl _ _, rfl⟩) ?_; dsimp only [List.nil_append, List.cons_append]
    refine Walk.plain rfl (by intro val w_ hR hp; exact op_move rfl rfl ⟨Chg.refl _ _, rfl⟩) ?_; dsimp only [List.nil_append, List.cons_append]
    refine Walk.plain rfl (by intro val w_ hR hp; exact op_add rfl rfl rfl (wrap_i64_in (by omega) (by omega)) ⟨Chg.refl _ _, rfl⟩) ?_; dsimp only [List.nil_append, List.cons_append]
    refine Walk.plain (v := .slice Aq (tailOf f tails nb.length) cq) rfl (by intro val w_ hR hp; exact op_slice_to T (h' := tailOf f tails nb.length) (k := .i64) rfl rfl (some_int (by omega)) rfl rfl (by omega) ⟨Chg.refl _ _, rfl⟩) ?_; dsimp only [List.nil_append, List.cons_append]
    have hcut : SliceOf Ru8 w5 (.slice Aq (tailOf f tails nb.length) cq) (f.b.take (tailOf f tails nb.length)) := hof5.bytes.take (by omega)
    have hclen : (f.b.take (tailOf f tails nb.length)).length = tailOf f tails nb.length := by rw [List.length_take]; omega
    refine Walk.rel (fun u w_ => Own w_ 5 1 u (tailOf f tails nb.length) (u8s (f.b.take (tailOf f tails nb.length))) ∧ ∀ h, u.ownBlock = some h → w5.heap.size ≤ h) rfl (fun u a b h hab => ⟨h.1.keep0 hab, h.2⟩) ?_ ?_
    · intro val w_ hR hp
      refine op_call rfl rfl rfl (clone_has Aq _ cq (f.b.take (tailOf f tails nb.length)) w_ (SliceOf.kept Ru8.kept _ _ _ _ hR hcut) (by rw [hclen]; omega)) ?_
      rintro v w' ⟨hc, ho, hf⟩
      rw [hclen] at ho
      exact ⟨hc, ho, fun h hh => by have := hf h hh; have := hR.size; omega⟩
    dsimp only [List.nil_append, List.cons_append]
    refine Walk.fin ?_
    intro val w6 hc6 hp
    obtain ⟨hu6, huf6⟩ : Own w6 5 1 (val 11) (tailOf f tails nb.length) (u8s (f.b.take (tailOf f tails nb.length))) ∧ ∀ h, (val 11).ownBlock = some h → w5.heap.size ≤ h := hp 11 (by omega) _ _ rfl rfl
    clear hp
    refine WL_sub (e' := [(2, .slice At tails.length ct), (7, .pointer (some ⟨gc, 0, none⟩)), (53, .slice (some ⟨gn, 0, none⟩) d.length cn), (54, .int .i64 d.length), (55, .int .i64 nb.length), (11, .string (str r.1)), (97, val 11)]) ⟨rfl, rfl, rfl, rfl, rfl, rfl, rfl, trivial⟩ ?_
    generalize val 11 = uv at hu6 huf6
    obtain ⟨Au, cu, rfl, _, _⟩ := hu6.form
    have hb6 := hb5.keep0 hc6
    have hm6 := hm5.keep0 hc6
    have hnf6 := hnf5.keep hnl hc6 (fun k hk => by cases hk)
    have ho6 := ho5.keep0 hc6
    repeat (first | refine W_region ?_ | refine Then_n ?_ | refine WL_nil ?_ | refine WL_some rfl rfl rfl ?_ | refine op_move rfl rfl ?_ | refine op_assign rfl rfl ?_ | refine op_len_slice T rfl rfl rfl rfl ?_ | refine op_nilCheck rfl rfl ?_ | refine op_fieldAddr T rfl rfl rfl rfl rfl rfl rfl rfl ?_ | refine op_build T rfl rfl rfl rfl rfl rfl ?_ | refine op_loadB T rfl rfl rfl rfl (by assumption) (by exact rfl) ?_)
    refine op_box rfl rfl (fun gf w7 hs7 hc7 hg7 => ?_)
    have hg7 : Blk w7 gf 65 [.slice Au (tailOf f tails nb.length) cu, .int .i64 (tailOf f tails nb.length : Nat)] := hg7
    have hb7 := hb6.keep0 hc7
    have hm7 := hm6.keep0 hc7
    have hnf7 := hnf6.keep hnl hc7 (fun k hk => by cases hk)
    have ho7 := ho6.keep0 hc7
    have hu7 := hu6.keep0 hc7
    repeat (refine WL_none rfl rfl ?_)
    refine op_mapUpdate T strKey (bv := ptrV) (b := gf) rfl rfl rfl rfl rfl rfl hm7 (fun w8 hc8 hm8 _ => ?_)
    have hmb : ∀ k ∈ [m], ∀ t cs, ¬ Blk w7 k t cs := fun k hk t cs hbk => by simp at hk; subst hk; exact hm7.ne_blk hbk rfl
    have hcf : cutM ((s.files[r.2]?).getD ⟨[], 0⟩) tails nb.length = ⟨f.b.take (tailOf f tails nb.length), tailOf f tails nb.length⟩ := by rw [hfi]; rfl
    have hs45 := hc5.size
    have hs56 := hc6.size
    have hs67 := hc7.size
    have hs04 := hc4.size
    have hnf8 : NewFiles w w8 s d tails (nb ++ [(gf, .slice Au (tailOf f tails nb.length) cu)]) := by
      refine (hnf7.keep hnl hc8 hmb).snoc hr ?_ ?_ (by omega) (fun h hh => by have := huf6 h hh; omega) (fun q hq e => ?_) (fun q hq h hh e => ?_)
      · rw [hcf]; exact hg7.keep hc8 (fun hm => hmb _ hm _ _ hg7)
      · rw [hcf, hclen]
        exact hu7.keep hc8 (fun h hh hm => by
          obtain ⟨cur, hr⟩ := hu7.row hh
          exact hmb _ hm _ _ hr)
      · have := (hnf6.fresh q hq).2.1; omega
      · have h1 := huf6 h e
        have h2 := ((hnf.fresh q hq).2.2 h hh).2
        omega
    repeat (first | refine W_region ?_ | refine Then_n ?_ | refine InBlock_n ?_ | refine WL_nil ?_ | refine WL_some rfl rfl rfl ?_ | refine op_move rfl rfl ?_ | refine op_add rfl rfl rfl (wrap_i64_in (by omega) (by omega)) ?_)
    refine Round_n (nb ++ [(gf, .slice Au (tailOf f tails nb.length) cu)]) ⟨rfl, rfl, rfl, rfl, ?_, trivial⟩ ⟨by rw [List.length_append]; simp; omega, ((((hc4.trans' hc5).trans' hc6).trans' hc7).trans hc8 (fun j hj hlt => by simp at hj; omega)), hb7.keep hc8 (fun hm => hmb _ hm _ _ hb7), hm8.congr (fun k => (hAt_step hnd hr (gf, .slice Au (tailOf f tails nb.length) cu) k).symm), hnf8, ho7.keep hc8 (fun h hh hm => by
      obtain ⟨cur, hr⟩ := ho7.row hh
      exact hmb _ hm _ _ hr)⟩ (by rw [List.length_append]; simp; omega)
    rw [List.length_append]
    exact some_int (by simp)
  have hnl' : nb.length = d.length := by omega
  repeat (first | refine W_seq ?_ | refine W_region ?_ | refine W_exit ?_ | refine Then_n ?_ | refine Then_x ?_ | refine InBlock_hit ?_ | refine Round_x ?_ | refine WL_nil ?_ | refine W_condF rfl ?_ | refine WL_some rfl rfl rfl ?_ | refine op_move rfl rfl ?_ | refine op_nilCheck rfl rfl ?_ | refine op_lss rfl rfl rfl (fun hc => False.elim (by omega)) (fun hc => ?_) | refine op_fieldAddr T rfl rfl rfl rfl rfl rfl rfl rfl ?_ | refine op_loadB T rfl rfl rfl rfl (by assumption) (by exact rfl) ?_)
  refine op_call rfl rfl rfl (cloneD_has hm4) ?_
  rintro _ w5 ⟨md, rfl, hmd, hc5, hm5⟩
  have hb5 := hb4.keep0 hc5
  have hml5 := hm4.keep0 hc5
  have hnf5 := hnf.keep hnl hc5 (fun k hk => by cases hk)
  repeat (first | refine WL_some rfl rfl rfl ?_ | refine WL_none rfl rfl ?_ | refine op_nilCheck rfl rfl ?_ | refine op_fieldAddr T rfl rfl rfl rfl rfl rfl rfl rfl ?_)
  refine op_store T rfl rfl rfl rfl rfl rfl hb5 (Nat.le_of_ble_eq_true rfl) (fun w6 hc6 hb6 _ => ?_)
  have hgrow : ∀ k ∈ [gc], ∀ t cs, Blk w5 k t cs → t = 56 := fun k hk t cs hbk => by
    simp at hk; subst hk
    exact Classical.byContradiction fun hne => hbk.ne_ hb5 hne rfl
  repeat (first | refine W_seq ?_ | refine W_region ?_ | refine W_ret ?_ | refine Then_n ?_ | refine WL_nil ?_ | refine WL_some rfl rfl rfl ?_ | refine op_move rfl rfl ?_ | refine op_assign rfl rfl ?_)
  have hs4 := hc4.size
  have hs5 := hc5.size
  have hml := hm4.lt
  refine post1 (.inl rfl) rfl rfl ⟨(hc4.trans' hc5).trans hc6 (fun j hj hlt => by simp at hj; omega), gc, ⟨md, m, .slice none 0 0, nb⟩, rfl, ⟨hok, hb6, ?_, ?_, Own.nil _ _ _, ?_, fun j q f hq hf => ?_, fun j q f hq hf => ?_, (show md ≠ m by omega), hnf.apart2, hnf.apart3⟩, fun k hk => ?_⟩
  · exact (hm5.keep hc6 (by simpa using hm5.ne_blk hb5)).congr (fun k => hAt_end hnl' k)
  · exact (hml5.keep hc6 (by simpa using hml5.ne_blk hb5)).congr (fun k => hAt_end hnl' k)
  · show nb.length = (crashFiles s d tails).length
    unfold crashFiles
    simpa using hnl'
  · have hjl : j < d.length := by rw [← hnl']; exact (List.getElem?_eq_some_iff.1 hq).1
    have hr : d[j]? = some d[j] := List.getElem?_eq_getElem hjl
    have hf' : f = cutM ((s.files[d[j].2]?).getD ⟨[], 0⟩) tails j := by
      have hf : (crashFiles s d tails)[j]? = some f := hf
      unfold crashFiles at hf
      rw [List.getElem?_mapIdx, hr] at hf
      injection hf with hf; exact hf.symm
    rw [hf']
    have h1 := hnf5.blk j q _ hq hr
    exact h1.keep hc6 (fun hm => by have := hgrow _ hm _ _ h1; exact absurd this (by decide))
  · have hjl : j < d.length := by rw [← hnl']; exact (List.getElem?_eq_some_iff.1 hq).1
    have hr : d[j]? = some d[j] := List.getElem?_eq_getElem hjl
    have hf' : f = cutM ((s.files[d[j].2]?).getD ⟨[], 0⟩) tails j := by
      have hf : (crashFiles s d tails)[j]? = some f := hf
      unfold crashFiles at hf
      rw [List.getElem?_mapIdx, hr] at hf
      injection hf with hf; exact hf.symm
    rw [hf']
    have h1 := hnf5.own j q _ hq hr
    exact h1.keep hc6 (fun h hh hm => by
      obtain ⟨cur, hrr⟩ := h1.row hh
      have := hgrow _ hm _ _ hrr; exact absurd this (by decide))
  · rcases FsP.mem_fp.1 hk with h | h | h | h | ⟨q, hq, h⟩
    · omega
    · have h : k = md := h
      omega
    · have h : k = m := h
      omega
    · cases h
    · have h5 := hnf.fresh q hq
      rcases h with rfl | h
      · exact h5.1
      · exact (h5.2.2 k h).1
end Go.Proofs.YtbhnplghnhafiaaDoor.Tryd
