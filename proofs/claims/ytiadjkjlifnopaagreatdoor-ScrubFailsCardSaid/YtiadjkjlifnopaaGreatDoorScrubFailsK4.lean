/- Part 4 of the texts that the law of the last one leans on: steps of the walk and contracts of functions. Its conditions stand in each theorem. -/
import Derived.Test.YtiadjkjlifnopaaGreatDoorScrubFailsK3
import Derived.Test.YtiadjkjlifnopaaGreatDoorScrubFailsK1
set_option linter.unusedVariables false
set_option linter.unusedSimpArgs false
/-! Files: a crash. -/
namespace Go.Proofs.YtiadjkjlifnopaaGreatDoor.Tryz
open Go Go.Vc
structure NewFiles (w0 w : World) (s : FsM) (d : Dir) (tails : List Int) (nb : List (Nat × Value)) : Prop where
 blk : ∀ (j : Nat) q r, nb[j]? = some q → d[j]? = some r → Blk w q.1 106 [q.2, .int .i64 (cutM ((s.files[r.2]?).getD ⟨[], 0⟩) tails j).synced]
 own : ∀ (j : Nat) q r, nb[j]? = some q → d[j]? = some r → Own w 5 1 q.2 (cutM ((s.files[r.2]?).getD ⟨[], 0⟩) tails j).b.length (u8s (cutM ((s.files[r.2]?).getD ⟨[], 0⟩) tails j).b)
 fresh : ∀ q ∈ nb, w0.heap.size ≤ q.1 ∧ q.1 < w.heap.size ∧ ∀ h, q.2.ownBlock = some h → w0.heap.size ≤ h ∧ h < w.heap.size
 apart2 : (nb.map (·.1)).Nodup
 apart3 : ∀ (i j : Nat) q q' h, nb[i]? = some q → nb[j]? = some q' → q.2.ownBlock = some h → q'.2.ownBlock = some h → i = j
theorem NewFiles.keep {w0 w w' : World} {s : FsM} {d : Dir} {tails : List Int} {nb : List (Nat × Value)} {S : List Nat} (x : NewFiles w0 w s d tails nb) (hl : nb.length ≤ d.length) (hc : Chg S w w') (hS : ∀ k ∈ S, ∀ t cs, ¬ Blk w k t cs) : NewFiles w0 w' s d tails nb :=
 ⟨fun j q r h1 h2 => (x.blk j q r h1 h2).keep hc (fun hm => hS _ hm _ _ (x.blk j q r h1 h2)), fun j q r h1 h2 => (x.own j q r h1 h2).keep hc (fun h hh hm => by
  obtain ⟨cur, hr⟩ := (x.own j q r h1 h2).row hh
  exact hS _ hm _ _ hr), fun q hq => by
   obtain ⟨a1, a2, a3⟩ := x.fresh q hq
   have := hc.size
   exact ⟨a1, by omega, fun h hh => ⟨(a3 h hh).1, by have := (a3 h hh).2; omega⟩⟩, x.apart2, x.apart3⟩
theorem NewFiles.snoc {w0 w : World} {s : FsM} {d : Dir} {tails : List Int} {nb : List (Nat × Value)} (x : NewFiles w0 w s d tails nb) {r : Nm × Nat} (hr : d[nb.length]? = some r) {b : Nat} {v : Value}
  (hb : Blk w b 106 [v, .int .i64 (cutM ((s.files[r.2]?).getD ⟨[], 0⟩) tails nb.length).synced]) (ho : Own w 5 1 v (cutM ((s.files[r.2]?).getD ⟨[], 0⟩) tails nb.length).b.length (u8s (cutM ((s.files[r.2]?).getD ⟨[], 0⟩) tails nb.length).b))
  (hb0 : w0.heap.size ≤ b) (hv0 : ∀ h, v.ownBlock = some h → w0.heap.size ≤ h) (hbn : ∀ q ∈ nb, q.1 ≠ b) (hvn : ∀ q ∈ nb, ∀ h, q.2.ownBlock = some h → v.ownBlock ≠ some h) : NewFiles w0 w s d tails (nb ++ [(b, v)]) := by
 have hget : ∀ (j : Nat) q, (nb ++ [(b, v)])[j]? = some q → (j < nb.length ∧ nb[j]? = some q) ∨ (j = nb.length ∧ q = (b, v)) := fun j q h => by
  by_cases hj : j < nb.length
  ·rw [List.getElem?_append_left hj] at h; exact .inl ⟨hj, h⟩
  ·rw [List.getElem?_append_right (by omega)] at h
   have := (List.getElem?_eq_some_iff.1 h).1
   simp at this
   obtain rfl : j = nb.length := by omega
   simp at h; exact .inr ⟨rfl, h.symm⟩
 refine ⟨fun j q r' h1 h2 => ?_, fun j q r' h1 h2 => ?_, fun q hq => ?_, ?_, fun i j q q' h h1 h2 h3 h4 => ?_⟩
 ·rcases hget j q h1 with ⟨_, h1⟩ | ⟨rfl, rfl⟩
  ·exact x.blk j q r' h1 h2
  ·rw [hr] at h2; injection h2 with h2; subst h2; exact hb
 ·rcases hget j q h1 with ⟨_, h1⟩ | ⟨rfl, rfl⟩
  ·exact x.own j q r' h1 h2
  ·rw [hr] at h2; injection h2 with h2; subst h2; exact ho
 ·rcases List.mem_append.1 hq with hq | hq
  ·exact x.fresh q hq
  ·simp at hq; subst hq; exact ⟨hb0, hb.lt, fun h hh => ⟨hv0 h hh, ho.lt hh⟩⟩
 ·rw [List.map_append]
  refine List.nodup_append.2 ⟨x.apart2, by simp, fun a ha c hc e => ?_⟩
  obtain ⟨q, hq, rfl⟩ := List.mem_map.1 ha
  simp at hc
  exact hbn q hq (e.trans hc)
 ·rcases hget i q h1 with ⟨_, h1⟩ | ⟨rfl, rfl⟩
  ·rcases hget j q' h2 with ⟨_, h2⟩ | ⟨rfl, rfl⟩
   ·exact x.apart3 i j q q' h h1 h2 h3 h4
   ·exact absurd h4 (hvn q (List.mem_of_getElem? h1) h h3)
  ·rcases hget j q' h2 with ⟨_, h2⟩ | ⟨rfl, rfl⟩
   ·exact absurd h3 (hvn q' (List.mem_of_getElem? h2) h h4)
   ·rfl
set_option maxHeartbeats 8000000 in
theorem crash_has (g : Nat) (s : FsM) (p : FsP) (n : Int) (At : Option Addr) (nt ct : Nat) (tails : List Int) (w : World) (x : FsAt w g s p) (ht : SliceOf Ri64 w (.slice At nt ct) tails) (hcalls : s.calls < 1000000000) :
  Has Tryz.prog 26 #[ptrV g, .int .i64 n, .slice At nt ct] w
  (fun v w' => Chg [] w w' ∧ ∃ gc pc, v = ptrV gc ∧ FsAt w' gc (crashM s n tails) pc ∧ ∀ k ∈ pc.fp gc, w.heap.size ≤ k) := by
 obtain ⟨rfl, ht1, ht2⟩ := ht.len
 unfold maxLen at ht2
 have hwl := x.ok.waits
 have hwl2 : s.waits.length < 1000000000 := by omega
 refine enter Tryz.func26 rfl rfl (by decide) rfl (e := [(0, ptrV g), (1, .int .i64 n), (2, .slice At tails.length ct)]) ⟨rfl, rfl, rfl, trivial⟩ ?_
 unfold ptrV
 have hb := x.blk
 obtain ⟨Aw, cw, hwv, hw1, hw2⟩ := x.waitsM.form
 repeat (first | refine W_seq ?_ | refine W_region ?_ | refine W_skip ?_ | refine Then_n ?_ | refine WL_nil ?_ | refine W_condF rfl ?_ | refine WL_some rfl rfl rfl ?_ | refine op_move rfl rfl ?_ | refine op_assign rfl rfl ?_ | refine op_eql_nilptr T rfl rfl rfl rfl rfl ?_)
 refine W_walk 11 [] fol (by kernel_rfl) (by kernel_rfl) ?_
 refine Walk.plain rfl (by intro val w_ hR hp; exact op_move rfl rfl ⟨Chg.refl _ _, rfl⟩) ?_; dsimp only [na1, na2]
 refine Walk.plain rfl (by intro val w_ hR hp; exact op_nilCheck rfl rfl ⟨Chg.refl _ _, rfl⟩) ?_; dsimp only [na1, na2]
 refine Walk.plain rfl (by intro val w_ hR hp; exact op_fieldAddr T rfl rfl rfl rfl rfl rfl rfl rfl ⟨Chg.refl _ _, rfl⟩) ?_; dsimp only [na1, na2]
 refine Walk.plain rfl (by intro val w_ hR hp; exact op_load T rfl rfl rfl rfl ((Blk.keep0 hb hR).cell rfl) ⟨Chg.refl _ _, rfl⟩) ?_; dsimp only [na1, na2]
 refine Walk.plain rfl (by intro val w_ hR hp; exact op_move rfl rfl ⟨Chg.refl _ _, rfl⟩) ?_; dsimp only [na1, na2]
 refine Walk.plain rfl (by intro val w_ hR hp; exact op_nilCheck rfl rfl ⟨Chg.refl _ _, rfl⟩) ?_; dsimp only [na1, na2]
 refine Walk.plain rfl (by intro val w_ hR hp; exact op_fieldAddr T rfl rfl rfl rfl rfl rfl rfl rfl ⟨Chg.refl _ _, rfl⟩) ?_; dsimp only [na1, na2]
 refine Walk.plain rfl (by intro val w_ hR hp; exact op_load T rfl rfl rfl rfl ((Blk.keep0 hb hR).cell rfl) ⟨Chg.refl _ _, rfl⟩) ?_; dsimp only [na1, na2]
 refine Walk.rel (fun u w_ => ∃ m, u = .map (some m) ∧ w.heap.size ≤ m ∧ MapAt keyV ptrV w_ m (at2 p.fb s.lasts)) rfl (fun u a b ⟨m, h1, h2, h3⟩ hab => ⟨m, h1, h2, h3.keep0 hab⟩) ?_ ?_
 ·intro val w_ hR hp
  refine op_call rfl rfl rfl (cloneD_has (x.lastsM.keep0 hR)) ?_
  rintro v w' ⟨m, rfl, hs, hc, hm⟩
  exact ⟨hc, m, rfl, by have := hR.size; omega, hm⟩
 dsimp only [List.nil_append, List.cons_append]
 refine Walk.rel (fun u w_ => ∃ m, u = .agg #[.int .i64 s.room, .map none, .map (some m), .slice none 0 0, .int .i64 0, .int .i64 (-1)] ∧ w.heap.size ≤ m ∧ MapAt keyV ptrV w_ m (at2 p.fb s.lasts)) rfl (fun u a b ⟨m, h1, h2, h3⟩ hab => ⟨m, h1, h2, h3.keep0 hab⟩) ?_ ?_
 ·intro val w_ hR hp
  obtain ⟨m, he, hs, hm⟩ : ∃ m, val 8 = .map (some m) ∧ w.heap.size ≤ m ∧ MapAt keyV ptrV w_ m (at2 p.fb s.lasts) := hp 8 rfl _ _ rfl rfl
  refine OpW_sub (e' := [(20, .int .i64 s.room), (25, .map (some m))]) ⟨rfl, congrArg some he, trivial⟩ ?_
  refine op_build T rfl rfl rfl rfl rfl rfl ?_
  exact ⟨Chg.refl _ _, m, rfl, hs, hm⟩
 dsimp only [List.nil_append, List.cons_append]
 refine Walk.rel (fun u w_ => ∃ gc m, u = .pointer (some ⟨gc, 0, none⟩) ∧ w.heap.size ≤ gc ∧ Blk w_ gc 86 [.int .i64 s.room, .map none, .map (some m), .slice none 0 0, .int .i64 0, .int .i64 (-1)] ∧ w.heap.size ≤ m ∧ MapAt keyV ptrV w_ m (at2 p.fb s.lasts)) rfl
  (fun u a b ⟨gc, m, h1, h2, h3, h4, h5⟩ hab => ⟨gc, m, h1, h2, h3.keep0 hab, h4, h5.keep0 hab⟩) ?_ ?_
 ·intro val w_ hR hp
  obtain ⟨m, he, hs, hm⟩ : ∃ m, val 9 = .agg #[.int .i64 s.room, .map none, .map (some m), .slice none 0 0, .int .i64 0, .int .i64 (-1)] ∧ w.heap.size ≤ m ∧ MapAt keyV ptrV w_ m (at2 p.fb s.lasts) := hp 9 rfl _ _ rfl rfl
  refine OpW_sub (e' := [(26, .agg #[.int .i64 s.room, .map none, .map (some m), .slice none 0 0, .int .i64 0, .int .i64 (-1)])]) ⟨congrArg some he, trivial⟩ ?_
  exact op_box rfl rfl (fun gc w' hs' hc' hg' => ⟨hc', gc, m, rfl, by have := hR.size; omega, hg', hs, hm.keep0 hc'⟩)
 dsimp only [List.nil_append, List.cons_append]
 refine Walk.fin ?_
 intro val w1 hc1 hp
 obtain ⟨gc, m, he, hgc, hb1, hmf, hm1⟩ : ∃ gc m, val 10 = .pointer (some ⟨gc, 0, none⟩) ∧ w.heap.size ≤ gc ∧ Blk w1 gc 86 [.int .i64 s.room, .map none, .map (some m), .slice none 0 0, .int .i64 0, .int .i64 (-1)] ∧ w.heap.size ≤ m ∧ MapAt keyV ptrV w1 m (at2 p.fb s.lasts) := hp 10 (by omega) _ _ rfl rfl
 clear hp
 refine WL_sub (e' := [(0, .pointer (some ⟨g, 0, none⟩)), (1, .int .i64 n), (2, .slice At tails.length ct), (27, .pointer (some ⟨gc, 0, none⟩))]) ⟨rfl, rfl, rfl, congrArg some he, trivial⟩ ?_
 clear he
 have hgb1 : Blk w1 g 86 [.int .i64 s.room, .map (some p.md), .map (some p.ml), .slice Aw s.waits.length cw, .int .i64 s.calls, .int .i64 s.fail] := by rw [← hwv]; exact hb.keep0 hc1
 repeat (first | refine W_seq ?_ | refine W_block ?_ | refine W_region ?_ | refine Then_n ?_ | refine WL_nil ?_ | refine WL_some rfl rfl rfl ?_ | refine op_move rfl rfl ?_ | refine op_assign rfl rfl ?_ | refine op_len_slice T rfl rfl rfl rfl ?_ | refine op_nilCheck rfl rfl ?_ | refine op_fieldAddr T rfl rfl rfl rfl rfl rfl rfl rfl ?_ | refine op_loadB T rfl rfl rfl rfl (by assumption) (by exact rfl) ?_)
 refine W_loop (σ := Nat) (fun k => [(1, .int .i64 n), (2, .slice At tails.length ct), (7, .pointer (some ⟨gc, 0, none⟩)), (31, .slice Aw s.waits.length cw), (32, .int .i64 s.waits.length), (33, .int .i64 k)])
  (fun (k : Nat) w' => k ≤ s.waits.length ∧ Chg [] w w' ∧ Blk w' gc 86 [.int .i64 s.room, .map none, .map (some m), .slice none 0 0, .int .i64 0, .int .i64 (-1)] ∧ MapAt keyV ptrV w' m (at2 p.fb (crashTo s n k))) (fun k => s.waits.length - k) 0
  ⟨rfl, rfl, rfl, rfl, rfl, rfl, trivial⟩ ⟨by omega, hc1, hb1, by rw [crashTo_zero]; exact hm1⟩ ?_
 clear hb1 hm1 hgb1 hc1
 rintro k w2 ⟨hk, hc2, hb2, hm2⟩
 by_cases hkl : k < s.waits.length
 ·have hck : s.waits[k]? = some s.waits[k] := List.getElem?_eq_getElem hkl
  generalize s.waits[k] = c at hck
  have x2 := x.keep0 hc2
  obtain ⟨gw, cap, cur, hv', hq1, hq2, hbw, hcl, hct⟩ := x2.waitsM.blk (by omega)
  rw [hwv] at hv'
  injection hv' with e1 e2 e3
  subst e1; subst e3
  obtain ⟨ip, hip⟩ := idV_form p.fb c.id
  have hcv : chV p.fb c = [.int .i64 c.kind, .string (str c.name), .string (str c.to), .pointer ip] := by unfold chV; rw [hip]; rfl
  have hchunk : (cur.drop (k * 4)).take 4 = [.int .i64 c.kind, .string (str c.name), .string (str c.to), .pointer ip] := by
   rw [← hcv, ← chunk p.fb s.waits k c hck, ← hct, List.drop_take, List.take_take]
   congr 1
   omega
  repeat (first | refine W_seq ?_ | refine W_block ?_ | refine W_region ?_ | refine W_skip ?_ | refine Then_n ?_ | refine WL_nil ?_ | refine W_condT rfl ?_ | refine WL_some rfl rfl rfl ?_ | refine op_move rfl rfl ?_ | refine op_lss rfl rfl rfl (fun hc => ?_) (fun hc => False.elim (by omega)))
  refine op_index_slice T rfl rfl rfl rfl rfl (by omega) (by omega) (p := ⟨gw, k * 4, none⟩) (by rw [Int.toNat_natCast]; exact add_plain _ _) ?_
  repeat (refine WL_some rfl rfl rfl ?_)
  refine op_load_agg (c' := #[.int .i64 c.kind, .string (str c.name), .string (str c.to), .pointer ip]) T rfl rfl rfl rfl hbw (by show k * 4 + 4 ≤ cur.length; omega) (by show ((cur.drop (k * 4)).take 4).toArray = _; rw [hchunk]) ?_
  repeat (refine WL_some rfl rfl rfl ?_)
  refine op_alloc T rfl rfl (fun g9 w3 hs3 hc3 hg3 => ?_)
  repeat (first | refine WL_some rfl rfl rfl ?_ | refine WL_none rfl rfl ?_ | refine op_assign rfl rfl ?_)
  refine op_store_agg T rfl rfl rfl rfl rfl rfl hg3 (Nat.le_of_ble_eq_true rfl) (fun w4 hc4 hg4 _ => ?_)
  have hg4 : Blk w4 g9 108 [.int .i64 c.kind, .string (str c.name), .string (str c.to), .pointer ip] := hg4
  have hc24 : Chg [] w2 w4 := hc3.trans hc4 (fun j hj hlt => by simp at hj; omega)
  have hb4 := hb2.keep0 hc24
  have hm4 := hm2.keep0 hc24
  by_cases hkn : (k : Int) < n
  ·obtain ⟨hd, hf⟩ := crashTo_fit x.ok hck hkn
   have hids := x.ok.replay.ids c (List.mem_of_getElem? hck)
   repeat (first | refine W_seq ?_ | refine W_region ?_ | refine Then_n ?_ | refine WL_nil ?_ | refine W_condT rfl ?_ | refine WL_some rfl rfl rfl ?_ | refine op_move rfl rfl ?_ | refine op_lss rfl rfl rfl (fun hc => ?_) (fun hc => False.elim (by omega)))
   refine W_walk 5 [] fol (by kernel_rfl) (by kernel_rfl) ?_
   refine Walk.plain rfl (by intro val w_ hR hp; exact op_move rfl rfl ⟨Chg.refl _ _, rfl⟩) ?_; dsimp only [na1, na2]
   refine Walk.plain rfl (by intro val w_ hR hp; exact op_nilCheck rfl rfl ⟨Chg.refl _ _, rfl⟩) ?_; dsimp only [na1, na2]
   refine Walk.plain rfl (by intro val w_ hR hp; exact op_fieldAddr T rfl rfl rfl rfl rfl rfl rfl rfl ⟨Chg.refl _ _, rfl⟩) ?_; dsimp only [na1, na2]
   refine Walk.plain rfl (by intro val w_ hR hp; exact op_load T rfl rfl rfl rfl ((Blk.keep0 hb4 hR).cell rfl) ⟨Chg.refl _ _, rfl⟩) ?_; dsimp only [na1, na2]
   refine Walk.plain rfl (by intro val w_ hR hp; exact op_load_agg T rfl rfl rfl rfl (Blk.keep0 hg4 hR) (Nat.le_of_ble_eq_true rfl) rfl ⟨Chg.refl _ _, rfl⟩) ?_; dsimp only [na1, na2]
   refine Walk.fin ?_
   intro val w5 hc5 _
   have hm5 := hm4.keep0 hc5
   have hdo := do_has m p.fb (crashTo s n k) c w5 hm5 (by rw [x.len]; exact hd) hf (by rw [x.len]; exact hids)
   rw [hcv] at hdo
   refine WL_sub (e' := [(1, .int .i64 n), (2, .slice (At) tails.length ct), (7, .pointer (some ⟨gc, 0, none⟩)), (31, .slice (some ⟨gw, 0, none⟩) s.waits.length cw), (32, .int .i64 s.waits.length), (33, .int .i64 k), (44, .map (some m)), (45, .agg #[.int .i64 c.kind, .string (str c.name), .string (str c.to), .pointer ip])]) ⟨rfl, rfl, rfl, rfl, rfl, rfl, rfl, rfl, trivial⟩ ?_
   repeat (refine WL_some rfl rfl rfl ?_)
   refine op_call rfl rfl rfl hdo ?_
   rintro v w6 ⟨hc6, hm6⟩
   rw [← crashTo_step hck hkn] at hm6
   repeat (first | refine W_region ?_ | refine Then_n ?_ | refine InBlock_n ?_ | refine WL_nil ?_ | refine WL_some rfl rfl rfl ?_ | refine op_move rfl rfl ?_ | refine op_add rfl rfl rfl (wrap_i64_in (by omega) (by omega)) ?_)
   exact Round_n (k + 1) ⟨rfl, rfl, rfl, rfl, rfl, rfl, trivial⟩ ⟨by omega, ((hc2.trans' hc24).trans' hc5).trans hc6 (fun j hj hlt => by simp at hj; omega), (hb4.keep0 hc5).keep hc6 (by simpa using fun e => hm5.ne_blk (hb4.keep0 hc5) e.symm), hm6⟩ (by omega)
  ·repeat (first | refine W_seq ?_ | refine W_region ?_ | refine W_skip ?_ | refine Then_n ?_ | refine InBlock_n ?_ | refine WL_nil ?_ | refine W_condF rfl ?_ | refine WL_some rfl rfl rfl ?_ | refine op_move rfl rfl ?_ | refine op_add rfl rfl rfl (wrap_i64_in (by omega) (by omega)) ?_ | refine op_lss rfl rfl rfl (fun hc => False.elim (by omega)) (fun hc => ?_))
   exact Round_n (k + 1) ⟨rfl, rfl, rfl, rfl, rfl, rfl, trivial⟩ ⟨by omega, hc2.trans' hc24, hb4, by rw [crashTo_stop hkn]; exact hm4⟩ (by omega)
 obtain rfl : k = s.waits.length := by omega
 rw [crashTo_end] at hm2
 have hd := crashDir_ok x.ok n
 have hfew := hd.few
 have hnd := hd.up.nodup
 have hcr : crashM s n tails = ⟨s.room, 0, -1, crashFiles s (crashDir s n) tails, (crashDir s n).mapIdx fun j p => (p.1, j), (crashDir s n).mapIdx fun j p => (p.1, j), []⟩ := rfl
 have hok := crashM_ok x.ok n tails
 rw [hcr] at hok ⊢
 clear hcr
 have hdl : DirOk p.fb.length (crashDir s n) := by rw [x.len]; exact hd
 generalize crashDir s n = d at hm2 hd hfew hnd hok hdl ⊢
 repeat (first | refine W_seq ?_ | refine W_region ?_ | refine W_exit ?_ | refine Then_n ?_ | refine Then_x ?_ | refine InBlock_hit ?_ | refine Round_x ?_ | refine WL_nil ?_ | refine W_condF rfl ?_ | refine WL_some rfl rfl rfl ?_ | refine op_move rfl rfl ?_ | refine op_nilCheck rfl rfl ?_ | refine op_lss rfl rfl rfl (fun hc => False.elim (by omega)) (fun hc => ?_) | refine op_fieldAddr T rfl rfl rfl rfl rfl rfl rfl rfl ?_ | refine op_loadB T rfl rfl rfl rfl (by assumption) (by exact rfl) ?_)
 refine op_call rfl rfl rfl (keysD_has m w2) ?_
 rintro _ _ ⟨rfl, rfl⟩
 repeat (refine WL_some rfl rfl rfl ?_)
 refine op_call rfl rfl rfl (sortedD_has hm2 (d.map (·.1)) (fun k hk => ?_) (by simp; omega)) ?_
 ·have hmem := (at2_isSome hdl k).1 hk
  refine ⟨hmem, ?_⟩
  obtain ⟨q, hq, rfl⟩ := List.mem_map.1 hmem
  have := (hd.name q hq).1
  unfold maxLen; omega
 rintro nv w3 ⟨hc3, ss, hn, hs, ho, hfr⟩
 have hp : ss.Perm (d.map (·.1)) := (List.perm_ext_iff_of_nodup hn hnd).2 fun k => by rw [hs, at2_isSome hdl]
 rw [sorted_eq hp hd.up] at ho
 have hlen : ss.length = d.length := by rw [hp.length_eq, List.length_map]
 rw [hlen] at ho
 clear hp hlen hn hs ss
 have hfr' : ∀ h, nv.ownBlock = some h → w.heap.size ≤ h := fun h hh => by have := hfr h hh; have := hc2.size; omega
 obtain ⟨An, cn, rfl, hn1, hn2⟩ := ho.form
 have hm3 : MapAt keyV ptrV w3 m (hAt p.fb [] d) := (hm2.keep0 hc3).congr (fun k => (hAt_start _ _ _).symm)
 have hb3 := hb2.keep0 hc3
 have hc03 := hc2.trans' hc3
 repeat (first | refine W_block ?_ | refine Then_n ?_ | refine WL_nil ?_ | refine WL_some rfl rfl rfl ?_ | refine op_move rfl rfl ?_ | refine op_len_slice T rfl rfl rfl rfl ?_)
 refine W_loop (σ := List (Nat × Value)) (fun nb => [(2, .slice At tails.length ct), (7, .pointer (some ⟨gc, 0, none⟩)), (53, .slice An d.length cn), (54, .int .i64 d.length), (55, .int .i64 nb.length)])
  (fun (nb : List (Nat × Value)) w' => nb.length ≤ d.length ∧ Chg [] w w' ∧ Blk w' gc 86 [.int .i64 s.room, .map none, .map (some m), .slice none 0 0, .int .i64 0, .int .i64 (-1)] ∧ MapAt keyV ptrV w' m (hAt p.fb nb d) ∧ NewFiles w w' s d tails nb ∧ Own w' 9 1 (.slice An d.length cn) d.length ((d.map (·.1)).map keyV)) (fun nb => d.length - nb.length) []
  ⟨rfl, rfl, rfl, rfl, rfl, trivial⟩ ⟨by simp, hc03, hb3, hm3, ⟨(fun j q r h => by simp at h), (fun j q r h => by simp at h), (fun q hq => by cases hq), List.nodup_nil, (fun i j q q' h h1 => by simp at h1)⟩, ho⟩ ?_
 clear hb2 hm2 hb3 hm3 hc3 hc03 ho hfr hk hkl hc2
 rintro nb w4 ⟨hnl, hc4, hb4, hm4, hnf, ho4⟩
 by_cases hj : nb.length < d.length
 ·have hr : d[nb.length]? = some d[nb.length] := List.getElem?_eq_getElem hj
  generalize d[nb.length] = r at hr
  have x4 := x.keep0 hc4
  have hri := (hdl.name r (List.mem_of_getElem? hr)).2
  have hq : p.fb[r.2]? = some p.fb[r.2] := List.getElem?_eq_getElem hri
  generalize p.fb[r.2] = q at hq
  obtain ⟨f, hfi⟩ : ∃ f, s.files[r.2]? = some f := ⟨_, List.getElem?_eq_getElem (by rw [← x.len]; exact hri)⟩
  have hfo := x.ok.files f (List.mem_of_getElem? hfi)
  obtain ⟨gn, hgn, ⟨cn', hvn⟩, hcell⟩ := ho4.cell (j := nb.length) (u := keyV r.1) (by rw [List.getElem?_map, List.getElem?_map, hr]; rfl)
  injection hvn with e1 _ e3
  subst e1
  have hcell : w4.cell? ⟨gn, nb.length, none⟩ = some (.string (str r.1)) := hcell
  have hbf := x4.fblk r.2 q f hq hfi
  have hof := x4.fown r.2 q f hq hfi
  obtain ⟨Aq, cq, hqv, hq1, hq2⟩ := hof.form
  rw [hqv] at hbf hof
  have htl := tailOf_le f tails nb.length hfo.1
  have htl0 : f.synced ≤ tailOf f tails nb.length := by unfold tailOf; omega
  have hat := hAt_at hnd hr hq
  repeat (first | refine W_seq ?_ | refine W_block ?_ | refine W_region ?_ | refine W_skip ?_ | refine Then_n ?_ | refine WL_nil ?_ | refine W_condT rfl ?_ | refine WL_some rfl rfl rfl ?_ | refine op_move rfl rfl ?_ | refine op_assign rfl rfl ?_ | refine op_nilCheck rfl rfl ?_ | refine op_index_own T rfl rfl rfl rfl rfl rfl (by omega) ?_ | refine op_load T rfl rfl rfl rfl (by assumption) ?_ | refine op_lss rfl rfl rfl (fun hc => ?_) (fun hc => False.elim (by omega)) | refine op_fieldAddr T rfl rfl rfl rfl rfl rfl rfl rfl ?_ | refine op_loadB T rfl rfl rfl rfl (by assumption) (by exact rfl) ?_)
  refine op_lookup_v T strKey rfl rfl rfl rfl rfl rfl hm4 (v := ptrV q.1) (fun b hb => by rw [hat] at hb; injection hb with hb; rw [hb]) (fun hn => by rw [hat] at hn; cases hn) ?_
  unfold ptrV
  repeat (first | refine W_seq ?_ | refine W_region ?_ | refine Then_n ?_ | refine WL_nil ?_ | refine WL_some rfl rfl rfl ?_ | refine op_move rfl rfl ?_ | refine op_assign rfl rfl ?_ | refine op_len_slice T rfl rfl rfl rfl ?_)
  refine op_lss_b rfl rfl rfl ?_
  repeat (first | refine Then_n ?_ | refine WL_nil ?_)
  refine W_meet (σ := Unit) (fun _ => [(2, .slice At tails.length ct), (7, .pointer (some ⟨gc, 0, none⟩)), (53, .slice (some ⟨gn, 0, none⟩) d.length cn), (54, .int .i64 d.length), (55, .int .i64 nb.length), (11, .string (str r.1)), (12, .pointer (some ⟨q.1, 0, none⟩)), (13, .int .i64 ((tailOf f tails nb.length - f.synced : Nat) : Int))]) (fun _ w' => Chg [] w4 w') ?_ ?_
  ·refine W_cond rfl (fun h => ?_) (fun h => ?_)
   ·have hjt : nb.length < tails.length := by have := of_decide_eq_true h; omega
    have htj : tails[nb.length]? = some tails[nb.length] := List.getElem?_eq_getElem hjt
    generalize tails[nb.length] = tj at htj
    obtain ⟨ad, u, rfl, hu, rfl, hu1, hu2⟩ := (SliceOf.kept Ri64.kept _ _ _ _ hc4 ht).get htj
    have hsyn := hfo.1
    have hfl := hfo.2
    skip
    refine W_walk 16 [] fol (by kernel_rfl) (by kernel_rfl) ?_
    refine Walk.plain rfl (by intro val w_ hR hp; exact op_move rfl rfl ⟨Chg.refl _ _, rfl⟩) ?_; dsimp only [na1, na2]
    refine Walk.plain rfl (by intro val w_ hR hp; exact op_move rfl rfl ⟨Chg.refl _ _, rfl⟩) ?_; dsimp only [na1, na2]
    refine Walk.plain rfl (by intro val w_ hR hp; exact op_index_nat T rfl rfl rfl rfl rfl rfl (by omega) ⟨Chg.refl _ _, rfl⟩) ?_; dsimp only [na1, na2]
    refine Walk.plain rfl (by intro val w_ hR hp; exact op_load T rfl rfl rfl rfl (hR.cell0 (by assumption)) ⟨Chg.refl _ _, rfl⟩) ?_; dsimp only [na1, na2]
    refine Walk.plain rfl (by intro val w_ hR hp; exact op_max rfl rfl rfl ⟨Chg.refl _ _, rfl⟩) ?_; dsimp only [na1, na2]
    refine Walk.plain rfl (by intro val w_ hR hp; exact op_move rfl rfl ⟨Chg.refl _ _, rfl⟩) ?_; dsimp only [na1, na2]
    refine Walk.plain rfl (by intro val w_ hR hp; exact op_nilCheck rfl rfl ⟨Chg.refl _ _, rfl⟩) ?_; dsimp only [na1, na2]
    refine Walk.plain rfl (by intro val w_ hR hp; exact op_fieldAddr T rfl rfl rfl rfl rfl rfl rfl rfl ⟨Chg.refl _ _, rfl⟩) ?_; dsimp only [na1, na2]
    refine Walk.plain rfl (by intro val w_ hR hp; exact op_load T rfl rfl rfl rfl ((Blk.keep0 hbf hR).cell rfl) ⟨Chg.refl _ _, rfl⟩) ?_; dsimp only [na1, na2]
    refine Walk.plain rfl (by intro val w_ hR hp; exact op_len_slice T rfl rfl rfl rfl ⟨Chg.refl _ _, rfl⟩) ?_; dsimp only [na1, na2]
    refine Walk.plain rfl (by intro val w_ hR hp; exact op_move rfl rfl ⟨Chg.refl _ _, rfl⟩) ?_; dsimp only [na1, na2]
    refine Walk.plain rfl (by intro val w_ hR hp; exact op_nilCheck rfl rfl ⟨Chg.refl _ _, rfl⟩) ?_; dsimp only [na1, na2]
    refine Walk.plain rfl (by intro val w_ hR hp; exact op_fieldAddr T rfl rfl rfl rfl rfl rfl rfl rfl ⟨Chg.refl _ _, rfl⟩) ?_; dsimp only [na1, na2]
    refine Walk.plain rfl (by intro val w_ hR hp; exact op_load T rfl rfl rfl rfl ((Blk.keep0 hbf hR).cell rfl) ⟨Chg.refl _ _, rfl⟩) ?_; dsimp only [na1, na2]
    refine Walk.plain rfl (by intro val w_ hR hp; exact op_subt rfl rfl rfl (wrap_i64_in (by omega) (by omega)) ⟨Chg.refl _ _, rfl⟩) ?_; dsimp only [na1, na2]
    refine Walk.plain rfl (by intro val w_ hR hp; exact op_min rfl rfl rfl ⟨Chg.refl _ _, rfl⟩) ?_; dsimp only [na1, na2]
    refine Walk.fin ?_
    intro val w5 hc5 _
    have hval : min (max tj 0) ((f.b.length : Int) - (f.synced : Int)) = ((tailOf f tails nb.length - f.synced : Nat) : Int) := by
     unfold tailOf
     rw [htj]
     simp only
     have hmm : ((min (max tj 0).toNat (f.b.length - f.synced) : Nat) : Int) = min (max tj 0) ((f.b.length : Int) - (f.synced : Int)) := by
      by_cases h1 : (max tj 0).toNat ≤ f.b.length - f.synced
      ·rw [Nat.min_eq_left h1]; omega
      ·rw [Nat.min_eq_right (by omega)]; omega
     rw [Nat.add_sub_cancel_left, hmm]
    refine WL_sub (e' := [(2, .slice (some ad) tails.length ct), (7, .pointer (some ⟨gc, 0, none⟩)), (53, .slice (some ⟨gn, 0, none⟩) d.length cn), (54, .int .i64 d.length), (55, .int .i64 nb.length), (11, .string (str r.1)), (12, .pointer (some ⟨q.1, 0, none⟩)), (85, .int .i64 ((tailOf f tails nb.length - f.synced : Nat) : Int))]) ⟨rfl, rfl, rfl, rfl, rfl, rfl, rfl, some_int hval, trivial⟩ ?_
    repeat (first | refine WL_nil ?_ | refine WL_some rfl rfl rfl ?_ | refine op_assign rfl rfl ?_)
    exact Meet_n () ⟨rfl, rfl, rfl, rfl, rfl, rfl, rfl, rfl, trivial⟩ hc5
   ·have hjt : tails[nb.length]? = none := List.getElem?_eq_none_iff.2 (by have := of_decide_eq_false h; omega)
    have hz : tailOf f tails nb.length - f.synced = 0 := by unfold tailOf; rw [hjt]; simp
    rw [hz]
    repeat (refine W_skip ?_)
    exact Meet_n () ⟨rfl, rfl, rfl, rfl, rfl, rfl, rfl, rfl, trivial⟩ (Chg.refl _ _)
  intro _ w5 hc5
  have hbf5 := hbf.keep0 hc5
  have hof5 := hof.keep0 hc5
  have hm5 := hm4.keep0 hc5
  have hb5 := hb4.keep0 hc5
  have hnf5 := hnf.keep hnl hc5 (fun k hk => by cases hk)
  have ho5 := ho4.keep0 hc5
  have hfl := hfo.2
  repeat (first | refine W_seq ?_ | refine Then_n ?_)
  refine W_walk 12 [] fol (by kernel_rfl) (by kernel_rfl) ?_
  refine Walk.plain rfl (by intro val w_ hR hp; exact op_move rfl rfl ⟨Chg.refl _ _, rfl⟩) ?_; dsimp only [na1, na2]
  refine Walk.plain rfl (by intro val w_ hR hp; exact op_nilCheck rfl rfl ⟨Chg.refl _ _, rfl⟩) ?_; dsimp only [na1, na2]
  refine Walk.plain rfl (by intro val w_ hR hp; exact op_fieldAddr T rfl rfl rfl rfl rfl rfl rfl rfl ⟨Chg.refl _ _, rfl⟩) ?_; dsimp only [na1, na2]
  refine Walk.plain rfl (by intro val w_ hR hp; exact op_load T rfl rfl rfl rfl ((Blk.keep0 hbf5 hR).cell rfl) ⟨Chg.refl _ _, rfl⟩) ?_; dsimp only [na1, na2]
  refine Walk.plain rfl (by intro val w_ hR hp; exact op_move rfl rfl ⟨Chg.refl _ _, rfl⟩) ?_; dsimp only [na1, na2]
  refine Walk.plain rfl (by intro val w_ hR hp; exact op_nilCheck rfl rfl ⟨Chg.refl _ _, rfl⟩) ?_; dsimp only [na1, na2]
  refine Walk.plain rfl (by intro val w_ hR hp; exact op_fieldAddr T rfl rfl rfl rfl rfl rfl rfl rfl ⟨Chg.refl _ _, rfl⟩) ?_; dsimp only [na1, na2]
  refine Walk.plain rfl (by intro val w_ hR hp; exact op_load T rfl rfl rfl rfl ((Blk.keep0 hbf5 hR).cell rfl) ⟨Chg.refl _ _, rfl⟩) ?_; dsimp only [na1, na2]
  refine Walk.plain rfl (by intro val w_ hR hp; exact op_move rfl rfl ⟨Chg.refl _ _, rfl⟩) ?_; dsimp only [na1, na2]
  refine Walk.plain rfl (by intro val w_ hR hp; exact op_add rfl rfl rfl (wrap_i64_in (by omega) (by omega)) ⟨Chg.refl _ _, rfl⟩) ?_; dsimp only [na1, na2]
  refine Walk.plain (v := .slice Aq (tailOf f tails nb.length) cq) rfl (by intro val w_ hR hp; exact op_slice_to T (h' := tailOf f tails nb.length) (k := .i64) rfl rfl (some_int (by omega)) rfl rfl (by omega) ⟨Chg.refl _ _, rfl⟩) ?_; dsimp only [na1, na2]
  have hcut : SliceOf Ru8 w5 (.slice Aq (tailOf f tails nb.length) cq) (f.b.take (tailOf f tails nb.length)) := hof5.bytes.take (by omega)
  have hclen : (f.b.take (tailOf f tails nb.length)).length = tailOf f tails nb.length := by rw [List.length_take]; omega
  refine Walk.rel (fun u w_ => Own w_ 5 1 u (tailOf f tails nb.length) (u8s (f.b.take (tailOf f tails nb.length))) ∧ ∀ h, u.ownBlock = some h → w5.heap.size ≤ h) rfl (fun u a b h hab => ⟨h.1.keep0 hab, h.2⟩) ?_ ?_
  ·intro val w_ hR hp
   refine op_call rfl rfl rfl (clone_has Aq _ cq (f.b.take (tailOf f tails nb.length)) w_ (SliceOf.kept Ru8.kept _ _ _ _ hR hcut) (by rw [hclen]; omega)) ?_
   rintro v w' ⟨hc, ho, hf⟩
   rw [hclen] at ho
   exact ⟨hc, ho, fun h hh => by have := hf h hh; have := hR.size; omega⟩
  dsimp only [List.nil_append, List.cons_append]
  refine Walk.fin ?_
  intro val w6 hc6 hp
  obtain ⟨hu6, huf6⟩ : Own w6 5 1 (val 11) (tailOf f tails nb.length) (u8s (f.b.take (tailOf f tails nb.length))) ∧ ∀ h, (val 11).ownBlock = some h → w5.heap.size ≤ h := hp 11 (by omega) _ _ rfl rfl
  clear hp
  refine WL_sub (e' := [(2, .slice At tails.length ct), (7, .pointer (some ⟨gc, 0, none⟩)), (53, .slice (some ⟨gn, 0, none⟩) d.length cn), (54, .int .i64 d.length), (55, .int .i64 nb.length), (11, .string (str r.1)), (97, val 11)]) ⟨rfl, rfl, rfl, rfl, rfl, rfl, rfl, trivial⟩ ?_
  generalize val 11 = uv at hu6 huf6
  obtain ⟨Au, cu, rfl, _, _⟩ := hu6.form
  have hb6 := hb5.keep0 hc6
  have hm6 := hm5.keep0 hc6
  have hnf6 := hnf5.keep hnl hc6 (fun k hk => by cases hk)
  have ho6 := ho5.keep0 hc6
  repeat (first | refine W_region ?_ | refine Then_n ?_ | refine WL_nil ?_ | refine WL_some rfl rfl rfl ?_ | refine op_move rfl rfl ?_ | refine op_assign rfl rfl ?_ | refine op_len_slice T rfl rfl rfl rfl ?_ | refine op_nilCheck rfl rfl ?_ | refine op_fieldAddr T rfl rfl rfl rfl rfl rfl rfl rfl ?_ | refine op_build T rfl rfl rfl rfl rfl rfl ?_ | refine op_loadB T rfl rfl rfl rfl (by assumption) (by exact rfl) ?_)
  refine op_box rfl rfl (fun gf w7 hs7 hc7 hg7 => ?_)
  have hg7 : Blk w7 gf 106 [.slice Au (tailOf f tails nb.length) cu, .int .i64 (tailOf f tails nb.length : Nat)] := hg7
  have hb7 := hb6.keep0 hc7
  have hm7 := hm6.keep0 hc7
  have hnf7 := hnf6.keep hnl hc7 (fun k hk => by cases hk)
  have ho7 := ho6.keep0 hc7
  have hu7 := hu6.keep0 hc7
  repeat (refine WL_none rfl rfl ?_)
  refine op_mapUpdate T strKey (bv := ptrV) (b := gf) rfl rfl rfl rfl rfl rfl hm7 (fun w8 hc8 hm8 _ => ?_)
  have hmb : ∀ k ∈ [m], ∀ t cs, ¬ Blk w7 k t cs := fun k hk t cs hbk => by simp at hk; subst hk; exact hm7.ne_blk hbk rfl
  have hcf : cutM ((s.files[r.2]?).getD ⟨[], 0⟩) tails nb.length = ⟨f.b.take (tailOf f tails nb.length), tailOf f tails nb.length⟩ := by rw [hfi]; rfl
  have hs45 := hc5.size
  have hs56 := hc6.size
  have hs67 := hc7.size
  have hs04 := hc4.size
  have hnf8 : NewFiles w w8 s d tails (nb ++ [(gf, .slice Au (tailOf f tails nb.length) cu)]) := by
   refine (hnf7.keep hnl hc8 hmb).snoc hr ?_ ?_ (by omega) (fun h hh => by have := huf6 h hh; omega) (fun q hq e => ?_) (fun q hq h hh e => ?_)
   ·rw [hcf]; exact hg7.keep hc8 (fun hm => hmb _ hm _ _ hg7)
   ·rw [hcf, hclen]
    exact hu7.keep hc8 (fun h hh hm => by
     obtain ⟨cur, hr⟩ := hu7.row hh
     exact hmb _ hm _ _ hr)
   ·have := (hnf6.fresh q hq).2.1; omega
   ·have h1 := huf6 h e
    have h2 := ((hnf.fresh q hq).2.2 h hh).2
    omega
  repeat (first | refine W_region ?_ | refine Then_n ?_ | refine InBlock_n ?_ | refine WL_nil ?_ | refine WL_some rfl rfl rfl ?_ | refine op_move rfl rfl ?_ | refine op_add rfl rfl rfl (wrap_i64_in (by omega) (by omega)) ?_)
  refine Round_n (nb ++ [(gf, .slice Au (tailOf f tails nb.length) cu)]) ⟨rfl, rfl, rfl, rfl, ?_, trivial⟩ ⟨by rw [List.length_append]; simp; omega, ((((hc4.trans' hc5).trans' hc6).trans' hc7).trans hc8 (fun j hj hlt => by simp at hj; omega)), hb7.keep hc8 (fun hm => hmb _ hm _ _ hb7), hm8.congr (fun k => (hAt_step hnd hr (gf, .slice Au (tailOf f tails nb.length) cu) k).symm), hnf8, ho7.keep hc8 (fun h hh hm => by
   obtain ⟨cur, hr⟩ := ho7.row hh
   exact hmb _ hm _ _ hr)⟩ (by rw [List.length_append]; simp; omega)
  rw [List.length_append]
  exact some_int (by simp)
 have hnl' : nb.length = d.length := by omega
 repeat (first | refine W_seq ?_ | refine W_region ?_ | refine W_exit ?_ | refine Then_n ?_ | refine Then_x ?_ | refine InBlock_hit ?_ | refine Round_x ?_ | refine WL_nil ?_ | refine W_condF rfl ?_ | refine WL_some rfl rfl rfl ?_ | refine op_move rfl rfl ?_ | refine op_nilCheck rfl rfl ?_ | refine op_lss rfl rfl rfl (fun hc => False.elim (by omega)) (fun hc => ?_) | refine op_fieldAddr T rfl rfl rfl rfl rfl rfl rfl rfl ?_ | refine op_loadB T rfl rfl rfl rfl (by assumption) (by exact rfl) ?_)
 refine op_call rfl rfl rfl (cloneD_has hm4) ?_
 rintro _ w5 ⟨md, rfl, hmd, hc5, hm5⟩
 have hb5 := hb4.keep0 hc5
 have hml5 := hm4.keep0 hc5
 have hnf5 := hnf.keep hnl hc5 (fun k hk => by cases hk)
 repeat (first | refine WL_some rfl rfl rfl ?_ | refine WL_none rfl rfl ?_ | refine op_nilCheck rfl rfl ?_ | refine op_fieldAddr T rfl rfl rfl rfl rfl rfl rfl rfl ?_)
 refine op_store T rfl rfl rfl rfl rfl rfl hb5 (Nat.le_of_ble_eq_true rfl) (fun w6 hc6 hb6 _ => ?_)
 have hgrow : ∀ k ∈ [gc], ∀ t cs, Blk w5 k t cs → t = 86 := fun k hk t cs hbk => by
  simp at hk; subst hk
  exact Classical.byContradiction fun hne => hbk.ne_ hb5 hne rfl
 repeat (first | refine W_seq ?_ | refine W_region ?_ | refine W_ret ?_ | refine Then_n ?_ | refine WL_nil ?_ | refine WL_some rfl rfl rfl ?_ | refine op_move rfl rfl ?_ | refine op_assign rfl rfl ?_)
 have hs4 := hc4.size
 have hs5 := hc5.size
 have hml := hm4.lt
 refine post1 (.inl rfl) rfl rfl ⟨(hc4.trans' hc5).trans hc6 (fun j hj hlt => by simp at hj; omega), gc, ⟨md, m, .slice none 0 0, nb⟩, rfl, ⟨hok, hb6, ?_, ?_, Own.nil _ _ _, ?_, fun j q f hq hf => ?_, fun j q f hq hf => ?_, (show md ≠ m by omega), hnf.apart2, hnf.apart3⟩, fun k hk => ?_⟩
 ·exact (hm5.keep hc6 (by simpa using hm5.ne_blk hb5)).congr (fun k => hAt_end hnl' k)
 ·exact (hml5.keep hc6 (by simpa using hml5.ne_blk hb5)).congr (fun k => hAt_end hnl' k)
 ·show nb.length = (crashFiles s d tails).length
  unfold crashFiles
  simpa using hnl'
 ·have hjl : j < d.length := by rw [← hnl']; exact (List.getElem?_eq_some_iff.1 hq).1
  have hr : d[j]? = some d[j] := List.getElem?_eq_getElem hjl
  have hf' : f = cutM ((s.files[d[j].2]?).getD ⟨[], 0⟩) tails j := by
   have hf : (crashFiles s d tails)[j]? = some f := hf
   unfold crashFiles at hf
   rw [List.getElem?_mapIdx, hr] at hf
   injection hf with hf; exact hf.symm
  rw [hf']
  have h1 := hnf5.blk j q _ hq hr
  exact h1.keep hc6 (fun hm => by have := hgrow _ hm _ _ h1; exact absurd this (by decide))
 ·have hjl : j < d.length := by rw [← hnl']; exact (List.getElem?_eq_some_iff.1 hq).1
  have hr : d[j]? = some d[j] := List.getElem?_eq_getElem hjl
  have hf' : f = cutM ((s.files[d[j].2]?).getD ⟨[], 0⟩) tails j := by
   have hf : (crashFiles s d tails)[j]? = some f := hf
   unfold crashFiles at hf
   rw [List.getElem?_mapIdx, hr] at hf
   injection hf with hf; exact hf.symm
  rw [hf']
  have h1 := hnf5.own j q _ hq hr
  exact h1.keep hc6 (fun h hh hm => by
   obtain ⟨cur, hrr⟩ := h1.row hh
   have := hgrow _ hm _ _ hrr; exact absurd this (by decide))
 ·rcases FsP.mem_fp.1 hk with h | h | h | h | ⟨q, hq, h⟩
  ·omega
  ·have h : k = md := h
   omega
  ·have h : k = m := h
   omega
  ·cases h
  ·have h5 := hnf.fresh q hq
   rcases h with rfl | h
   ·exact h5.1
   ·exact (h5.2.2 k h).1
end Go.Proofs.YtiadjkjlifnopaaGreatDoor.Tryz
/-! Files: of the call's own; one file. -/
namespace Go.Proofs.YtiadjkjlifnopaaGreatDoor.Tryz
open Go Go.Vc
structure FsO (w0 w : World) (g : Nat) (s : FsM) (p : FsP) : Prop where
 chg : Chg [] w0 w
 at_ : FsAt w g s p
 fresh : ∀ k ∈ p.fp g, w0.heap.size ≤ k
section
variable {w0 w w' : World} {g : Nat} {s : FsM} {p : FsP}
theorem FsO.keep0 (x : FsO w0 w g s p) (hc : Chg [] w w') : FsO w0 w' g s p := ⟨x.chg.trans' hc, x.at_.keep0 hc, x.fresh⟩
theorem FsO.base {w1 : World} (x : FsO w1 w g s p) (hc : Chg [] w0 w1) : FsO w0 w g s p := ⟨hc.trans' x.chg, x.at_, fun k hk => by have := x.fresh k hk; have := hc.size; omega⟩
theorem FsO.chgFp (x : FsO w0 w g s p) (hc : Chg (p.fp g) w w') : Chg [] w0 w' := x.chg.trans hc (fun k hk hlt => by have := x.fresh k hk; omega)
theorem FsO.row (x : FsO w0 w g s p) {w1 : World} (hc : Chg [] w w1) {gb : Nat} (hs : w.heap.size ≤ gb) {vs : List Value} {t : TypeId} {fr : Nat × Nat} (hg : w1.heap[gb]? = some (.cells vs.toArray t fr)) {n c : Nat} {L : List UInt8} (hn : n = L.length) (hnc : n ≤ c) (hcm : c ≤ maxLen)
  (h : ∀ (i : Nat) (y : UInt8), L[i]? = some y → ∃ u, vs[i]? = some u ∧ Ru8 w u y) : Firm (p.fp g) w1 (fun w => SliceOf Ru8 w (.slice (some ⟨gb, 0, none⟩) n c) L) := fun w2 h2 =>
 SliceOf.of_heap ((h2.keep gb (Array.getElem?_eq_some_iff.1 hg).1 (fun hm => by have := x.at_.lt gb hm; omega)).trans hg) hn hnc hcm (fun i y hy => by
  obtain ⟨u, h1, h2⟩ := h i y hy
  exact ⟨u, h1, h2⟩)
end
theorem newO_has (n : Int) (w : World) : Has Tryz.prog 18 #[.int .i64 n] w (fun v w' => ∃ g p, v = ptrV g ∧ FsO w w' g (newM n) p) :=
 (newFs_has n w).mono fun v w' ⟨hc, g, p, hv, hx, hf⟩ => ⟨g, p, hv, hc, hx, hf⟩
theorem readO_has {w0 w : World} {g : Nat} {s : FsM} {p : FsP} (x : FsO w0 w g s p) (k : Nm) :
  Has Tryz.prog 23 #[ptrV g, .string (str k)] w (fun v w' => FsO w0 w' g s p ∧ Chg [] w w' ∧ readV (readM s k) w v w') := (read_has g s p k w x.at_).mono fun _ _ ⟨h1, h2⟩ => ⟨x.keep0 h1, h1, h2⟩
theorem crashO_has {w0 w : World} {g : Nat} {s : FsM} {p : FsP} (x : FsO w0 w g s p) (n : Int) {At : Option Addr} {nt ct : Nat} {tails : List Int} (ht : SliceOf Ri64 w (.slice At nt ct) tails) (hcalls : s.calls < 1000000000) :
  Has Tryz.prog 26 #[ptrV g, .int .i64 n, .slice At nt ct] w (fun v w' => FsO w0 w' g s p ∧ Chg [] w w' ∧ ∃ gc pc, v = ptrV gc ∧ FsO w w' gc (crashM s n tails) pc) :=
 (crash_has g s p n At nt ct tails w x.at_ ht hcalls).mono fun _ _ ⟨hc, gc, pc, hv, hx, hf⟩ => ⟨x.keep0 hc, hc, gc, pc, hv, hc, hx, hf⟩
end Go.Proofs.YtiadjkjlifnopaaGreatDoor.Tryz
/-! Manifests: segments taken out and put in. -/
namespace Go.Proofs.YtiadjkjlifnopaaGreatDoor.Tryz
open Go Go.Vc
def segF : Value := .func (.func 97) #[] #[]
theorem segNum_has (x : SegM) (w : World) : Has Tryz.prog 97 #[.agg (segL x).toArray] w (fun v w' => Chg [] w w' ∧ v = .int .i64 x.num) := by
 refine enter Tryz.func97 rfl rfl (by decide) rfl (e := [(0, .agg (segL x).toArray)]) ⟨rfl, trivial⟩ ?_
 refine run ?_
 refine go T 2 rfl ?_
 refine o1 rfl ?_
 refine op_box rfl rfl (fun g w1 hs1 hc1 hg1 => ?_)
 have hg1 : Blk w1 g 26 (segL x) := hg1
 unfold segL at hg1
 refine go T 6 rfl ?_
 refine ldB T hg1 rfl rfl rfl rfl rfl rfl ?_
 refine go T 4 rfl ?_
 exact post1 (.inl rfl) rfl rfl ⟨hc1, rfl⟩
theorem takeSeg1_has (gf gn : Nat) (x : SegM) (n : Int) (w : World) (hf : Blk w gf 146 [segF]) (hn : Blk w gn 2 [.int .i64 n]) :
  Has Tryz.prog 139 #[.agg (segL x).toArray, ptrV gf, ptrV gn] w (fun v w' => Chg [] w w' ∧ v = .bool (decide (x.num = n))) := by
 refine enter Tryz.func139 rfl rfl (by decide) rfl (e := [(0, .agg (segL x).toArray), (1, ptrV gf), (2, ptrV gn)]) ⟨rfl, rfl, rfl, trivial⟩ ?_
 unfold ptrV
 refine run ?_
 refine go T 2 rfl ?_
 refine o1 rfl ?_
 refine op_box rfl rfl (fun g w1 hs1 hc1 hg1 => ?_)
 have hg1 : Blk w1 g 26 (segL x) := hg1
 have hf1 := hf.keep0 hc1
 have hn1 := hn.keep0 hc1
 unfold segF at hf1
 refine go T 4 rfl ?_
 refine W_walk 4 [] fol (by kernel_rfl) (by kernel_rfl) ?_
 refine Walk.plain rfl (by intro val w_ hR hp; exact op_load T rfl rfl rfl rfl ((Blk.keep0 hf1 hR).cell rfl) ⟨Chg.refl _ _, rfl⟩) ?_; dsimp only [na1, na2]
 refine Walk.plain rfl (by intro val w_ hR hp; exact op_load_agg T rfl rfl rfl rfl (Blk.keep0 hg1 hR) (Nat.le_of_ble_eq_true rfl) rfl ⟨Chg.refl _ _, rfl⟩) ?_; dsimp only [na1, na2]
 refine Walk.plain (v := .int .i64 x.num) rfl (by intro val w_ hR hp; exact op_callf rfl rfl rfl (segNum_has x _) (fun v w' h => h)) ?_; dsimp only [na1, na2]
 refine Walk.plain rfl (by intro val w_ hR hp; exact op_load T rfl rfl rfl rfl ((Blk.keep0 hn1 hR).cell rfl) ⟨Chg.refl _ _, rfl⟩) ?_; dsimp only [na1, na2]
 refine Walk.fin ?_
 intro val w2 hc2 hp
 clear hp
 refine runL ?_
 refine o1 rfl ?_
 refine op_eql_d rfl rfl rfl ?_
 refine go T 4 rfl ?_
 exact post1 (.inl rfl) rfl rfl ⟨hc1.trans' hc2, rfl⟩
theorem putSeg1_has (gf gx : Nat) (x y : SegM) (w : World) (hf : Blk w gf 146 [segF]) (hx : Blk w gx 26 (segL x)) :
  Has Tryz.prog 141 #[.agg (segL y).toArray, ptrV gf, ptrV gx] w (fun v w' => Chg [] w w' ∧ v = .bool (decide (x.num = y.num))) := by
 refine enter Tryz.func141 rfl rfl (by decide) rfl (e := [(0, .agg (segL y).toArray), (1, ptrV gf), (2, ptrV gx)]) ⟨rfl, rfl, rfl, trivial⟩ ?_
 unfold ptrV
 refine run ?_
 refine go T 2 rfl ?_
 refine o1 rfl ?_
 refine op_box rfl rfl (fun g w1 hs1 hc1 hg1 => ?_)
 have hg1 : Blk w1 g 26 (segL y) := hg1
 have hf1 := hf.keep0 hc1
 have hx1 := hx.keep0 hc1
 unfold segF at hf1
 refine go T 4 rfl ?_
 refine W_walk 6 [] fol (by kernel_rfl) (by kernel_rfl) ?_
 refine Walk.plain rfl (by intro val w_ hR hp; exact op_load T rfl rfl rfl rfl ((Blk.keep0 hf1 hR).cell rfl) ⟨Chg.refl _ _, rfl⟩) ?_; dsimp only [na1, na2]
 refine Walk.plain rfl (by intro val w_ hR hp; exact op_load_agg T rfl rfl rfl rfl (Blk.keep0 hx1 hR) (Nat.le_of_ble_eq_true rfl) rfl ⟨Chg.refl _ _, rfl⟩) ?_; dsimp only [na1, na2]
 refine Walk.plain (v := .int .i64 x.num) rfl (by intro val w_ hR hp; exact op_callf rfl rfl rfl (segNum_has x _) (fun v w' h => h)) ?_; dsimp only [na1, na2]
 refine Walk.plain rfl (by intro val w_ hR hp; exact op_load T rfl rfl rfl rfl ((Blk.keep0 hf1 hR).cell rfl) ⟨Chg.refl _ _, rfl⟩) ?_; dsimp only [na1, na2]
 refine Walk.plain rfl (by intro val w_ hR hp; exact op_load_agg T rfl rfl rfl rfl (Blk.keep0 hg1 hR) (Nat.le_of_ble_eq_true rfl) rfl ⟨Chg.refl _ _, rfl⟩) ?_; dsimp only [na1, na2]
 refine Walk.plain (v := .int .i64 y.num) rfl (by intro val w_ hR hp; exact op_callf rfl rfl rfl (segNum_has y _) (fun v w' h => h)) ?_; dsimp only [na1, na2]
 refine Walk.fin ?_
 intro val w2 hc2 hp
 clear hp
 refine runL ?_
 refine o1 rfl ?_
 refine op_eql_d rfl rfl rfl ?_
 refine go T 4 rfl ?_
 exact post1 (.inl rfl) rfl rfl ⟨hc1.trans' hc2, rfl⟩
set_option maxHeartbeats 2000000 in
theorem take_has (A : Option Addr) (n c : Nat) (L : List SegM) (B : Option Addr) (m d : Nat) (ns : List Int) (w : World) (hl : SliceK 6 (RdL segL) w (.slice A n c) L) (hns : SliceOf Ri64 w (.slice B m d) ns) (hb : L.length ≤ 1000000) :
  Has Tryz.prog 96 #[.slice A n c, .slice B m d, segF] w (fun v w' => Chg [] w w' ∧ (takeK (·.num) ns L = none → v = .tuple #[.slice none 0 0, .bool false]) ∧ ∀ L', takeK (·.num) ns L = some L' → ∃ u, v = .tuple #[u, .bool true] ∧ Own w' 26 6 u L'.length (L'.flatMap segL) ∧ ∀ g, u.ownBlock = some g → w.heap.size ≤ g) := by
 obtain ⟨rfl, hm1, hm2⟩ := hns.len
 unfold maxLen at hm2
 refine enter Tryz.func96 rfl rfl (by decide) rfl (e := [(0, .slice A n c), (1, .slice B ns.length d), (2, segF)]) ⟨rfl, rfl, rfl, trivial⟩ ?_
 refine run ?_
 refine go T 2 rfl ?_
 refine o1 rfl ?_
 refine op_box rfl rfl (fun gf w1 hs1 hc1 hg1 => ?_)
 have hg1 : Blk w1 gf 146 [segF] := hg1
 have hs1 : w.heap.size ≤ gf := hs1
 refine go T 7 rfl ?_
 refine o1 rfl ?_
 refine op_call rfl rfl rfl (cloneSeg_has A n c L w1 (hl.keepR hc1) hb) ?_
 rintro v2 w2 ⟨hc2, ho2, hf2⟩
 refine go T 12 rfl ?_
 refine W_loop (σ := Nat × List SegM × Value) (fun s => [(0, s.2.2), (5, .pointer (some ⟨gf, 0, none⟩)), (13, .slice B ns.length d), (14, .int .i64 ns.length), (15, .int .i64 s.1)])
  (fun s w' => s.1 ≤ ns.length ∧ takeK (·.num) ns L = takeK (·.num) (ns.drop s.1) s.2.1 ∧ s.2.1.length ≤ L.length ∧ Chg [] w w' ∧ Own w' 26 6 s.2.2 s.2.1.length (s.2.1.flatMap segL) ∧ (∀ g, s.2.2.ownBlock = some g → w1.heap.size ≤ g) ∧ Blk w' gf 146 [segF])
  (fun s => ns.length - s.1) (0, L, v2) ⟨rfl, rfl, rfl, rfl, rfl, trivial⟩ ⟨by omega, by simp, Nat.le_refl _, hc1.trans' hc2, ho2, hf2, hg1.keep0 hc2⟩ ?_
 rintro ⟨i, M, u⟩ w3 ⟨hi, htk, hML, hc3, hu3, hf3, hg3⟩
 dsimp only at hi htk hML hc3 hu3 hf3 hg3 ⊢
 have hz1 := hc1.size
 have hgl := hg1.lt
 obtain ⟨Au, cu, rfl, hcu1, hcu2⟩ := hu3.form
 refine run ?_
 refine go T 2 rfl ?_
 refine ltS rfl rfl rfl rfl (fun hcmp => ?_) (fun hcmp => ?_)
 ·have hi2 : i < ns.length := by omega
  obtain ⟨ad, u0, rfl, hu0, rfl, _, _⟩ := hns.get (i := i) (List.getElem?_eq_getElem hi2)
  have hdrop : ns.drop i = ns[i] :: ns.drop (i + 1) := List.drop_eq_getElem_cons hi2
  rw [hdrop] at htk
  generalize ns[i] = x at *
  have hu0' := hc3.cell0 hu0
  refine go T 10 rfl ?_
  refine o1 rfl (op_index_nat T rfl rfl rfl rfl rfl rfl (by omega) ?_)
  refine o1 rfl (op_load T rfl rfl rfl rfl (by assumption) ?_)
  refine o1 rfl ?_
  refine op_alloc T rfl rfl (fun gn w4 hs4 hc4 hg4 => ?_)
  have hg4 : Blk w4 gn 2 [.int .i64 0] := hg4
  have hs4 : w3.heap.size ≤ gn := hs4
  refine op0 rfl rfl ?_
  refine op_store T rfl rfl rfl rfl rfl rfl hg4 (by simp) (fun w5 hc5 hg5 _ => ?_)
  have hg5 : Blk w5 gn 2 [.int .i64 x] := hg5
  have hc35 : Chg [] w3 w5 := hc4.trans hc5 (fun k hk hlt => by simp at hk; omega)
  have hu5 := hu3.keep0 hc35
  have hg5f := hg3.keep0 hc35
  clear hg4
  refine go T 5 rfl ?_
  refine o1 rfl ?_
  refine op_makeFunc (fv := #[]) (cv := #[ptrV gf, ptrV gn]) rfl rfl rfl ?_
  refine o1 rfl ?_
  refine op_call rfl rfl rfl (indexSeg_has Au _ cu M _ _ (fun s => decide (s.num = x)) (hu5.readsK segL_len) (fun wq s hq _ => takeSeg1_has gf gn s x wq (hg5f.keep0 hq) (hg5.keep0 hq))) ?_
  rintro _ w6 ⟨hc6, rfl⟩
  have hix := idxM_lt (fun s : SegM => decide (s.num = x)) M
  have hu6 := hu5.keep0 hc6
  have hg6 := hg5f.keep0 hc6
  have hc36 := hc35.trans' hc6
  by_cases hneg : idxM (fun s : SegM => decide (s.num = x)) M < 0
  ·rw [takeK, if_pos hneg] at htk
   refine go T 7 rfl ?_
   refine ltT rfl rfl rfl rfl (by omega) ?_
   refine go T 13 rfl ?_
   refine rndR ?_
   refine go T 2 rfl ?_
   exact post2 (.inl rfl) rfl rfl rfl ⟨hc3.trans' hc36, fun _ => rfl, fun L' h => by rw [htk] at h; cases h⟩
  ·rw [takeK, if_neg hneg] at htk
   obtain ⟨k, hk⟩ : ∃ k : Nat, idxM (fun s : SegM => decide (s.num = x)) M = k := ⟨_, (Int.toNat_of_nonneg (by omega)).symm⟩
   rw [hk] at htk hneg hix ⊢
   rw [Int.toNat_natCast] at htk
   have hkl : k < M.length := by omega
   refine go T 7 rfl ?_
   refine ltF rfl rfl rfl rfl (by omega) ?_
   refine go T 9 rfl ?_
   refine adI rfl rfl rfl rfl (by omega) (by omega) ?_
   refine o1 rfl ?_
   refine op_call rfl rfl rfl (deleteSeg_has _ M k w6 hu6 hkl (by omega)) ?_
   rintro v7 w7 ⟨hc7, hb7, hu7⟩
   have hg7 := hg6.keep hc7 (fun hm => by have := hf3 gf (by simpa using hm); omega)
   have hc07 : Chg [] w w7 := (hc3.trans' hc36).trans hc7 (fun k hk hlt => by have := hf3 k (by simpa using hk); omega)
   refine go T 5 rfl ?_
   refine adI rfl rfl rfl rfl (by omega) (by omega) ?_
   refine go T 2 rfl ?_
   refine Round_n (i + 1, M.eraseIdx k, v7) ⟨rfl, rfl, rfl, rfl, rfl, trivial⟩ ⟨by dsimp only; omega, htk, ?_, hc07, hu7, fun g hg => hf3 g (by rw [← hb7]; exact hg), hg7⟩ (by dsimp only; omega)
   dsimp only
   rw [List.length_eraseIdx]; split <;> omega
 obtain rfl : i = ns.length := by omega
 rw [List.drop_length, takeK] at htk
 refine go T 6 rfl ?_
 refine rndX ?_
 refine go T 10 rfl ?_
 refine post2 (.inl rfl) rfl rfl rfl ⟨hc3, ?_, ?_⟩
 ·intro h; rw [htk] at h; cases h
 ·intro L' h
  rw [htk] at h; injection h with h; subst h
  exact ⟨_, rfl, hu3, fun g hg => by have := hf3 g hg; omega⟩
end Go.Proofs.YtiadjkjlifnopaaGreatDoor.Tryz
/-! Manifests: segments put in. -/
namespace Go.Proofs.YtiadjkjlifnopaaGreatDoor.Tryz
open Go Go.Vc
set_option maxHeartbeats 2000000 in
theorem put_has' (v : Value) (M : List SegM) (B : Option Addr) (m d : Nat) (xs : List SegM) (w : World) (hown : Own w 26 6 v M.length (M.flatMap segL)) (hxs : Firm v.ownBlock.toList w (fun w => SliceK 6 (RdL segL) w (.slice B m d) xs)) (hb : M.length + xs.length ≤ 1000000) :
  Has Tryz.prog 98 #[v, .slice B m d, segF] w (fun v' w' => Chg v.ownBlock.toList w w' ∧ (putK (·.num) xs M = none → v' = .tuple #[.slice none 0 0, .bool false]) ∧ ∀ M', putK (·.num) xs M = some M' → (M'.map (·.num)).Nodup → ∃ u, v' = .tuple #[u, .bool true] ∧ Own w' 26 6 u (sortK (·.num) M').length ((sortK (·.num) M').flatMap segL) ∧ ∀ g, u.ownBlock = some g → g ∈ v.ownBlock.toList ∨ w.heap.size ≤ g) := by
 obtain ⟨rfl, hm1, hm2⟩ := (hxs w (Chg.refl _ _)).len
 unfold maxLen at hm2
 refine enter Tryz.func98 rfl rfl (by decide) rfl (e := [(0, v), (1, .slice B xs.length d), (2, segF)]) ⟨rfl, rfl, rfl, trivial⟩ ?_
 refine run ?_
 refine go T 2 rfl ?_
 refine o1 rfl ?_
 refine op_box rfl rfl (fun gf w1 hs1 hc1 hg1 => ?_)
 have hg1 : Blk w1 gf 146 [segF] := hg1
 have hs1 : w.heap.size ≤ gf := hs1
 have hown1 := hown.keep0 hc1
 have hc0 : Chg v.ownBlock.toList w w1 := hc1.mono (fun k hk _ => by cases hk)
 refine go T 13 rfl ?_
 refine W_loop (σ := Nat × List SegM × Value) (fun s => [(0, s.2.2), (5, .pointer (some ⟨gf, 0, none⟩)), (10, .slice B xs.length d), (11, .int .i64 xs.length), (12, .int .i64 s.1)])
  (fun s w' => s.1 ≤ xs.length ∧ putK (·.num) xs M = putK (·.num) (xs.drop s.1) s.2.1 ∧ s.2.1.length = M.length + s.1 ∧ Chg v.ownBlock.toList w w' ∧ Own w' 26 6 s.2.2 s.2.1.length (s.2.1.flatMap segL) ∧ (∀ g, s.2.2.ownBlock = some g → g ∈ v.ownBlock.toList ∨ w.heap.size ≤ g) ∧ Blk w' gf 146 [segF])
  (fun s => xs.length - s.1) (0, M, v) ⟨rfl, rfl, rfl, rfl, rfl, trivial⟩ ⟨by omega, by simp, by simp, hc0, hown1, fun g hg => .inl (by simpa using hg), hg1⟩ ?_
 rintro ⟨i, N, u⟩ w3 ⟨hi, hpk, hNM, hc3, hu3, hf3, hg3⟩
 dsimp only at hi hpk hNM hc3 hu3 hf3 hg3 ⊢
 obtain ⟨Au, cu, rfl, hcu1, hcu2⟩ := hu3.form
 refine run ?_
 refine go T 2 rfl ?_
 refine ltS rfl rfl rfl rfl (fun hcmp => ?_) (fun hcmp => ?_)
 ·have hi2 : i < xs.length := by omega
  obtain ⟨ad, hA, hel⟩ := (hxs w3 hc3).at (i := i) (List.getElem?_eq_getElem hi2)
  subst hA
  have hdrop : xs.drop i = xs[i] :: xs.drop (i + 1) := List.drop_eq_getElem_cons hi2
  rw [hdrop] at hpk
  generalize xs[i] = x at *
  refine go T 10 rfl ?_
  refine o1 rfl (op_indexK T rfl rfl rfl rfl rfl (by omega) ?_)
  refine o1 rfl (op_loadE T hel rfl rfl rfl rfl rfl ?_)
  refine o1 rfl ?_
  refine op_alloc T rfl rfl (fun gn w4 hs4 hc4 hg4 => ?_)
  have hg4 : Blk w4 gn 26 [.int .i64 0, .bool false, .int .i64 0, .int .i64 0, .int .i64 0, .int .u32 0] := hg4
  have hs4 : w3.heap.size ≤ gn := hs4
  refine op0 rfl rfl ?_
  refine op_store_agg T rfl rfl rfl rfl rfl rfl hg4 (by exact Nat.le_of_ble_eq_true rfl) (fun w5 hc5 hg5 _ => ?_)
  have hg5 : Blk w5 gn 26 (segL x) := hg5
  have hc35 : Chg [] w3 w5 := hc4.trans hc5 (fun k hk hlt => by simp at hk; omega)
  have hu5 := hu3.keep0 hc35
  have hg5f := hg3.keep0 hc35
  clear hg4
  refine go T 6 rfl ?_
  refine o1 rfl ?_
  refine op_makeFunc (fv := #[]) (cv := #[ptrV gf, ptrV gn]) rfl rfl rfl ?_
  refine o1 rfl ?_
  refine op_call rfl rfl rfl (hasSeg_has Au _ cu N _ _ (fun s => decide (x.num = s.num)) (hu5.readsK segL_len) (fun wq s hq _ => putSeg1_has gf gn x s wq (hg5f.keep0 hq) (hg5.keep0 hq))) ?_
  rintro _ w6 ⟨hc6, rfl⟩
  have hu6 := hu5.keep0 hc6
  have hg6 := hg5f.keep0 hc6
  have hg6n := hg5.keep0 hc6
  have hc06 := hc3.trans' (hc35.trans' hc6)
  by_cases hany : (N.any fun s => decide (x.num = s.num)) = true
  ·rw [putK, if_pos hany] at hpk
   rw [hany]
   refine go T 13 rfl ?_
   refine rndR ?_
   refine go T 2 rfl ?_
   exact post2 (.inl rfl) rfl rfl rfl ⟨hc06, fun _ => rfl, fun L' h => by rw [hpk] at h; cases h⟩
  ·rw [putK, if_neg hany] at hpk
   rw [Bool.eq_false_iff.2 hany]
   refine go T 7 rfl ?_
   refine o1 rfl (op_load_agg T rfl rfl rfl rfl hg6n (by exact Nat.le_of_ble_eq_true rfl) (by exact rfl) ?_)
   refine o1 rfl ?_
   refine op_buildSlice T rfl rfl rfl rfl rfl rfl rfl (fun g7 w7 hs7 hc7 hg7 => ?_)
   have hg7 : Blk w7 g7 26 (segL x) := hg7
   have hu7 := hu6.keep0 hc7
   have hg7f := hg6.keep0 hc7
   have hc07 := hc06.trans' hc7
   refine o1 rfl ?_
   refine op_append T (n := N.length) (xs := N.flatMap segL) (m := 1) (news := segL x) rfl rfl rfl rfl rfl rfl rfl rfl hu7 rfl ?_ (by unfold maxLen; omega) (by show (N.length + 1) * 48 ≤ _; omega) ?_
   ·intro j u hj
    exact ⟨⟨_, rfl, by rw [add_plain]; exact hg7.cell hj⟩, segL_one _ u (List.mem_of_getElem? hj)⟩
   ·intro v8 w8 hu8 hc8 hb8 _
    have hfr : ∀ h, v8.ownBlock = some h → h ∈ v.ownBlock.toList ∨ w.heap.size ≤ h := fun h hh => by
     rcases hb8 with hb | ⟨g', hb, hge⟩
     ·exact hf3 h (by rw [← hb]; exact hh)
     ·rw [hb] at hh; injection hh with hh; have := hc07.size; exact .inr (by omega)
    have hc08 : Chg v.ownBlock.toList w w8 := hc07.trans hc8 (fun k hk hlt => (hf3 k (by simpa using hk)).resolve_right (by omega))
    have hg8f := hg7f.keep hc8 (fun hm => by
     obtain ⟨cur, hrow⟩ := hu7.row (show _ = some gf by simpa using hm)
     exact hg7f.ne_ hrow (by decide) rfl)
    refine go T 5 rfl ?_
    refine adI rfl rfl rfl rfl (by omega) (by omega) ?_
    refine go T 2 rfl ?_
    refine Round_n (i + 1, N ++ [x], v8) ⟨rfl, rfl, rfl, rfl, rfl, trivial⟩ ⟨by dsimp only; omega, hpk, by dsimp only; rw [List.length_append, List.length_singleton]; omega, hc08, ?_, hfr, hg8f⟩ (by dsimp only; omega)
    dsimp only
    rw [List.length_append, List.flatMap_append]
    simpa using hu8
 obtain rfl : i = xs.length := by omega
 rw [List.drop_length, putK] at hpk
 have hgfo : gf ∉ (Value.slice Au N.length cu).ownBlock.toList := fun hm => by
  obtain ⟨cur, hrow⟩ := hu3.row (show _ = some gf by simpa using hm)
  exact hg3.ne_ hrow (by decide) rfl
 refine go T 6 rfl ?_
 refine rndX ?_
 refine go T 5 rfl ?_
 refine o1 rfl ?_
 refine op_makeFunc (fv := #[]) (cv := #[ptrV gf]) rfl rfl rfl ?_
 refine o1 rfl ?_
 refine op_call rfl rfl rfl (sortSeg_has gf _ N w3 hu3 (by omega) (hg3.cell rfl) hgfo) ?_
 rintro _ w4 ⟨rfl, hc4, N', hp, hpw, hu4⟩
 have hlen4 : N'.length = N.length := hp.length_eq
 have hc04 : Chg v.ownBlock.toList w w4 := hc3.trans hc4 (fun k hk hlt => (hf3 k (by simpa using hk)).resolve_right (by omega))
 refine go T 10 rfl ?_
 refine post2 (.inl rfl) rfl rfl rfl ⟨hc04, ?_, ?_⟩
 ·intro h; rw [hpk] at h; cases h
 ·intro M' h hn
  rw [hpk] at h; injection h with h; subst h
  obtain rfl := sortK_unique (key := fun s : SegM => s.num) hn hp hpw
  refine ⟨_, rfl, ?_, hf3⟩
  rw [hlen4] at hu4 ⊢
  exact hu4
end Go.Proofs.YtiadjkjlifnopaaGreatDoor.Tryz
/-! Manifests: the library's Clone and Delete of parity segments. -/
namespace Go.Vc
open Go
def parKey (s : ParS) : Int := s.1.p.group
theorem parS_all (x : ParS) : ((parSL x).toArray.toList.all fun u => u.oneCell') = true := List.all_eq_true.2 fun u hu => parS_one x u (by simpa using hu)
theorem idxM_map {α β : Type} (g : α → β) (p : β → Bool) : ∀ L : List α, idxM p (L.map g) = idxM (fun x => p (g x)) L
 | [] => rfl
 | a :: l => by rw [List.map_cons, idxM, idxM, idxM_map g p l]
theorem par_reads {w : World} {v : Value} {L : List ParS} (h : SliceK 5 (RdL parSL) w v L) : SliceK 5 (RdL parL) w v (L.map (·.1)) := by
 unfold SliceK at *
 obtain ⟨A, c, rfl, h1, h2, h⟩ := h
 refine ⟨A, c, by rw [List.length_map], by rw [List.length_map]; exact h1, h2, fun i x hx => ?_⟩
 rw [List.getElem?_map] at hx
 cases hi : L[i]? with
 | none => rw [hi] at hx; cases hx
 | some y =>
  rw [hi] at hx
  injection hx with hx
  subst hx
  exact h i y hi
end Go.Vc
namespace Go.Proofs.YtiadjkjlifnopaaGreatDoor.Tryz
open Go Go.Vc
set_option maxHeartbeats 1000000 in
theorem clonePar_has (A : Option Addr) (n c : Nat) (L : List ParS) (w : World) (hl : SliceK 5 (RdL parSL) w (.slice A n c) L) (hb : L.length ≤ 1000000) :
  Has Tryz.prog 145 #[.slice A n c] w (fun v w' => Chg [] w w' ∧ Own w' 70 5 v L.length (L.flatMap parSL) ∧ ∀ g, v.ownBlock = some g → w.heap.size ≤ g) := by
 obtain ⟨rfl, hl1, hl2⟩ := hl.len
 refine enter Tryz.func145 rfl rfl (by decide) rfl (e := [(0, .slice A L.length c)]) ⟨rfl, trivial⟩ ?_
 refine run ?_
 refine go T 9 rfl ?_
 refine o1 rfl ?_
 refine op_eql_nil T rfl rfl rfl rfl (fun hA => ?_) (fun ad hA => ?_)
 ·have hl0 : L = [] := by
   cases L with
   | nil => rfl
   | cons c l => obtain ⟨ad, he, _⟩ := hl.at (i := 0) (x := c) rfl; rw [hA] at he; cases he
  subst hl0
  refine go T 10 rfl ?_
  exact post1 (.inl rfl) rfl rfl ⟨Chg.refl _ _, Own.nil _ _ _, fun g h => by simp [Value.ownBlock] at h⟩
 ·subst hA
  refine go T 7 rfl ?_
  refine o1 rfl ?_
  refine op_buildSlice T rfl rfl rfl rfl rfl rfl rfl (fun g w1 hgs hc1 hg1 => ?_)
  have ho : Own w1 70 5 (.slice (some ⟨g, 0, none⟩) 0 0) 0 [] := Own.mk hg1 (Nat.le_refl _) (Nat.zero_le _) rfl rfl
  have hl' := hl.keepR hc1
  refine go T 1 rfl ?_
  refine o1 rfl ?_
  refine op_append T (n := 0) (xs := []) (m := L.length) (news := L.flatMap parSL) rfl rfl rfl rfl rfl rfl rfl rfl ho (rk_len parS_len L) ?_ (by unfold maxLen; omega) (by show (0 + _) * 72 ≤ _; omega) ?_
  ·intro j u hu
   have hjl := (List.getElem?_eq_some_iff.1 hu).1
   rw [rk_len parS_len] at hjl
   have hi : j / 5 < L.length := by omega
   have hm : j % 5 < 5 := by omega
   have hx : L[j / 5]? = some L[j / 5] := List.getElem?_eq_getElem hi
   have h1 := rk_get parS_len L hx hm
   rw [show j / 5 * 5 + j % 5 = j from by omega, hu] at h1
   obtain ⟨ad', he, hel⟩ := hl'.at hx
   have h2 := hel (j % 5) u h1.symm
   rw [show j / 5 * 5 + j % 5 = j from by omega] at h2
   exact ⟨⟨ad', he, h2⟩, parS_one _ u (List.mem_of_getElem? h1.symm)⟩
  ·intro v w2 hu2 hc2 hb2 _
   rw [Nat.zero_add, List.nil_append] at hu2
   have hgs : w.heap.size ≤ g := hgs
   refine go T 4 rfl ?_
   refine post1 (.inl rfl) rfl rfl ⟨hc1.trans hc2 (fun k hk hlt => by simp [Value.ownBlock] at hk; omega), hu2, fun h hh => ?_⟩
   rcases hb2 with hb2 | ⟨g', hb2, hge⟩
   ·rw [hb2] at hh; simp [Value.ownBlock] at hh; omega
   ·rw [hb2] at hh; injection hh with hh; have := hc1.size; omega
set_option maxHeartbeats 2000000 in
theorem deletePar_has (v : Value) (L : List ParS) (k : Nat) (w : World) (hown : Own w 70 5 v L.length (L.flatMap parSL)) (hk : k < L.length) (hb : L.length ≤ 1000000) :
  Has Tryz.prog 148 #[v, .int .i64 (k : Int), .int .i64 ((k : Int) + 1)] w (fun v' w' => Chg v.ownBlock.toList w w' ∧ v'.ownBlock = v.ownBlock ∧ Own w' 70 5 v' (L.eraseIdx k).length ((L.eraseIdx k).flatMap parSL)) := by
 obtain ⟨g, cap, cur, rfl, hn, hm, hblk, hl, ht⟩ := hown.blk (by omega)
 have hmm := hm
 unfold maxLen at hmm
 refine enter Tryz.func148 rfl rfl (by decide) rfl (e := [(0, .slice (some ⟨g, 0, none⟩) L.length cap), (1, .int .i64 (k : Int)), (2, .int .i64 ((k : Int) + 1))]) ⟨rfl, rfl, rfl, trivial⟩ ?_
 rw [show ((k : Int) + 1) = ((k + 1 : Nat) : Int) from by omega]
 refine run ?_
 refine go T 12 rfl ?_
 refine o1 rfl ?_
 refine op_slice3 T (l := k) (h' := k + 1) (m := L.length) rfl rfl rfl rfl rfl rfl rfl (by omega) (by omega) (by omega) (fun v13 => ?_)
 refine go T 7 rfl ?_
 refine eqF rfl rfl rfl rfl (by omega) ?_
 refine go T 13 rfl ?_
 refine W_walk 6 [] fol (by kernel_rfl) (by kernel_rfl) ?_
 refine Walk.plain rfl (by intro val w_ hR hp; exact op_move rfl rfl ⟨Chg.refl _ _, rfl⟩) ?_; dsimp only [na1, na2]
 refine Walk.plain rfl (by intro val w_ hR hp; exact op_move rfl rfl ⟨Chg.refl _ _, rfl⟩) ?_; dsimp only [na1, na2]
 refine Walk.plain (v := .slice (some ⟨g, 0, none⟩) k cap) rfl (by intro val w_ hR hp; exact op_slice_to T (h' := k) (k := .i64) rfl rfl rfl rfl rfl (by omega) ⟨Chg.refl _ _, rfl⟩) ?_; dsimp only [na1, na2]
 refine Walk.plain rfl (by intro val w_ hR hp; exact op_move rfl rfl ⟨Chg.refl _ _, rfl⟩) ?_; dsimp only [na1, na2]
 refine Walk.plain rfl (by intro val w_ hR hp; exact op_move rfl rfl ⟨Chg.refl _ _, rfl⟩) ?_; dsimp only [na1, na2]
 refine Walk.plain (v := .slice (if cap = k + 1 then some ⟨g, 0, none⟩ else (some (⟨g, 0, none⟩ : Addr)).map (·.add ((k + 1) * 5))) (L.length - (k + 1)) (cap - (k + 1))) rfl (by intro val w_ hR hp; exact op_slice T (l := k + 1) (h' := L.length) rfl rfl rfl rfl ⟨_, rfl⟩ rfl (by omega) (by omega) ⟨Chg.refl _ _, rfl⟩) ?_; dsimp only [na1, na2]
 skip
 refine Walk.fin ?_
 intro val w1 hc1 hp
 clear hp
 replace hown := hown.keep0 hc1
 replace hblk := hblk.keep0 hc1
 have hb1 := hblk
 obtain ⟨a, ha, hav⟩ : ∃ a, (if cap = k + 1 then some ⟨g, 0, none⟩ else (some (⟨g, 0, none⟩ : Addr)).map (·.add ((k + 1) * 5))) = some a ∧ (cap = k + 1 ∨ a = (⟨g, 0, none⟩ : Addr).add ((k + 1) * 5)) := by
  split
  ·rename_i h; exact ⟨_, rfl, .inl h⟩
  ·exact ⟨_, rfl, .inr rfl⟩
 rw [ha]
 have hcells : ∀ j u, ((L.drop (k + 1)).flatMap parSL)[j]? = some u → w1.cell? (a.add j) = some u := fun j u hj => by
  rcases hav with h | h
  ·have : L.drop (k + 1) = [] := List.drop_eq_nil_of_le (by omega)
   rw [this] at hj; simp at hj
  ·rw [h, add_of_add, add_plain]
   have hlen : ((L.drop (k + 1)).flatMap parSL).length = (L.length - (k + 1)) * 5 := by rw [rk_len parS_len, List.length_drop]
   have hjl := (List.getElem?_eq_some_iff.1 hj).1
   rw [hlen] at hjl
   refine hb1.cell ?_
   have e1 : (L.flatMap parSL)[(k + 1) * 5 + j]? = some u := by
    have h2 : L.flatMap parSL = (L.take (k + 1)).flatMap parSL ++ (L.drop (k + 1)).flatMap parSL := by rw [← List.flatMap_append, List.take_append_drop]
    rw [h2, List.getElem?_append_right (by rw [rk_len parS_len, List.length_take]; omega), rk_len parS_len, List.length_take, Nat.min_eq_left (by omega), Nat.add_sub_cancel_left]
    exact hj
   rw [← ht, List.getElem?_take] at e1
   split at e1
   ·exact e1
   ·cases e1
 have hnl : ((L.drop (k + 1)).flatMap parSL).length = (L.length - (k + 1)) * 5 := by rw [rk_len parS_len, List.length_drop]
 have hfitl : k * 5 + ((L.drop (k + 1)).flatMap parSL).length ≤ cur.length := by rw [hnl, hl]; omega
 have hone : ∀ u ∈ (L.drop (k + 1)).flatMap parSL, u.oneCell' = true := fun u hu => by
  obtain ⟨x, _, hx⟩ := List.mem_flatMap.1 hu
  exact parS_one x u hx
 refine runL ?_
 refine o1 rfl ?_
 refine op_appendIn T (t := 47) (el := 70) (g := g) (a := a) (n := k) (cap := cap) (m := L.length - (k + 1)) (news := (L.drop (k + 1)).flatMap parSL) rfl rfl rfl rfl rfl rfl hb1 hnl hcells hone (by omega) hfitl (fun w2 hc2 hb2 => ?_)
 have hb2 : Blk w2 g 70 (cur.take (k * 5) ++ (L.drop (k + 1)).flatMap parSL ++ cur.drop (k * 5 + ((L.drop (k + 1)).flatMap parSL).length)) := hb2
 have hkn : k + (L.length - (k + 1)) = L.length - 1 := by omega
 rw [hkn]
 have htk : cur.take (k * 5) = (L.take k).flatMap parSL := by
  have : cur.take (k * 5) = (L.flatMap parSL).take (k * 5) := by rw [← ht, List.take_take, Nat.min_eq_left (by omega)]
  rw [this]
  have h2 : L.flatMap parSL = (L.take k).flatMap parSL ++ (L.drop k).flatMap parSL := by rw [← List.flatMap_append, List.take_append_drop]
  rw [h2]
  exact List.take_left' (by rw [rk_len parS_len, List.length_take, Nat.min_eq_left (by omega)])
 have her : cur.take (k * 5) ++ (L.drop (k + 1)).flatMap parSL = (L.eraseIdx k).flatMap parSL := by
  rw [htk, eraseIdx_split L k hk, List.flatMap_append]
 rw [her] at hb2
 have hel : (L.eraseIdx k).length = L.length - 1 := by rw [List.length_eraseIdx, if_pos hk]
 have hefl : ((L.eraseIdx k).flatMap parSL).length = (L.length - 1) * 5 := by rw [rk_len parS_len, hel]
 have htot : ((L.eraseIdx k).flatMap parSL ++ cur.drop (k * 5 + ((L.drop (k + 1)).flatMap parSL).length)).length = cap * 5 := by
  rw [List.length_append, hefl, List.length_drop, hnl, hl]; omega
 generalize cur.drop (k * 5 + ((L.drop (k + 1)).flatMap parSL).length) = back at *
 refine go T 9 rfl ?_
 refine o1 rfl ?_
 refine op_slice T (l := L.length - 1) (h' := L.length) rfl rfl rfl rfl ⟨_, rfl⟩ ⟨_, rfl⟩ (by omega) (by omega) ?_
 rw [if_neg (by omega)]
 refine op0 rfl rfl ?_
 refine op_clear T (A := some ⟨g, (L.length - 1) * 5, none⟩) (g := g) (off := (L.length - 1) * 5) (m := L.length - (L.length - 1)) (c := cap - (L.length - 1)) rfl rfl (by show some (Value.slice (some ((⟨g, 0, none⟩ : Addr).add ((L.length - 1) * 5))) _ _) = _; rw [add_plain]) rfl rfl rfl rfl (.inr rfl) hb2 (by rw [htot]; show (L.length - 1) * 5 + (L.length - (L.length - 1)) * 5 ≤ _; omega) (fun w3 rest hc3 hb3 hl3 => ?_)
 rw [List.take_left' hefl] at hb3 hl3
 rw [htot] at hl3
 refine go T 9 rfl ?_
 refine post1 (.inl rfl) rfl rfl ⟨(hc1.mono (fun k hk _ => by cases hk)).trans (hc2.trans hc3 (fun i hi _ => hi)) (fun i hi _ => by simpa [Value.ownBlock] using hi), rfl, ?_⟩
 rw [hel]
 exact Own.mk hb3 (by omega) hm hl3 (List.take_left' hefl)
theorem indexParS_has {w : World} (A : Option Addr) (n c : Nat) (L : List ParS) (fn : Nat) (cv : Array Value) (q : ParS → Bool) (p : ParV → Bool) (hq : ∀ s, q s = p s.1) (hs : SliceK 5 (RdL parSL) w (.slice A n c) L)
  (hf : ∀ w1 x, Chg [] w w1 → Has Tryz.prog fn (#[] ++ #[.agg (parL x).toArray] ++ cv) w1 (fun v w' => Chg [] w1 w' ∧ v = .bool (p x))) :
  Has Tryz.prog 146 #[.slice A n c, .func (.func fn) #[] cv] w (fun v w' => Chg [] w w' ∧ v = .int .i64 (idxM q L)) := by
 have := indexPar_has A n c (L.map (·.1)) fn cv p (par_reads hs) (fun w1 x h _ => hf w1 x h)
 rw [idxM_map, show (fun x : ParS => p x.1) = q from funext fun s => (hq s).symm] at this
 exact this
theorem hasParS_has {w : World} (A : Option Addr) (n c : Nat) (L : List ParS) (fn : Nat) (cv : Array Value) (q : ParS → Bool) (p : ParV → Bool) (hq : ∀ s, q s = p s.1) (hs : SliceK 5 (RdL parSL) w (.slice A n c) L)
  (hf : ∀ w1 x, Chg [] w w1 → Has Tryz.prog fn (#[] ++ #[.agg (parL x).toArray] ++ cv) w1 (fun v w' => Chg [] w1 w' ∧ v = .bool (p x))) :
  Has Tryz.prog 136 #[.slice A n c, .func (.func fn) #[] cv] w (fun v w' => Chg [] w w' ∧ v = .bool (L.any q)) := by
 have := hasPar_has A n c (L.map (·.1)) fn cv p (par_reads hs) (fun w1 x h _ => hf w1 x h)
 rw [List.any_map, show (p ∘ fun x : ParS => x.1) = q from funext fun s => (hq s).symm] at this
 exact this
end Go.Proofs.YtiadjkjlifnopaaGreatDoor.Tryz
/-! Manifests: parity segments taken out and put in. -/
namespace Go.Proofs.YtiadjkjlifnopaaGreatDoor.Tryz
open Go Go.Vc
def parF : Value := .func (.func 100) #[] #[]
theorem parNum_has (x : ParV) (w : World) : Has Tryz.prog 100 #[.agg (parL x).toArray] w (fun v w' => Chg [] w w' ∧ v = .int .i64 x.p.group) := by
 refine enter Tryz.func100 rfl rfl (by decide) rfl (e := [(0, .agg (parL x).toArray)]) ⟨rfl, trivial⟩ ?_
 refine run ?_
 refine go T 2 rfl ?_
 refine o1 rfl ?_
 refine op_box rfl rfl (fun g w1 hs1 hc1 hg1 => ?_)
 have hg1 : Blk w1 g 70 (parL x) := hg1
 unfold parL at hg1
 refine go T 6 rfl ?_
 refine ldB T hg1 rfl rfl rfl rfl rfl rfl ?_
 refine go T 4 rfl ?_
 exact post1 (.inl rfl) rfl rfl ⟨hc1, rfl⟩
theorem takePar1_has (gf gn : Nat) (x : ParV) (n : Int) (w : World) (hf : Blk w gf 150 [parF]) (hn : Blk w gn 2 [.int .i64 n]) :
  Has Tryz.prog 147 #[.agg (parL x).toArray, ptrV gf, ptrV gn] w (fun v w' => Chg [] w w' ∧ v = .bool (decide (x.p.group = n))) := by
 refine enter Tryz.func147 rfl rfl (by decide) rfl (e := [(0, .agg (parL x).toArray), (1, ptrV gf), (2, ptrV gn)]) ⟨rfl, rfl, rfl, trivial⟩ ?_
 unfold ptrV
 refine run ?_
 refine go T 2 rfl ?_
 refine o1 rfl ?_
 refine op_box rfl rfl (fun g w1 hs1 hc1 hg1 => ?_)
 have hg1 : Blk w1 g 70 (parL x) := hg1
 have hf1 := hf.keep0 hc1
 have hn1 := hn.keep0 hc1
 unfold parF at hf1
 refine go T 4 rfl ?_
 refine W_walk 4 [] fol (by kernel_rfl) (by kernel_rfl) ?_
 refine Walk.plain rfl (by intro val w_ hR hp; exact op_load T rfl rfl rfl rfl ((Blk.keep0 hf1 hR).cell rfl) ⟨Chg.refl _ _, rfl⟩) ?_; dsimp only [na1, na2]
 refine Walk.plain rfl (by intro val w_ hR hp; exact op_load_agg T rfl rfl rfl rfl (Blk.keep0 hg1 hR) (Nat.le_of_ble_eq_true rfl) rfl ⟨Chg.refl _ _, rfl⟩) ?_; dsimp only [na1, na2]
 refine Walk.plain (v := .int .i64 x.p.group) rfl (by intro val w_ hR hp; exact op_callf rfl rfl rfl (parNum_has x _) (fun v w' h => h)) ?_; dsimp only [na1, na2]
 refine Walk.plain rfl (by intro val w_ hR hp; exact op_load T rfl rfl rfl rfl ((Blk.keep0 hn1 hR).cell rfl) ⟨Chg.refl _ _, rfl⟩) ?_; dsimp only [na1, na2]
 refine Walk.fin ?_
 intro val w2 hc2 hp
 clear hp
 refine runL ?_
 refine o1 rfl ?_
 refine op_eql_d rfl rfl rfl ?_
 refine go T 4 rfl ?_
 exact post1 (.inl rfl) rfl rfl ⟨hc1.trans' hc2, rfl⟩
theorem putPar1_has (gf gx : Nat) (x y : ParV) (w : World) (hf : Blk w gf 150 [parF]) (hx : Blk w gx 70 (parL x)) :
  Has Tryz.prog 149 #[.agg (parL y).toArray, ptrV gf, ptrV gx] w (fun v w' => Chg [] w w' ∧ v = .bool (decide (x.p.group = y.p.group))) := by
 refine enter Tryz.func149 rfl rfl (by decide) rfl (e := [(0, .agg (parL y).toArray), (1, ptrV gf), (2, ptrV gx)]) ⟨rfl, rfl, rfl, trivial⟩ ?_
 unfold ptrV
 refine run ?_
 refine go T 2 rfl ?_
 refine o1 rfl ?_
 refine op_box rfl rfl (fun g w1 hs1 hc1 hg1 => ?_)
 have hg1 : Blk w1 g 70 (parL y) := hg1
 have hf1 := hf.keep0 hc1
 have hx1 := hx.keep0 hc1
 unfold parF at hf1
 refine go T 4 rfl ?_
 refine W_walk 6 [] fol (by kernel_rfl) (by kernel_rfl) ?_
 refine Walk.plain rfl (by intro val w_ hR hp; exact op_load T rfl rfl rfl rfl ((Blk.keep0 hf1 hR).cell rfl) ⟨Chg.refl _ _, rfl⟩) ?_; dsimp only [na1, na2]
 refine Walk.plain rfl (by intro val w_ hR hp; exact op_load_agg T rfl rfl rfl rfl (Blk.keep0 hx1 hR) (Nat.le_of_ble_eq_true rfl) rfl ⟨Chg.refl _ _, rfl⟩) ?_; dsimp only [na1, na2]
 refine Walk.plain (v := .int .i64 x.p.group) rfl (by intro val w_ hR hp; exact op_callf rfl rfl rfl (parNum_has x _) (fun v w' h => h)) ?_; dsimp only [na1, na2]
 refine Walk.plain rfl (by intro val w_ hR hp; exact op_load T rfl rfl rfl rfl ((Blk.keep0 hf1 hR).cell rfl) ⟨Chg.refl _ _, rfl⟩) ?_; dsimp only [na1, na2]
 refine Walk.plain rfl (by intro val w_ hR hp; exact op_load_agg T rfl rfl rfl rfl (Blk.keep0 hg1 hR) (Nat.le_of_ble_eq_true rfl) rfl ⟨Chg.refl _ _, rfl⟩) ?_; dsimp only [na1, na2]
 refine Walk.plain (v := .int .i64 y.p.group) rfl (by intro val w_ hR hp; exact op_callf rfl rfl rfl (parNum_has y _) (fun v w' h => h)) ?_; dsimp only [na1, na2]
 refine Walk.fin ?_
 intro val w2 hc2 hp
 clear hp
 refine runL ?_
 refine o1 rfl ?_
 refine op_eql_d rfl rfl rfl ?_
 refine go T 4 rfl ?_
 exact post1 (.inl rfl) rfl rfl ⟨hc1.trans' hc2, rfl⟩
set_option maxHeartbeats 2000000 in
theorem takeP_has (A : Option Addr) (n c : Nat) (L : List ParS) (B : Option Addr) (m d : Nat) (ns : List Int) (w : World) (hl : SliceK 5 (RdL parSL) w (.slice A n c) L) (hns : SliceOf Ri64 w (.slice B m d) ns) (hb : L.length ≤ 1000000) :
  Has Tryz.prog 99 #[.slice A n c, .slice B m d, parF] w (fun v w' => Chg [] w w' ∧ (takeK parKey ns L = none → v = .tuple #[.slice none 0 0, .bool false]) ∧ ∀ L', takeK parKey ns L = some L' → ∃ u, v = .tuple #[u, .bool true] ∧ Own w' 70 5 u L'.length (L'.flatMap parSL) ∧ ∀ g, u.ownBlock = some g → w.heap.size ≤ g) := by
 obtain ⟨rfl, hm1, hm2⟩ := hns.len
 unfold maxLen at hm2
 refine enter Tryz.func99 rfl rfl (by decide) rfl (e := [(0, .slice A n c), (1, .slice B ns.length d), (2, parF)]) ⟨rfl, rfl, rfl, trivial⟩ ?_
 refine run ?_
 refine go T 2 rfl ?_
 refine o1 rfl ?_
 refine op_box rfl rfl (fun gf w1 hs1 hc1 hg1 => ?_)
 have hg1 : Blk w1 gf 150 [parF] := hg1
 have hs1 : w.heap.size ≤ gf := hs1
 refine go T 7 rfl ?_
 refine o1 rfl ?_
 refine op_call rfl rfl rfl (clonePar_has A n c L w1 (hl.keepR hc1) hb) ?_
 rintro v2 w2 ⟨hc2, ho2, hf2⟩
 refine go T 12 rfl ?_
 refine W_loop (σ := Nat × List ParS × Value) (fun s => [(0, s.2.2), (5, .pointer (some ⟨gf, 0, none⟩)), (13, .slice B ns.length d), (14, .int .i64 ns.length), (15, .int .i64 s.1)])
  (fun s w' => s.1 ≤ ns.length ∧ takeK parKey ns L = takeK parKey (ns.drop s.1) s.2.1 ∧ s.2.1.length ≤ L.length ∧ Chg [] w w' ∧ Own w' 70 5 s.2.2 s.2.1.length (s.2.1.flatMap parSL) ∧ (∀ g, s.2.2.ownBlock = some g → w1.heap.size ≤ g) ∧ Blk w' gf 150 [parF])
  (fun s => ns.length - s.1) (0, L, v2) ⟨rfl, rfl, rfl, rfl, rfl, trivial⟩ ⟨by omega, by simp, Nat.le_refl _, hc1.trans' hc2, ho2, hf2, hg1.keep0 hc2⟩ ?_
 rintro ⟨i, M, u⟩ w3 ⟨hi, htk, hML, hc3, hu3, hf3, hg3⟩
 dsimp only at hi htk hML hc3 hu3 hf3 hg3 ⊢
 have hz1 := hc1.size
 have hgl := hg1.lt
 obtain ⟨Au, cu, rfl, hcu1, hcu2⟩ := hu3.form
 refine run ?_
 refine go T 2 rfl ?_
 refine ltS rfl rfl rfl rfl (fun hcmp => ?_) (fun hcmp => ?_)
 ·have hi2 : i < ns.length := by omega
  obtain ⟨ad, u0, rfl, hu0, rfl, _, _⟩ := hns.get (i := i) (List.getElem?_eq_getElem hi2)
  have hdrop : ns.drop i = ns[i] :: ns.drop (i + 1) := List.drop_eq_getElem_cons hi2
  rw [hdrop] at htk
  generalize ns[i] = x at *
  have hu0' := hc3.cell0 hu0
  refine go T 10 rfl ?_
  refine o1 rfl (op_index_nat T rfl rfl rfl rfl rfl rfl (by omega) ?_)
  refine o1 rfl (op_load T rfl rfl rfl rfl (by assumption) ?_)
  refine o1 rfl ?_
  refine op_alloc T rfl rfl (fun gn w4 hs4 hc4 hg4 => ?_)
  have hg4 : Blk w4 gn 2 [.int .i64 0] := hg4
  have hs4 : w3.heap.size ≤ gn := hs4
  refine op0 rfl rfl ?_
  refine op_store T rfl rfl rfl rfl rfl rfl hg4 (by simp) (fun w5 hc5 hg5 _ => ?_)
  have hg5 : Blk w5 gn 2 [.int .i64 x] := hg5
  have hc35 : Chg [] w3 w5 := hc4.trans hc5 (fun k hk hlt => by simp at hk; omega)
  have hu5 := hu3.keep0 hc35
  have hg5f := hg3.keep0 hc35
  clear hg4
  refine go T 5 rfl ?_
  refine o1 rfl ?_
  refine op_makeFunc (fv := #[]) (cv := #[ptrV gf, ptrV gn]) rfl rfl rfl ?_
  refine o1 rfl ?_
  refine op_call rfl rfl rfl (indexParS_has Au _ cu M _ _ (fun s => decide (parKey s = x)) (fun s => decide (s.p.group = x)) (fun _ => rfl) (hu5.readsK parS_len) (fun wq s hq => takePar1_has gf gn s x wq (hg5f.keep0 hq) (hg5.keep0 hq))) ?_
  rintro _ w6 ⟨hc6, rfl⟩
  have hix := idxM_lt (fun s : ParS => decide (parKey s = x)) M
  have hu6 := hu5.keep0 hc6
  have hg6 := hg5f.keep0 hc6
  have hc36 := hc35.trans' hc6
  by_cases hneg : idxM (fun s : ParS => decide (parKey s = x)) M < 0
  ·rw [takeK, if_pos hneg] at htk
   refine go T 7 rfl ?_
   refine ltT rfl rfl rfl rfl (by omega) ?_
   refine go T 13 rfl ?_
   refine rndR ?_
   refine go T 2 rfl ?_
   exact post2 (.inl rfl) rfl rfl rfl ⟨hc3.trans' hc36, fun _ => rfl, fun L' h => by rw [htk] at h; cases h⟩
  ·rw [takeK, if_neg hneg] at htk
   obtain ⟨k, hk⟩ : ∃ k : Nat, idxM (fun s : ParS => decide (parKey s = x)) M = k := ⟨_, (Int.toNat_of_nonneg (by omega)).symm⟩
   rw [hk] at htk hneg hix ⊢
   rw [Int.toNat_natCast] at htk
   have hkl : k < M.length := by omega
   refine go T 7 rfl ?_
   refine ltF rfl rfl rfl rfl (by omega) ?_
   refine go T 9 rfl ?_
   refine adI rfl rfl rfl rfl (by omega) (by omega) ?_
   refine o1 rfl ?_
   refine op_call rfl rfl rfl (deletePar_has _ M k w6 hu6 hkl (by omega)) ?_
   rintro v7 w7 ⟨hc7, hb7, hu7⟩
   have hg7 := hg6.keep hc7 (fun hm => by have := hf3 gf (by simpa using hm); omega)
   have hc07 : Chg [] w w7 := (hc3.trans' hc36).trans hc7 (fun k hk hlt => by have := hf3 k (by simpa using hk); omega)
   refine go T 5 rfl ?_
   refine adI rfl rfl rfl rfl (by omega) (by omega) ?_
   refine go T 2 rfl ?_
   refine Round_n (i + 1, M.eraseIdx k, v7) ⟨rfl, rfl, rfl, rfl, rfl, trivial⟩ ⟨by dsimp only; omega, htk, ?_, hc07, hu7, fun g hg => hf3 g (by rw [← hb7]; exact hg), hg7⟩ (by dsimp only; omega)
   dsimp only
   rw [List.length_eraseIdx]; split <;> omega
 obtain rfl : i = ns.length := by omega
 rw [List.drop_length, takeK] at htk
 refine go T 6 rfl ?_
 refine rndX ?_
 refine go T 10 rfl ?_
 refine post2 (.inl rfl) rfl rfl rfl ⟨hc3, ?_, ?_⟩
 ·intro h; rw [htk] at h; cases h
 ·intro L' h
  rw [htk] at h; injection h with h; subst h
  exact ⟨_, rfl, hu3, fun g hg => by have := hf3 g hg; omega⟩
end Go.Proofs.YtiadjkjlifnopaaGreatDoor.Tryz
/-! Manifests: parity segments put in. -/
namespace Go.Proofs.YtiadjkjlifnopaaGreatDoor.Tryz
open Go Go.Vc
set_option maxHeartbeats 2000000 in
theorem putP_has' (v : Value) (M : List ParS) (B : Option Addr) (m d : Nat) (xs : List ParS) (w : World) (hown : Own w 70 5 v M.length (M.flatMap parSL)) (hxs : Firm v.ownBlock.toList w (fun w => SliceK 5 (RdL parSL) w (.slice B m d) xs)) (hb : M.length + xs.length ≤ 1000000) :
  Has Tryz.prog 101 #[v, .slice B m d, parF] w (fun v' w' => Chg v.ownBlock.toList w w' ∧ (putK parKey xs M = none → v' = .tuple #[.slice none 0 0, .bool false]) ∧ ∀ M', putK parKey xs M = some M' → (M'.map parKey).Nodup → ∃ u, v' = .tuple #[u, .bool true] ∧ Own w' 70 5 u (sortK parKey M').length ((sortK parKey M').flatMap parSL) ∧ ∀ g, u.ownBlock = some g → g ∈ v.ownBlock.toList ∨ w.heap.size ≤ g) := by
 obtain ⟨rfl, hm1, hm2⟩ := (hxs w (Chg.refl _ _)).len
 unfold maxLen at hm2
 refine enter Tryz.func101 rfl rfl (by decide) rfl (e := [(0, v), (1, .slice B xs.length d), (2, parF)]) ⟨rfl, rfl, rfl, trivial⟩ ?_
 refine run ?_
 refine go T 2 rfl ?_
 refine o1 rfl ?_
 refine op_box rfl rfl (fun gf w1 hs1 hc1 hg1 => ?_)
 have hg1 : Blk w1 gf 150 [parF] := hg1
 have hs1 : w.heap.size ≤ gf := hs1
 have hown1 := hown.keep0 hc1
 have hc0 : Chg v.ownBlock.toList w w1 := hc1.mono (fun k hk _ => by cases hk)
 refine go T 13 rfl ?_
 refine W_loop (σ := Nat × List ParS × Value) (fun s => [(0, s.2.2), (5, .pointer (some ⟨gf, 0, none⟩)), (10, .slice B xs.length d), (11, .int .i64 xs.length), (12, .int .i64 s.1)])
  (fun s w' => s.1 ≤ xs.length ∧ putK parKey xs M = putK parKey (xs.drop s.1) s.2.1 ∧ s.2.1.length = M.length + s.1 ∧ Chg v.ownBlock.toList w w' ∧ Own w' 70 5 s.2.2 s.2.1.length (s.2.1.flatMap parSL) ∧ (∀ g, s.2.2.ownBlock = some g → g ∈ v.ownBlock.toList ∨ w.heap.size ≤ g) ∧ Blk w' gf 150 [parF])
  (fun s => xs.length - s.1) (0, M, v) ⟨rfl, rfl, rfl, rfl, rfl, trivial⟩ ⟨by omega, by simp, by simp, hc0, hown1, fun g hg => .inl (by simpa using hg), hg1⟩ ?_
 rintro ⟨i, N, u⟩ w3 ⟨hi, hpk, hNM, hc3, hu3, hf3, hg3⟩
 dsimp only at hi hpk hNM hc3 hu3 hf3 hg3 ⊢
 obtain ⟨Au, cu, rfl, hcu1, hcu2⟩ := hu3.form
 refine run ?_
 refine go T 2 rfl ?_
 refine ltS rfl rfl rfl rfl (fun hcmp => ?_) (fun hcmp => ?_)
 ·have hi2 : i < xs.length := by omega
  obtain ⟨ad, hA, hel⟩ := (hxs w3 hc3).at (i := i) (List.getElem?_eq_getElem hi2)
  subst hA
  have hdrop : xs.drop i = xs[i] :: xs.drop (i + 1) := List.drop_eq_getElem_cons hi2
  rw [hdrop] at hpk
  generalize xs[i] = x at *
  refine go T 10 rfl ?_
  refine o1 rfl (op_indexK T rfl rfl rfl rfl rfl (by omega) ?_)
  refine o1 rfl (op_loadE T hel rfl rfl rfl rfl rfl ?_)
  refine o1 rfl ?_
  refine op_alloc T rfl rfl (fun gn w4 hs4 hc4 hg4 => ?_)
  have hg4 : Blk w4 gn 70 [.int .i64 0, .slice none 0 0, .slice none 0 0, .int .i64 0, .int .u32 0] := hg4
  have hs4 : w3.heap.size ≤ gn := hs4
  refine op0 rfl rfl ?_
  refine op_store_agg T rfl rfl rfl rfl rfl (parS_all x) hg4 (by exact Nat.le_of_ble_eq_true rfl) (fun w5 hc5 hg5 _ => ?_)
  have hg5 : Blk w5 gn 70 (parSL x) := hg5
  have hc35 : Chg [] w3 w5 := hc4.trans hc5 (fun k hk hlt => by simp at hk; omega)
  have hu5 := hu3.keep0 hc35
  have hg5f := hg3.keep0 hc35
  clear hg4
  refine go T 6 rfl ?_
  refine o1 rfl ?_
  refine op_makeFunc (fv := #[]) (cv := #[ptrV gf, ptrV gn]) rfl rfl rfl ?_
  refine o1 rfl ?_
  refine op_call rfl rfl rfl (hasParS_has Au _ cu N _ _ (fun s => decide (parKey x = parKey s)) (fun s => decide (x.1.p.group = s.p.group)) (fun _ => rfl) (hu5.readsK parS_len) (fun wq s hq => putPar1_has gf gn x.1 s wq (hg5f.keep0 hq) (hg5.keep0 hq))) ?_
  rintro _ w6 ⟨hc6, rfl⟩
  have hu6 := hu5.keep0 hc6
  have hg6 := hg5f.keep0 hc6
  have hg6n := hg5.keep0 hc6
  have hc06 := hc3.trans' (hc35.trans' hc6)
  by_cases hany : (N.any fun s => decide (parKey x = parKey s)) = true
  ·rw [putK, if_pos hany] at hpk
   rw [hany]
   refine go T 13 rfl ?_
   refine rndR ?_
   refine go T 2 rfl ?_
   exact post2 (.inl rfl) rfl rfl rfl ⟨hc06, fun _ => rfl, fun L' h => by rw [hpk] at h; cases h⟩
  ·rw [putK, if_neg hany] at hpk
   rw [Bool.eq_false_iff.2 hany]
   refine go T 7 rfl ?_
   refine o1 rfl (op_load_agg T rfl rfl rfl rfl hg6n (by exact Nat.le_of_ble_eq_true rfl) (by exact rfl) ?_)
   refine o1 rfl ?_
   refine op_buildSlice T rfl rfl rfl rfl rfl rfl rfl (fun g7 w7 hs7 hc7 hg7 => ?_)
   have hg7 : Blk w7 g7 70 (parSL x) := hg7
   have hu7 := hu6.keep0 hc7
   have hg7f := hg6.keep0 hc7
   have hc07 := hc06.trans' hc7
   refine o1 rfl ?_
   refine op_append T (n := N.length) (xs := N.flatMap parSL) (m := 1) (news := parSL x) rfl rfl rfl rfl rfl rfl rfl rfl hu7 rfl ?_ (by unfold maxLen; omega) (by show (N.length + 1) * 72 ≤ _; omega) ?_
   ·intro j u hj
    exact ⟨⟨_, rfl, by rw [add_plain]; exact hg7.cell hj⟩, parS_one _ u (List.mem_of_getElem? hj)⟩
   ·intro v8 w8 hu8 hc8 hb8 _
    have hfr : ∀ h, v8.ownBlock = some h → h ∈ v.ownBlock.toList ∨ w.heap.size ≤ h := fun h hh => by
     rcases hb8 with hb | ⟨g', hb, hge⟩
     ·exact hf3 h (by rw [← hb]; exact hh)
     ·rw [hb] at hh; injection hh with hh; have := hc07.size; exact .inr (by omega)
    have hc08 : Chg v.ownBlock.toList w w8 := hc07.trans hc8 (fun k hk hlt => (hf3 k (by simpa using hk)).resolve_right (by omega))
    have hg8f := hg7f.keep hc8 (fun hm => by
     obtain ⟨cur, hrow⟩ := hu7.row (show _ = some gf by simpa using hm)
     exact hg7f.ne_ hrow (by decide) rfl)
    refine go T 5 rfl ?_
    refine adI rfl rfl rfl rfl (by omega) (by omega) ?_
    refine go T 2 rfl ?_
    refine Round_n (i + 1, N ++ [x], v8) ⟨rfl, rfl, rfl, rfl, rfl, trivial⟩ ⟨by dsimp only; omega, hpk, by dsimp only; rw [List.length_append, List.length_singleton]; omega, hc08, ?_, hfr, hg8f⟩ (by dsimp only; omega)
    dsimp only
    rw [List.length_append, List.flatMap_append]
    simpa using hu8
 obtain rfl : i = xs.length := by omega
 rw [List.drop_length, putK] at hpk
 have hgfo : gf ∉ (Value.slice Au N.length cu).ownBlock.toList := fun hm => by
  obtain ⟨cur, hrow⟩ := hu3.row (show _ = some gf by simpa using hm)
  exact hg3.ne_ hrow (by decide) rfl
 refine go T 6 rfl ?_
 refine rndX ?_
 refine go T 5 rfl ?_
 refine o1 rfl ?_
 refine op_makeFunc (fv := #[]) (cv := #[ptrV gf]) rfl rfl rfl ?_
 refine o1 rfl ?_
 refine op_call rfl rfl rfl (sortPar0_has gf _ N w3 hu3 (by omega) (hg3.cell rfl) hgfo) ?_
 rintro _ w4 ⟨rfl, hc4, N', hp, hpw, hu4⟩
 have hlen4 : N'.length = N.length := hp.length_eq
 have hc04 : Chg v.ownBlock.toList w w4 := hc3.trans hc4 (fun k hk hlt => (hf3 k (by simpa using hk)).resolve_right (by omega))
 refine go T 10 rfl ?_
 refine post2 (.inl rfl) rfl rfl rfl ⟨hc04, ?_, ?_⟩
 ·intro h; rw [hpk] at h; cases h
 ·intro M' h hn
  rw [hpk] at h; injection h with h; subst h
  obtain rfl := sortK_unique (key := parKey) hn hp hpw
  refine ⟨_, rfl, ?_, hf3⟩
  rw [hlen4] at hu4 ⊢
  exact hu4
end Go.Proofs.YtiadjkjlifnopaaGreatDoor.Tryz
/-! Manifests: later, whether all went, and the first parts of fine. -/
namespace Go.Vc
open Go
def laterM (was is_ : Int) : Int × Bool := if is_ = 0 then (was, true) else (is_, decide (was ≤ is_))
def sealedAt (n : Int) (s : SegM) : Bool := decide (s.num = n) && s.sealed
def fineM (S : List SegM) (Q : List ParV) (nx : Int) (X : List ParV) : Bool :=
 (X.all fun q => q.p.nums.all fun n => S.any (sealedAt n)) && (decide (max S.length Q.length ≤ 60) && (!(S.any fun s => decide (nx ≤ s.num)) && !(Q.any fun q => decide (nx ≤ q.p.group))))
end Go.Vc
namespace Go.Proofs.YtiadjkjlifnopaaGreatDoor.Tryz
open Go Go.Vc
theorem later_has (was is_ : Int) (w : World) : Has Tryz.prog 102 #[.int .i64 was, .int .i64 is_] w (fun v w' => w' = w ∧ v = .tuple #[.int .i64 (laterM was is_).1, .bool (laterM was is_).2]) := by
 refine enter Tryz.func102 rfl rfl (by decide) rfl (e := [(0, .int .i64 was), (1, .int .i64 is_)]) ⟨rfl, rfl, trivial⟩ ?_
 unfold laterM
 by_cases h0 : is_ = 0
 ·rw [if_pos h0]
  refine run ?_
  refine go T 10 rfl ?_
  refine eqT rfl rfl rfl rfl (by omega) ?_
  refine go T 12 rfl ?_
  exact post2 (.inl rfl) rfl rfl rfl ⟨rfl, rfl⟩
 ·rw [if_neg h0]
  by_cases h1 : was ≤ is_
  ·rw [decide_eq_true h1]
   refine run ?_
   refine go T 10 rfl ?_
   refine eqF rfl rfl rfl rfl (by omega) ?_
   refine go T 10 rfl ?_
   refine geT rfl rfl rfl rfl (by omega) ?_
   refine go T 5 rfl ?_
   exact post2 (.inl rfl) rfl rfl rfl ⟨rfl, rfl⟩
  ·rw [decide_eq_false h1]
   refine run ?_
   refine go T 10 rfl ?_
   refine eqF rfl rfl rfl rfl (by omega) ?_
   refine go T 10 rfl ?_
   refine geF rfl rfl rfl rfl (by omega) ?_
   refine go T 5 rfl ?_
   exact post2 (.inl rfl) rfl rfl rfl ⟨rfl, rfl⟩
theorem fine1_has (gn : Nat) (s : SegM) (n : Int) (w : World) (hn : Blk w gn 2 [.int .i64 n]) :
  Has Tryz.prog 152 #[.agg (segL s).toArray, ptrV gn] w (fun v w' => Chg [] w w' ∧ v = .bool (sealedAt n s)) := by
 refine enter Tryz.func152 rfl rfl (by decide) rfl (e := [(0, .agg (segL s).toArray), (1, ptrV gn)]) ⟨rfl, rfl, trivial⟩ ?_
 unfold ptrV sealedAt
 refine run ?_
 refine go T 2 rfl ?_
 refine o1 rfl ?_
 refine op_box rfl rfl (fun g w1 hs1 hc1 hg1 => ?_)
 have hg1 : Blk w1 g 26 (segL s) := hg1
 have hn1 := hn.keep0 hc1
 unfold segL at hg1
 by_cases h : s.num = n
 ·rw [decide_eq_true h, Bool.true_and]
  refine go T 6 rfl ?_
  refine ldB T hg1 rfl rfl rfl rfl rfl rfl ?_
  refine ldB T hn1 rfl rfl rfl rfl rfl rfl ?_
  refine eqT rfl rfl rfl rfl (by omega) ?_
  refine go T 2 rfl ?_
  refine ldB T hg1 rfl rfl rfl rfl rfl rfl ?_
  refine go T 5 rfl ?_
  exact post1 (.inl rfl) rfl rfl ⟨hc1, rfl⟩
 ·rw [decide_eq_false h, Bool.false_and]
  refine go T 6 rfl ?_
  refine ldB T hg1 rfl rfl rfl rfl rfl rfl ?_
  refine ldB T hn1 rfl rfl rfl rfl rfl rfl ?_
  refine eqF rfl rfl rfl rfl (by omega) ?_
  refine go T 8 rfl ?_
  exact post1 (.inl rfl) rfl rfl ⟨hc1, rfl⟩
theorem fine2_has (gs : Nat) (s : SegM) (va vp : Value) (nx sq : Int) (w : World) (hst : Blk w gs 99 [va, vp, .int .i64 nx, .int .i64 sq]) :
  Has Tryz.prog 153 #[.agg (segL s).toArray, ptrV gs] w (fun v w' => Chg [] w w' ∧ v = .bool (decide (nx ≤ s.num))) := by
 refine enter Tryz.func153 rfl rfl (by decide) rfl (e := [(0, .agg (segL s).toArray), (1, ptrV gs)]) ⟨rfl, rfl, trivial⟩ ?_
 unfold ptrV
 refine run ?_
 refine go T 2 rfl ?_
 refine o1 rfl ?_
 refine op_box rfl rfl (fun g w1 hs1 hc1 hg1 => ?_)
 have hg1 : Blk w1 g 26 (segL s) := hg1
 have hn1 := hst.keep0 hc1
 unfold segL at hg1
 by_cases h : nx ≤ s.num
 ·rw [decide_eq_true h]
  refine go T 6 rfl ?_
  refine ldB T hg1 rfl rfl rfl rfl rfl rfl ?_
  refine go T 1 rfl ?_
  refine ldB T hn1 rfl rfl rfl rfl rfl rfl ?_
  refine geT rfl rfl rfl rfl (by omega) ?_
  refine go T 4 rfl ?_
  exact post1 (.inl rfl) rfl rfl ⟨hc1, rfl⟩
 ·rw [decide_eq_false h]
  refine go T 6 rfl ?_
  refine ldB T hg1 rfl rfl rfl rfl rfl rfl ?_
  refine go T 1 rfl ?_
  refine ldB T hn1 rfl rfl rfl rfl rfl rfl ?_
  refine geF rfl rfl rfl rfl (by omega) ?_
  refine go T 4 rfl ?_
  exact post1 (.inl rfl) rfl rfl ⟨hc1, rfl⟩
theorem fine3_has (gs : Nat) (s : ParV) (va vp : Value) (nx sq : Int) (w : World) (hst : Blk w gs 99 [va, vp, .int .i64 nx, .int .i64 sq]) :
  Has Tryz.prog 154 #[.agg (parL s).toArray, ptrV gs] w (fun v w' => Chg [] w w' ∧ v = .bool (decide (nx ≤ s.p.group))) := by
 refine enter Tryz.func154 rfl rfl (by decide) rfl (e := [(0, .agg (parL s).toArray), (1, ptrV gs)]) ⟨rfl, rfl, trivial⟩ ?_
 unfold ptrV
 refine run ?_
 refine go T 2 rfl ?_
 refine o1 rfl ?_
 refine op_box rfl rfl (fun g w1 hs1 hc1 hg1 => ?_)
 have hg1 : Blk w1 g 70 (parL s) := hg1
 have hn1 := hst.keep0 hc1
 unfold parL at hg1
 by_cases h : nx ≤ s.p.group
 ·rw [decide_eq_true h]
  refine go T 6 rfl ?_
  refine ldB T hg1 rfl rfl rfl rfl rfl rfl ?_
  refine go T 1 rfl ?_
  refine ldB T hn1 rfl rfl rfl rfl rfl rfl ?_
  refine geT rfl rfl rfl rfl (by omega) ?_
  refine go T 4 rfl ?_
  exact post1 (.inl rfl) rfl rfl ⟨hc1, rfl⟩
 ·rw [decide_eq_false h]
  refine go T 6 rfl ?_
  refine ldB T hg1 rfl rfl rfl rfl rfl rfl ?_
  refine go T 1 rfl ?_
  refine ldB T hn1 rfl rfl rfl rfl rfl rfl ?_
  refine geF rfl rfl rfl rfl (by omega) ?_
  refine go T 4 rfl ?_
  exact post1 (.inl rfl) rfl rfl ⟨hc1, rfl⟩
end Go.Proofs.YtiadjkjlifnopaaGreatDoor.Tryz
/-! Manifests: fine. -/
namespace Go.Vc
open Go
theorem all_no {α : Type} {l : List α} {P : α → Bool} {i : Nat} {x : α} (h : l[i]? = some x) (hp : P x = false) : l.all P = false := by
 rw [Bool.eq_false_iff]
 intro ha
 have := List.all_eq_true.1 ha x (List.mem_of_getElem? h)
 rw [hp] at this; cases this
theorem all_take {α : Type} {l : List α} {P : α → Bool} {i : Nat} {x : α} (h : l[i]? = some x) (ha : (l.take i).all P = true) (hp : P x = true) : (l.take (i + 1)).all P = true := by
 rw [List.take_add_one, h, List.all_append, ha]
 simp [hp]
end Go.Vc
namespace Go.Proofs.YtiadjkjlifnopaaGreatDoor.Tryz
open Go Go.Vc
set_option maxHeartbeats 4000000 in
theorem fine_has (va vp : Value) (nx sq : Int) (B : Option Addr) (m d : Nat) (S : List SegM) (Q X : List ParV) (w : World) (hS : SliceK 6 (RdL segL) w va S) (hQ : SliceK 5 (RdL parL) w vp Q) (hX : SliceK 5 (RdL parL) w (.slice B m d) X) (hp : ∀ q ∈ X, PRd w q) (hone : ∀ q ∈ X, q.vn.oneCell' = true ∧ q.vs.oneCell' = true) :
  Has Tryz.prog 104 #[.agg #[va, vp, .int .i64 nx, .int .i64 sq], .slice B m d] w (fun v w' => Chg [] w w' ∧ v = .bool (fineM S Q nx X)) := by
 obtain ⟨rfl, hm1, hm2⟩ := hX.len
 unfold maxLen at hm2
 obtain ⟨As, cs, rfl, hs1, hs2⟩ := hS.form
 obtain ⟨Aq, cq, rfl, hq1, hq2⟩ := hQ.form
 unfold maxLen at hs2 hq2
 refine enter Tryz.func104 rfl rfl (by decide) rfl (e := [(0, .agg #[.slice As S.length cs, .slice Aq Q.length cq, .int .i64 nx, .int .i64 sq]), (1, .slice B X.length d)]) ⟨rfl, rfl, trivial⟩ ?_
 refine run ?_
 refine go T 2 rfl ?_
 refine o1 rfl ?_
 refine op_box rfl rfl (fun gs w1 hs1 hc1 hg1 => ?_)
 have hg1 : Blk w1 gs 99 [.slice As S.length cs, .slice Aq Q.length cq, .int .i64 nx, .int .i64 sq] := hg1
 refine go T 12 rfl ?_
 refine W_loop (σ := Nat) (fun k => [(2, .pointer (some ⟨gs, 0, none⟩)), (9, .slice B X.length d), (10, .int .i64 X.length), (11, .int .i64 (k : Int))])
  (fun k w' => k ≤ X.length ∧ Chg [] w1 w' ∧ (X.take k).all (fun q => q.p.nums.all fun n => S.any (sealedAt n)) = true)
  (fun k => X.length - k) 0 ⟨rfl, rfl, rfl, rfl, trivial⟩ ⟨by omega, Chg.refl _ _, by simp⟩ ?_
 rintro k w3 ⟨hk, hc3, hall⟩
 have hg3 := hg1.keep0 hc3
 refine run ?_
 refine go T 2 rfl ?_
 refine ltS rfl rfl rfl rfl (fun hcmp => ?_) (fun hcmp => ?_)
 ·have hk2 : k < X.length := by omega
  have hx : X[k]? = some X[k] := List.getElem?_eq_getElem hk2
  have hmem : X[k] ∈ X := List.getElem_mem hk2
  obtain ⟨ad, hA, hel⟩ := hX.at hx
  have hpr := hp _ hmem
  have hon := hone _ hmem
  subst hA
  generalize X[k] = q at *
  have hc03 : Chg [] w w3 := hc1.trans' hc3
  obtain ⟨hnr, _⟩ := hpr
  obtain ⟨An, cn, hvn, hn1, hn2⟩ := hnr.form
  unfold maxLen at hn2
  refine go T 10 rfl ?_
  refine o1 rfl (op_indexK T rfl rfl rfl rfl rfl (by omega) ?_)
  refine o1 rfl ?_
  refine op_load_cells (cs := parL q) T rfl rfl rfl rfl rfl (fun j u hj => hc03.cell0 (by rw [add_of_add]; exact hel j u hj)) ?_
  refine o1 rfl ?_
  refine op_alloc T rfl rfl (fun g6 w4 hs4 hc4 hg4 => ?_)
  have hg4 : Blk w4 g6 70 [.int .i64 0, .slice none 0 0, .slice none 0 0, .int .i64 0, .int .u32 0] := hg4
  have hs4 : w3.heap.size ≤ g6 := hs4
  refine op0 rfl rfl ?_
  refine op_store_agg T rfl rfl rfl rfl rfl (List.all_eq_true.2 fun u hu => by
   have hu : u ∈ parL q := hu
   simp only [parL, List.mem_cons, List.not_mem_nil, or_false] at hu
   rcases hu with rfl | rfl | rfl | rfl | rfl
   ·rfl
   ·exact hon.1
   ·exact hon.2
   ·rfl
   ·rfl) hg4 (by exact Nat.le_of_ble_eq_true rfl) (fun w5 hc5 hg5 _ => ?_)
  have hg5 : Blk w5 g6 70 (parL q) := hg5
  have hc35 : Chg [] w3 w5 := hc4.trans hc5 (fun k hk hlt => by simp at hk; omega)
  have hc15 : Chg [] w1 w5 := hc3.trans' hc35
  clear hg4
  have hg5s := hg3.keep0 hc35
  unfold parL at hg5
  rw [hvn] at hg5
  refine go T 5 rfl ?_
  refine ldB T hg5 rfl rfl rfl rfl rfl rfl ?_
  refine go T 5 rfl ?_
  refine W_loop (σ := Nat) (fun j => [(2, .pointer (some ⟨gs, 0, none⟩)), (9, .slice (some ad) X.length d), (10, .int .i64 X.length), (11, .int .i64 (k : Int)), (16, .slice An q.p.nums.length cn), (17, .int .i64 q.p.nums.length), (18, .int .i64 (j : Int))])
   (fun j w' => j ≤ q.p.nums.length ∧ Chg [] w1 w' ∧ (q.p.nums.take j).all (fun n => S.any (sealedAt n)) = true)
   (fun j => q.p.nums.length - j) 0 ⟨rfl, rfl, rfl, rfl, rfl, rfl, rfl, trivial⟩ ⟨by omega, hc15, by simp⟩ ?_
  rintro j w6 ⟨hj, hc6, hallj⟩
  have hg6 := hg1.keep0 hc6
  refine run ?_
  refine go T 2 rfl ?_
  refine ltS rfl rfl rfl rfl (fun hcmp => ?_) (fun hcmp => ?_)
  ·have hj2 : j < q.p.nums.length := by omega
   have hy : q.p.nums[j]? = some q.p.nums[j] := List.getElem?_eq_getElem hj2
   rw [hvn] at hnr
   obtain ⟨adn, u0, rfl, hu0, rfl, _, _⟩ := hnr.get hy
   generalize q.p.nums[j] = n at *
   have hu0' := (hc1.trans' hc6).cell0 hu0
   refine go T 10 rfl ?_
   refine o1 rfl (op_index_nat T rfl rfl rfl rfl rfl rfl (by omega) ?_)
   refine o1 rfl (op_load T rfl rfl rfl rfl (by assumption) ?_)
   refine o1 rfl ?_
   refine op_alloc T rfl rfl (fun gn w7 hs7 hc7 hg7 => ?_)
   have hg7 : Blk w7 gn 2 [.int .i64 0] := hg7
   have hs7 : w6.heap.size ≤ gn := hs7
   refine op0 rfl rfl ?_
   refine op_store T rfl rfl rfl rfl rfl rfl hg7 (by simp) (fun w8 hc8 hg8 _ => ?_)
   have hg8 : Blk w8 gn 2 [.int .i64 n] := hg8
   have hc68 : Chg [] w6 w8 := hc7.trans hc8 (fun k hk hlt => by simp at hk; omega)
   have hc18 : Chg [] w1 w8 := hc6.trans' hc68
   have hg8s := hg6.keep0 hc68
   clear hg7
   refine go T 5 rfl ?_
   refine ldB T hg8s rfl rfl rfl rfl rfl rfl ?_
   refine o1 rfl ?_
   refine op_makeFunc (fv := #[]) (cv := #[ptrV gn]) rfl rfl rfl ?_
   refine o1 rfl ?_
   refine op_call rfl rfl rfl (hasSeg_has As _ cs S _ _ (sealedAt n) (hS.keepR (hc1.trans' hc18)) (fun wq s hq _ => fine1_has gn s n wq (hg8.keep0 hq))) ?_
   rintro _ w9 ⟨hc9, rfl⟩
   have hc19 := hc18.trans' hc9
   cases hany : S.any (sealedAt n) with
   | false =>
    have hno : (q.p.nums.all fun n => S.any (sealedAt n)) = false := all_no hy hany
    have hno2 : (X.all fun q => q.p.nums.all fun n => S.any (sealedAt n)) = false := all_no hx hno
    refine go T 12 rfl ?_
    refine rndR ?_
    refine go T 3 rfl ?_
    refine rndR ?_
    refine go T 2 rfl ?_
    exact post1 (.inl rfl) rfl rfl ⟨hc1.trans' hc19, by unfold fineM; rw [hno2, Bool.false_and]⟩
   | true =>
    refine go T 8 rfl ?_
    refine adI rfl rfl rfl rfl (by omega) (by omega) ?_
    refine go T 2 rfl ?_
    exact Round_n (j + 1) ⟨rfl, rfl, rfl, rfl, rfl, rfl, rfl, trivial⟩ ⟨by omega, hc19, all_take hy hallj hany⟩ (by omega)
  obtain rfl : j = q.p.nums.length := by omega
  rw [List.take_length] at hallj
  refine go T 6 rfl ?_
  refine rndX ?_
  refine go T 4 rfl ?_
  refine adI rfl rfl rfl rfl (by omega) (by omega) ?_
  refine go T 2 rfl ?_
  exact Round_n (k + 1) ⟨rfl, rfl, rfl, rfl, trivial⟩ ⟨by omega, hc6, all_take hx hall hallj⟩ (by omega)
 obtain rfl : k = X.length := by omega
 rw [List.take_length] at hall
 have hc03 : Chg [] w w3 := hc1.trans' hc3
 unfold fineM
 rw [hall, Bool.true_and]
 by_cases h60 : max S.length Q.length ≤ 60
 ·rw [decide_eq_true h60, Bool.true_and]
  have h60a : (max (S.length : Int) Q.length) ≤ 60 := by omega
  refine go T 6 rfl ?_
  refine rndX ?_
  refine go T 5 rfl ?_
  refine ldB T hg3 rfl rfl rfl rfl rfl rfl ?_
  refine go T 2 rfl ?_
  refine ldB T hg3 rfl rfl rfl rfl rfl rfl ?_
  refine go T 1 rfl ?_
  refine o1 rfl (op_max rfl rfl rfl ?_)
  refine leT rfl rfl rfl rfl (by omega) ?_
  refine go T 2 rfl ?_
  refine ldB T hg3 rfl rfl rfl rfl rfl rfl ?_
  refine o1 rfl ?_
  refine op_makeFunc (fv := #[]) (cv := #[ptrV gs]) rfl rfl rfl ?_
  refine o1 rfl ?_
  refine op_call rfl rfl rfl (hasSeg_has As _ cs S _ _ (fun s => decide (nx ≤ s.num)) (hS.keepR hc03) (fun wq s hq _ => fine2_has gs s _ _ nx sq wq (hg3.keep0 hq))) ?_
  rintro _ w4 ⟨hc4, rfl⟩
  have hg4 := hg3.keep0 hc4
  cases hany : S.any (fun s => decide (nx ≤ s.num)) with
  | true =>
   refine go T 13 rfl ?_
   exact post1 (.inl rfl) rfl rfl ⟨hc03.trans' hc4, rfl⟩
  | false =>
   refine go T 4 rfl ?_
   refine ldB T hg4 rfl rfl rfl rfl rfl rfl ?_
   refine o1 rfl ?_
   refine op_makeFunc (fv := #[]) (cv := #[ptrV gs]) rfl rfl rfl ?_
   refine o1 rfl ?_
   refine op_call rfl rfl rfl (hasPar_has Aq _ cq Q _ _ (fun s => decide (nx ≤ s.p.group)) (hQ.keepR (hc03.trans' hc4)) (fun wq s hq _ => fine3_has gs s _ _ nx sq wq (hg4.keep0 hq))) ?_
   rintro _ w5 ⟨hc5, rfl⟩
   cases hany2 : Q.any (fun s => decide (nx ≤ s.p.group)) with
   | true =>
    refine go T 6 rfl ?_
    exact post1 (.inl rfl) rfl rfl ⟨(hc03.trans' hc4).trans' hc5, rfl⟩
   | false =>
    refine go T 6 rfl ?_
    exact post1 (.inl rfl) rfl rfl ⟨(hc03.trans' hc4).trans' hc5, rfl⟩
 ·rw [decide_eq_false h60, Bool.false_and]
  have h60a : ¬ (max (S.length : Int) Q.length) ≤ 60 := by omega
  refine go T 6 rfl ?_
  refine rndX ?_
  refine go T 5 rfl ?_
  refine ldB T hg3 rfl rfl rfl rfl rfl rfl ?_
  refine go T 2 rfl ?_
  refine ldB T hg3 rfl rfl rfl rfl rfl rfl ?_
  refine go T 1 rfl ?_
  refine o1 rfl (op_max rfl rfl rfl ?_)
  refine leF rfl rfl rfl rfl (by omega) ?_
  refine go T 18 rfl ?_
  exact post1 (.inl rfl) rfl rfl ⟨hc03, rfl⟩
end Go.Proofs.YtiadjkjlifnopaaGreatDoor.Tryz
/-! Manifests: whether one of some truths is x; an array as a slice; what apply makes, in plain words. -/
namespace Go.Vc
open Go
theorem op_slice_arr {P : Program} {N : Nat} {e : Env} {w : World} {o : Oper} {K : Value → World → Prop} (T : Types P) {x : Operand} {t el n g : Nat} {d : TInfo}
  (hop : o.op = .slice t x none none none) (hx : ev e x = some (.pointer (some ⟨g, 0, none⟩))) (ht : T.d t = some (.array n el)) (hel : T.tbl el = some d) (hn : 0 < n) (h : K (.slice (some ⟨g, 0, none⟩) n n) w) : OpW P N o e w K := by
 obtain ⟨q, hq, _, _, _⟩ := T.inf el d hel
 have hn0 : ¬ n = 0 := by omega
 exact OpW_run (fun a ha => by simp [execOp, hop, ha.ev hx, Instr.sliceAt, Instr.sureAddr, Instr.sliceBounds, run_underlying (T.und' ht), sizeOf, typeInfo, hq, hn0, Result.andThen]; rfl) h
structure StM where
 segs : List SegM
 pars : List ParS
 next : Int
 seq : Int
def applyM (st : StM) (e : EditM) (X : List ParS) (first : Bool) : Option StM :=
 let t1 := takeK (fun s : SegM => s.num) e.dels st.segs
 let p1 := putK (fun s : SegM => s.num) e.adds (t1.getD [])
 let s2 := (p1.map (sortK (fun s : SegM => s.num))).getD []
 let t2 := takeK parKey e.drops st.pars
 let p2 := putK parKey X (t2.getD [])
 let q2 := (p2.map (sortK parKey)).getD []
 let n := laterM st.next e.next
 let s := laterM st.seq e.seq
 if (editB e && (t1.isSome && (p1.isSome && (t2.isSome && (p2.isSome && (n.2 && (s.2 && fineM s2 (q2.map (·.1)) n.1 (if first then [] else X.map (·.1))))))))) = true then some ⟨s2, q2, n.1, s.1⟩ else none
end Go.Vc
namespace Go.Proofs.YtiadjkjlifnopaaGreatDoor.Tryz
open Go Go.Vc
set_option maxHeartbeats 1000000 in
theorem indexB_has (A : Option Addr) (n c : Nat) (L : List Bool) (b : Bool) (w : World) (hs : SliceOf Rbool w (.slice A n c) L) :
  Has Tryz.prog 88 #[.slice A n c, .bool b] w (fun v w' => w' = w ∧ v = .int .i64 (idxM (fun x => b == x) L)) := by
 obtain ⟨rfl, hl1, hl2⟩ := hs.len
 unfold maxLen at hl2
 refine enter Tryz.func88 rfl rfl (by decide) rfl (e := [(0, .slice A L.length c), (1, .bool b)]) ⟨rfl, rfl, trivial⟩ ?_
 refine run ?_
 refine go T 14 rfl ?_
 refine W_loop (σ := Nat) (fun i => [(0, .slice A L.length c), (1, .bool b), (6, .slice A L.length c), (7, .int .i64 L.length), (8, .int .i64 i)])
  (fun (i : Nat) w' => i ≤ L.length ∧ (∀ (j : Nat) y, j < i → L[j]? = some y → (b == y) = false) ∧ w' = w) (fun i => L.length - i) 0 ⟨rfl, rfl, rfl, rfl, rfl, trivial⟩ ⟨by omega, fun j y hj => by omega, rfl⟩ ?_
 rintro i w1 ⟨hi, hb, rfl⟩
 refine run ?_
 refine go T 2 rfl ?_
 refine ltS rfl rfl rfl rfl (fun hcmp => ?_) (fun hcmp => ?_)
 ·have hlt : i < L.length := by omega
  have hx := List.getElem?_eq_getElem hlt
  obtain ⟨ad, u, rfl, hu, hur⟩ := hs.get hx
  generalize L[i] = y at *
  obtain rfl : u = .bool y := hur
  refine go T 19 rfl ?_
  refine o1 rfl (op_index_nat T rfl rfl rfl rfl rfl rfl (by omega) ?_)
  refine o1 rfl (op_load T rfl rfl rfl rfl (by assumption) ?_)
  refine o1 rfl ?_
  refine op_eql_bools T rfl rfl rfl rfl ?_
  cases hp : (b == y) with
  | true =>
   rw [idxM_stop (p := fun x => b == x) hx hp hb]
   refine go T 12 rfl ?_
   refine rndR ?_
   refine go T 2 rfl ?_
   exact post1 (.inl rfl) rfl rfl ⟨rfl, rfl⟩
  | false =>
   refine go T 7 rfl ?_
   refine adI rfl rfl rfl rfl (by omega) (by omega) ?_
   refine go T 2 rfl ?_
   refine Round_n (i + 1) ⟨rfl, rfl, rfl, rfl, rfl, trivial⟩ ⟨by omega, fun j z hj hz => ?_, rfl⟩ (by omega)
   by_cases hji : j = i
   ·subst hji; rw [hx] at hz; injection hz with hz; subst hz; exact hp
   ·exact hb j z (by omega) hz
 ·rw [idxM_none (p := fun x => b == x) (l := L) (fun x hx => by
   obtain ⟨j, hj⟩ := List.getElem?_of_mem hx
   have := (List.getElem?_eq_some_iff.1 hj).1
   exact hb j x (by omega) hj)]
  refine go T 6 rfl ?_
  refine rndX ?_
  refine go T 8 rfl ?_
  exact post1 (.inl rfl) rfl rfl ⟨rfl, rfl⟩
theorem hasB_has (A : Option Addr) (n c : Nat) (L : List Bool) (b : Bool) (w : World) (hs : SliceOf Rbool w (.slice A n c) L) :
  Has Tryz.prog 103 #[.slice A n c, .bool b] w (fun v w' => w' = w ∧ v = .bool (L.any (fun x => b == x))) := by
 refine enter Tryz.func103 rfl rfl (by decide) rfl (e := [(0, .slice A n c), (1, .bool b)]) ⟨rfl, rfl, trivial⟩ ?_
 refine run ?_
 refine go T 9 rfl ?_
 refine o1 rfl ?_
 refine op_call rfl rfl rfl (indexB_has A n c L b w hs) ?_
 rintro _ w ⟨rfl, rfl⟩
 rw [any_idxM]
 by_cases h : 0 ≤ idxM (fun x => b == x) L
 ·rw [decide_eq_true h]
  refine geT rfl rfl rfl rfl (by omega) ?_
  refine go T 4 rfl ?_
  exact post1 (.inl rfl) rfl rfl ⟨rfl, rfl⟩
 ·rw [decide_eq_false h]
  refine geF rfl rfl rfl rfl (by omega) ?_
  refine go T 4 rfl ?_
  exact post1 (.inl rfl) rfl rfl ⟨rfl, rfl⟩
end Go.Proofs.YtiadjkjlifnopaaGreatDoor.Tryz
/-! Manifests: take and put, what they give in one sentence. -/
namespace Go.Vc
open Go
def numK (s : SegM) : Int := s.num
def tookK {α : Type} (key : α → Int) (ns : List Int) (L : List α) : List α := (takeK key ns L).getD []
def putsK {α : Type} (key : α → Int) (xs M : List α) : List α := ((putK key xs M).map (sortK key)).getD []
theorem took_nodup {α : Type} {key : α → Int} {ns : List Int} {L : List α} (h : (L.map key).Nodup) : ((tookK key ns L).map key).Nodup := by
 unfold tookK
 cases ht : takeK key ns L with
 | none => simp
 | some L' => exact ((takeK_sub ht).map key).nodup h
theorem took_len {α : Type} {key : α → Int} {ns : List Int} {L : List α} : (tookK key ns L).length ≤ L.length := by
 unfold tookK
 cases ht : takeK key ns L with
 | none => simp
 | some L' => exact (takeK_sub ht).length_le
theorem sortK_perm {α : Type} (key : α → Int) (L : List α) : (sortK key L).Perm L := isM_perm (le := leK key) L
theorem puts_nodup {α : Type} {key : α → Int} {xs M : List α} (h : (M.map key).Nodup) : ((putsK key xs M).map key).Nodup := by
 unfold putsK
 cases ht : putK key xs M with
 | none => simp
 | some M' => exact ((sortK_perm key M').map key).nodup_iff.2 ((putK_eq ht).2 h)
end Go.Vc
namespace Go.Proofs.YtiadjkjlifnopaaGreatDoor.Tryz
open Go Go.Vc
theorem takeU_has (v : Value) (L : List SegM) (vn : Value) (ns : List Int) (w : World) (hl : SliceK 6 (RdL segL) w v L) (hns : SliceOf Ri64 w vn ns) (hb : L.length ≤ 1000000) :
  Has Tryz.prog 96 #[v, vn, segF] w (fun v' w' => ∃ u, v' = .tuple #[u, .bool (takeK numK ns L).isSome] ∧ Chg [] w w' ∧ Own w' 26 6 u (tookK numK ns L).length ((tookK numK ns L).flatMap segL) ∧ ∀ g, u.ownBlock = some g → w.heap.size ≤ g) := by
 obtain ⟨A, c, rfl, _, _⟩ := hl.form
 obtain ⟨B, d, rfl, _, _⟩ := hns.form
 refine (take_has A _ c L B _ d ns w hl hns hb).mono ?_
 rintro v' w' ⟨hc, h1, h2⟩
 unfold tookK
 change takeK numK ns L = none → _ at h1
 change ∀ L', takeK numK ns L = some L' → _ at h2
 cases h : takeK numK ns L with
 | none => exact ⟨_, h1 h, hc, Own.nil _ _ _, fun g hg => by simp [Value.ownBlock] at hg⟩
 | some L' =>
  obtain ⟨u, e, ho, hf⟩ := h2 L' h
  exact ⟨u, e, hc, ho, hf⟩
theorem putU_has (v : Value) (M : List SegM) (vx : Value) (xs : List SegM) (w : World) (hown : Own w 26 6 v M.length (M.flatMap segL)) (hxs : Firm v.ownBlock.toList w (fun w => SliceK 6 (RdL segL) w vx xs)) (hb : M.length + xs.length ≤ 1000000) (hn : (M.map numK).Nodup) :
  Has Tryz.prog 98 #[v, vx, segF] w (fun v' w' => ∃ u, v' = .tuple #[u, .bool (putK numK xs M).isSome] ∧ Chg v.ownBlock.toList w w' ∧ Own w' 26 6 u (putsK numK xs M).length ((putsK numK xs M).flatMap segL) ∧ ∀ g, u.ownBlock = some g → g ∈ v.ownBlock.toList ∨ w.heap.size ≤ g) := by
 obtain ⟨B, d, rfl, _, _⟩ := (hxs w (Chg.refl _ _)).form
 refine (put_has' v M B _ d xs w hown hxs hb).mono ?_
 rintro v' w' ⟨hc, h1, h2⟩
 unfold putsK
 change putK numK xs M = none → _ at h1
 change ∀ M', putK numK xs M = some M' → _ at h2
 cases h : putK numK xs M with
 | none => exact ⟨_, h1 h, hc, Own.nil _ _ _, fun g hg => by simp [Value.ownBlock] at hg⟩
 | some M' =>
  obtain ⟨u, e, ho, hf⟩ := h2 M' h ((putK_eq h).2 hn)
  exact ⟨u, e, hc, ho, hf⟩
theorem takePU_has (v : Value) (L : List ParS) (vn : Value) (ns : List Int) (w : World) (hl : SliceK 5 (RdL parSL) w v L) (hns : SliceOf Ri64 w vn ns) (hb : L.length ≤ 1000000) :
  Has Tryz.prog 99 #[v, vn, parF] w (fun v' w' => ∃ u, v' = .tuple #[u, .bool (takeK parKey ns L).isSome] ∧ Chg [] w w' ∧ Own w' 70 5 u (tookK parKey ns L).length ((tookK parKey ns L).flatMap parSL) ∧ ∀ g, u.ownBlock = some g → w.heap.size ≤ g) := by
 obtain ⟨A, c, rfl, _, _⟩ := hl.form
 obtain ⟨B, d, rfl, _, _⟩ := hns.form
 refine (takeP_has A _ c L B _ d ns w hl hns hb).mono ?_
 rintro v' w' ⟨hc, h1, h2⟩
 unfold tookK
 cases h : takeK parKey ns L with
 | none => exact ⟨_, h1 h, hc, Own.nil _ _ _, fun g hg => by simp [Value.ownBlock] at hg⟩
 | some L' =>
  obtain ⟨u, e, ho, hf⟩ := h2 L' h
  exact ⟨u, e, hc, ho, hf⟩
theorem putPU_has (v : Value) (M : List ParS) (vx : Value) (xs : List ParS) (w : World) (hown : Own w 70 5 v M.length (M.flatMap parSL)) (hxs : Firm v.ownBlock.toList w (fun w => SliceK 5 (RdL parSL) w vx xs)) (hb : M.length + xs.length ≤ 1000000) (hn : (M.map parKey).Nodup) :
  Has Tryz.prog 101 #[v, vx, parF] w (fun v' w' => ∃ u, v' = .tuple #[u, .bool (putK parKey xs M).isSome] ∧ Chg v.ownBlock.toList w w' ∧ Own w' 70 5 u (putsK parKey xs M).length ((putsK parKey xs M).flatMap parSL) ∧ ∀ g, u.ownBlock = some g → g ∈ v.ownBlock.toList ∨ w.heap.size ≤ g) := by
 obtain ⟨B, d, rfl, _, _⟩ := (hxs w (Chg.refl _ _)).form
 refine (putP_has' v M B _ d xs w hown hxs hb).mono ?_
 rintro v' w' ⟨hc, h1, h2⟩
 unfold putsK
 cases h : putK parKey xs M with
 | none => exact ⟨_, h1 h, hc, Own.nil _ _ _, fun g hg => by simp [Value.ownBlock] at hg⟩
 | some M' =>
  obtain ⟨u, e, ho, hf⟩ := h2 M' h ((putK_eq h).2 hn)
  exact ⟨u, e, hc, ho, hf⟩
end Go.Proofs.YtiadjkjlifnopaaGreatDoor.Tryz
/-! Manifests: apply. -/
namespace Go.Vc
open Go
theorem own_one {w : World} {t : TypeId} {k n : Nat} {v : Value} {xs : List Value} (h : Own w t k v n xs) : v.oneCell' = true := by
 obtain ⟨A, c, rfl, _, _⟩ := h.form
 rfl
theorem par_reads_inv {w : World} {v : Value} {L : List ParS} (h : SliceK 5 (RdL parL) w v (L.map (·.1))) : SliceK 5 (RdL parSL) w v L := by
 unfold SliceK at *
 obtain ⟨A, c, rfl, h1, h2, h⟩ := h
 rw [List.length_map] at h1 ⊢
 refine ⟨A, c, rfl, h1, h2, fun i x hx => ?_⟩
 exact h i x.1 (by rw [List.getElem?_map, hx]; rfl)
end Go.Vc
namespace Go.Proofs.YtiadjkjlifnopaaGreatDoor.Tryz
open Go Go.Vc
set_option maxHeartbeats 8000000 in
theorem apply_has (st : StM) (va vp : Value) (x : EdV) (X : List ParS) (first : Bool) (w : World) (hS : SliceK 6 (RdL segL) w va st.segs) (hQ : SliceK 5 (RdL parSL) w vp st.pars) (hI : EdI x.e) (hr : ERd w x) (hXQ : x.Q = X.map (·.1)) (hbs : st.segs.length ≤ 1000) (hbq : st.pars.length ≤ 1000) (hns : (st.segs.map numK).Nodup) (hnq : (st.pars.map parKey).Nodup) :
  Has Tryz.prog 57 #[.agg #[va, vp, .int .i64 st.next, .int .i64 st.seq], .agg (edL x).toArray, .bool first] w (fun v w' => Chg [] w w' ∧ (applyM st x.e X first = none → v = .tuple #[.agg #[va, vp, .int .i64 st.next, .int .i64 st.seq], .bool false]) ∧ ∀ st', applyM st x.e X first = some st' → ∃ ua up, v = .tuple #[.agg #[ua, up, .int .i64 st'.next, .int .i64 st'.seq], .bool true] ∧ Own w' 26 6 ua st'.segs.length (st'.segs.flatMap segL) ∧ Own w' 70 5 up st'.pars.length (st'.pars.flatMap parSL) ∧ (∀ g, ua.ownBlock = some g → w.heap.size ≤ g) ∧ ∀ g, up.ownBlock = some g → w.heap.size ≤ g) := by
 refine enter Tryz.func57 rfl rfl (by decide) rfl (e := [(0, .agg #[va, vp, .int .i64 st.next, .int .i64 st.seq]), (1, .agg (edL x).toArray), (2, .bool first)]) ⟨rfl, rfl, rfl, trivial⟩ ?_
 obtain ⟨As, cs, rfl, _, _⟩ := hS.form
 obtain ⟨Aq, cq, rfl, _, _⟩ := hQ.form
 refine run ?_
 refine go T 2 rfl ?_
 refine o1 rfl ?_
 refine op_box rfl rfl (fun g3 w1 hs1 hc1 hg3 => ?_)
 have hg3 : Blk w1 g3 99 [.slice As st.segs.length cs, .slice Aq st.pars.length cq, .int .i64 st.next, .int .i64 st.seq] := hg3
 have hs1 : w.heap.size ≤ g3 := hs1
 refine o1 rfl ?_
 refine op_box rfl rfl (fun g4 w2 hs2 hc2 hg4 => ?_)
 have hg4 : Blk w2 g4 49 (edL x) := hg4
 have hs2 : w1.heap.size ≤ g4 := hs2
 have hg3l := hg3.lt
 replace hg3 := hg3.keep0 hc2
 have hc02 := hc1.trans' hc2
 refine o1 rfl ?_
 refine op_alloc T rfl rfl (fun g6 w3 hs3 hc3 hg6 => ?_)
 have hg6 : Blk w3 g6 99 [.slice none 0 0, .slice none 0 0, .int .i64 0, .int .i64 0] := hg6
 have hs3 : w2.heap.size ≤ g6 := hs3
 have hg4l := hg4.lt
 replace hg3 := hg3.keep0 hc3
 replace hg4 := hg4.keep0 hc3
 have hc03 := hc02.trans' hc3
 refine go T 6 rfl ?_
 refine o1 rfl (op_load_agg T rfl rfl rfl rfl hg4 (by exact Nat.le_of_ble_eq_true rfl) (by exact rfl) ?_)
 refine o1 rfl ?_
 refine op_call rfl rfl rfl (checkE_has x hI (hr.keep0 hc03)) ?_
 rintro _ w4 ⟨hc4, rfl⟩
 have hg6l := hg6.lt
 replace hg3 := hg3.keep0 hc4
 replace hg4 := hg4.keep0 hc4
 replace hg6 := hg6.keep0 hc4
 have hc04 := hc03.trans' hc4
 have hz4 := hc4.size
 cases hB : editB x.e with
 | false =>
  have hno : applyM st x.e X first = none := by unfold applyM; rw [hB]; simp
  rw [if_neg (by simp)]
  refine neT rfl rfl rfl rfl (by omega) ?_
  refine go T 5 rfl ?_
  refine o1 rfl (op_load_agg T rfl rfl rfl rfl hg3 (by exact Nat.le_of_ble_eq_true rfl) (by exact rfl) ?_)
  refine op0 rfl rfl ?_
  refine op_store_agg T rfl rfl rfl rfl rfl rfl hg6 (by exact Nat.le_of_ble_eq_true rfl) (fun w5 hc5 hg6n _ => ?_)
  refine go T 5 rfl ?_
  refine post2c T (.inl rfl) rfl rfl rfl rfl rfl hg6n rfl ⟨hc04.trans hc5 (fun k hk hlt => by simp at hk; have := hc1.size; have := hc2.size; omega), fun _ => rfl, fun st' h => by rw [hno] at h; cases h⟩
 | true =>
 rw [if_pos rfl]
 obtain ⟨e, xa, xd, xp, xr, Q⟩ := x
 dsimp only at hI hXQ hB hr hg4 ⊢
 subst hXQ
 obtain ⟨ha, hd, hp, hpe, hpr, hdr⟩ := hr
 dsimp only at ha hd hp hpe hpr hdr
 have hX := par_reads_inv hp
 obtain ⟨Aa, ca, rfl, _, _⟩ := ha.form
 obtain ⟨Ad, cd, rfl, _, _⟩ := hd.form
 obtain ⟨Ap, cp, rfl, _, _⟩ := hX.form
 obtain ⟨Ar, cr, rfl, _, _⟩ := hdr.form
 have hlens : e.adds.length ≤ 60 ∧ X.length ≤ 60 := by
  have hpl : X.length = e.pars.length := by rw [← hpe]; simp
  have hB' := hB
  unfold editB at hB'
  simp only [Bool.and_eq_true, decide_eq_true_eq] at hB'
  omega
 have hg4 : Blk w4 g4 49 [.int .i64 e.next, .int .i64 e.seq, .slice Aa e.adds.length ca, .slice Ad e.dels.length cd, .slice Ap X.length cp, .slice Ar e.drops.length cr] := by simpa [edL] using hg4
 refine neF rfl rfl rfl rfl (by omega) ?_
 refine go T 7 rfl ?_
 refine o1 rfl ?_
 refine op_alloc T rfl rfl (fun g8 w5 hs5 hc5 hg8 => ?_)
 have hg8 : Blk w5 g8 143 [.bool false, .bool false, .bool false, .bool false, .bool false, .bool false] := hg8
 have hs5 : w4.heap.size ≤ g8 := hs5
 have hg8l := hg8.lt
 replace hg3 := hg3.keep0 hc5
 replace hg4 := hg4.keep0 hc5
 replace hg6 := hg6.keep0 hc5
 refine go T 4 rfl ?_
 refine o1 rfl (op_build T rfl rfl rfl rfl rfl rfl ?_)
 refine o1 rfl ?_
 refine op_alloc T rfl rfl (fun g9 w6 hs6 hc6 hg9 => ?_)
 have hg9 : Blk w6 g9 99 [.slice none 0 0, .slice none 0 0, .int .i64 0, .int .i64 0] := hg9
 have hs6 : w5.heap.size ≤ g9 := hs6
 replace hg3 := hg3.keep0 hc6
 replace hg4 := hg4.keep0 hc6
 replace hg6 := hg6.keep0 hc6
 replace hg8 := hg8.keep0 hc6
 have hg9l := hg9.lt
 refine op0 rfl rfl ?_
 refine op_store_agg T rfl rfl rfl rfl rfl rfl hg9 (by exact Nat.le_of_ble_eq_true rfl) (fun wb hc7 hg9n hsz7 => ?_)
 replace hg9 : Blk wb g9 99 [.slice none 0 0, .slice none 0 0, .int .i64 0, .int .i64 0] := hg9n
 clear hg9n
 replace hg3 := hg3.keep hc7 (by simp; omega)
 replace hg4 := hg4.keep hc7 (by simp; omega)
 replace hg6 := hg6.keep hc7 (by simp; omega)
 replace hg8 := hg8.keep hc7 (by simp; omega)
 have hc0 : Chg [] w wb := ((hc04.trans' hc5).trans' hc6).trans hc7 (fun k hk hlt => by simp at hk; have := hc04.size; omega)
 have hwg8 : w.heap.size ≤ g8 := by have := hc04.size; omega
 have hwg9 : w.heap.size ≤ g9 := by have := hc04.size; omega
 have h3 := hg3; have h4 := hg4
 have hcw : Chg [g8, g9] wb wb := Chg.refl _ _
 clear hc7 hc6 hc5 hc4 hc3 hc2 hc1 hc02 hc03 hc04
 refine go T 5 rfl ?_
 refine ldB T h3 rfl rfl rfl rfl rfl rfl ?_
 refine go T 1 rfl ?_
 refine ldB T h4 rfl rfl rfl rfl rfl rfl ?_
 refine o1 rfl ?_
 refine op_call rfl rfl rfl (takeU_has _ st.segs _ e.dels _ (hS.keepR (hc0.trans hcw (fun k hk hlt => by simp at hk; omega))) (SliceOf.kept Ri64.kept _ _ _ _ (hc0.trans hcw (fun k hk hlt => by simp at hk; omega)) hd) (by omega)) ?_
 rintro _ w5 ⟨u1, rfl, hcx, r1, r1f0⟩
 have r1f : ∀ g, (u1).ownBlock = some g → wb.heap.size ≤ g := fun g hg => by have := r1f0 g hg; have := hcw.size; omega
 clear r1f0
 replace hg8 := hg8.keep0 hcx
 replace hg9 := hg9.keep0 hcx
 replace hcw := hcw.trans' hcx
 replace h4 := h4.keep0 hcx
 replace h3 := h3.keep0 hcx
 clear hcx
 refine go T 4 rfl ?_
 refine op0 rfl rfl ?_
 refine op_store T rfl rfl rfl rfl rfl (own_one r1) hg9 (by simp) (fun wa5 hca hg9n _ => ?_)
 replace hg9 : Blk wa5 g9 99 [u1, .slice none 0 0, .int .i64 0, .int .i64 0] := hg9n
 clear hg9n
 replace hg8 := hg8.keep hca (by simp; omega)
 replace hcw := hcw.trans hca (fun k hk _ => by simp at hk; simp [hk])
 replace h4 := h4.keep hca (by simp; omega)
 replace h3 := h3.keep hca (by simp; omega)
 replace r1 := r1.keep hca (fun k hk hm => by have := r1f k hk; simp at hm; omega)
 clear hca
 refine o1 rfl ?_
 refine op_index_at T (i := 0) rfl rfl rfl rfl rfl rfl (by decide) ?_
 refine op0 rfl rfl ?_
 refine op_store T rfl rfl rfl rfl rfl rfl hg8 (by simp) (fun wb5 hcb hg8n _ => ?_)
 replace hg8 : Blk wb5 g8 143 [.bool (takeK numK e.dels st.segs).isSome, .bool false, .bool false, .bool false, .bool false, .bool false] := hg8n
 clear hg8n
 replace hg9 := hg9.keep hcb (by simp; omega)
 replace hcw := hcw.trans hcb (fun k hk _ => by simp at hk; simp [hk])
 replace h4 := h4.keep hcb (by simp; omega)
 replace h3 := h3.keep hcb (by simp; omega)
 replace r1 := r1.keep hcb (fun k hk hm => by have := r1f k hk; simp at hm; omega)
 clear hcb
 refine go T 5 rfl ?_
 refine ldB T hg9 rfl rfl rfl rfl rfl rfl ?_
 refine go T 1 rfl ?_
 refine ldB T h4 rfl rfl rfl rfl rfl rfl ?_
 refine o1 rfl ?_
 refine op_call rfl rfl rfl (putU_has _ _ _ e.adds _ r1 (fun wq hq => ha.keepR ((hc0.trans hcw (fun k hk hlt => by simp at hk; omega)).trans hq (fun k hk hlt => by have := r1f k (by simpa using hk); omega))) (by have := took_len (key := numK) (ns := e.dels) (L := st.segs); omega) (took_nodup hns)) ?_
 rintro _ w6 ⟨u2, rfl, hcx, r2, r2f0⟩
 have r2f : ∀ g, (u2).ownBlock = some g → wb.heap.size ≤ g := fun g hg => by
  rcases r2f0 g hg with h | h
  ·exact r1f g (by simpa using h)
  ·have := hcw.size; omega
 clear r2f0
 have hin : ∀ k, k < wb.heap.size → k ∉ (u1).ownBlock.toList := fun k hk hm => by have := r1f k (by simpa using hm); omega
 replace hg8 := hg8.keep hcx (hin _ (by omega))
 replace hg9 := hg9.keep hcx (hin _ (by omega))
 replace h4 := h4.keep hcx (hin _ (by omega))
 replace h3 := h3.keep hcx (hin _ (by omega))
 replace hcw := hcw.trans hcx (fun k hk hlt => absurd hk (hin k hlt))
 clear hcx hin r1
 refine go T 4 rfl ?_
 refine op0 rfl rfl ?_
 refine op_store T rfl rfl rfl rfl rfl (own_one r2) hg9 (by simp) (fun wa6 hca hg9n _ => ?_)
 replace hg9 : Blk wa6 g9 99 [u2, .slice none 0 0, .int .i64 0, .int .i64 0] := hg9n
 clear hg9n
 replace hg8 := hg8.keep hca (by simp; omega)
 replace hcw := hcw.trans hca (fun k hk _ => by simp at hk; simp [hk])
 replace h4 := h4.keep hca (by simp; omega)
 replace h3 := h3.keep hca (by simp; omega)
 replace r2 := r2.keep hca (fun k hk hm => by have := r2f k hk; simp at hm; omega)
 clear hca
 refine o1 rfl ?_
 refine op_index_at T (i := 1) rfl rfl rfl rfl rfl rfl (by decide) ?_
 refine op0 rfl rfl ?_
 refine op_store T rfl rfl rfl rfl rfl rfl hg8 (by simp) (fun wb6 hcb hg8n _ => ?_)
 replace hg8 : Blk wb6 g8 143 [.bool (takeK numK e.dels st.segs).isSome, .bool (putK numK e.adds (tookK numK e.dels st.segs)).isSome, .bool false, .bool false, .bool false, .bool false] := hg8n
 clear hg8n
 replace hg9 := hg9.keep hcb (by simp; omega)
 replace hcw := hcw.trans hcb (fun k hk _ => by simp at hk; simp [hk])
 replace h4 := h4.keep hcb (by simp; omega)
 replace h3 := h3.keep hcb (by simp; omega)
 replace r2 := r2.keep hcb (fun k hk hm => by have := r2f k hk; simp at hm; omega)
 clear hcb
 refine go T 5 rfl ?_
 refine ldB T h3 rfl rfl rfl rfl rfl rfl ?_
 refine go T 1 rfl ?_
 refine ldB T h4 rfl rfl rfl rfl rfl rfl ?_
 refine o1 rfl ?_
 refine op_call rfl rfl rfl (takePU_has _ st.pars _ e.drops _ (hQ.keepR (hc0.trans hcw (fun k hk hlt => by simp at hk; omega))) (SliceOf.kept Ri64.kept _ _ _ _ (hc0.trans hcw (fun k hk hlt => by simp at hk; omega)) hdr) (by omega)) ?_
 rintro _ w7 ⟨u3, rfl, hcx, r3, r3f0⟩
 have r3f : ∀ g, (u3).ownBlock = some g → wb.heap.size ≤ g := fun g hg => by have := r3f0 g hg; have := hcw.size; omega
 clear r3f0
 replace hg8 := hg8.keep0 hcx
 replace hg9 := hg9.keep0 hcx
 replace hcw := hcw.trans' hcx
 replace h4 := h4.keep0 hcx
 replace h3 := h3.keep0 hcx
 replace r2 := r2.keep0 hcx
 clear hcx
 refine go T 4 rfl ?_
 refine op0 rfl rfl ?_
 refine op_store T rfl rfl rfl rfl rfl (own_one r3) hg9 (by simp) (fun wa7 hca hg9n _ => ?_)
 replace hg9 : Blk wa7 g9 99 [u2, u3, .int .i64 0, .int .i64 0] := hg9n
 clear hg9n
 replace hg8 := hg8.keep hca (by simp; omega)
 replace hcw := hcw.trans hca (fun k hk _ => by simp at hk; simp [hk])
 replace h4 := h4.keep hca (by simp; omega)
 replace h3 := h3.keep hca (by simp; omega)
 replace r2 := r2.keep hca (fun k hk hm => by have := r2f k hk; simp at hm; omega)
 replace r3 := r3.keep hca (fun k hk hm => by have := r3f k hk; simp at hm; omega)
 clear hca
 refine o1 rfl ?_
 refine op_index_at T (i := 2) rfl rfl rfl rfl rfl rfl (by decide) ?_
 refine op0 rfl rfl ?_
 refine op_store T rfl rfl rfl rfl rfl rfl hg8 (by simp) (fun wb7 hcb hg8n _ => ?_)
 replace hg8 : Blk wb7 g8 143 [.bool (takeK numK e.dels st.segs).isSome, .bool (putK numK e.adds (tookK numK e.dels st.segs)).isSome, .bool (takeK parKey e.drops st.pars).isSome, .bool false, .bool false, .bool false] := hg8n
 clear hg8n
 replace hg9 := hg9.keep hcb (by simp; omega)
 replace hcw := hcw.trans hcb (fun k hk _ => by simp at hk; simp [hk])
 replace h4 := h4.keep hcb (by simp; omega)
 replace h3 := h3.keep hcb (by simp; omega)
 replace r2 := r2.keep hcb (fun k hk hm => by have := r2f k hk; simp at hm; omega)
 replace r3 := r3.keep hcb (fun k hk hm => by have := r3f k hk; simp at hm; omega)
 clear hcb
 refine go T 5 rfl ?_
 refine ldB T hg9 rfl rfl rfl rfl rfl rfl ?_
 refine go T 1 rfl ?_
 refine ldB T h4 rfl rfl rfl rfl rfl rfl ?_
 refine o1 rfl ?_
 refine op_call rfl rfl rfl (putPU_has _ _ _ X _ r3 (fun wq hq => hX.keepR ((hc0.trans hcw (fun k hk hlt => by simp at hk; omega)).trans hq (fun k hk hlt => by have := r3f k (by simpa using hk); omega))) (by have := took_len (key := parKey) (ns := e.drops) (L := st.pars); omega) (took_nodup hnq)) ?_
 rintro _ w8 ⟨u4, rfl, hcx, r4, r4f0⟩
 have r4f : ∀ g, (u4).ownBlock = some g → wb.heap.size ≤ g := fun g hg => by
  rcases r4f0 g hg with h | h
  ·exact r3f g (by simpa using h)
  ·have := hcw.size; omega
 clear r4f0
 have hin : ∀ k, k < wb.heap.size → k ∉ (u3).ownBlock.toList := fun k hk hm => by have := r3f k (by simpa using hm); omega
 replace hg8 := hg8.keep hcx (hin _ (by omega))
 replace hg9 := hg9.keep hcx (hin _ (by omega))
 replace h4 := h4.keep hcx (hin _ (by omega))
 replace h3 := h3.keep hcx (hin _ (by omega))
 replace hcw := hcw.trans hcx (fun k hk hlt => absurd hk (hin k hlt))
 replace r2 := r2.keep hcx (fun k hk hm => by
  obtain ⟨c1, hr1⟩ := r2.row hk
  obtain ⟨c2, hr2⟩ := r3.row (show (u3).ownBlock = some k by simpa using hm)
  exact hr1.ne_ hr2 (by decide) rfl)
 clear hcx hin r3
 refine go T 4 rfl ?_
 refine op0 rfl rfl ?_
 refine op_store T rfl rfl rfl rfl rfl (own_one r4) hg9 (by simp) (fun wa8 hca hg9n _ => ?_)
 replace hg9 : Blk wa8 g9 99 [u2, u4, .int .i64 0, .int .i64 0] := hg9n
 clear hg9n
 replace hg8 := hg8.keep hca (by simp; omega)
 replace hcw := hcw.trans hca (fun k hk _ => by simp at hk; simp [hk])
 replace h4 := h4.keep hca (by simp; omega)
 replace h3 := h3.keep hca (by simp; omega)
 replace r2 := r2.keep hca (fun k hk hm => by have := r2f k hk; simp at hm; omega)
 replace r4 := r4.keep hca (fun k hk hm => by have := r4f k hk; simp at hm; omega)
 clear hca
 refine o1 rfl ?_
 refine op_index_at T (i := 3) rfl rfl rfl rfl rfl rfl (by decide) ?_
 refine op0 rfl rfl ?_
 refine op_store T rfl rfl rfl rfl rfl rfl hg8 (by simp) (fun wb8 hcb hg8n _ => ?_)
 replace hg8 : Blk wb8 g8 143 [.bool (takeK numK e.dels st.segs).isSome, .bool (putK numK e.adds (tookK numK e.dels st.segs)).isSome, .bool (takeK parKey e.drops st.pars).isSome, .bool (putK parKey X (tookK parKey e.drops st.pars)).isSome, .bool false, .bool false] := hg8n
 clear hg8n
 replace hg9 := hg9.keep hcb (by simp; omega)
 replace hcw := hcw.trans hcb (fun k hk _ => by simp at hk; simp [hk])
 replace h4 := h4.keep hcb (by simp; omega)
 replace h3 := h3.keep hcb (by simp; omega)
 replace r2 := r2.keep hcb (fun k hk hm => by have := r2f k hk; simp at hm; omega)
 replace r4 := r4.keep hcb (fun k hk hm => by have := r4f k hk; simp at hm; omega)
 clear hcb
 refine go T 5 rfl ?_
 refine ldB T h3 rfl rfl rfl rfl rfl rfl ?_
 refine go T 1 rfl ?_
 refine ldB T h4 rfl rfl rfl rfl rfl rfl ?_
 refine o1 rfl ?_
 refine op_call rfl rfl rfl (later_has st.next e.next _) ?_
 rintro _ _ ⟨rfl, rfl⟩
 refine go T 4 rfl ?_
 refine op0 rfl rfl ?_
 refine op_store T rfl rfl rfl rfl rfl rfl hg9 (by simp) (fun wa9 hca hg9n _ => ?_)
 replace hg9 : Blk wa9 g9 99 [u2, u4, .int .i64 (laterM st.next e.next).1, .int .i64 0] := hg9n
 clear hg9n
 replace hg8 := hg8.keep hca (by simp; omega)
 replace hcw := hcw.trans hca (fun k hk _ => by simp at hk; simp [hk])
 replace h4 := h4.keep hca (by simp; omega)
 replace h3 := h3.keep hca (by simp; omega)
 replace r2 := r2.keep hca (fun k hk hm => by have := r2f k hk; simp at hm; omega)
 replace r4 := r4.keep hca (fun k hk hm => by have := r4f k hk; simp at hm; omega)
 clear hca
 refine o1 rfl ?_
 refine op_index_at T (i := 4) rfl rfl rfl rfl rfl rfl (by decide) ?_
 refine op0 rfl rfl ?_
 refine op_store T rfl rfl rfl rfl rfl rfl hg8 (by simp) (fun wb9 hcb hg8n _ => ?_)
 replace hg8 : Blk wb9 g8 143 [.bool (takeK numK e.dels st.segs).isSome, .bool (putK numK e.adds (tookK numK e.dels st.segs)).isSome, .bool (takeK parKey e.drops st.pars).isSome, .bool (putK parKey X (tookK parKey e.drops st.pars)).isSome, .bool (laterM st.next e.next).2, .bool false] := hg8n
 clear hg8n
 replace hg9 := hg9.keep hcb (by simp; omega)
 replace hcw := hcw.trans hcb (fun k hk _ => by simp at hk; simp [hk])
 replace h4 := h4.keep hcb (by simp; omega)
 replace h3 := h3.keep hcb (by simp; omega)
 replace r2 := r2.keep hcb (fun k hk hm => by have := r2f k hk; simp at hm; omega)
 replace r4 := r4.keep hcb (fun k hk hm => by have := r4f k hk; simp at hm; omega)
 clear hcb
 refine go T 5 rfl ?_
 refine ldB T h3 rfl rfl rfl rfl rfl rfl ?_
 refine go T 1 rfl ?_
 refine ldB T h4 rfl rfl rfl rfl rfl rfl ?_
 refine o1 rfl ?_
 refine op_call rfl rfl rfl (later_has st.seq e.seq _) ?_
 rintro _ _ ⟨rfl, rfl⟩
 refine go T 4 rfl ?_
 refine op0 rfl rfl ?_
 refine op_store T rfl rfl rfl rfl rfl rfl hg9 (by simp) (fun wa10 hca hg9n _ => ?_)
 replace hg9 : Blk wa10 g9 99 [u2, u4, .int .i64 (laterM st.next e.next).1, .int .i64 (laterM st.seq e.seq).1] := hg9n
 clear hg9n
 replace hg8 := hg8.keep hca (by simp; omega)
 replace hcw := hcw.trans hca (fun k hk _ => by simp at hk; simp [hk])
 replace h4 := h4.keep hca (by simp; omega)
 replace h3 := h3.keep hca (by simp; omega)
 replace r2 := r2.keep hca (fun k hk hm => by have := r2f k hk; simp at hm; omega)
 replace r4 := r4.keep hca (fun k hk hm => by have := r4f k hk; simp at hm; omega)
 clear hca
 refine o1 rfl ?_
 refine op_index_at T (i := 5) rfl rfl rfl rfl rfl rfl (by decide) ?_
 refine op0 rfl rfl ?_
 refine op_store T rfl rfl rfl rfl rfl rfl hg8 (by simp) (fun wb10 hcb hg8n _ => ?_)
 replace hg8 : Blk wb10 g8 143 [.bool (takeK numK e.dels st.segs).isSome, .bool (putK numK e.adds (tookK numK e.dels st.segs)).isSome, .bool (takeK parKey e.drops st.pars).isSome, .bool (putK parKey X (tookK parKey e.drops st.pars)).isSome, .bool (laterM st.next e.next).2, .bool (laterM st.seq e.seq).2] := hg8n
 clear hg8n
 replace hg9 := hg9.keep hcb (by simp; omega)
 replace hcw := hcw.trans hcb (fun k hk _ => by simp at hk; simp [hk])
 replace h4 := h4.keep hcb (by simp; omega)
 replace h3 := h3.keep hcb (by simp; omega)
 replace r2 := r2.keep hcb (fun k hk hm => by have := r2f k hk; simp at hm; omega)
 replace r4 := r4.keep hcb (fun k hk hm => by have := r4f k hk; simp at hm; omega)
 clear hcb
 have h6 := hg6.keep hcw (by simp; omega)
 have hend : ∀ {wz : World}, Chg [g6] wb10 wz → Chg [] w wz := fun hz => (hc0.trans hcw (fun k hk hlt => by simp at hk; omega)).trans hz (fun k hk hlt => by simp at hk; omega)
 have hkey : applyM st e X first = if (editB e && ((takeK numK e.dels st.segs).isSome && ((putK numK e.adds (tookK numK e.dels st.segs)).isSome && ((takeK parKey e.drops st.pars).isSome && ((putK parKey X (tookK parKey e.drops st.pars)).isSome && ((laterM st.next e.next).2 && ((laterM st.seq e.seq).2 && fineM (putsK numK e.adds (tookK numK e.dels st.segs)) ((putsK parKey X (tookK parKey e.drops st.pars)).map (·.1)) (laterM st.next e.next).1 (if first then [] else X.map (·.1))))))))) = true then some ⟨putsK numK e.adds (tookK numK e.dels st.segs), putsK parKey X (tookK parKey e.drops st.pars), (laterM st.next e.next).1, (laterM st.seq e.seq).1⟩ else none := rfl
 rw [hB, Bool.true_and] at hkey
 have hrd : SliceK 5 (RdL parL) wb10 (.slice Ap X.length cp) (X.map (·.1)) := hp.keepR (hc0.trans hcw (fun k hk hlt => by simp at hk; omega))
 have hpr' : ∀ q ∈ X.map (·.1), PRd wb10 q := fun q hq => (hpr q hq).keep0 (hc0.trans hcw (fun k hk hlt => by simp at hk; omega))
 generalize (takeK numK e.dels st.segs).isSome = b0 at *
 generalize (putK numK e.adds (tookK numK e.dels st.segs)).isSome = b1 at *
 generalize (takeK parKey e.drops st.pars).isSome = b2 at *
 generalize (putK parKey X (tookK parKey e.drops st.pars)).isSome = b3 at *
 generalize putsK numK e.adds (tookK numK e.dels st.segs) = S2 at *
 generalize putsK parKey X (tookK parKey e.drops st.pars) = Q2 at *
 generalize laterM st.next e.next = ln at *
 generalize laterM st.seq e.seq = ls at *
 obtain ⟨n2, b4⟩ := ln
 obtain ⟨s2, b5⟩ := ls
 dsimp only at hg8 hg9 hkey ⊢
 have hsb : SliceOf Rbool wb10 (.slice (some ⟨g8, 0, none⟩) 6 6) [b0, b1, b2, b3, b4, b5] := SliceOf.of_blk hg8 rfl (Nat.le_refl _) (by decide) (fun i y hy => by
  match i, hy with
  | 0, hy => cases hy; exact ⟨_, rfl, rfl⟩
  | 1, hy => cases hy; exact ⟨_, rfl, rfl⟩
  | 2, hy => cases hy; exact ⟨_, rfl, rfl⟩
  | 3, hy => cases hy; exact ⟨_, rfl, rfl⟩
  | 4, hy => cases hy; exact ⟨_, rfl, rfl⟩
  | 5, hy => cases hy; exact ⟨_, rfl, rfl⟩)
 have hone : ∀ q ∈ X.map (·.1), q.vn.oneCell' = true ∧ q.vs.oneCell' = true := fun q hq => by
  obtain ⟨y, _, rfl⟩ := List.mem_map.1 hq
  exact y.2
 have hnil : SliceK 5 (RdL parL) wb10 (.slice none 0 0) [] := by
  unfold SliceK
  exact ⟨none, 0, rfl, Nat.le_refl _, Nat.zero_le _, fun i x h => by simp at h⟩
 obtain ⟨A2, c2, rfl, _, _⟩ := r2.form
 obtain ⟨A4, c4, rfl, _, _⟩ := r4.form
 have hrS := r2.readsK segL_len
 have hrQ := par_reads (r4.readsK parS_len)
 cases first with
 | false =>
  refine go T 5 rfl ?_
  refine ldB T h4 rfl rfl rfl rfl rfl rfl ?_
  refine go T 15 rfl ?_
  refine o1 rfl ?_
  refine op_slice_arr T rfl rfl rfl rfl (by decide) ?_
  refine o1 rfl ?_
  refine op_call rfl rfl rfl (hasB_has _ _ _ [b0, b1, b2, b3, b4, b5] false _ hsb) ?_
  rintro _ wb10 ⟨rfl, rfl⟩
  cases hany : ([b0, b1, b2, b3, b4, b5].any fun x => false == x) with
  | true =>
   have hno : applyM st e X false = none := by
    rw [hkey]
    refine if_neg (fun h => ?_)
    simp only [Bool.and_eq_true] at h
    obtain ⟨rfl, rfl, rfl, rfl, rfl, rfl, _⟩ := h
    simp at hany
   refine go T 11 rfl ?_
   refine o1 rfl (op_load_agg T rfl rfl rfl rfl h3 (by exact Nat.le_of_ble_eq_true rfl) (by exact rfl) ?_)
   refine op0 rfl rfl ?_
   refine op_store_agg T rfl rfl rfl rfl rfl rfl h6 (by exact Nat.le_of_ble_eq_true rfl) (fun wz hcz hz _ => ?_)
   refine go T 5 rfl ?_
   exact post2c T (.inl rfl) rfl rfl rfl rfl rfl hz rfl ⟨hend hcz, fun _ => rfl, fun st' h => by rw [hno] at h; cases h⟩
  | false =>
   have hyes : b0 = true ∧ b1 = true ∧ b2 = true ∧ b3 = true ∧ b4 = true ∧ b5 = true := by
    revert hany
    cases b0 <;> cases b1 <;> cases b2 <;> cases b3 <;> cases b4 <;> cases b5 <;> simp
   obtain ⟨rfl, rfl, rfl, rfl, rfl, rfl⟩ := hyes
   simp only [Bool.true_and] at hkey
   refine go T 1 rfl ?_
   refine o1 rfl (op_load_agg T rfl rfl rfl rfl hg9 (by exact Nat.le_of_ble_eq_true rfl) (by exact rfl) ?_)
   refine go T 1 rfl ?_
   refine o1 rfl ?_
   refine op_call rfl rfl rfl (fine_has _ _ n2 s2 _ _ _ S2 (Q2.map (·.1)) (X.map (·.1)) _ hrS hrQ hrd hpr' hone) ?_
   rintro _ wc ⟨hcf, rfl⟩
   replace h6 := h6.keep0 hcf
   replace h3 := h3.keep0 hcf
   replace hg9 := hg9.keep0 hcf
   replace r2 := r2.keep0 hcf
   replace r4 := r4.keep0 hcf
   have hendc : ∀ {wz : World}, Chg [g6] wc wz → Chg [] w wz := fun hz => hend ((hcf.mono (fun k hk _ => by cases hk)).trans hz (fun k hk _ => hk))
   cases hfine : fineM S2 (Q2.map (·.1)) n2 (X.map (·.1)) with
   | false =>
    have hno : applyM st e X false = none := by rw [hkey]; simp; exact hfine
    refine go T 7 rfl ?_
    refine o1 rfl (op_load_agg T rfl rfl rfl rfl h3 (by exact Nat.le_of_ble_eq_true rfl) (by exact rfl) ?_)
    refine op0 rfl rfl ?_
    refine op_store_agg T rfl rfl rfl rfl rfl rfl h6 (by exact Nat.le_of_ble_eq_true rfl) (fun wz hcz hz _ => ?_)
    refine go T 5 rfl ?_
    exact post2c T (.inl rfl) rfl rfl rfl rfl rfl hz rfl ⟨hendc hcz, fun _ => rfl, fun st' h => by rw [hno] at h; cases h⟩
   | true =>
    have hyes : applyM st e X false = some ⟨S2, Q2, n2, s2⟩ := by rw [hkey]; simp; exact hfine
    refine go T 9 rfl ?_
    refine o1 rfl (op_load_agg T rfl rfl rfl rfl hg9 (by exact Nat.le_of_ble_eq_true rfl) (by exact rfl) ?_)
    refine op0 rfl rfl ?_
    refine op_store_agg T rfl rfl rfl rfl rfl rfl h6 (by exact Nat.le_of_ble_eq_true rfl) (fun wz hcz hz _ => ?_)
    refine go T 4 rfl ?_
    replace hz : Blk wz g6 99 [.slice A2 S2.length c2, .slice A4 Q2.length c4, .int .i64 n2, .int .i64 s2] := hz
    refine post2c T (.inl rfl) rfl rfl rfl rfl rfl hz rfl ⟨hendc hcz, ?_, ?_⟩
    ·intro h; rw [hyes] at h; cases h
    intro st' h
    rw [hyes] at h
    injection h with h
    subst h
    exact ⟨_, _, rfl, r2.keep hcz (fun k hk hm => by have := r2f k hk; simp at hm; omega), r4.keep hcz (fun k hk hm => by have := r4f k hk; simp at hm; omega), fun g hg => by have := r2f g hg; have := hc0.size; omega, fun g hg => by have := r4f g hg; have := hc0.size; omega⟩
 | true =>
  refine go T 5 rfl ?_
  refine ldB T h4 rfl rfl rfl rfl rfl rfl ?_
  refine go T 17 rfl ?_
  refine o1 rfl ?_
  refine op_slice_arr T rfl rfl rfl rfl (by decide) ?_
  refine o1 rfl ?_
  refine op_call rfl rfl rfl (hasB_has _ _ _ [b0, b1, b2, b3, b4, b5] false _ hsb) ?_
  rintro _ wb10 ⟨rfl, rfl⟩
  cases hany : ([b0, b1, b2, b3, b4, b5].any fun x => false == x) with
  | true =>
   have hno : applyM st e X true = none := by
    rw [hkey]
    refine if_neg (fun h => ?_)
    simp only [Bool.and_eq_true] at h
    obtain ⟨rfl, rfl, rfl, rfl, rfl, rfl, _⟩ := h
    simp at hany
   refine go T 11 rfl ?_
   refine o1 rfl (op_load_agg T rfl rfl rfl rfl h3 (by exact Nat.le_of_ble_eq_true rfl) (by exact rfl) ?_)
   refine op0 rfl rfl ?_
   refine op_store_agg T rfl rfl rfl rfl rfl rfl h6 (by exact Nat.le_of_ble_eq_true rfl) (fun wz hcz hz _ => ?_)
   refine go T 5 rfl ?_
   exact post2c T (.inl rfl) rfl rfl rfl rfl rfl hz rfl ⟨hend hcz, fun _ => rfl, fun st' h => by rw [hno] at h; cases h⟩
  | false =>
   have hyes : b0 = true ∧ b1 = true ∧ b2 = true ∧ b3 = true ∧ b4 = true ∧ b5 = true := by
    revert hany
    cases b0 <;> cases b1 <;> cases b2 <;> cases b3 <;> cases b4 <;> cases b5 <;> simp
   obtain ⟨rfl, rfl, rfl, rfl, rfl, rfl⟩ := hyes
   simp only [Bool.true_and] at hkey
   refine go T 1 rfl ?_
   refine o1 rfl (op_load_agg T rfl rfl rfl rfl hg9 (by exact Nat.le_of_ble_eq_true rfl) (by exact rfl) ?_)
   refine go T 1 rfl ?_
   refine o1 rfl ?_
   refine op_call rfl rfl rfl (fine_has _ _ n2 s2 _ _ _ S2 (Q2.map (·.1)) [] _ hrS hrQ hnil (fun q hq => by cases hq) (fun q hq => by cases hq)) ?_
   rintro _ wc ⟨hcf, rfl⟩
   replace h6 := h6.keep0 hcf
   replace h3 := h3.keep0 hcf
   replace hg9 := hg9.keep0 hcf
   replace r2 := r2.keep0 hcf
   replace r4 := r4.keep0 hcf
   have hendc : ∀ {wz : World}, Chg [g6] wc wz → Chg [] w wz := fun hz => hend ((hcf.mono (fun k hk _ => by cases hk)).trans hz (fun k hk _ => hk))
   cases hfine : fineM S2 (Q2.map (·.1)) n2 [] with
   | false =>
    have hno : applyM st e X true = none := by rw [hkey]; simp; exact hfine
    refine go T 7 rfl ?_
    refine o1 rfl (op_load_agg T rfl rfl rfl rfl h3 (by exact Nat.le_of_ble_eq_true rfl) (by exact rfl) ?_)
    refine op0 rfl rfl ?_
    refine op_store_agg T rfl rfl rfl rfl rfl rfl h6 (by exact Nat.le_of_ble_eq_true rfl) (fun wz hcz hz _ => ?_)
    refine go T 5 rfl ?_
    exact post2c T (.inl rfl) rfl rfl rfl rfl rfl hz rfl ⟨hendc hcz, fun _ => rfl, fun st' h => by rw [hno] at h; cases h⟩
   | true =>
    have hyes : applyM st e X true = some ⟨S2, Q2, n2, s2⟩ := by rw [hkey]; simp; exact hfine
    refine go T 9 rfl ?_
    refine o1 rfl (op_load_agg T rfl rfl rfl rfl hg9 (by exact Nat.le_of_ble_eq_true rfl) (by exact rfl) ?_)
    refine op0 rfl rfl ?_
    refine op_store_agg T rfl rfl rfl rfl rfl rfl h6 (by exact Nat.le_of_ble_eq_true rfl) (fun wz hcz hz _ => ?_)
    refine go T 4 rfl ?_
    replace hz : Blk wz g6 99 [.slice A2 S2.length c2, .slice A4 Q2.length c4, .int .i64 n2, .int .i64 s2] := hz
    refine post2c T (.inl rfl) rfl rfl rfl rfl rfl hz rfl ⟨hendc hcz, ?_, ?_⟩
    ·intro h; rw [hyes] at h; cases h
    intro st' h
    rw [hyes] at h
    injection h with h
    subst h
    exact ⟨_, _, rfl, r2.keep hcz (fun k hk hm => by have := r2f k hk; simp at hm; omega), r4.keep hcz (fun k hk hm => by have := r4f k hk; simp at hm; omega), fun g hg => by have := r2f g hg; have := hc0.size; omega, fun g hg => by have := r4f g hg; have := hc0.size; omega⟩
end Go.Proofs.YtiadjkjlifnopaaGreatDoor.Tryz
/-! Manifests: whole; Segs, Next, Seq; of no manifest. -/
namespace Go.Proofs.YtiadjkjlifnopaaGreatDoor.Tryz
open Go Go.Vc
def ManB (w : World) (gm g : Nat) (vs vp : Value) (nx sq : Int) (cl : Bool) : Prop := Blk w gm 101 [.pointer (some ⟨g, 0, none⟩), vs, vp, .int .i64 nx, .int .i64 sq, .bool cl]
theorem whole_has (A : Option Addr) (n c : Nat) (B : Option Addr) (m d : Nat) (nx sq : Int) (w : World) :
  Has Tryz.prog 94 #[.agg #[.slice A n c, .slice B m d, .int .i64 nx, .int .i64 sq]] w (fun v w' => Chg [] w w' ∧ v = .agg #[.int .i64 nx, .int .i64 sq, .slice A n c, .slice none 0 0, .slice B m d, .slice none 0 0]) := by
 refine enter Tryz.func94 rfl rfl (by decide) rfl (e := [(0, .agg #[.slice A n c, .slice B m d, .int .i64 nx, .int .i64 sq])]) ⟨rfl, trivial⟩ ?_
 refine run ?_
 refine go T 2 rfl ?_
 refine o1 rfl ?_
 refine op_box rfl rfl (fun g1 w1 hs1 hc1 hg1 => ?_)
 have hg1 : Blk w1 g1 99 [.slice A n c, .slice B m d, .int .i64 nx, .int .i64 sq] := hg1
 refine o1 rfl ?_
 refine op_alloc T rfl rfl (fun g2 w2 hs2 hc2 hg2 => ?_)
 have hg2 : Blk w2 g2 49 [.int .i64 0, .int .i64 0, .slice none 0 0, .slice none 0 0, .slice none 0 0, .slice none 0 0] := hg2
 have hs2 : w1.heap.size ≤ g2 := hs2
 have hg12 := hg1.keep0 hc2
 refine go T 5 rfl ?_
 refine ldB T hg12 rfl rfl rfl rfl rfl rfl ?_
 refine go T 1 rfl ?_
 refine ldB T hg12 rfl rfl rfl rfl rfl rfl ?_
 refine go T 1 rfl ?_
 refine ldB T hg12 rfl rfl rfl rfl rfl rfl ?_
 refine go T 1 rfl ?_
 refine ldB T hg12 rfl rfl rfl rfl rfl rfl ?_
 refine o1 rfl (op_build T rfl rfl rfl rfl rfl rfl ?_)
 refine op0 rfl rfl ?_
 refine op_store_agg T rfl rfl rfl rfl rfl rfl hg2 (by exact Nat.le_of_ble_eq_true rfl) (fun w3 hc3 hg3 _ => ?_)
 have hz := hc1.size
 refine go T 3 rfl ?_
 exact post1c T (.inl rfl) rfl rfl rfl rfl hg3 rfl ⟨(hc1.trans' hc2).trans hc3 (fun k hk hlt => by simp at hk; omega), rfl⟩
section
variable {w : World} {gm g : Nat} {vs vp : Value} {nx sq : Int} {cl : Bool}
theorem nextM_has (x : ManB w gm g vs vp nx sq cl) : Has Tryz.prog 28 #[.pointer (some ⟨gm, 0, none⟩)] w (fun v w' => w' = w ∧ v = .int .i64 nx) := by
 refine enter Tryz.func28 rfl rfl (by decide) rfl (e := [(0, .pointer (some ⟨gm, 0, none⟩))]) ⟨rfl, trivial⟩ ?_
 unfold ManB at x
 refine run ?_
 refine go T 21 rfl ?_
 refine ldB T x rfl rfl rfl rfl rfl rfl ?_
 refine go T 4 rfl ?_
 exact post1 (.inl rfl) rfl rfl ⟨rfl, rfl⟩
theorem segsM_has (x : ManB w gm g vs vp nx sq cl) (L : List SegM) (hl : SliceK 6 (RdL segL) w vs L) (hb : L.length ≤ 1000000) : Has Tryz.prog 27 #[.pointer (some ⟨gm, 0, none⟩)] w (fun v w' => Chg [] w w' ∧ Own w' 26 6 v L.length (L.flatMap segL) ∧ ∀ g, v.ownBlock = some g → w.heap.size ≤ g) := by
 refine enter Tryz.func27 rfl rfl (by decide) rfl (e := [(0, .pointer (some ⟨gm, 0, none⟩))]) ⟨rfl, trivial⟩ ?_
 unfold ManB at x
 obtain ⟨A, c, rfl, _, _⟩ := hl.form
 refine run ?_
 refine go T 21 rfl ?_
 refine ldB T x rfl rfl rfl rfl rfl rfl ?_
 refine o1 rfl ?_
 refine op_call rfl rfl rfl (cloneSeg_has A _ c L w hl hb) ?_
 rintro v1 w1 h1
 refine go T 4 rfl ?_
 exact post1 (.inl rfl) rfl rfl h1
end
end Go.Proofs.YtiadjkjlifnopaaGreatDoor.Tryz
/-! raw.Write: five steps, one after the other, until one fails. -/
namespace Go.Vc
open Go
def writeK (s : FsM) (nm beside : Nm) (b : List UInt8) : Nat → FsM × Int
 | 0 => createM s beside
 | 1 => appendM s beside b
 | 2 => syncM s beside
 | 3 => renameM s beside nm
 | _ => syncDirM s
def writeG (nm beside : Nm) (b : List UInt8) : Nat → Nat → FsM → FsM × Int
 | 0, _, s => (s, 0)
 | n + 1, k, s => if (writeK s nm beside b k).2 ≠ 0 then writeK s nm beside b k else writeG nm beside b n (k + 1) (writeK s nm beside b k).1
theorem writeK_calls (s : FsM) (nm beside : Nm) (b : List UInt8) (k : Nat) : (writeK s nm beside b k).1.calls = s.calls + 1 := by
 unfold writeK
 split
 ·unfold createM; dsimp only; split; · rfl
  split; · rfl
  split <;> rfl
 ·unfold appendM; dsimp only; split; · rfl
  split; · rfl
  split <;> rfl
 ·unfold syncM; dsimp only; split; · rfl
  split <;> rfl
 ·unfold renameM; dsimp only; split; · rfl
  split; · rfl
  split <;> rfl
 ·unfold syncDirM; dsimp only; split <;> rfl
def writeM (s : FsM) (nm beside : Nm) (b : List UInt8) : FsM × Int := writeG nm beside b 5 0 s
end Go.Vc
namespace Go.Proofs.YtiadjkjlifnopaaGreatDoor.Tryz
open Go Go.Vc
theorem FsDone.trans {w w1 w2 : World} {g : Nat} {p p1 : FsP} {r' : FsM × Int} {v' : Value} (h1 : Chg (p.fp g) w w1) (hg : Grows w g p p1) (h2 : FsDone w1 g p1 r' v' w2) : FsDone w g p r' v' w2 := by
 obtain ⟨h3, h4, p2, h5, h6⟩ := h2
 exact ⟨h1.fps hg h3, h4, p2, h5, hg.trans h6 h1.size⟩
section
variable {w : World} {g : Nat} {s : FsM} {p : FsP} {gf gn gb gc : Nat} {nm beside : Nm} {A : Option Addr} {n c : Nat} {b : List UInt8}
theorem write1_has (x : FsAt w g s p) (h4 : Blk w gf 32 [ptrV g]) (h6 : Blk w gb 9 [.string (str beside)]) (hk : beside.length ≤ maxLen) (hcalls : s.calls < 1000000000 - 1) :
  Has Tryz.prog 89 #[ptrV gf, ptrV gb] w (FsDone w g p (createM s beside)) := by
 refine enter Tryz.func89 rfl rfl (by decide) rfl (e := [(0, ptrV gf), (1, ptrV gb)]) ⟨rfl, rfl, trivial⟩ ?_
 unfold ptrV at *
 repeat (first | refine W_seq ?_ | refine W_region ?_ | refine Then_n ?_ | refine WL_nil ?_ | refine WL_some rfl rfl rfl ?_ | refine op_assign rfl rfl ?_ | refine op_loadB T rfl rfl rfl rfl (by assumption) (by exact rfl) ?_)
 refine op_call rfl rfl rfl (create_has g s p beside w x hk hcalls) ?_
 intro v w1 h
 have hv := h.2.1
 subst hv
 repeat (first | refine W_ret ?_ | refine Then_n ?_ | refine WL_nil ?_ | refine WL_some rfl rfl rfl ?_ | refine op_assign rfl rfl ?_)
 exact post1 (.inl rfl) rfl rfl h
theorem write2_has (x : FsAt w g s p) (h4 : Blk w gf 32 [ptrV g]) (h6 : Blk w gb 9 [.string (str beside)]) (h7 : Blk w gc 51 [.slice A n c]) (hb : Firm (p.fp g) w (fun w => SliceOf Ru8 w (.slice A n c) b)) (hbl : b.length ≤ 1000000000) (hcalls : s.calls < 1000000000 - 1) :
  Has Tryz.prog 90 #[ptrV gf, ptrV gb, ptrV gc] w (FsDone w g p (appendM s beside b)) := by
 refine enter Tryz.func90 rfl rfl (by decide) rfl (e := [(0, ptrV gf), (1, ptrV gb), (2, ptrV gc)]) ⟨rfl, rfl, rfl, trivial⟩ ?_
 unfold ptrV at *
 repeat (first | refine W_seq ?_ | refine W_region ?_ | refine Then_n ?_ | refine WL_nil ?_ | refine WL_some rfl rfl rfl ?_ | refine op_assign rfl rfl ?_ | refine op_loadB T rfl rfl rfl rfl (by assumption) (by exact rfl) ?_)
 refine op_call rfl rfl rfl (append_has g s p beside A n c b w x hb hbl hcalls) ?_
 intro v w1 h
 have hv := h.2.1
 subst hv
 repeat (first | refine W_ret ?_ | refine Then_n ?_ | refine WL_nil ?_ | refine WL_some rfl rfl rfl ?_ | refine op_assign rfl rfl ?_)
 exact post1 (.inl rfl) rfl rfl h
theorem write3_has (x : FsAt w g s p) (h4 : Blk w gf 32 [ptrV g]) (h6 : Blk w gb 9 [.string (str beside)]) (hcalls : s.calls < 1000000000 - 1) :
  Has Tryz.prog 91 #[ptrV gf, ptrV gb] w (FsDone w g p (syncM s beside)) := by
 refine enter Tryz.func91 rfl rfl (by decide) rfl (e := [(0, ptrV gf), (1, ptrV gb)]) ⟨rfl, rfl, trivial⟩ ?_
 unfold ptrV at *
 repeat (first | refine W_seq ?_ | refine W_region ?_ | refine Then_n ?_ | refine WL_nil ?_ | refine WL_some rfl rfl rfl ?_ | refine op_assign rfl rfl ?_ | refine op_loadB T rfl rfl rfl rfl (by assumption) (by exact rfl) ?_)
 refine op_call rfl rfl rfl (sync_has g s p beside w x hcalls) ?_
 intro v w1 h
 have hv := h.2.1
 subst hv
 repeat (first | refine W_ret ?_ | refine Then_n ?_ | refine WL_nil ?_ | refine WL_some rfl rfl rfl ?_ | refine op_assign rfl rfl ?_)
 exact post1 (.inl rfl) rfl rfl h
theorem write4_has (x : FsAt w g s p) (h4 : Blk w gf 32 [ptrV g]) (h6 : Blk w gb 9 [.string (str beside)]) (h5 : Blk w gn 9 [.string (str nm)]) (hk : nm.length ≤ maxLen) (hcalls : s.calls < 1000000000 - 1) :
  Has Tryz.prog 92 #[ptrV gf, ptrV gb, ptrV gn] w (FsDone w g p (renameM s beside nm)) := by
 refine enter Tryz.func92 rfl rfl (by decide) rfl (e := [(0, ptrV gf), (1, ptrV gb), (2, ptrV gn)]) ⟨rfl, rfl, rfl, trivial⟩ ?_
 unfold ptrV at *
 repeat (first | refine W_seq ?_ | refine W_region ?_ | refine Then_n ?_ | refine WL_nil ?_ | refine WL_some rfl rfl rfl ?_ | refine op_assign rfl rfl ?_ | refine op_loadB T rfl rfl rfl rfl (by assumption) (by exact rfl) ?_)
 refine op_call rfl rfl rfl (rename_has g s p beside nm w x hk hcalls) ?_
 intro v w1 h
 have hv := h.2.1
 subst hv
 repeat (first | refine W_ret ?_ | refine Then_n ?_ | refine WL_nil ?_ | refine WL_some rfl rfl rfl ?_ | refine op_assign rfl rfl ?_)
 exact post1 (.inl rfl) rfl rfl h
set_option maxHeartbeats 4000000 in
theorem write_has (x : FsAt w g s p) (hb : Firm (p.fp g) w (fun w => SliceOf Ru8 w (.slice A n c) b)) (hbl : b.length ≤ 1000000000) (hk1 : nm.length ≤ maxLen) (hk2 : beside.length ≤ maxLen) (hcalls : s.calls < 1000000000 - 10) :
  Has Tryz.prog 51 #[ptrV g, .string (str nm), .string (str beside), .slice A n c] w (FsDone w g p (writeM s nm beside b)) := by
 refine enter Tryz.func51 rfl rfl (by decide) rfl (e := [(0, ptrV g), (1, .string (str nm)), (2, .string (str beside)), (3, .slice A n c)]) ⟨rfl, rfl, rfl, rfl, trivial⟩ ?_
 repeat (first | refine W_seq ?_ | refine W_region ?_ | refine WL_some rfl rfl rfl ?_)
 refine op_box rfl rfl (fun gf w1 hs1 hc1 h4 => ?_)
 have h4 : Blk w1 gf 32 [ptrV g] := h4
 have hs1 : w.heap.size ≤ gf := hs1
 repeat (refine WL_some rfl rfl rfl ?_)
 refine op_box rfl rfl (fun gn w2 hs2 hc2 h5 => ?_)
 have h5 : Blk w2 gn 9 [.string (str nm)] := h5
 have hs2 : w1.heap.size ≤ gn := hs2
 repeat (refine WL_some rfl rfl rfl ?_)
 refine op_box rfl rfl (fun gb w3 hs3 hc3 h6 => ?_)
 have h6 : Blk w3 gb 9 [.string (str beside)] := h6
 have hs3 : w2.heap.size ≤ gb := hs3
 repeat (refine WL_some rfl rfl rfl ?_)
 refine op_box rfl rfl (fun gc w4 hs4 hc4 h7 => ?_)
 have h7 : Blk w4 gc 51 [.slice A n c] := h7
 have hs4 : w3.heap.size ≤ gc := hs4
 have h44 := ((h4.keep0 hc2).keep0 hc3).keep0 hc4
 have h54 := (h5.keep0 hc3).keep0 hc4
 have h64 := h6.keep0 hc4
 have hc04 : Chg [] w w4 := ((hc1.trans' hc2).trans' hc3).trans' hc4
 unfold ptrV at *
 repeat (first | refine W_seq ?_ | refine W_region ?_ | refine Then_n ?_ | refine WL_nil ?_ | refine WL_some rfl rfl rfl ?_ | refine op_assign rfl rfl ?_)
 refine op_makeFunc (fv := #[]) (cv := #[.pointer (some ⟨gf, 0, none⟩), .pointer (some ⟨gb, 0, none⟩)]) rfl rfl rfl ?_
 repeat (refine WL_some rfl rfl rfl ?_)
 refine op_makeFunc (fv := #[]) (cv := #[.pointer (some ⟨gf, 0, none⟩), .pointer (some ⟨gb, 0, none⟩), .pointer (some ⟨gc, 0, none⟩)]) rfl rfl rfl ?_
 repeat (refine WL_some rfl rfl rfl ?_)
 refine op_makeFunc (fv := #[]) (cv := #[.pointer (some ⟨gf, 0, none⟩), .pointer (some ⟨gb, 0, none⟩)]) rfl rfl rfl ?_
 repeat (refine WL_some rfl rfl rfl ?_)
 refine op_makeFunc (fv := #[]) (cv := #[.pointer (some ⟨gf, 0, none⟩), .pointer (some ⟨gb, 0, none⟩), .pointer (some ⟨gn, 0, none⟩)]) rfl rfl rfl ?_
 repeat (first | refine WL_some rfl rfl rfl ?_ | refine op_loadB T rfl rfl rfl rfl (by assumption) (by exact rfl) ?_)
 refine op_makeFunc (fv := #[.pointer (some ⟨g, 0, none⟩)]) (cv := #[]) rfl rfl rfl ?_
 repeat (refine WL_some rfl rfl rfl ?_)
 refine op_buildSlice T rfl rfl rfl rfl rfl rfl rfl (fun gt w5 hs5 hc5 h8 => ?_)
 repeat (first | refine W_block ?_ | refine Then_n ?_ | refine WL_nil ?_ | refine WL_some rfl rfl rfl ?_ | refine op_move rfl rfl ?_ | refine op_len_slice T rfl rfl rfl rfl ?_)
 have h8 : Blk w5 gt 58 [.func (.func 89) #[] #[ptrV gf, ptrV gb], .func (.func 90) #[] #[ptrV gf, ptrV gb, ptrV gc], .func (.func 91) #[] #[ptrV gf, ptrV gb], .func (.func 92) #[] #[ptrV gf, ptrV gb, ptrV gn], .func (.func 41) #[ptrV g] #[]] := h8
 have hc05 : Chg [] w w5 := hc04.trans' hc5
 have x5 := x.keep0 hc05
 have hb5 := hb.step0 hc05
 have hlift : ∀ r v w', FsDone w5 g p r v w' → FsDone w g p r v w' := fun r v w' ⟨a, b', p', c', d⟩ => ⟨(hc05.mono (fun k hk _ => by cases hk)).trans a (fun _ h _ => h), b', p', c', fun k hk => (d k hk).imp id (fun h => by have := hc05.size; omega)⟩
 have hnew : ∀ k, w.heap.size ≤ k → k ∉ p.fp g := fun k hk hm => by have := x.lt k hm; omega
 have hz1 := hc1.size; have hz2 := hc2.size; have hz3 := hc3.size; have hz4 := hc4.size
 refine W_loop (σ := Nat) (fun k => [(18, .slice (some ⟨gt, 0, none⟩) 5 5), (19, .int .i64 5), (20, .int .i64 (k : Int))])
  (fun k w' => k ≤ 5 ∧ ∃ s' p', FsAt w' g s' p' ∧ Chg (p.fp g) w5 w' ∧ Grows w5 g p p' ∧ s'.calls = s.calls + k ∧ writeM s nm beside b = writeG nm beside b (5 - k) k s')
  (fun k => 5 - k) 0 ⟨rfl, rfl, rfl, trivial⟩ ⟨by omega, s, p, x5, Chg.refl _ _, Grows.refl _ _ _, by omega, rfl⟩ ?_
 rintro k w6 ⟨hk, s6, p6, x6, hc6, hg6, hcl, hw⟩
 have hnf : ∀ j, w.heap.size ≤ j → j ∉ p.fp g := hnew
 have h46 := (h44.keep0 hc5).keep hc6 (hnew _ hs1)
 have h56 := (h54.keep0 hc5).keep hc6 (hnew _ (by omega))
 have h66 := (h64.keep0 hc5).keep hc6 (hnew _ (by omega))
 have h76 := (h7.keep0 hc5).keep hc6 (hnew _ (by omega))
 have h86 := h8.keep hc6 (hnew _ (by omega))
 have hb6 : Firm (p6.fp g) w6 (fun w => SliceOf Ru8 w (.slice A n c) b) := fun w1 h => hb5 w1 (hc6.fps hg6 h)
 repeat (first | refine W_seq ?_ | refine W_region ?_ | refine WL_some rfl rfl rfl ?_)
 (refine op_lss rfl rfl rfl (fun hc => ?_) (fun hc => ?_))
 ·have hk5 : k < 5 := by omega
  have hstep : ∃ nk fv cv, ([.func (.func 89) #[] #[ptrV gf, ptrV gb], .func (.func 90) #[] #[ptrV gf, ptrV gb, ptrV gc], .func (.func 91) #[] #[ptrV gf, ptrV gb], .func (.func 92) #[] #[ptrV gf, ptrV gb, ptrV gn], .func (.func 41) #[ptrV g] #[]] : List Value)[k]? = some (.func (.func nk) fv cv) ∧ Has Tryz.prog nk (fv ++ #[] ++ cv) w6 (FsDone w6 g p6 (writeK s6 nm beside b k)) := by
   match k, hk5 with
   | 0, _ => exact ⟨_, _, _, rfl, write1_has x6 h46 h66 hk2 (by omega)⟩
   | 1, _ => exact ⟨_, _, _, rfl, write2_has x6 h46 h66 h76 hb6 hbl (by omega)⟩
   | 2, _ => exact ⟨_, _, _, rfl, write3_has x6 h46 h66 (by omega)⟩
   | 3, _ => exact ⟨_, _, _, rfl, write4_has x6 h46 h66 h56 hk1 (by omega)⟩
   | 4, _ => exact ⟨_, _, _, rfl, syncDir_has g s6 p6 w6 x6 (by omega)⟩
  obtain ⟨nk, fv, cv, hcell, hhas⟩ := hstep
  have hcl2 := writeK_calls s6 nm beside b k
  have hcell6 := h86.cell hcell
  have hwg : writeG nm beside b (5 - k) k s6 = if (writeK s6 nm beside b k).2 ≠ 0 then writeK s6 nm beside b k else writeG nm beside b (5 - (k + 1)) (k + 1) (writeK s6 nm beside b k).1 := by
   rw [show 5 - k = (5 - (k + 1)) + 1 from by omega]; rfl
  repeat (first | refine W_seq ?_ | refine W_block ?_ | refine W_region ?_ | refine W_skip ?_ | refine Then_n ?_ | refine WL_nil ?_ | refine W_condT rfl ?_ | refine WL_some rfl rfl rfl ?_ | refine op_move rfl rfl ?_ | refine op_assign rfl rfl ?_ | refine op_index_own T rfl rfl rfl rfl rfl rfl (by omega) ?_ | refine op_load T rfl rfl rfl rfl (by assumption) ?_)
  refine op_callf rfl rfl rfl hhas ?_
  intro v w7 hd
  have hv := hd.2.1
  subst hv
  have hd5 : FsDone w5 g p (writeK s6 nm beside b k) _ w7 := FsDone.trans hc6 hg6 hd
  by_cases hz : (writeK s6 nm beside b k).2 = 0
  ·rw [if_neg (by simp [hz])] at hwg
   obtain ⟨a1, _, p7, a3, a4⟩ := hd5
   repeat (first | refine W_seq ?_ | refine W_region ?_ | refine W_skip ?_ | refine Then_n ?_ | refine InBlock_n ?_ | refine WL_nil ?_ | refine W_condF rfl ?_ | refine WL_some rfl rfl rfl ?_ | refine op_move rfl rfl ?_ | refine op_assign rfl rfl ?_ | refine op_add rfl rfl rfl (wrap_i64_in (by omega) (by omega)) ?_ | refine op_neq rfl rfl rfl (fun hc => False.elim (by omega)) (fun hc => ?_))
   exact Round_n (k + 1) ⟨rfl, rfl, rfl, trivial⟩ ⟨by omega, _, p7, a3, a1, a4, by omega, by rw [hw, hwg]⟩ (by omega)
  ·rw [if_pos hz] at hwg
   repeat (first | refine W_seq ?_ | refine W_region ?_ | refine W_ret ?_ | refine Then_n ?_ | refine Then_r ?_ | refine InBlock_r ?_ | refine Round_r ?_ | refine WL_nil ?_ | refine W_condT rfl ?_ | refine WL_some rfl rfl rfl ?_ | refine op_move rfl rfl ?_ | refine op_assign rfl rfl ?_ | refine op_neq rfl rfl rfl (fun hc => ?_) (fun hc => False.elim (by omega)))
   refine post1 (.inl rfl) rfl rfl (hlift _ _ _ ?_)
   rw [hw, hwg]; exact hd5
 ·obtain rfl : k = 5 := by omega
  repeat (first | refine W_seq ?_ | refine W_region ?_ | refine W_exit ?_ | refine W_ret ?_ | refine Then_n ?_ | refine Then_x ?_ | refine InBlock_hit ?_ | refine Round_x ?_ | refine WL_nil ?_ | refine W_condF rfl ?_ | refine WL_some rfl rfl rfl ?_ | refine op_assign rfl rfl ?_)
  refine post1 (.inl rfl) rfl rfl (hlift _ _ _ ⟨hc6, ?_, p6, ?_, hg6⟩)
  ·rw [hw]; rfl
  ·rw [hw]; exact x6
end
end Go.Proofs.YtiadjkjlifnopaaGreatDoor.Tryz
/-! Manifests: lay. -/
namespace Go.Vc
open Go
def manNm : Nm := [77, 65, 78, 73, 70, 69, 83, 84]
def neuNm : Nm := [78, 69, 87]
def wholeM (S : List SegM) (Q : List ParV) (nx sq : Int) : EditM := { next := nx, seq := sq, adds := S, dels := [], pars := Q.map (·.p), drops := [] }
end Go.Vc
namespace Go.Proofs.YtiadjkjlifnopaaGreatDoor.Tryz
open Go Go.Vc
set_option maxHeartbeats 1000000 in
theorem lay_has {w : World} {gm g : Nat} {s : FsM} {p : FsP} {A : Option Addr} {c : Nat} {B : Option Addr} {d : Nat} {nx sq : Int} {cl : Bool} {S : List SegM} {Q : List ParV} (x : FsAt w g s p)
  (hm : ManB w gm g (.slice A S.length c) (.slice B Q.length d) nx sq cl) (hS : SliceK 6 (RdL segL) w (.slice A S.length c) S) (hQ : SliceK 5 (RdL parL) w (.slice B Q.length d) Q) (hp : ∀ q ∈ Q, PRd w q) (hI : EdI (wholeM S Q nx sq)) (hcalls : s.calls < 1000000000 - 10) :
  Has Tryz.prog 53 #[.pointer (some ⟨gm, 0, none⟩)] w (fun v w' => ((encE (wholeM S Q nx sq)).2 ≠ 0 → Chg [] w w' ∧ v = .int .i64 (encE (wholeM S Q nx sq)).2) ∧ ((encE (wholeM S Q nx sq)).2 = 0 → FsDone w g p (writeM s manNm neuNm (encE (wholeM S Q nx sq)).1) v w')) := by
 refine enter Tryz.func53 rfl rfl (by decide) rfl (e := [(0, .pointer (some ⟨gm, 0, none⟩))]) ⟨rfl, trivial⟩ ?_
 unfold ManB at hm
 refine run ?_
 refine go T 10 rfl ?_
 refine o1 rfl (op_load_agg T rfl rfl rfl rfl hm (by exact Nat.le_of_ble_eq_true rfl) (by exact rfl) ?_)
 refine o1 rfl ?_
 refine op_call rfl rfl rfl (whole_has A _ c B _ d nx sq w) ?_
 rintro _ w1 ⟨hc1, rfl⟩
 have hr : ERd w1 ⟨wholeM S Q nx sq, .slice A S.length c, .slice none 0 0, .slice B Q.length d, .slice none 0 0, Q⟩ := ⟨hS.keepR hc1, SliceOf.nil _ _, hQ.keepR hc1, rfl, fun q hq => (hp q hq).keep0 hc1, SliceOf.nil _ _⟩
 have hcall := encodeE_has (w := w1) ⟨wholeM S Q nx sq, .slice A S.length c, .slice none 0 0, .slice B Q.length d, .slice none 0 0, Q⟩ hI hr
 dsimp only at hcall
 generalize encE (wholeM S Q nx sq) = en at *
 obtain ⟨b, er⟩ := en
 dsimp only at hcall ⊢
 refine o1 rfl ?_
 refine op_call rfl rfl rfl hcall ?_
 rintro _ w2 ⟨u, rfl, m2, hbl⟩
 obtain ⟨Au, cu, rfl, _, _⟩ := m2.form
 have hc02 := hc1.trans' m2.chg
 have hm2 := hm.keep0 hc02
 by_cases h0 : er = 0
 ·subst h0
  have hfirm := m2.firm (fun k (hk : k ∈ p.fp g) => by have := x.lt k hk; have := hc1.size; omega)
  have x2 := x.keep0 hc02
  refine go T 11 rfl ?_
  refine neF rfl rfl rfl rfl (by omega) ?_
  refine go T 10 rfl ?_
  refine ldB T hm2 rfl rfl rfl rfl rfl rfl ?_
  refine go T 1 rfl ?_
  refine o1 rfl ?_
  refine op_call rfl rfl rfl (write_has (nm := manNm) (beside := neuNm) x2 hfirm (by omega) (by show 8 ≤ maxLen; decide) (by show 3 ≤ maxLen; decide) hcalls) ?_
  intro v3 w3 hd
  have hd' : FsDone w g p (writeM s manNm neuNm b) v3 w3 := ⟨(hc02.mono (fun k hk _ => by cases hk)).trans hd.1 (fun k hk _ => hk), hd.2.1, let ⟨p', h3, h4⟩ := hd.2.2; ⟨p', h3, fun k hk => (h4 k hk).imp id (fun h => by have := hc02.size; omega)⟩⟩
  have hv := hd.2.1
  subst hv
  refine go T 4 rfl ?_
  exact post1 (.inl rfl) rfl rfl ⟨fun h => absurd rfl h, fun _ => hd'⟩
 ·refine go T 11 rfl ?_
  refine neT rfl rfl rfl rfl (by omega) ?_
  refine go T 11 rfl ?_
  exact post1 (.inl rfl) rfl rfl ⟨fun _ => ⟨hc02, rfl⟩, fun h => absurd h h0⟩
end Go.Proofs.YtiadjkjlifnopaaGreatDoor.Tryz
/-! Manifests: Create. -/
namespace Go.Vc
open Go
def man0 : EditM := wholeM [] [] 1 1
theorem man0_enc : (encE man0).2 = 0 := by
 have h : editB man0 = true := by decide
 unfold encE
 simp [h]
end Go.Vc
namespace Go.Proofs.YtiadjkjlifnopaaGreatDoor.Tryz
open Go Go.Vc
theorem fsDoneO {w0 w w' : World} {g : Nat} {s : FsM} {p : FsP} (x : FsO w0 w g s p) {r : FsM × Int} {v : Value} (h : FsDone w g p r v w') : v = .int .i64 r.2 ∧ Chg (p.fp g) w w' ∧ ∃ p', FsO w0 w' g r.1 p' ∧ Grows w g p p' := by
 obtain ⟨h1, h2, p', h3, h4⟩ := h
 exact ⟨h2, h1, p', ⟨x.chgFp h1, h3, fun k hk => by
  rcases h4 k hk with h | h
  ·exact x.fresh k h
  ·have := x.chg.size; omega⟩, h4⟩
set_option maxHeartbeats 1000000 in
theorem createMan_has {w0 w : World} {g : Nat} {s : FsM} {p : FsP} (x : FsO w0 w g s p) (hcalls : s.calls < 1000000000 - 10) (hread : readM s manNm = none) (hz : (writeM s manNm neuNm (encE man0).1).2 = 0) :
  Has Tryz.prog 19 #[ptrV g] w (fun v w' => ∃ gm p', v = .tuple #[.pointer (some ⟨gm, 0, none⟩), .int .i64 0] ∧ Chg (p.fp g) w w' ∧ FsO w0 w' g (writeM s manNm neuNm (encE man0).1).1 p' ∧ Grows w g p p' ∧ ManB w' gm g (.slice none 0 0) (.slice none 0 0) 1 1 false ∧ gm ∉ p'.fp g ∧ w.heap.size ≤ gm) := by
 refine enter Tryz.func19 rfl rfl (by decide) rfl (e := [(0, ptrV g)]) ⟨rfl, trivial⟩ ?_
 unfold ptrV
 refine run ?_
 refine go T 10 rfl ?_
 refine o1 rfl ?_
 refine op_call rfl rfl rfl (readO_has x manNm) ?_
 rintro v1 w1 ⟨x1, hc1, h1⟩
 rw [hread] at h1
 obtain rfl : v1 = .tuple #[.slice none 0 0, .int .i64 3] := h1
 refine go T 10 rfl ?_
 refine eqF rfl rfl rfl rfl (by omega) ?_
 refine go T 8 rfl ?_
 refine o1 rfl (op_build T rfl rfl rfl rfl rfl rfl ?_)
 refine o1 rfl (op_build T rfl rfl rfl rfl rfl rfl ?_)
 refine o1 rfl ?_
 refine op_box rfl rfl (fun gm w2 hs2 hc2 hg2 => ?_)
 have hg2 : ManB w2 gm g (.slice none 0 0) (.slice none 0 0) 1 1 false := hg2
 have hs2 : w1.heap.size ≤ gm := hs2
 have x2 := x1.keep0 hc2
 have hc02 := hc1.trans' hc2
 have hout : gm ∉ p.fp g := fun hm => by have := x1.at_.lt gm hm; omega
 have hnS : SliceK 6 (RdL segL) w2 (.slice none 0 0) [] := by
  unfold SliceK
  exact ⟨none, 0, rfl, Nat.le_refl _, Nat.zero_le _, fun i x h => by simp at h⟩
 have hnQ : SliceK 5 (RdL parL) w2 (.slice none 0 0) [] := by
  unfold SliceK
  exact ⟨none, 0, rfl, Nat.le_refl _, Nat.zero_le _, fun i x h => by simp at h⟩
 have hI : EdI (wholeM [] [] 1 1) := ⟨⟨by decide, by decide⟩, ⟨by decide, by decide⟩, fun s hs => by simp [wholeM] at hs, fun q hq => by simp [wholeM] at hq⟩
 refine go T 7 rfl ?_
 refine o1 rfl ?_
 refine op_call rfl rfl rfl (lay_has (S := []) (Q := []) x2.at_ hg2 hnS hnQ (fun q hq => by cases hq) hI hcalls) ?_
 rintro v3 w3 ⟨_, hd⟩
 have hd := hd man0_enc
 have hgl := hg2
 obtain ⟨hv3, hc3, p3, x3, hg3⟩ := fsDoneO x2 hd
 change v3 = .int .i64 (writeM s manNm neuNm (encE man0).1).2 at hv3
 rw [hz] at hv3
 subst hv3
 have hgl2 : gm < w2.heap.size := Blk.lt hg2
 have hman : ManB w3 gm g (.slice none 0 0) (.slice none 0 0) 1 1 false := Blk.keep hg2 hc3 hout
 have hgrow : Grows w g p p3 := fun k hk => (hg3 k hk).imp id (fun h => by have := hc02.size; omega)
 refine go T 6 rfl ?_
 refine neF rfl rfl rfl rfl (by omega) ?_
 refine go T 13 rfl ?_
 refine post2 (.inl rfl) rfl rfl rfl ⟨gm, p3, rfl, (hc02.mono (fun k hk _ => by cases hk)).trans hc3 (fun k hk _ => hk), x3, hgrow, hman, fun hm => ?_, by have := hc1.size; omega⟩
 rcases hg3 gm hm with h | h
 ·exact hout h
 ·omega
end Go.Proofs.YtiadjkjlifnopaaGreatDoor.Tryz
/-! Manifests: Rewrite; Commit of no manifest. -/
namespace Go.Proofs.YtiadjkjlifnopaaGreatDoor.Tryz
open Go Go.Vc
end Go.Proofs.YtiadjkjlifnopaaGreatDoor.Tryz
/-! Manifests: a state in plain words, without the places of its lists. -/
namespace Go.Vc
open Go
section
variable {α β : Type} {f : α → β} {key : β → Int}
theorem erase_map : ∀ (L : List α) (i : Nat), (L.map f).eraseIdx i = (L.eraseIdx i).map f
 | [], i => by simp
 | a :: L, 0 => by simp
 | a :: L, i + 1 => by simp [erase_map L i]
theorem takeK_map : ∀ (ns : List Int) (L : List α), takeK key ns (L.map f) = (takeK (fun x => key (f x)) ns L).map (List.map f)
 | [], L => rfl
 | n :: ns, L => by
  rw [takeK, takeK, idxM_map]
  split
  ·rfl
  ·rw [erase_map, takeK_map ns]
theorem putK_map : ∀ (xs L : List α), putK key (xs.map f) (L.map f) = (putK (fun x => key (f x)) xs L).map (List.map f)
 | [], L => rfl
 | x :: xs, L => by
  rw [List.map_cons, putK, putK, List.any_map]
  by_cases h : (L.any fun y => decide (key (f x) = key (f y))) = true
  ·rw [if_pos h, if_pos (by exact h)]; rfl
  ·rw [if_neg h, if_neg (by exact h), show L.map f ++ [f x] = (L ++ [x]).map f from by simp, putK_map xs]
theorem insK_map (x : α) : ∀ l : List α, insM (leK key) (f x) (l.map f) = (insM (leK fun x => key (f x)) x l).map f
 | [] => rfl
 | y :: l => by
  rw [List.map_cons, insM, insM]
  by_cases h : leK (fun x => key (f x)) x y = true
  ·rw [if_pos h, if_pos (by exact h)]; rfl
  ·rw [if_neg h, if_neg (by exact h), insK_map x l]; rfl
theorem sortK_map : ∀ L : List α, sortK key (L.map f) = (sortK (fun x => key (f x)) L).map f
 | [] => rfl
 | x :: l => by
  have h := sortK_map l
  unfold sortK at *
  rw [List.map_cons, isM, isM, h, insK_map]
end
theorem ite_some {α : Type} {c : Bool} {a b : α} (h : (if c = true then some a else none) = some b) : c = true ∧ a = b := by
 cases c with
 | true => injection h with h; exact ⟨rfl, h⟩
 | false => cases h
structure PSt where
 segs : List SegM
 pars : List ParM
 next : Int
 seq : Int
def gKey (p : ParM) : Int := p.group
def finePM (S : List SegM) (Q : List ParM) (nx : Int) (X : List ParM) : Bool :=
 (X.all fun q => q.nums.all fun n => S.any (sealedAt n)) && (decide (max S.length Q.length ≤ 60) && (!(S.any fun s => decide (nx ≤ s.num)) && !(Q.any fun q => decide (nx ≤ q.group))))
def applyP (st : PSt) (e : EditM) (first : Bool) : Option PSt :=
 let t1 := takeK numK e.dels st.segs
 let p1 := putK numK e.adds (t1.getD [])
 let s2 := (p1.map (sortK numK)).getD []
 let t2 := takeK gKey e.drops st.pars
 let p2 := putK gKey e.pars (t2.getD [])
 let q2 := (p2.map (sortK gKey)).getD []
 let n := laterM st.next e.next
 let s := laterM st.seq e.seq
 if (editB e && (t1.isSome && (p1.isSome && (t2.isSome && (p2.isSome && (n.2 && (s.2 && finePM s2 q2 n.1 (if first then [] else e.pars)))))))) = true then some ⟨s2, q2, n.1, s.1⟩ else none
def StM.plain (st : StM) : PSt := ⟨st.segs, st.pars.map (·.1.p), st.next, st.seq⟩
theorem fineM_plain (S : List SegM) (Q X : List ParV) (nx : Int) : fineM S Q nx X = finePM S (Q.map (·.p)) nx (X.map (·.p)) := by
 unfold fineM finePM
 rw [List.length_map, List.all_map, List.any_map]
 rfl
theorem applyM_plain {st : StM} {e : EditM} {X : List ParS} {first : Bool} (hX : X.map (·.1.p) = e.pars) : (applyM st e X first).map StM.plain = applyP st.plain e first := by
 have ht : takeK gKey e.drops (st.pars.map (·.1.p)) = (takeK parKey e.drops st.pars).map (List.map (·.1.p)) := takeK_map e.drops st.pars
 have hp : putK gKey (X.map (·.1.p)) (((takeK parKey e.drops st.pars).getD []).map (·.1.p)) = (putK parKey X ((takeK parKey e.drops st.pars).getD [])).map (List.map (·.1.p)) := putK_map X _
 have hg : ∀ o : Option (List ParS), (o.map (List.map (·.1.p))).getD [] = (o.getD []).map (·.1.p) := fun o => by cases o <;> rfl
 have hs : ∀ o : Option (List ParS), ((o.map (List.map (·.1.p))).map (sortK gKey)).getD [] = ((o.map (sortK parKey)).getD []).map (·.1.p) := fun o => by
  cases o with
  | none => rfl
  | some l => exact sortK_map l
 have hi : ∀ o : Option (List ParS), (o.map (List.map (·.1.p))).isSome = o.isSome := fun o => by cases o <;> rfl
 have hif : ∀ b : Bool, ((if b then ([] : List ParV) else X.map (·.1))).map (·.p) = if b then [] else X.map (·.1.p) := fun b => by cases b <;> simp
 have key : ∀ (c c' : Bool) (a : StM) (b : PSt), c = c' → a.plain = b → (if c = true then some a else none).map StM.plain = if c' = true then some b else none := fun c c' a b hc hb => by subst hc; subst hb; split <;> rfl
 unfold applyM applyP
 refine key _ _ _ _ ?_ ?_
 ·unfold StM.plain
  dsimp only
  rw [ht, hg, ← hX, hp, hs, hi, hi, fineM_plain, hif, List.map_map]
  cases first <;> rfl
 ·unfold StM.plain
  dsimp only
  rw [ht, hg, ← hX, hp, hs]
  rfl
end Go.Vc
/-! Regions that draw their order, several of whose operations turn blocks, one behind the other (the chain); the others turn none. J: what holds behind the first of the chain, their values being told; G: what one of the chain may do. -/
namespace Go.Vc.H
open Go Go.RowKit Go.Vc
def VS.steady (G : World → World → Prop) : VS → Prop
 | .c _ => True
 | .r R => ∀ v w w', R v w → (Chg [] w w' ∨ G w w') → R v w'
def place (chain : List Nat) (i : Nat) : Option Nat := chain.findIdx? (Nat.beq i)
theorem place_none {chain : List Nat} {i : Nat} (h : place chain i = none) : ∀ (k c : Nat), chain[k]? = some c → c ≠ i := fun k c hk e => by
 subst e
 have := List.findIdx?_eq_none_iff.1 h c (List.mem_of_getElem? hk)
 simp at this
theorem place_some {chain : List Nat} {i k : Nat} (h : place chain i = some k) : chain[k]? = some i := by
 obtain ⟨hk, h1, _⟩ := List.findIdx?_eq_some_iff_getElem.1 h
 rw [List.getElem?_eq_getElem hk]
 have := Nat.eq_of_beq_eq_true h1
 rw [← this]
def chainOk (l : List Oper) (m : Nat) (chain : List Nat) : Bool :=
 (chain.zipIdx.all fun (c, k) => Nat.blt c m && (match l[c]? with
  | some o => (match k with
   | 0 => true
   | k + 1 => (match chain[k]? with
    | some c' => (predsOf o).contains c'
    | none => false))
  | none => false) && (chain.zipIdx.all fun (c', k') => Nat.beq k k' || !(Nat.beq c c')))
theorem chain_spec {l : List Oper} {m : Nat} {chain : List Nat} (h : chainOk l m chain = true) {k c : Nat} (hk : chain[k]? = some c) : c < m ∧ (∃ o, l[c]? = some o ∧ ∀ (k' c' : Nat), k = k' + 1 → chain[k']? = some c' → (predsOf o).contains c' = true) ∧ ∀ (k' c' : Nat), chain[k']? = some c' → c = c' → k = k' := by
 unfold chainOk at h
 have h1 := List.all_eq_true.1 h (c, k) (by rw [List.mem_zipIdx_iff_getElem?]; exact hk)
 simp only [Bool.and_eq_true] at h1
 obtain ⟨⟨h2, h3⟩, h4⟩ := h1
 refine ⟨by simpa [Nat.blt_eq] using h2, ?_, fun k' c' hk' e => ?_⟩
 ·cases ho : l[c]? with
  | none => rw [ho] at h3; cases h3
  | some o =>
   rw [ho] at h3
   refine ⟨o, rfl, fun k' c' hk1 hc' => ?_⟩
   subst hk1
   dsimp only at h3
   rw [hc'] at h3
   exact h3
 ·have h5 := List.all_eq_true.1 h4 (c', k') (by rw [List.mem_zipIdx_iff_getElem?]; exact hk')
  simp only [Bool.or_eq_true, Bool.not_eq_true'] at h5
  rcases h5 with h5 | h5
  ·exact Nat.eq_of_beq_eq_true h5
  ·rw [e] at h5; simp at h5
def selV (fc : Nat → Nat) (i : Nat) (v : Value) (val : Nat → Value) : Value := match Nat.beq (fc i) i with
 | true => v
 | false => val (fc i)
def keptOk (l : List Oper) (chain : List Nat) (fc : Nat → Nat) : Bool := chain.all fun c => Nat.beq (fc c) c || (match l[c]? with
 | some o => (predsOf o).contains (fc c)
 | none => false)
theorem kept_spec {l : List Oper} {chain : List Nat} {fc : Nat → Nat} (h : keptOk l chain fc = true) {k c : Nat} (hk : chain[k]? = some c) {o : Oper} (ho : l[c]? = some o) : fc c = c ∨ (predsOf o).contains (fc c) = true := by
 have h1 := List.all_eq_true.1 h c (List.mem_of_getElem? hk)
 simp only [Bool.or_eq_true, ho] at h1
 rcases h1 with h1 | h1
 ·exact .inl (Nat.eq_of_beq_eq_true h1)
 ·exact .inr h1
def Far (l : List Oper) (chain : List Nat) (i : Nat) (o : Oper) (n : Nat) : Prop :=
 n ≤ chain.length ∧ (∀ (k c : Nat), chain[k]? = some c → (predsOf o).contains c = true → k < n) ∧ (∀ (k c : Nat) (oc : Oper), chain[k]? = some c → l[c]? = some oc → (predsOf oc).contains i = true → n ≤ k) ∧ ∀ (k : Nat), chain[k]? = some i → n ≤ k
structure Here (l : List Oper) (chain : List Nat) (fc : Nat → Nat) (B : World → Prop) (J : List Value → World → Prop) (Vs : List VS) (i : Nat) (o : Oper) (val : Nat → Value) (us : List Value) (w : World) : Prop where
 base : B w
 inv : J us w
 far : Far l chain i o us.length
 vals : ∀ (k c : Nat) (u : Value), chain[k]? = some c → us[k]? = some u → val (fc c) = u
 hp : ∀ j, (predsOf o).contains j = true → ∀ oj, l[j]? = some oj → (vsAt Vs j).holds (valOf Vs val j) w
def FrontOp (P : Program) (N : Nat) (chain : List Nat) (fc : Nat → Nat) (G : World → World → Prop) (B : World → Prop) (J : List Value → World → Prop) (l : List Oper) (Vs : List VS) (e : Env) (i : Nat) (o : Oper) : Prop :=
 ∀ (val : Nat → Value) (us : List Value) (w1 : World), Here l chain fc B J Vs i o val us w1 →
  match place chain i with
  | some k => vsAt Vs i = .r (fun _ _ => True) ∧ o.guard = none ∧ OpW P N o (opEnv l Vs e i o val) w1 (fun v w' => G w1 w' ∧ B w' ∧ J (us ++ [selV fc i v val]) w')
  | none => match o.guard with
   | none => OpW P N o (opEnv l Vs e i o val) w1 (fun v w' => Chg [] w1 w' ∧ (vsAt Vs i).holds v w')
   | some (j, want) => ∃ b, (predsOf o).contains j = true ∧ ((l[j]?).bind (·.dst)).isSome = true ∧ (valOf Vs val j = .bool b ∨ (b = (!want) ∧ valOf Vs val j = undef)) ∧
     (b = want → OpW P N o (opEnv l Vs e i o val) w1 (fun v w' => Chg [] w1 w' ∧ (vsAt Vs i).holds v w')) ∧ (b = !want → (vsAt Vs i).holds undef w1)
structure Mid (N : Nat) (chain : List Nat) (fc : Nat → Nat) (B : World → Prop) (J : List Value → World → Prop) (l : List Oper) (m : Nat) (Vs : List VS) (e : Env) (listed : Array Bool) (a : Act) (w : World) : Prop where
 size : a.tmps.size = N
 defers : a.defers = []
 base : B w
 lsize : listed.size = l.length
 front : ∀ i, i < l.length → m ≤ i → listed.getD i true = false
 down : ∀ i o, l[i]? = some o → listed.getD i true = true → ∀ j, (predsOf o).contains j = true → listed.getD j false = true
 old : ∀ t v, look e t = some v → (∀ i o, l[i]? = some o → o.dst = some t → listed.getD i true = false) → a.tmps[t]? = some v
 vals : ∃ (val : Nat → Value) (us : List Value), J us w ∧ us.length ≤ chain.length ∧ (∀ (k c : Nat), chain[k]? = some c → (listed.getD c false = true ↔ k < us.length)) ∧ (∀ (k c : Nat) (u : Value), chain[k]? = some c → us[k]? = some u → val (fc c) = u) ∧
  (∀ i o d, l[i]? = some o → o.dst = some d → listed.getD i true = true → a.tmps[d]? = some (valOf Vs val i)) ∧ ∀ i o, l[i]? = some o → listed.getD i true = true → (vsAt Vs i).holds (valOf Vs val i) w
section
variable {P : Program} {N : Nat} {chain : List Nat} {fc : Nat → Nat} {G : World → World → Prop} {B : World → Prop} {J : List Value → World → Prop} {l : List Oper} {m : Nat} {Vs : List VS} {e : Env} {listed : Array Bool} {a : Act} {w : World}
theorem steady_holds {s : VS} (hs : VS.steady G s) {v : Value} {w w' : World} (h : s.holds v w) (hc : Chg [] w w' ∨ G w w') : s.holds v w' := by
 cases s with
 | c u => exact h
 | r R => exact hs v w w' h hc
theorem valOf_upd {Vs : List VS} {val : Nat → Value} {i j : Nat} {v : Value} (h : j ≠ i) : valOf Vs (fun k => if k = i then v else val k) j = valOf Vs val j := by
 unfold valOf
 split <;> simp [h]
theorem valOf_new {Vs : List VS} {val : Nat → Value} {i : Nat} {v : Value} {w : World} (h : (vsAt Vs i).holds v w) : valOf Vs (fun k => if k = i then v else val k) i = v := by
 unfold valOf
 unfold vsAt at h
 split
 ·rename_i u hu
  rw [hu] at h
  exact h.symm
 ·simp
theorem Mid.step (hdst : dstsOk N l = true) (hch : chainOk l m chain = true) (hkp : keptOk l chain fc = true) (hJ : ∀ us w w', J us w → Chg [] w w' → J us w') (hB : ∀ w w', B w → Chg [] w w' → B w') (hst : ∀ i, VS.steady G (vsAt Vs i)) (hM : Mid N chain fc B J l m Vs e listed a w) {i : Nat} {o : Oper} (ho : l[i]? = some o) (him : i < m) (hun : listed.getD i true = false)
  (hpre : ∀ j, (predsOf o).contains j = true → listed.getD j false = true) {v : Value} {w' : World} {val : Nat → Value} {us : List Value}
  (h1 : us.length ≤ chain.length) (h2 : ∀ (k c : Nat), chain[k]? = some c → (listed.getD c false = true ↔ k < us.length)) (h3 : ∀ (k c : Nat) (u : Value), chain[k]? = some c → us[k]? = some u → val (fc c) = u)
  (h4 : ∀ i o d, l[i]? = some o → o.dst = some d → listed.getD i true = true → a.tmps[d]? = some (valOf Vs val i)) (h5 : ∀ i o, l[i]? = some o → listed.getD i true = true → (vsAt Vs i).holds (valOf Vs val i) w)
  (hnew : (vsAt Vs i).holds v w') (hgo : (place chain i = none ∧ Chg [] w w' ∧ J us w) ∨ (∃ k, place chain i = some k ∧ us.length = k ∧ G w w' ∧ B w' ∧ J (us ++ [selV fc i v val]) w')) :
  Mid N chain fc B J l m Vs e (listed.setIfInBounds i true) (a.put o.dst v) w' := by
 have hi : i < listed.size := by rw [hM.lsize]; exact (List.getElem?_eq_some_iff.1 ho).1
 have hcg : Chg [] w w' ∨ G w w' := by
  rcases hgo with h | ⟨k, h⟩
  ·exact .inl h.2.1
  ·exact .inr h.2.2.1
 have hput : ∀ k ok d u, l[k]? = some ok → ok.dst = some d → k ≠ i → a.tmps[d]? = some u → (a.put o.dst v).tmps[d]? = some u := fun k ok d u hok hd hki hu => by
  cases hdo : o.dst with
  | none => simpa [Act.put] using hu
  | some d' =>
   have hne : d' ≠ d := fun h => by
    subst h
    exact hki ((dsts_spec hdst ho hdo).2 k ok hok hd)
   simp only [Act.put, Array.getElem?_setIfInBounds_ne hne]
   exact hu
 refine ⟨by cases hd : o.dst <;> simp [Act.put, hM.size], by cases hd : o.dst <;> simp [Act.put, hM.defers], ?_, by simp [hM.lsize], fun k hk hmk => ?_, fun k ok hok hlk j hj => ?_, fun t u hu hall => ?_, ?_⟩
 ·rcases hgo with h | ⟨k, h⟩
  ·exact hB _ _ hM.base h.2.1
  ·exact h.2.2.2.1
 ·rw [getD_set hi, if_neg (by omega)]; exact hM.front k hk hmk
 ·rw [getD_set hi] at hlk ⊢
  by_cases hij : i = j
  ·rw [if_pos hij]
  ·rw [if_neg hij]
   by_cases hik : i = k
   ·subst hik
    rw [ho] at hok; injection hok with hok; subst hok
    exact hpre j hj
   ·rw [if_neg hik] at hlk
    exact hM.down k ok hok hlk j hj
 ·have h1 := hM.old t u hu (fun k ok hok hd => by
   have := hall k ok hok hd
   rw [getD_set hi] at this
   split at this
   ·cases this
   ·exact this)
  cases hd : o.dst with
  | none => simpa [Act.put] using h1
  | some d =>
   have hne : d ≠ t := fun h => by
    subst h
    have := hall i o ho hd
    rw [getD_set hi, if_pos rfl] at this
    cases this
   simp only [Act.put, Array.getElem?_setIfInBounds_ne hne]
   exact h1
 ·have hval : ∀ k ok d, l[k]? = some ok → ok.dst = some d → (listed.setIfInBounds i true).getD k true = true → (a.put o.dst v).tmps[d]? = some (valOf Vs (fun k => if k = i then v else val k) k) := fun k ok d hok hd hlk => by
   rw [getD_set hi] at hlk
   by_cases hik : i = k
   ·subst hik
    rw [ho] at hok; injection hok with hok; subst hok
    have := (dsts_spec hdst ho hd).1
    rw [valOf_new hnew]
    simp [Act.put, hd, hM.size, this]
   ·rw [if_neg hik] at hlk
    rw [valOf_upd (fun h => hik h.symm)]
    exact hput k ok d _ hok hd (fun h => hik h.symm) (h4 k ok d hok hd hlk)
  have hhold : ∀ k ok, l[k]? = some ok → (listed.setIfInBounds i true).getD k true = true → (vsAt Vs k).holds (valOf Vs (fun k => if k = i then v else val k) k) w' := fun k ok hok hlk => by
   rw [getD_set hi] at hlk
   by_cases hik : i = k
   ·subst hik
    rw [valOf_new hnew]; exact hnew
   ·rw [if_neg hik] at hlk
    rw [valOf_upd (fun h => hik h.symm)]
    exact steady_holds (hst k) (h5 k ok hok hlk) hcg
  have hkept : ∀ (k c : Nat), chain[k]? = some c → listed.getD c false = true → fc c ≠ i := fun k c hkc hlc he => by
   have hun' : listed.getD i false = false := by simp [Array.getD_eq_getD_getElem?, hi] at hun ⊢; exact hun
   obtain ⟨oc, hoc, _⟩ := (chain_spec hch hkc).2.1
   rcases kept_spec hkp hkc hoc with h | h
   ·rw [h] at he
    rw [he, hun'] at hlc; cases hlc
   ·rw [he] at h
    have hsz : c < listed.size := by rw [hM.lsize]; exact (List.getElem?_eq_some_iff.1 hoc).1
    have := hM.down c oc hoc (by simp [Array.getD_eq_getD_getElem?, hsz] at hlc ⊢; exact hlc) i h
    rw [hun'] at this; cases this
  rcases hgo with ⟨hn, hc, hj⟩ | ⟨k0, hk0, hus, hg, hb, hj⟩
  ·have hne := place_none hn
   refine ⟨fun k => if k = i then v else val k, us, hJ _ _ _ hj hc, h1, fun k c hkc => ?_, fun k c u hkc hu => ?_, hval, hhold⟩
   ·rw [getD_set hi, if_neg (fun h => hne k c hkc h.symm)]
    exact h2 k c hkc
   ·show (if fc c = i then v else val (fc c)) = u
    rw [if_neg (hkept k c hkc ((h2 k c hkc).2 (List.getElem?_eq_some_iff.1 hu).1))]
    exact h3 k c u hkc hu
  ·have hki := place_some hk0
   have hlen := (List.getElem?_eq_some_iff.1 hki).1
   refine ⟨fun k => if k = i then v else val k, us ++ [selV fc i v val], hj, by rw [List.length_append, List.length_singleton]; omega, fun k c hkc => ?_, fun k c u hkc hu => ?_, hval, hhold⟩
   ·rw [getD_set hi, List.length_append, List.length_singleton]
    by_cases hic : i = c
    ·subst hic
     have := (chain_spec hch hkc).2.2 k0 i hki rfl
     rw [if_pos rfl]
     simp; omega
    ·rw [if_neg hic, h2 k c hkc]
     have : k ≠ k0 := fun h => by
      subst h
      rw [hki] at hkc
      injection hkc with hkc
      exact hic hkc
     omega
   ·by_cases hic : c = i
    ·subst hic
     have hk := (chain_spec hch hkc).2.2 k0 c hki rfl
     subst hk
     rw [List.getElem?_append_right (by omega), hus, Nat.sub_self] at hu
     injection hu with hu
     rw [← hu]
     unfold selV
     cases hb : Nat.beq (fc c) c with
     | true => exact if_pos (Nat.eq_of_beq_eq_true hb)
     | false => exact if_neg (fun h => by rw [h] at hb; simp at hb)
    ·have hkk : k ≠ k0 := fun h => by
      subst h
      rw [hki] at hkc
      injection hkc with hkc
      exact hic hkc.symm
     have hklt : k < us.length := by
      have := (List.getElem?_eq_some_iff.1 hu).1
      rw [List.length_append, List.length_singleton] at this
      omega
     rw [List.getElem?_append_left hklt] at hu
     show (if fc c = i then v else val (fc c)) = u
     rw [if_neg (hkept k c hkc ((h2 k c hkc).2 hklt))]
     exact h3 k c u hkc hu
theorem Mid.fits (hdst : dstsOk N l = true) (hM : Mid N chain fc B J l m Vs e listed a w) {i : Nat} {o : Oper} (ho : l[i]? = some o) (hun : listed.getD i true = false)
  (hpre : ∀ j, (predsOf o).contains j = true → listed.getD j false = true) {val : Nat → Value}
  (hval : ∀ i o d, l[i]? = some o → o.dst = some d → listed.getD i true = true → a.tmps[d]? = some (valOf Vs val i)) :
  Fits N (opEnv l Vs e i o val) a := by
 refine ⟨hM.size, hM.defers, fun t v hv => ?_⟩
 unfold opEnv at hv
 rw [look_append] at hv
 cases hp : look (predEnv l Vs val (predsOf o)) t with
 | some u =>
  rw [hp] at hv
  simp at hv
  subst hv
  obtain ⟨j, oj, hj, hoj, hd, rfl⟩ := look_predEnv val _ _ _ hp
  have h1 := hpre j (by simpa using hj)
  have h2 : listed.getD j true = true := by
   have : j < listed.size := by rw [hM.lsize]; exact (List.getElem?_eq_some_iff.1 hoj).1
   simpa [Array.getD_eq_getD_getElem?, this] using h1
  exact hval j oj t hoj hd h2
 | none =>
  rw [hp] at hv
  simp at hv
  obtain ⟨h1, h2⟩ := look_filter hv
  refine hM.old t v h1 (fun k ok hok hd => ?_)
  unfold freeAt at h2
  have h3 := List.all_eq_true.1 h2 (ok, k) (by rw [List.mem_zipIdx_iff_getElem?]; exact hok)
  simp only [hd, Bool.or_eq_true] at h3
  rcases h3 with (h3 | h3) | h3
  ·simp at h3
  ·cases hlk : listed.getD k true with
   | false => rfl
   | true =>
    have := hM.down k ok hok hlk i h3
    have hi : i < listed.size := by rw [hM.lsize]; exact (List.getElem?_eq_some_iff.1 ho).1
    simp [Array.getD_eq_getD_getElem?, hi] at this hun
    rw [this] at hun; cases hun
  ·have : k = i := Nat.eq_of_beq_eq_true h3
   subst this
   exact hun
theorem tail_all (h : tailOk m l = true) (hM : Mid N chain fc B J l m Vs e listed a w) {o : Oper} (ho : l[m]? = some o) (hpre : ∀ j, (predsOf o).contains j = true → listed.getD j false = true) :
  ∀ k, k < m → listed.getD k false = true := by
 unfold tailOk at h
 rw [ho] at h
 simp only [Bool.and_eq_true] at h
 have hc := h.1.2
 have key : ∀ n k, m - k ≤ n → k < m → listed.getD k false = true := by
  intro n
  induction n with
  | zero => intro k h1 h2; omega
  | succ n ih =>
   intro k h1 h2
   have h3 := List.all_eq_true.1 hc k (by simpa using h2)
   obtain ⟨c, hcm, h4⟩ := List.any_eq_true.1 h3
   simp only [Bool.and_eq_true] at h4
   have hkc : k < c := by simpa [Nat.blt_eq] using h4.1
   have hcm' : c < m + 1 := by simpa using hcm
   cases hoc : l[c]? with
   | none => simp [hoc] at h4
   | some oc =>
    simp only [hoc] at h4
    by_cases hcc : c = m
    ·subst hcc
     rw [ho] at hoc; injection hoc with hoc; subst hoc
     exact hpre k h4.2
    ·have h5 := ih c (by omega) (by omega)
     have hlt : c < listed.size := by rw [hM.lsize]; exact (List.getElem?_eq_some_iff.1 hoc).1
     have h6 : listed.getD c true = true := by
      simp [Array.getD_eq_getD_getElem?, hlt] at h5 ⊢; exact h5
     exact hM.down c oc hoc h6 k h4.2
 exact fun k hk => key (m - k) k (Nat.le_refl _) hk
theorem Mid.full (hM : Mid N chain fc B J l m Vs e listed a w) (hall : ∀ k, k < m → listed.getD k true = true) {val : Nat → Value}
  (hval : ∀ i o d, l[i]? = some o → o.dst = some d → listed.getD i true = true → a.tmps[d]? = some (valOf Vs val i)) :
  Fits N (frontEnv Vs val 0 m l ++ e) a := by
 refine ⟨hM.size, hM.defers, fun t v hv => ?_⟩
 rw [look_append] at hv
 cases hp : look (frontEnv Vs val 0 m l) t with
 | some u =>
  rw [hp] at hv; simp at hv; subst hv
  obtain ⟨j, o, hj, ho, hd, rfl⟩ := look_frontEnv val _ _ _ _ _ hp
  rw [Nat.zero_add]
  exact hval j o t ho hd (hall j hj)
 | none =>
  rw [hp] at hv; simp at hv
  refine hM.old t v hv (fun i o ho hd => ?_)
  by_cases hi : i < m
  ·exact absurd hd (look_front_none l 0 m hp i o hi ho)
  ·exact hM.front i (List.getElem?_eq_some_iff.1 ho).1 (by omega)
def EndOk (P : Program) (N : Nat) (chain : List Nat) (fc : Nat → Nat) (B : World → Prop) (J : List Value → World → Prop) (l : List Oper) (m : Nat) (e : Env) (Q : Post) (Vs : List VS) : Prop :=
 ∀ (val : Nat → Value) (us : List Value) (w1 : World), B w1 → J us w1 → us.length = chain.length → (∀ (k c : Nat) (u : Value), chain[k]? = some c → us[k]? = some u → val (fc c) = u) → (∀ i, i < m → ∀ o, l[i]? = some o → (vsAt Vs i).holds (valOf Vs val i) w1) → WL P N l.toArray (l.drop m) Q (frontEnv Vs val 0 m l ++ e) w1
theorem mid_any {Q : Post} (hdst : dstsOk N l = true) (htl : tailOk m l = true) (hch : chainOk l m chain = true) (hkp : keptOk l chain fc = true) (hJ : ∀ us w w', J us w → Chg [] w w' → J us w') (hB : ∀ w w', B w → Chg [] w w' → B w') (hst : ∀ i, VS.steady G (vsAt Vs i))
  (hfront : ∀ i o, i < m → l[i]? = some o → FrontOp P N chain fc G B J l Vs e i o) (hend : EndOk P N chain fc B J l m e Q Vs) :
  ∀ (fuel : Nat) (listed : Array Bool) (a : Act) (w : World), openCount listed l.length = fuel → Mid N chain fc B J l m Vs e listed a w → wpAny P .any l.toArray (Lift N Q) fuel listed a w := by
 have hml : m ≤ l.length := by
  unfold tailOk at htl
  simp only [Bool.and_eq_true] at htl
  exact Nat.le_of_ble_eq_true htl.1.1
 -- all front operations have come up: the tail
 have hdone : ∀ (listed : Array Bool) (a : Act) (w : World), Mid N chain fc B J l m Vs e listed a w → (∀ k, k < m → listed.getD k true = true) → wpAny P .any l.toArray (Lift N Q) (l.drop m).length listed a w := by
  intro listed a w hM hall
  obtain ⟨val, us, h0, h1, h2, h3, h4, h5⟩ := hM.vals
  have hlen : us.length = chain.length := by
   rcases Nat.lt_or_ge us.length chain.length with hlt | hge
   ·exfalso
    have hc := List.getElem?_eq_getElem hlt
    have hcm := (chain_spec hch hc).1
    have hl := hall _ hcm
    have hsz : chain[us.length] < listed.size := by rw [hM.lsize]; omega
    have := (h2 _ _ hc).1 (by simp [Array.getD_eq_getD_getElem?, hsz] at hl ⊢; exact hl)
    omega
   ·omega
  have hW := hend val us w hM.base h0 hlen h3 (fun i hi o ho => h5 i o ho (hall i hi))
  unfold WL at hW
  refine tail_any htl (l.drop m) m listed a w (Nat.le_refl _) rfl hM.lsize (fun k hk => ?_) (hW a (hM.full hall h4))
  by_cases hkm : k < m
  ·rw [hall k hkm]; simp [hkm]
  ·rw [hM.front k hk (by omega)]; simp [hkm]
 have hcount : ∀ (listed : Array Bool), (∀ k, k < m → listed.getD k true = true) → (∀ i, i < l.length → m ≤ i → listed.getD i true = false) → openCount listed l.length = (l.drop m).length := by
  intro listed h1 h2
  have : ∀ n, n ≤ l.length → openCount listed n = n - m := by
   intro n
   induction n with
   | zero => intro _; simp [openCount]
   | succ n ih =>
    intro hn
    simp only [openCount]
    rw [ih (by omega)]
    by_cases hnm : n < m
    ·rw [h1 n hnm]; simp; omega
    ·rw [h2 n (by omega) (by omega)]; simp; omega
  rw [this _ (Nat.le_refl _)]; simp
 intro fuel
 induction fuel with
 | zero =>
  intro listed a w hcnt hM
  have hall : ∀ k, k < l.length → listed.getD k true = true := by
   have : ∀ n, openCount listed n = 0 → ∀ k, k < n → listed.getD k true = true := by
    intro n
    induction n with
    | zero => intro _ k hk; omega
    | succ n ih =>
     intro h k hk
     simp only [openCount] at h
     by_cases hkn : k = n
     ·subst hkn
      cases hx : listed.getD k true with
      | true => rfl
      | false => rw [hx] at h; simp at h
     ·exact ih (by omega) k (by omega)
   exact this _ hcnt
  have hd := hdone listed a w hM (fun k hk => hall k (by omega))
  rw [← hcount listed (fun k hk => hall k (by omega)) hM.front, hcnt] at hd
  exact hd
 | succ fuel ih =>
  intro listed a w hcnt hM
  by_cases hall : ∀ k, k < m → listed.getD k true = true
  ·have hd := hdone listed a w hM hall
   rw [← hcount listed hall hM.front, hcnt] at hd
   exact hd
  ·-- some front operation is open: the least one may come up; and whatever may come up is a front operation
   have hready : ∀ i, i ∈ Region.ready .any l.toArray listed → i < m := by
    intro i hi
    obtain ⟨o, ho, hun, hpre⟩ := ready_spec hi
    rcases Nat.lt_or_ge i m with h | h
    ·exact h
    ·exfalso
     have hil := (List.getElem?_eq_some_iff.1 ho).1
     rcases Nat.lt_or_ge m i with h2 | h2
     ·have h3 := hpre (i - 1) ((tail_preds htl ho).1 h2)
      have h4 := hM.front (i - 1) (by omega) (by omega)
      have hsz : i - 1 < listed.size := by rw [hM.lsize]; omega
      simp [Array.getD_eq_getD_getElem?, hsz] at h3 h4
      rw [h3] at h4; cases h4
     ·have hmi : i = m := by omega
      subst hmi
      refine hall (fun k hk => ?_)
      have h3 := tail_all htl hM ho hpre k hk
      have hsz : k < listed.size := by rw [hM.lsize]; omega
      simp [Array.getD_eq_getD_getElem?, hsz] at h3 ⊢; exact h3
   refine ⟨fun hnil => ?_, fun i hi => ?_⟩
   ·exfalso
    have hmin : ∃ k, k < m ∧ listed.getD k true = false ∧ ∀ j, j < k → listed.getD j true = true := by
     have : ∀ n, (∃ k, k < n ∧ ¬ listed.getD k true = true) → ∃ k, k < n ∧ listed.getD k true = false ∧ ∀ j, j < k → listed.getD j true = true := by
      intro n
      induction n with
      | zero => rintro ⟨k, hk, _⟩; omega
      | succ n ih =>
       rintro ⟨k, hk, hx⟩
       by_cases hex : ∃ k, k < n ∧ ¬ listed.getD k true = true
       ·obtain ⟨k', h1, h2, h3⟩ := ih hex
        exact ⟨k', by omega, h2, h3⟩
       ·have hkn : k = n := by
         rcases Nat.lt_or_ge k n with h | h
         ·exact absurd ⟨k, h, hx⟩ hex
         ·omega
        subst hkn
        refine ⟨k, by omega, by simpa using hx, fun j hj => ?_⟩
        cases hxj : listed.getD j true with
        | true => rfl
        | false => exact absurd ⟨j, hj, by simp [hxj]⟩ hex
     have hex : ∃ k, k < m ∧ ¬ listed.getD k true = true := by
      refine Classical.byContradiction fun hno => hall fun k hk => ?_
      cases hx : listed.getD k true with
      | true => rfl
      | false => exact absurd ⟨k, hk, by simp [hx]⟩ hno
     exact this m hex
    obtain ⟨k, hkm, hku, hkl⟩ := hmin
    have hkl' : k < l.length := by omega
    have ho : l[k]? = some l[k] := List.getElem?_eq_getElem hkl'
    have : k ∈ Region.ready .any l.toArray listed := by
     unfold Region.ready
     simp only [List.mem_filter, List.mem_range, Bool.and_eq_true, Bool.not_eq_true']
     refine ⟨by simpa using hkl', hku, ?_⟩
     simp [hkl']
     intro q hq
     by_cases hb : Region.binds .any l[k].after[q] = true
     ·refine .inr ?_
      have hlt := (tail_preds htl ho).2 (l[k].after[q]).on (by
       simp only [predsOf, List.contains_eq_mem, List.mem_map, List.mem_filter, decide_eq_true_eq]
       exact ⟨l[k].after[q], ⟨by simp, hb⟩, rfl⟩)
      have h2 := hkl (l[k].after[q]).on hlt
      have hsz : (l[k].after[q]).on < listed.size := by rw [hM.lsize]; omega
      simp [Array.getD_eq_getD_getElem?, hsz] at h2 ⊢
      exact h2
     ·exact .inl (by simpa using hb)
    rw [hnil] at this; cases this
   ·have him := hready i hi
    obtain ⟨o, ho, hun, hpre⟩ := ready_spec hi
    have hlit : l.toArray[i]? = some o := by simpa using ho
    obtain ⟨val, us, h0, h1, h2, h3, h4, h5⟩ := hM.vals
    have hfit := hM.fits hdst ho hun hpre h4
    have hisz : i < listed.size := by rw [hM.lsize]; exact (List.getElem?_eq_some_iff.1 ho).1
    have hil := (List.getElem?_eq_some_iff.1 ho).1
    have hun' : listed.getD i false = false := by simp [Array.getD_eq_getD_getElem?, hisz] at hun ⊢; exact hun
    have hpt : ∀ j, (predsOf o).contains j = true → ∀ oj, l[j]? = some oj → listed.getD j true = true := fun j hj oj hoj => by
     have h := hpre j hj
     have hsz : j < listed.size := by rw [hM.lsize]; exact (List.getElem?_eq_some_iff.1 hoj).1
     simp [Array.getD_eq_getD_getElem?, hsz] at h ⊢; exact h
    have hhere : Here l chain fc B J Vs i o val us w := by
     refine ⟨hM.base, h0, ⟨h1, fun k c hkc hcp => ?_, fun k c oc hkc hoc hic => ?_, fun k hki => ?_⟩, h3, fun j hj oj hoj => h5 j oj hoj (hpt j hj oj hoj)⟩
     ·exact (h2 k c hkc).1 (hpre c hcp)
     ·rcases Nat.lt_or_ge k us.length with hlt | hge
      ·exfalso
       have hl := (h2 k c hkc).2 hlt
       have hsz : c < listed.size := by rw [hM.lsize]; exact (List.getElem?_eq_some_iff.1 hoc).1
       have := hM.down c oc hoc (by simp [Array.getD_eq_getD_getElem?, hsz] at hl ⊢; exact hl) i hic
       rw [hun'] at this; cases this
      ·exact hge
     ·rcases Nat.lt_or_ge k us.length with hlt | hge
      ·have := (h2 k i hki).2 hlt
       rw [hun'] at this; cases this
      ·exact hge
    have hF := hfront i o him ho val us w hhere
    cases hpl : place chain i with
    | some k =>
     rw [hpl] at hF
     obtain ⟨hvs, hg, hop⟩ := hF
     have hki := place_some hpl
     have hlen : us.length = k := by
      have hle := hhere.far.2.2.2 k hki
      rcases Nat.lt_or_ge us.length k with hlt | hge
      ·exfalso
       obtain ⟨k', rfl⟩ : ∃ k', k = k' + 1 := ⟨k - 1, by omega⟩
       obtain ⟨o', ho', hprev⟩ := (chain_spec hch hki).2.1
       rw [ho] at ho'; injection ho' with ho'; subst ho'
       have hkl := (List.getElem?_eq_some_iff.1 hki).1
       have hc' := List.getElem?_eq_getElem (show k' < chain.length by omega)
       have := hhere.far.2.1 k' _ hc' (hprev k' _ rfl hc')
       omega
      ·omega
     have hgo : ∀ v w', (G w w' ∧ B w' ∧ J (us ++ [selV fc i v val]) w') → wpAny P .any l.toArray (Lift N Q) fuel (listed.setIfInBounds i true) (a.put o.dst v) w' := fun v w' ⟨hG, hB', hJ'⟩ =>
      ih _ _ _ (by have := openCount_set hisz hun l.length hil; omega) (hM.step hdst hch hkp hJ hB hst ho him hun hpre h1 h2 h3 h4 h5 (by rw [hvs]; trivial) (.inr ⟨k, hpl, hlen, hG, hB', hJ'⟩))
     unfold wpOp
     rw [hlit]
     simp only
     have hwa : Region.wanted o (yielded l.toArray a.tmps) = true := by simp [Region.wanted, hg]
     rw [if_pos hwa]
     unfold OpW at hop
     exact .inl (hop a hfit _ _ hgo)
    | none =>
    rw [hpl] at hF
    have hgo : ∀ v w', Chg [] w w' ∧ (vsAt Vs i).holds v w' → wpAny P .any l.toArray (Lift N Q) fuel (listed.setIfInBounds i true) (a.put o.dst v) w' := fun v w' ⟨hc, hv⟩ =>
     ih _ _ _ (by have := openCount_set hisz hun l.length hil; omega) (hM.step hdst hch hkp hJ hB hst ho him hun hpre h1 h2 h3 h4 h5 hv (.inl ⟨hpl, hc, h0⟩))
    unfold wpOp
    rw [hlit]
    simp only
    cases hg : o.guard with
    | none =>
     rw [hg] at hF
     have hwa : Region.wanted o (yielded l.toArray a.tmps) = true := by simp [Region.wanted, hg]
     rw [if_pos hwa]
     unfold OpW at hF
     exact .inl (hF a hfit _ _ hgo)
    | some g =>
     obtain ⟨j, want⟩ := g
     rw [hg] at hF
     obtain ⟨b, hj, hjd, hb, hq1, hq2⟩ := hF
     have hwa : Region.wanted o (yielded l.toArray a.tmps) = (b == want) := by
      cases hoj : l[j]? with
      | none => simp [hoj] at hjd
      | some oj =>
       cases hd : oj.dst with
       | none => simp [hoj, hd] at hjd
       | some d =>
        have := h4 j oj d hoj hd (hpt j hj oj hoj)
        unfold Region.wanted yielded
        rcases hb with hb | ⟨hbw, hb⟩
        ·rw [hb] at this
         simp only [hg, List.getElem?_toArray, hoj, Option.bind_some, hd, this]
         cases b <;> cases want <;> rfl
        ·rw [hb] at this
         simp only [hg, List.getElem?_toArray, hoj, Option.bind_some, hd, this]
         subst hbw
         cases want <;> rfl
     rw [hwa]
     by_cases hbw : b = want
     ·subst hbw
      rw [if_pos (by simp)]
      have hq3 := hq1 rfl
      unfold OpW at hq3
      exact .inl (hq3 a hfit _ _ hgo)
     ·have hbn : b = !want := by cases b <;> cases want <;> first | rfl | exact absurd rfl hbw
      rw [if_neg (by simpa using hbw)]
      exact hgo undef w ⟨Chg.refl _ _, hq2 hbn⟩
def Steadys (G : World → World → Prop) : List VS → Prop
 | [] => True
 | s :: r => VS.steady G s ∧ Steadys G r
theorem Steadys.at : ∀ {Vs : List VS}, Steadys G Vs → ∀ i, VS.steady G (vsAt Vs i)
 | [], _, i => by simp [vsAt, VS.steady]
 | s :: r, h, 0 => h.1
 | s :: r, h, i + 1 => Steadys.at h.2 i
theorem Steadys.snoc {s : VS} : ∀ {Vs : List VS}, Steadys G Vs → VS.steady G s → Steadys G (Vs ++ [s])
 | [], _, h => ⟨h, trivial⟩
 | a :: A, hf, h => ⟨hf.1, Steadys.snoc hf.2 h⟩
def StepP (P : Program) (N : Nat) (chain : List Nat) (fc : Nat → Nat) (G : World → World → Prop) (B : World → Prop) (J : List Value → World → Prop) (l : List Oper) (Vs : List VS) (e : Env) (i : Nat) (o : Oper) (s : VS) : Prop :=
 ∀ (val : Nat → Value) (us : List Value) (w1 : World), Here l chain fc B J Vs i o val us w1 →
  match place chain i with
  | some k => s = .r (fun _ _ => True) ∧ o.guard = none ∧ OpW P N o (opEnv l Vs e i o val) w1 (fun v w' => G w1 w' ∧ B w' ∧ J (us ++ [selV fc i v val]) w')
  | none => match o.guard with
   | none => OpW P N o (opEnv l Vs e i o val) w1 (fun v w' => Chg [] w1 w' ∧ s.holds v w')
   | some (j, want) => ∃ b, (predsOf o).contains j = true ∧ ((l[j]?).bind (·.dst)).isSome = true ∧ (valOf Vs val j = .bool b ∨ (b = (!want) ∧ valOf Vs val j = undef)) ∧
     (b = want → OpW P N o (opEnv l Vs e i o val) w1 (fun v w' => Chg [] w1 w' ∧ s.holds v w')) ∧ (b = !want → s.holds undef w1)
def Walk (P : Program) (N : Nat) (chain : List Nat) (fc : Nat → Nat) (G : World → World → Prop) (B : World → Prop) (J : List Value → World → Prop) (l : List Oper) (e : Env) (fin : List VS → Prop) : Nat → List Oper → List VS → Prop
 | _, [], Vs => fin Vs
 | i, o :: r, Vs => ∃ s : VS, VS.steady G s ∧ StepP P N chain fc G B J l Vs e i o s ∧ Walk P N chain fc G B J l e fin (i + 1) r (Vs ++ [s])
theorem walk_front (htl : tailOk m l = true) (hml : m ≤ l.length) {fin : List VS → Prop} : ∀ (r : List Oper) (i : Nat) (Vs : List VS), Vs.length = i → (l.take m).drop i = r → Steadys G Vs → Walk P N chain fc G B J l e fin i r Vs →
  ∃ rest : List VS, rest.length = r.length ∧ Steadys G (Vs ++ rest) ∧ fin (Vs ++ rest) ∧ ∀ k o, r[k]? = some o → FrontOp P N chain fc G B J l (Vs ++ rest) e (i + k) o
 | [], i, Vs, hi, hr, hf, h => ⟨[], rfl, by simpa using hf, by simpa [Walk] using h, fun k o hk => by simp at hk⟩
 | o :: r, i, Vs, hi, hr, hf, h => by
  obtain ⟨s, hs, hst, hw⟩ := h
  have hr' : (l.take m).drop (i + 1) = r := by rw [← List.drop_drop, hr]; rfl
  have hf' : Steadys G (Vs ++ [s]) := hf.snoc hs
  obtain ⟨rest, hl, h1, h2, h3⟩ := walk_front htl hml r (i + 1) (Vs ++ [s]) (by simp [hi]) hr' hf' hw
  rw [List.append_assoc] at h1 h2 h3
  refine ⟨s :: rest, by simp [hl], h1, h2, fun k ok hk => ?_⟩
  cases k with
  | zero =>
   simp at hk
   subst hk
   rw [Nat.add_zero]
   have ho : l[i]? = some o := by
    have h4 : ((l.take m).drop i)[0]? = some o := by rw [hr]; rfl
    rw [List.getElem?_drop, Nat.add_zero, List.getElem?_take] at h4
    split at h4
    ·exact h4
    ·cases h4
   have hpl : ∀ j, (predsOf o).contains j = true → j < Vs.length := fun j hj => by rw [hi]; exact (tail_preds htl ho).2 j hj
   have hpe : ∀ val, opEnv l (Vs ++ s :: rest) e i o val = opEnv l Vs e i o val := fun val => by
    unfold opEnv; rw [predEnv_append _ (fun j hj => hpl j (by simpa using hj))]
   have hvs : vsAt (Vs ++ s :: rest) i = s := by rw [← hi]; exact vsAt_at
   intro val us w1 hh
   have hq := hst val us w1 ⟨hh.base, hh.inv, hh.far, hh.vals, fun j hj oj h5 => by
    have := hh.hp j hj oj h5
    rw [vsAt_append (hpl j hj), valOf_append (hpl j hj)] at this; exact this⟩
   rw [hpe val, hvs]
   cases hplc : place chain i with
   | some k => rw [hplc] at hq; exact hq
   | none =>
    rw [hplc] at hq
    cases hg : o.guard with
    | none => rw [hg] at hq; exact hq
    | some g =>
     obtain ⟨j, want⟩ := g
     rw [hg] at hq
     obtain ⟨b, h5, h6, h7, h8, h9⟩ := hq
     exact ⟨b, h5, h6, by rw [valOf_append (hpl j h5)]; exact h7, h8, h9⟩
  | succ k =>
   have := h3 k ok (by simpa using hk)
   rw [show i + (k + 1) = i + 1 + k from by omega]; exact this
theorem W_walkc {id : Nat} {Q : Post} (m : Nat) (chain : List Nat) (fc : Nat → Nat) (G : World → World → Prop) (B : World → Prop) (J : List Value → World → Prop) (hfol : P.follows .mixedOrders = true) (hdst : dstsOk N l = true) (htl : tailOk m l = true) (hch : chainOk l m chain = true) (hkp : keptOk l chain fc = true)
  (hJ : ∀ us w w', J us w → Chg [] w w' → J us w') (hB : ∀ w w', B w → Chg [] w w' → B w') (hB0 : B w) (hJ0 : J [] w) (h : Walk P N chain fc G B J l e (EndOk P N chain fc B J l m e Q) 0 (l.take m) []) :
  W P N (.region id l.toArray true) Q e w := by
 have hml : m ≤ l.length := by
  have h2 := htl
  unfold tailOk at h2
  simp only [Bool.and_eq_true] at h2
  exact Nat.le_of_ble_eq_true h2.1.1
 obtain ⟨rest, hl, h1, h2, h3⟩ := walk_front htl hml (l.take m) 0 [] rfl (by simp) trivial h
 rw [List.nil_append] at h1 h2 h3
 unfold W
 intro a ha
 refine wp_region_any hfol ?_
 have hc0 : openCount (Array.replicate l.length false) l.length = l.length := by
  have : ∀ n, n ≤ l.length → openCount (Array.replicate l.length false) n = n := by
   intro n
   induction n with
   | zero => intro _; rfl
   | succ n ih =>
    intro hn
    have h1 : (Array.replicate l.length false).getD n true = false := by rw [Array.getD_eq_getD_getElem?, Array.getElem?_replicate, if_pos (by omega)]; rfl
    simp only [openCount]; rw [ih (by omega), h1]; rfl
  exact this _ (Nat.le_refl _)
 have hno : ∀ i o, l[i]? = some o → (Array.replicate l.length false).getD i true = false := fun i o ho => by
  have hi := (List.getElem?_eq_some_iff.1 ho).1
  simp [Array.getD_eq_getD_getElem?, hi]
 have hM : Mid N chain fc B J l m rest e (Array.replicate l.length false) a { w with drawn := w.drawn + 1 } := by
  refine ⟨ha.size, ha.defers, hB _ _ hB0 (Chg.drawn [] w _), by simp, fun i hi _ => by simp [Array.getD_eq_getD_getElem?, hi], fun i o ho hl => ?_, fun t v hv _ => ha.look t v hv, fun _ => undef, [], hJ _ _ _ hJ0 (Chg.drawn [] w _), Nat.zero_le _, fun k c hkc => ?_, fun k c u _ hu => by simp at hu, fun i o d ho _ hl => ?_, fun i o ho hl => ?_⟩
  ·rw [hno i o ho] at hl; cases hl
  ·have hcm := (chain_spec hch hkc).1
   have : c < l.length := by omega
   simp [Array.getD_eq_getD_getElem?, this]
  ·rw [hno i o ho] at hl; cases hl
  ·rw [hno i o ho] at hl; cases hl
 have := mid_any (P := P) (Q := Q) hdst htl hch hkp hJ hB (fun i => h1.at i) (fun i o him ho => by
  have := h3 i o (by rw [List.getElem?_take, if_pos him]; exact ho)
  rwa [Nat.zero_add] at this) h2 l.length _ _ _ hc0 hM
 simpa using this
theorem Walk.plain {fin : List VS → Prop} {i : Nat} {r : List Oper} {Vs : List VS} {o : Oper} {v : Value} (hc : place chain i = none) (hg : o.guard = none)
  (h : ∀ (val : Nat → Value) (us : List Value) (w1 : World), Here l chain fc B J Vs i o val us w1 → OpW P N o (opEnv l Vs e i o val) w1 (fun u w' => Chg [] w1 w' ∧ u = v))
  (hr : Walk P N chain fc G B J l e fin (i + 1) r (Vs ++ [.c v])) : Walk P N chain fc G B J l e fin i (o :: r) Vs := by
 refine ⟨.c v, trivial, fun val us w1 hh => ?_, hr⟩
 rw [hc, hg]
 exact h val us w1 hh
theorem Walk.rel {fin : List VS → Prop} {i : Nat} {r : List Oper} {Vs : List VS} {o : Oper} (hc : place chain i = none) (R : Value → World → Prop) (hg : o.guard = none) (hR : ∀ v w w', R v w → (Chg [] w w' ∨ G w w') → R v w')
  (h : ∀ (val : Nat → Value) (us : List Value) (w1 : World), Here l chain fc B J Vs i o val us w1 → OpW P N o (opEnv l Vs e i o val) w1 (fun u w' => Chg [] w1 w' ∧ R u w'))
  (hr : Walk P N chain fc G B J l e fin (i + 1) r (Vs ++ [.r R])) : Walk P N chain fc G B J l e fin i (o :: r) Vs := by
 refine ⟨.r R, hR, fun val us w1 hh => ?_, hr⟩
 rw [hc, hg]
 exact h val us w1 hh
theorem Walk.turn {fin : List VS → Prop} {i k : Nat} {r : List Oper} {Vs : List VS} {o : Oper} (hc : place chain i = some k) (hg : o.guard = none)
  (h : ∀ (val : Nat → Value) (us : List Value) (w1 : World), Here l chain fc B J Vs i o val us w1 → OpW P N o (opEnv l Vs e i o val) w1 (fun v w' => G w1 w' ∧ B w' ∧ J (us ++ [selV fc i v val]) w'))
  (hr : Walk P N chain fc G B J l e fin (i + 1) r (Vs ++ [.r fun _ _ => True])) : Walk P N chain fc G B J l e fin i (o :: r) Vs := by
 refine ⟨.r fun _ _ => True, fun _ _ _ _ _ => trivial, fun val us w1 hh => ?_, hr⟩
 rw [hc]
 exact ⟨rfl, hg, h val us w1 hh⟩
theorem Walk.guardT {fin : List VS → Prop} {i j : Nat} {want : Bool} {r : List Oper} {Vs : List VS} {o : Oper} {v : Value} (hc : place chain i = none) (hg : o.guard = some (j, want)) (hj : (predsOf o).contains j = true) (hjd : ((l[j]?).bind (·.dst)).isSome = true) (hb : ∀ val, valOf Vs val j = .bool want)
  (h : ∀ (val : Nat → Value) (us : List Value) (w1 : World), Here l chain fc B J Vs i o val us w1 → OpW P N o (opEnv l Vs e i o val) w1 (fun u w' => Chg [] w1 w' ∧ u = v))
  (hr : Walk P N chain fc G B J l e fin (i + 1) r (Vs ++ [.c v])) : Walk P N chain fc G B J l e fin i (o :: r) Vs := by
 refine ⟨.c v, trivial, fun val us w1 hh => ?_, hr⟩
 rw [hc, hg]
 exact ⟨want, hj, hjd, .inl (hb val), (fun _ => h val us w1 hh), (fun hn => by cases want <;> cases hn)⟩
theorem Walk.guardF {fin : List VS → Prop} {i j : Nat} {want b : Bool} {r : List Oper} {Vs : List VS} {o : Oper} (hc : place chain i = none) (hg : o.guard = some (j, want)) (hj : (predsOf o).contains j = true) (hjd : ((l[j]?).bind (·.dst)).isSome = true) (hb : ∀ val, valOf Vs val j = .bool b) (hbw : b = !want)
  (hr : Walk P N chain fc G B J l e fin (i + 1) r (Vs ++ [.c undef])) : Walk P N chain fc G B J l e fin i (o :: r) Vs := by
 refine ⟨.c undef, trivial, fun val us w1 hh => ?_, hr⟩
 rw [hc, hg]
 exact ⟨b, hj, hjd, .inl (hb val), (fun h => by subst hbw; cases want <;> cases h), fun _ => rfl⟩
theorem Walk.fin {fin : List VS → Prop} {i : Nat} {Vs : List VS} (h : fin Vs) : Walk P N chain fc G B J l e fin i [] Vs := h
theorem endC {Q : Post} {Vs : List VS} (h : ∀ (val : Nat → Value) (us : List Value) (w1 : World), B w1 → J us w1 → us.length = chain.length → (∀ (k c : Nat) (u : Value), chain[k]? = some c → us[k]? = some u → val (fc c) = u) → (∀ i, i < m → ∀ o, l[i]? = some o → (vsAt Vs i).holds (valOf Vs val i) w1) → WL P N l.toArray (l.drop m) Q (frontEnv Vs val 0 m l ++ e) w1) : EndOk P N chain fc B J l m e Q Vs := h
theorem Here.le {i c k : Nat} {o oc : Oper} {val : Nat → Value} {us : List Value} {w : World} (h : Here l chain fc B J Vs i o val us w) (hk : chain[k]? = some c) (hc : l[c]? = some oc) (hp : (predsOf oc).contains i = true) : us.length ≤ k := h.far.2.2.1 k c oc hk hc hp
theorem Here.lt {i c k : Nat} {o : Oper} {val : Nat → Value} {us : List Value} {w : World} (h : Here l chain fc B J Vs i o val us w) (hk : chain[k]? = some c) (hp : (predsOf o).contains c = true) : k < us.length := h.far.2.1 k c hk hp
theorem Here.self {i k : Nat} {o : Oper} {val : Nat → Value} {us : List Value} {w : World} (h : Here l chain fc B J Vs i o val us w) (hk : chain[k]? = some i) : us.length ≤ k := h.far.2.2.2 k hk
attribute [irreducible] Walk
end
end Go.Vc.H
/-! x, y := a[i], b[k]: two structs taken into two new blocks, in a region that draws. -/
namespace Go.Vc
open Go
def pairG (t : TypeId) (n : Nat) (w w' : World) : Prop := ∀ (g : Nat) (cs : List Value), cs.length = n → Blk w g t cs → ∃ cs', cs'.length = n ∧ Blk w' g t cs'
def pairR (b : Nat) (t : TypeId) (n : Nat) (v : Value) (w : World) : Prop := ∃ g, v = .pointer (some ⟨g, 0, none⟩) ∧ b ≤ g ∧ ∃ cs, cs.length = n ∧ Blk w g t cs
theorem pairR_steady {b : Nat} {t : TypeId} {n : Nat} (v : Value) (w w' : World) (h : pairR b t n v w) (hc : Chg [] w w' ∨ pairG t n w w') : pairR b t n v w' := by
 obtain ⟨g, h1, h2, cs, h3, h4⟩ := h
 rcases hc with hc | hc
 ·exact ⟨g, h1, h2, cs, h3, h4.keep0 hc⟩
 ·obtain ⟨cs', h5, h6⟩ := hc g cs h3 h4
  exact ⟨g, h1, h2, cs', h5, h6⟩
theorem lst0 {us : List Value} (h : us.length = 0) : us = [] := List.eq_nil_of_length_eq_zero h
theorem lst1 {us : List Value} (h : us.length = 1) : ∃ a, us = [a] := by
 match us, h with
 | [a], _ => exact ⟨a, rfl⟩
end Go.Vc
/-! Manifests of the call's own; Commit of an edit that applies. -/
namespace Go.Vc
open Go
structure StRd (w : World) (vs vp : Value) (st : StM) : Prop where
 segs : SliceK 6 (RdL segL) w vs st.segs
 pars : SliceK 5 (RdL parSL) w vp st.pars
 prd : ∀ q ∈ st.pars, PRd w q.1
theorem StRd.keep0 {w w' : World} {vs vp : Value} {st : StM} (h : StRd w vs vp st) (hc : Chg [] w w') : StRd w' vs vp st := ⟨h.segs.keepR hc, h.pars.keepR hc, fun q hq => (h.prd q hq).keep0 hc⟩
theorem putK_mem {α : Type} {key : α → Int} {xs L L' : List α} (h : putK key xs L = some L') {x : α} (hx : x ∈ L') : x ∈ L ∨ x ∈ xs := by
 rw [(putK_eq h).1] at hx
 exact List.mem_append.1 hx
theorem applyM_pars {st st' : StM} {e : EditM} {X : List ParS} {first : Bool} (h : applyM st e X first = some st') {q : ParS} (hq : q ∈ st'.pars) : q ∈ st.pars ∨ q ∈ X := by
 unfold applyM at h
 dsimp only at h
 obtain ⟨hc, h⟩ := ite_some h
 subst h
 dsimp only at hq
 cases h2 : putK parKey X ((takeK parKey e.drops st.pars).getD []) with
 | none => rw [h2] at hq; simp at hq
 | some M =>
  rw [h2] at hq
  have hq : q ∈ sortK parKey M := hq
  rcases putK_mem h2 ((sortK_perm parKey M).mem_iff.1 hq) with h3 | h3
  ·cases h4 : takeK parKey e.drops st.pars with
   | none => rw [h4] at h3; simp at h3
   | some L => rw [h4] at h3; exact .inl ((takeK_sub h4).mem h3)
  ·exact .inr h3
theorem appendM_callsG (s : FsM) (k : Nm) (b : List UInt8) : (appendM s k b).1.calls = s.calls + 1 := by
 unfold appendM; simp only; (repeat' split) <;> rfl
def commitF (s : FsM) (b : List UInt8) : FsM × Int := if (appendM s manNm b).2 = 0 then syncM (appendM s manNm b).1 manNm else appendM s manNm b
end Go.Vc
namespace Go.Proofs.YtiadjkjlifnopaaGreatDoor.Tryz
open Go Go.Vc
structure ManO (w0 w : World) (gm g : Nat) (s : FsM) (p : FsP) (st : StM) (cl : Bool) : Prop where
 fs : FsO w0 w g s p
 rows : ∃ vs vp, ManB w gm g vs vp st.next st.seq cl ∧ Firm (gm :: p.fp g) w (fun w => StRd w vs vp st)
 out : gm ∉ p.fp g
 fresh : w0.heap.size ≤ gm
section
variable {w0 w w' : World} {gm g : Nat} {s : FsM} {p p' : FsP} {st : StM} {cl : Bool}
theorem ManO.lt (x : ManO w0 w gm g s p st cl) : gm < w.heap.size := let ⟨_, _, h, _⟩ := x.rows; Blk.lt h
theorem ManO.keep0 (x : ManO w0 w gm g s p st cl) (hc : Chg [] w w') : ManO w0 w' gm g s p st cl := by
 obtain ⟨vs, vp, h1, h2⟩ := x.rows
 exact ⟨x.fs.keep0 hc, ⟨vs, vp, Blk.keep0 h1 hc, h2.step0 hc⟩, x.out, x.fresh⟩
theorem ManO.base {w1 : World} (x : ManO w1 w gm g s p st cl) (hc : Chg [] w0 w1) : ManO w0 w gm g s p st cl := ⟨x.fs.base hc, x.rows, x.out, by have := x.fresh; have := hc.size; omega⟩
theorem firm_grow {φ : World → Prop} (h : Firm (gm :: p.fp g) w φ) (hc : Chg (gm :: p.fp g) w w') (hg : Grows w g p p') : Firm (gm :: p'.fp g) w' φ := fun w1 h1 => h w1 (hc.trans h1 (fun k hk hlt => by
 rcases List.mem_cons.1 hk with rfl | hk
 ·simp
 ·rcases hg k hk with h | h
  ·simp [h]
  ·omega))
theorem own_firm {S : List Nat} {t : TypeId} {k n : Nat} {v : Value} {xs : List Value} (h : Own w t k v n xs) (hb : ∀ i, v.ownBlock = some i → i ∉ S) : Firm S w (fun w => Own w t k v n xs) := fun w1 h1 => h.keep h1 (fun i hi hm => hb i hi hm)
end
def a0M (w : World) (st' : StM) (v : Value) (w' : World) : Prop := ∃ g5 ua up, v = .pointer (some ⟨g5, 0, none⟩) ∧ w.heap.size ≤ g5 ∧ Blk w' g5 99 [ua, up, .int .i64 st'.next, .int .i64 st'.seq] ∧ Own w' 26 6 ua st'.segs.length (st'.segs.flatMap segL) ∧ Own w' 70 5 up st'.pars.length (st'.pars.flatMap parSL) ∧ (∀ g, ua.ownBlock = some g → w.heap.size ≤ g) ∧ ∀ g, up.ownBlock = some g → w.heap.size ≤ g
def stV (w : World) (st' : StM) (v : Value) (w' : World) : Prop := ∃ ua up, v = .agg #[ua, up, .int .i64 st'.next, .int .i64 st'.seq] ∧ Own w' 26 6 ua st'.segs.length (st'.segs.flatMap segL) ∧ Own w' 70 5 up st'.pars.length (st'.pars.flatMap parSL) ∧ (∀ g, ua.ownBlock = some g → w.heap.size ≤ g) ∧ ∀ g, up.ownBlock = some g → w.heap.size ≤ g
theorem stV_firm {w : World} {st' : StM} (v : Value) (w1 w2 : World) (h : stV w st' v w1) (hc : Chg [] w1 w2) : stV w st' v w2 := by
 obtain ⟨ua, up, h1, h2, h3, h4⟩ := h
 exact ⟨ua, up, h1, h2.keep0 hc, h3.keep0 hc, h4⟩
theorem a0M_firm {w : World} {st' : StM} (v : Value) (w1 w2 : World) (h : a0M w st' v w1) (hc : Chg [] w1 w2) : a0M w st' v w2 := by
 obtain ⟨g5, ua, up, h1, h0, hb, h2, h3, h4⟩ := h
 exact ⟨g5, ua, up, h1, h0, hb.keep0 hc, h2.keep0 hc, h3.keep0 hc, h4⟩
def stG (w w' : World) : Prop := ∃ g cs cs', Blk w g 99 cs ∧ Blk w' g 99 cs' ∧ cs'.length = cs.length ∧ Chg [g] w w'
theorem stG_pair {w w' : World} {n : Nat} (h : stG w w') : pairG 99 n w w' := by
 obtain ⟨g, cs, cs', h1, h2, h3, hc⟩ := h
 intro k ds hl hk
 by_cases he : k = g
 ·subst he
  have hb : ds = cs := by
   unfold Blk at h1 hk
   rw [h1] at hk
   injection hk with h4
   injection h4 with h4
   simpa using h4.symm
  subst hb
  exact ⟨cs', by omega, h2⟩
 ·exact ⟨ds, hl, hk.keep hc (by simp [he])⟩
theorem stG_own {w w' : World} {t : TypeId} {k n : Nat} {v : Value} {xs : List Value} (h : Own w t k v n xs) (ht : t ≠ 99) (hg : stG w w') : Own w' t k v n xs := by
 obtain ⟨g, cs, cs', h1, h2, h3, hc⟩ := hg
 refine h.keep hc (fun j hj hm => ?_)
 obtain ⟨c1, hr1⟩ := h.row hj
 simp only [List.mem_singleton] at hm
 subst hm
 exact hr1.ne_ h1 ht rfl
theorem stV_steady {w : World} {st' : StM} (v : Value) (w1 w2 : World) (h : stV w st' v w1) (hc : Chg [] w1 w2 ∨ stG w1 w2) : stV w st' v w2 := by
 rcases hc with hc | hc
 ·exact stV_firm v w1 w2 h hc
 ·obtain ⟨ua, up, h1, h2, h3, h4⟩ := h
  exact ⟨ua, up, h1, stG_own h2 (by decide) hc, stG_own h3 (by decide) hc, h4⟩
def stJ (w : World) (st' : StM) : List Value → World → Prop
 | [a], w' => a0M w st' a w'
 | _, _ => True
theorem stJ_firm {w : World} {st' : StM} : ∀ (us : List Value) (a b : World), stJ w st' us a → Chg [] a b → stJ w st' us b
 | [], _, _, _, _ => trivial
 | [v], a, b, h, hc => a0M_firm v a b h hc
 | _ :: _ :: _, _, _, _, _ => trivial
set_option maxHeartbeats 4000000 in
theorem commit_has {w0 w : World} {gm g : Nat} {s : FsM} {p : FsP} {st st' : StM} (x : ManO w0 w gm g s p st false) {e : EditM} {xa xd xp xr : Value} {X : List ParS} (hI : EdI e) (hr : Firm (gm :: p.fp g) w (fun w => ERd w ⟨e, xa, xd, xp, xr, X.map (·.1)⟩))
  (hn1 : (st.segs.map numK).Nodup) (hn2 : (st.pars.map parKey).Nodup) (hb1 : st.segs.length ≤ 1000) (hb2 : st.pars.length ≤ 1000) (hap : applyM st e X false = some st') (hcalls : s.calls < 1000000000 - 10) :
  Has Tryz.prog 21 #[.pointer (some ⟨gm, 0, none⟩), .agg #[.int .i64 e.next, .int .i64 e.seq, xa, xd, xp, xr]] w (fun v w' => v = .int .i64 (commitF s (encE e).1).2 ∧ Chg (gm :: p.fp g) w w' ∧ ∃ p', Grows w g p p' ∧ ManO w0 w' gm g (commitF s (encE e).1).1 p' (if (commitF s (encE e).1).2 = 0 then st' else st) (decide ((commitF s (encE e).1).2 ≠ 0))) := by
 obtain ⟨vs, vp, hm, hst⟩ := x.rows
 refine enter Tryz.func21 rfl rfl (by decide) rfl (e := [(0, .pointer (some ⟨gm, 0, none⟩)), (1, .agg #[.int .i64 e.next, .int .i64 e.seq, xa, xd, xp, xr])]) ⟨rfl, rfl, trivial⟩ ?_
 unfold ManB at hm
 refine run ?_
 refine go T 2 rfl ?_
 refine o1 rfl ?_
 refine op_box rfl rfl (fun g3 w1 hs1 hc1 hg3 => ?_)
 have hg3 : Blk w1 g3 49 [.int .i64 e.next, .int .i64 e.seq, xa, xd, xp, xr] := hg3
 have hgl := hm.lt
 replace hm := hm.keep0 hc1
 replace hst := hst.step0 hc1
 replace hr := hr.step0 hc1
 have xf := x.fs.keep0 hc1
 refine go T 12 rfl ?_
 refine ldB T hm rfl rfl rfl rfl rfl rfl ?_
 refine go T 7 rfl ?_
 refine H.W_walkc 11 [10] (fun _ => 9) stG (fun w' => Chg [] w1 w') (stJ w1 st') fol (by kernel_rfl) (by kernel_rfl) (by kernel_rfl) (by kernel_rfl) (fun us a b h hc => stJ_firm us a b h hc) (fun a b h hc => h.trans' hc) (Chg.refl _ _) trivial ?_
 refine H.Walk.plain (v := .pointer (some ⟨gm, 0, none⟩)) (by rfl) rfl (by intro val us w_ hh; exact op_move rfl rfl ⟨Chg.refl _ _, rfl⟩) ?_; dsimp only [na1, na2]
 refine H.Walk.plain (v := .pointer (some ⟨gm, 0, none⟩)) (by rfl) rfl (by intro val us w_ hh; exact op_nilCheck rfl rfl ⟨Chg.refl _ _, rfl⟩) ?_; dsimp only [na1, na2]
 refine H.Walk.plain (v := .pointer (some ⟨gm, 1, none⟩)) (by rfl) rfl (by intro val us w_ hh; exact op_fieldAddr T rfl rfl rfl rfl rfl rfl rfl rfl ⟨Chg.refl _ _, rfl⟩) ?_; dsimp only [na1, na2]
 refine H.Walk.plain (v := .agg #[vs, vp, .int .i64 st.next, .int .i64 st.seq]) (by rfl) rfl (by intro val us w_ hh; exact op_load_agg T rfl rfl rfl rfl (hm.keep0 hh.base) (by exact Nat.le_of_ble_eq_true rfl) (by exact rfl) ⟨Chg.refl _ _, rfl⟩) ?_; dsimp only [na1, na2]
 refine H.Walk.plain (v := .agg #[.int .i64 e.next, .int .i64 e.seq, xa, xd, xp, xr]) (by rfl) rfl (by intro val us w_ hh; exact op_load_agg T rfl rfl rfl rfl (hg3.keep0 hh.base) (by exact Nat.le_of_ble_eq_true rfl) (by exact rfl) ⟨Chg.refl _ _, rfl⟩) ?_; dsimp only [na1, na2]
 refine H.Walk.rel (by rfl) (fun v w' => ∃ u, v = .tuple #[u, .bool true] ∧ stV w1 st' u w') rfl (fun v a b h hab => let ⟨u, h1, h2⟩ := h; ⟨u, h1, stV_steady u a b h2 hab⟩) ?_ ?_
 ·intro val us w_ hh
  have hR := hh.base
  have h0 := hst.now
  have hcall := apply_has st vs vp ⟨e, xa, xd, xp, xr, X.map (·.1)⟩ X false w_ (h0.segs.keepR hR) (h0.pars.keepR hR) hI (hr.now.keep0 hR) rfl hb1 hb2 hn1 hn2
  refine op_call rfl rfl rfl hcall ?_
  rintro v w' ⟨h1, _, h2⟩
  obtain ⟨ua, up, h3, h4, h5, h6, h7⟩ := h2 st' hap
  have hz := hR.size
  exact ⟨h1, _, h3, ua, up, rfl, h4, h5, fun k hk => by have := h6 k hk; omega, fun k hk => by have := h7 k hk; omega⟩
 dsimp only [List.nil_append, List.cons_append]
 refine H.Walk.rel (by rfl) (fun v w' => ∃ u, v = .tuple #[u, .bool true] ∧ stV w1 st' u w') rfl (fun v a b h hab => let ⟨u, h1, h2⟩ := h; ⟨u, h1, stV_steady u a b h2 hab⟩) ?_ ?_
 ·intro val us w_ hh
  exact op_move rfl rfl ⟨Chg.refl _ _, hh.hp 5 rfl _ rfl⟩
 dsimp only [List.nil_append, List.cons_append]
 refine H.Walk.rel (by rfl) (stV w1 st') rfl (fun v a b h hab => stV_steady v a b h hab) ?_ ?_
 ·intro val us w_ hh
  obtain ⟨u, h1, h2⟩ := hh.hp 6 rfl _ rfl
  have h1 : val 6 = .tuple #[u, .bool true] := h1
  exact op_extract rfl (show some (val 6) = _ by rw [h1]) rfl ⟨Chg.refl _ _, h2⟩
 dsimp only [List.nil_append, List.cons_append]
 refine H.Walk.plain (v := .bool true) (by rfl) rfl ?_ ?_
 ·intro val us w_ hh
  obtain ⟨u, h1, h2⟩ := hh.hp 6 rfl _ rfl
  have h1 : val 6 = .tuple #[u, .bool true] := h1
  exact op_extract rfl (show some (val 6) = _ by rw [h1]) rfl ⟨Chg.refl _ _, rfl⟩
 dsimp only [List.nil_append, List.cons_append]
 refine H.Walk.rel (by rfl) (pairR w1.heap.size 99 4) rfl (fun v a b h hab => pairR_steady v a b h (hab.imp id (fun hg => stG_pair hg))) ?_ ?_
 ·intro val us w_ hh
  exact op_alloc T rfl rfl (fun g5 w5 hs5 hc5 hg5 => ⟨hc5, g5, rfl, by have := hh.base.size; have hs5 : w_.heap.size ≤ g5 := hs5; omega, _, by rfl, hg5⟩)
 dsimp only [List.nil_append, List.cons_append]
 refine H.Walk.turn (k := 0) (by rfl) rfl ?_ ?_
 ·intro val us w_ hh
  have h1 := hh.self (k := 0) rfl
  obtain rfl := lst0 (show us.length = 0 by omega)
  obtain ⟨ua, up, h7, h8, h9, h10, h11⟩ := hh.hp 7 rfl _ rfl
  obtain ⟨g5, h12, h13, cs, hcl, h14⟩ : pairR w1.heap.size 99 4 (val 9) w_ := hh.hp 9 rfl _ rfl
  have h7 : val 7 = .agg #[ua, up, .int .i64 st'.next, .int .i64 st'.seq] := h7
  have hall : ([ua, up, Value.int .i64 st'.next, Value.int .i64 st'.seq].all (·.oneCell')) = true := by
   simp only [List.all_cons, List.all_nil, own_one h8, own_one h9, Bool.true_and]; rfl
  refine op_store_agg T rfl (show some (val 9) = some (.pointer (some ⟨g5, 0, none⟩)) by rw [h12]) (show some (val 7) = some (.agg #[ua, up, .int .i64 st'.next, .int .i64 st'.seq]) by rw [h7]) rfl rfl hall h14 (by rw [hcl]; exact Nat.le_of_ble_eq_true rfl) (fun w6 hc6 hn _ => ?_)
  replace hn : Blk w6 g5 99 [ua, up, .int .i64 st'.next, .int .i64 st'.seq] := by
   have : [ua, up, Value.int .i64 st'.next, Value.int .i64 st'.seq] ++ cs.drop 4 = [ua, up, .int .i64 st'.next, .int .i64 st'.seq] := by rw [List.drop_of_length_le (by omega), List.append_nil]
   exact this ▸ hn
  have hG : stG w_ w6 := ⟨g5, cs, _, h14, hn, hcl.symm, hc6⟩
  have hz := hh.base.size
  refine ⟨hG, hh.base.trans hc6 (fun k hk hlt => by simp at hk; omega), ?_⟩
  show a0M w1 st' (val 9) w6
  exact ⟨g5, ua, up, h12, h13, hn, stG_own h8 (by decide) hG, stG_own h9 (by decide) hG, h10, h11⟩
 dsimp only [List.nil_append, List.cons_append]
 refine H.Walk.fin (H.endC ?_)
 intro val us w2 hc2 hJ2 hl2 hv2 _
 obtain ⟨a9, rfl⟩ := lst1 hl2
 obtain ⟨g5, ua, up, hv9', hs5, hg5, ho1, ho2, hf1, hf2⟩ := hJ2
 have hv9 : val 9 = .pointer (some ⟨g5, 0, none⟩) := (hv2 0 10 _ rfl rfl).trans hv9'
 refine WL_sub (e' := [(0, .pointer (some ⟨gm, 0, none⟩)), (3, .pointer (some ⟨g3, 0, none⟩)), (5, .pointer (some ⟨g5, 0, none⟩)), (26, .bool true)]) ⟨rfl, rfl, congrArg some hv9, rfl, trivial⟩ ?_
 have hg3l := hg3.lt
 replace hm := hm.keep0 hc2
 replace hst := hst.step0 hc2
 replace hr := hr.step0 hc2
 replace hg3 := hg3.keep0 hc2
 replace xf := xf.keep0 hc2
 have hc02 := hc1.trans' hc2
 clear hv9 hv9' hv2 hc2 hc1
 refine runL ?_
 refine go T 15 rfl ?_
 refine o1 rfl (op_load_agg T rfl rfl rfl rfl hg3 (by exact Nat.le_of_ble_eq_true rfl) (by exact rfl) ?_)
 refine o1 rfl ?_
 have hcall := encodeE_has (w := w2) ⟨e, xa, xd, xp, xr, X.map (·.1)⟩ hI hr.now
 dsimp only at hcall
 generalize encE e = en at *
 obtain ⟨b, er⟩ := en
 dsimp only at hcall ⊢
 refine op_call rfl rfl rfl hcall ?_
 rintro _ w3 ⟨u, rfl, m3, hbl⟩
 obtain ⟨Au, cu, rfl, _, _⟩ := m3.form
 have hfirm := m3.firm (fun k (hk : k ∈ p.fp g) => by have := xf.at_.lt k hk; omega)
 have hc3 := m3.chg
 have hz23 := hc3.size
 have hg5l := hg5.lt
 have hg32 := hg3.lt
 have hgm2 := hm.lt
 replace hm := hm.keep0 hc3
 replace hst := hst.step0 hc3
 replace hr := hr.step0 hc3
 replace hg5 := hg5.keep0 hc3
 replace xf := xf.keep0 hc3
 replace ho1 := ho1.keep0 hc3
 replace ho2 := ho2.keep0 hc3
 have hc03 := hc02.trans' hc3
 have hz03 := hc03.size
 clear hcall m3
 refine go T 12 rfl ?_
 refine ldB T hm rfl rfl rfl rfl rfl rfl ?_
 refine go T 1 rfl ?_
 refine o1 rfl ?_
 refine op_call rfl rfl rfl (append_has g s p manNm Au b.length cu b w3 xf.at_ hfirm (by omega) (by omega)) ?_
 intro v4 w4 hd4
 obtain ⟨hv4, hc4, p4, x4, hg4⟩ := fsDoneO xf hd4
 have hnew : Firm (gm :: p.fp g) w3 (fun w => StRd w ua up st') := fun w1 h1 => by
  have hin : ∀ i, w.heap.size ≤ i → i ∉ gm :: p.fp g := fun i hi hm' => by
   rcases List.mem_cons.1 hm' with rfl | hm'
   ·omega
   ·have := x.fs.at_.lt i hm'; omega
  refine ⟨(own_firm ho1 (fun i hi => hin i (by have := hf1 i hi; omega)) w1 h1).readsK (fun s => rfl), (own_firm ho2 (fun i hi => hin i (by have := hf2 i hi; omega)) w1 h1).readsK (fun s => rfl), fun q hq => ?_⟩
  rcases applyM_pars hap hq with h | h
  ·exact (hst w1 h1).prd q h
  ·exact (hr w1 h1).prd q.1 (List.mem_map.2 ⟨q, h, rfl⟩)
 have hc4' : Chg (gm :: p.fp g) w3 w4 := hc4.mono (fun k hk _ => by simp [hk])
 have hout4 : gm ∉ p4.fp g := fun h => by
  rcases hg4 gm h with h | h
  ·exact x.out h
  ·omega
 replace hm := hm.keep hc4 x.out
 replace hg5 := hg5.keep hc4 (fun h => by have := x.fs.at_.lt g5 h; omega)
 have hst4 := firm_grow hst hc4' hg4
 have hnew4 := firm_grow hnew hc4' hg4
 by_cases ha : (appendM s manNm b).2 = 0
 ·have hcf : commitF s b = syncM (appendM s manNm b).1 manNm := by unfold commitF; rw [if_pos ha]
  rw [ha] at hv4
  subst hv4
  refine go T 7 rfl ?_
  refine eqT rfl rfl rfl rfl (by omega) ?_
  refine go T 7 rfl ?_
  refine ldB T hm rfl rfl rfl rfl rfl rfl ?_
  refine o1 rfl ?_
  refine op_call rfl rfl rfl (sync_has g _ p4 manNm w4 x4.at_ (by rw [appendM_callsG]; omega)) ?_
  intro v5 w5 hd5
  obtain ⟨hv5, hc5, p5, x5, hg5'⟩ := fsDoneO x4 hd5
  rw [hcf]
  have hc5' : Chg (gm :: p4.fp g) w4 w5 := hc5.mono (fun k hk _ => by simp [hk])
  have hz4 := hc4.size
  have hout5 : gm ∉ p5.fp g := fun h => by
   rcases hg5' gm h with h | h
   ·exact hout4 h
   ·omega
  have hg5p : g5 ∉ p4.fp g := fun h => by
   rcases hg4 g5 h with h | h
   ·have := x.fs.at_.lt g5 h; omega
   ·have := hg5.lt; omega
  replace hm := hm.keep hc5 hout4
  replace hg5 := hg5.keep hc5 hg5p
  have hst5 := firm_grow hst4 hc5' hg5'
  have hnew5 := firm_grow hnew4 hc5' hg5'
  have hgr : Grows w g p p5 := fun k hk => by
   rcases hg5' k hk with h | h
   ·rcases hg4 k h with h | h
    ·exact .inl h
    ·exact .inr (by omega)
   ·exact .inr (by omega)
  have hc05 : Chg (gm :: p.fp g) w w5 := ((hc03.mono (fun k hk _ => by cases hk)).trans hc4' (fun k hk _ => hk)).trans hc5' (fun k hk hlt => by
   rcases List.mem_cons.1 hk with rfl | hk
   ·simp
   ·rcases hg4 k hk with h | h
    ·simp [h]
    ·omega)
  have hz5 := hc5.size
  generalize (syncM (appendM s manNm b).1 manNm) = r5 at *
  obtain ⟨s5, e5⟩ := r5
  dsimp only at hv5 x5 ⊢
  subst hv5
  by_cases h5 : e5 = 0
  ·subst h5
   refine go T 7 rfl ?_
   refine neF rfl rfl rfl rfl (by omega) ?_
   refine go T 8 rfl ?_
   refine o1 rfl (op_load_agg T rfl rfl rfl rfl hg5 (by exact Nat.le_of_ble_eq_true rfl) (by exact rfl) ?_)
   refine go T 2 rfl ?_
   refine op0 rfl rfl ?_
   have hall : ([ua, up, Value.int .i64 st'.next, Value.int .i64 st'.seq].all (·.oneCell')) = true := by
    simp only [List.all_cons, List.all_nil, own_one ho1, own_one ho2, Bool.true_and]; rfl
   refine op_store_agg T rfl rfl rfl rfl rfl hall hm (by exact Nat.le_of_ble_eq_true rfl) (fun w6 hc6 hn6 _ => ?_)
   refine go T 8 rfl ?_
   have hc6' : Chg (gm :: p5.fp g) w5 w6 := hc6.mono (fun k hk _ => by simp at hk; simp [hk])
   refine post1 (.inl rfl) rfl rfl ⟨rfl, hc05.trans hc6 (fun k hk _ => by simp at hk; simp [hk]), p5, hgr, ?_⟩
   refine ⟨⟨x5.chg.trans hc6 (fun k hk hlt => by simp at hk; have := x.fresh; omega), x5.at_.keep hc6 (fun k hk hm => by simp at hm; subst hm; exact hout5 hk), x5.fresh⟩, ⟨ua, up, hn6, hnew5.step hc6 (fun k hk _ => by simp at hk; simp [hk])⟩, hout5, x.fresh⟩
  ·refine go T 7 rfl ?_
   refine neT rfl rfl rfl rfl (by omega) ?_
   refine go T 8 rfl ?_
   refine op0 rfl rfl ?_
   refine op_store T rfl rfl rfl rfl rfl rfl hm (by simp) (fun w6 hc6 hn6 _ => ?_)
   refine go T 10 rfl ?_
   rw [if_neg h5, decide_eq_true h5]
   refine post1 (.inl rfl) rfl rfl ⟨rfl, hc05.trans hc6 (fun k hk _ => by simp at hk; simp [hk]), p5, hgr, ?_⟩
   refine ⟨⟨x5.chg.trans hc6 (fun k hk hlt => by simp at hk; have := x.fresh; omega), x5.at_.keep hc6 (fun k hk hm => by simp at hm; subst hm; exact hout5 hk), x5.fresh⟩, ⟨vs, vp, hn6, hst5.step hc6 (fun k hk _ => by simp at hk; simp [hk])⟩, hout5, x.fresh⟩
 ·have hcf : commitF s b = appendM s manNm b := by unfold commitF; rw [if_neg ha]
  rw [hcf]
  have hgr : Grows w g p p4 := fun k hk => by
   rcases hg4 k hk with h | h
   ·exact .inl h
   ·exact .inr (by omega)
  have hc05 : Chg (gm :: p.fp g) w w4 := (hc03.mono (fun k hk _ => by cases hk)).trans hc4' (fun k hk _ => hk)
  have hz5 := hc4.size
  generalize (appendM s manNm b) = r5 at *
  obtain ⟨s5, e5⟩ := r5
  dsimp only at hv4 x4 ha ⊢
  subst hv4
  refine go T 7 rfl ?_
  refine eqF rfl rfl rfl rfl (by omega) ?_
  refine go T 9 rfl ?_
  refine neT rfl rfl rfl rfl (by omega) ?_
  refine go T 8 rfl ?_
  refine op0 rfl rfl ?_
  refine op_store T rfl rfl rfl rfl rfl rfl hm (by simp) (fun w6 hc6 hn6 _ => ?_)
  refine go T 10 rfl ?_
  rw [if_neg ha, decide_eq_true ha]
  refine post1 (.inl rfl) rfl rfl ⟨rfl, hc05.trans hc6 (fun k hk _ => by simp at hk; simp [hk]), p4, hgr, ?_⟩
  refine ⟨⟨x4.chg.trans hc6 (fun k hk hlt => by simp at hk; have := x.fresh; omega), x4.at_.keep hc6 (fun k hk hm => by simp at hm; subst hm; exact hout4 hk), x4.fresh⟩, ⟨vs, vp, hn6, hst4.step hc6 (fun k hk _ => by simp at hk; simp [hk])⟩, hout4, x.fresh⟩
end Go.Proofs.YtiadjkjlifnopaaGreatDoor.Tryz
/-! Manifests in plain words: what a state keeps; the edit that makes it; what is loaded. -/
namespace Go.Vc
open Go
structure POk (st : PSt) : Prop where
 segs : ∀ x ∈ st.segs, SegOk x ∧ x.sum < 4294967296
 pars : ∀ x ∈ st.pars, ParOk x ∧ x.sum < 4294967296
 ns : (st.segs.map numK).Nodup
 np : (st.pars.map gKey).Nodup
 ls : st.segs.length ≤ 60
 lp : st.pars.length ≤ 60
 next : 1 ≤ st.next ∧ st.next ≤ 1125899906842624
 seq : 1 ≤ st.seq ∧ st.seq ≤ 1125899906842624
 below : ∀ x ∈ st.segs, x.num < st.next
 belowP : ∀ x ∈ st.pars, x.group < st.next
 ss : st.segs.Pairwise fun x y => numK x ≤ numK y
 sp : st.pars.Pairwise fun x y => gKey x ≤ gKey y
def wholeP (st : PSt) : EditM := { next := st.next, seq := st.seq, adds := st.segs, dels := [], pars := st.pars, drops := [] }
def p0 : PSt := ⟨[], [], 1, 1⟩
theorem p0_ok : POk p0 := ⟨by simp [p0], by simp [p0], by simp [p0], by simp [p0], by simp [p0], by simp [p0], by simp [p0], by simp [p0], by simp [p0], by simp [p0], by simp [p0], by simp [p0]⟩
theorem wholeP_ok {st : PSt} (h : POk st) : EditOk (wholeP st) := by
 refine ⟨?_, ?_, h.ls, by simp [wholeP], h.lp, by simp [wholeP], by simp [wholeP], by simp [wholeP], fun s hs => (h.segs s hs).1, fun s hs => (h.pars s hs).1⟩
 ·have := h.next; unfold wholeP; dsimp only; omega
 ·have := h.seq; unfold wholeP; dsimp only; omega
theorem wholeP_sums {st : PSt} (h : POk st) : Sums (wholeP st) := ⟨fun s hs => (h.segs s hs).2, fun s hs => (h.pars s hs).2⟩
theorem took_mem {α : Type} {key : α → Int} {ns : List Int} {L : List α} {x : α} (h : x ∈ (takeK key ns L).getD []) : x ∈ L := by
 cases ht : takeK key ns L with
 | none => rw [ht] at h; simp at h
 | some L' => rw [ht] at h; exact (takeK_sub ht).mem h
theorem puts_mem {α : Type} {key : α → Int} {xs M : List α} {x : α} (h : x ∈ ((putK key xs M).map (sortK key)).getD []) : x ∈ M ∨ x ∈ xs := by
 cases ht : putK key xs M with
 | none => rw [ht] at h; simp at h
 | some M' =>
  rw [ht] at h
  have h : x ∈ sortK key M' := h
  rw [(sortK_perm key M').mem_iff, (putK_eq ht).1] at h
  exact List.mem_append.1 h
theorem sortK_sorted {α : Type} (key : α → Int) (L : List α) : (sortK key L).Pairwise (fun x y => key x ≤ key y) :=
 (isM_sorted (le := leK key) (fun x y => by unfold leK; simp; omega) (fun x y z h1 h2 => by unfold leK at *; simp at *; omega) L).imp (fun h => by unfold leK at h; simpa using h)
theorem puts_sorted {α : Type} {key : α → Int} {xs M : List α} : (((putK key xs M).map (sortK key)).getD []).Pairwise (fun x y => key x ≤ key y) := by
 cases putK key xs M with
 | none => exact List.Pairwise.nil
 | some M' => exact sortK_sorted key M'
theorem later_le {was is_ : Int} (h : (laterM was is_).2 = true) : was ≤ (laterM was is_).1 := by
 unfold laterM at *
 split
 ·omega
 ·rename_i h0
  rw [if_neg h0] at h
  simpa using h
theorem later_most {was is_ m : Int} (h1 : was ≤ m) (h2 : is_ ≤ m) : (laterM was is_).1 ≤ m := by
 unfold laterM
 split
 ·exact h1
 ·exact h2
theorem applyP_ok {st st' : PSt} {e : EditM} {first : Bool} (h : POk st) (hs : Sums e) (ha : applyP st e first = some st') : POk st' := by
 unfold applyP at ha
 dsimp only at ha
 obtain ⟨hc, ha⟩ := ite_some ha
 simp only [Bool.and_eq_true] at hc
 obtain ⟨hB, ht1, hp1, ht2, hp2, hn, hq, hf⟩ := hc
 have hE := editB_ok.1 hB
 have hn1 := later_le hn
 have hn2 := later_most (was := st.next) (is_ := e.next) h.next.2 hE.next.2
 have hq1 := later_le hq
 have hq2 := later_most (was := st.seq) (is_ := e.seq) h.seq.2 hE.seq.2
 have h1 := h.next.1
 have h2 := h.seq.1
 unfold finePM at hf
 simp only [Bool.and_eq_true, decide_eq_true_eq, Bool.not_eq_true', List.any_eq_false] at hf
 obtain ⟨_, hl, hb1, hb2⟩ := hf
 have g1 : (((putK numK e.adds ((takeK numK e.dels st.segs).getD [])).map (sortK numK)).getD []).map numK |>.Nodup := puts_nodup (took_nodup h.ns)
 have g2 : (((putK gKey e.pars ((takeK gKey e.drops st.pars).getD [])).map (sortK gKey)).getD []).map gKey |>.Nodup := puts_nodup (took_nodup h.np)
 have o1 := puts_sorted (key := numK) (xs := e.adds) (M := (takeK numK e.dels st.segs).getD [])
 have o2 := puts_sorted (key := gKey) (xs := e.pars) (M := (takeK gKey e.drops st.pars).getD [])
 have m1 : ∀ x ∈ ((putK numK e.adds ((takeK numK e.dels st.segs).getD [])).map (sortK numK)).getD [], SegOk x ∧ x.sum < 4294967296 := fun x hx => by
  rcases puts_mem hx with h3 | h3
  ·exact h.segs x (took_mem h3)
  ·exact ⟨hE.adds1 x h3, hs.1 x h3⟩
 have m2 : ∀ x ∈ ((putK gKey e.pars ((takeK gKey e.drops st.pars).getD [])).map (sortK gKey)).getD [], ParOk x ∧ x.sum < 4294967296 := fun x hx => by
  rcases puts_mem hx with h3 | h3
  ·exact h.pars x (took_mem h3)
  ·exact ⟨hE.pars1 x h3, hs.2 x h3⟩
 generalize ((putK numK e.adds ((takeK numK e.dels st.segs).getD [])).map (sortK numK)).getD [] = S at *
 generalize ((putK gKey e.pars ((takeK gKey e.drops st.pars).getD [])).map (sortK gKey)).getD [] = Q at *
 generalize (laterM st.next e.next).1 = nx at *
 generalize (laterM st.seq e.seq).1 = sq at *
 subst ha
 refine ⟨m1, m2, g1, g2, by dsimp only; omega, by dsimp only; omega, by dsimp only; omega, by dsimp only; omega, fun x hx => ?_, fun x hx => ?_, o1, o2⟩
 ·have := hb1 x hx
  simp at this
  exact this
 ·have := hb2 x hx
  simp at this
  exact this
/-! ### What is loaded -/
def loadP : List EditM → Bool → PSt → Bool → PSt × Bool
 | [], _, st, ok => (st, ok)
 | e :: l, first, st, ok => match applyP st e first with
  | some st' => loadP l false st' ok
  | none => loadP l false st false
def loadM (b : List UInt8) : Option PSt :=
 if (loadP (scanE b).1 true p0 (scanE b).2.2).2 = true ∧ (scanE b).1 ≠ [] then some (loadP (scanE b).1 true p0 (scanE b).2.2).1 else none
theorem loadP_snoc : ∀ (l : List EditM) (e : EditM) (first : Bool) (st : PSt) (ok : Bool), loadP (l ++ [e]) first st ok = (match applyP (loadP l first st ok).1 e (first && l.isEmpty) with
  | some st' => (st', (loadP l first st ok).2)
  | none => ((loadP l first st ok).1, false))
 | [], e, first, st, ok => by
  rw [List.nil_append, loadP, loadP]
  simp only [List.isEmpty_nil, Bool.and_true]
  cases applyP st e first <;> rfl
 | a :: l, e, first, st, ok => by
  rw [List.cons_append, loadP, loadP]
  simp only [List.isEmpty_cons, Bool.and_false]
  cases applyP st a first with
  | none => simp only; rw [loadP_snoc l e false st false]; simp only [Bool.false_and]
  | some st' => simp only; rw [loadP_snoc l e false st' ok]; simp only [Bool.false_and]
theorem loadP_ok : ∀ {l : List EditM} {first : Bool} {st : PSt} {ok : Bool}, POk st → (∀ e ∈ l, Sums e) → POk (loadP l first st ok).1
 | [], first, st, ok, h, _ => h
 | e :: l, first, st, ok, h, hs => by
  rw [loadP]
  cases ha : applyP st e first with
  | none => exact loadP_ok h (fun x hx => hs x (by simp [hx]))
  | some st' => exact loadP_ok (applyP_ok h (hs e (by simp)) ha) (fun x hx => hs x (by simp [hx]))
end Go.Vc
/-! Manifests: Load. -/
namespace Go.Vc
open Go
theorem wholeM_plain (st : StM) : wholeM st.segs (st.pars.map (·.1)) st.next st.seq = wholeP st.plain := by
 unfold wholeM wholeP StM.plain
 rw [List.map_map]; rfl
theorem encE_whole {st : PSt} (h : POk st) : encE (wholeP st) = (sealM (textE (wholeP st)), 0) := by unfold encE; rw [if_pos (editB_ok.2 (wholeP_ok h))]
theorem plain_keys {st : StM} (h : POk st.plain) : (st.segs.map numK).Nodup ∧ (st.pars.map parKey).Nodup ∧ st.segs.length ≤ 60 ∧ st.pars.length ≤ 60 := by
 refine ⟨h.ns, ?_, h.ls, ?_⟩
 ·have := h.np
  unfold StM.plain at this
  dsimp only at this
  rw [List.map_map] at this
  exact this
 ·have := h.lp
  unfold StM.plain at this
  dsimp only at this
  rw [List.length_map] at this
  exact this
end Go.Vc
namespace Go.Proofs.YtiadjkjlifnopaaGreatDoor.Tryz
open Go Go.Vc
theorem wholeP_I {st : PSt} (h : POk st) : EdI (wholeP st) := by
 have h1 := h.next
 have h2 := h.seq
 refine ⟨⟨?_, ?_⟩, ⟨?_, ?_⟩, fun s hs => ?_, fun q hq => ?_⟩
 ·unfold wholeP; dsimp only; omega
 ·unfold wholeP; dsimp only; omega
 ·unfold wholeP; dsimp only; omega
 ·unfold wholeP; dsimp only; omega
 ·obtain ⟨⟨a, b, c, d⟩, e⟩ := h.segs s hs
  exact ⟨⟨by omega, by omega⟩, ⟨by omega, by omega⟩, ⟨by omega, by omega⟩, ⟨by omega, by omega⟩, e⟩
 ·obtain ⟨a, e⟩ := h.pars q hq
  have b := a.group
  have c := a.size
  exact ⟨⟨by omega, by omega⟩, ⟨by omega, by omega⟩, e⟩
theorem EdI.sums {e : EditM} (h : EdI e) : Sums e := ⟨fun s hs => (h.adds s hs).sum, fun q hq => (h.pars q hq).sum⟩
def stF (S : List Nat) (st : StM) (v : Value) (w : World) : Prop := ∃ ua up, v = .agg #[ua, up, .int .i64 st.next, .int .i64 st.seq] ∧ ua.oneCell' = true ∧ up.oneCell' = true ∧ Firm S w (fun w => StRd w ua up st)
theorem stF_step {S S' : List Nat} {st : StM} {v : Value} {w w' : World} (h : stF S st v w) (hc : Chg S' w w') (hs : ∀ k ∈ S', k < w.heap.size → k ∈ S) : stF S st v w' := by
 obtain ⟨ua, up, h1, h2, h3, h4⟩ := h
 exact ⟨ua, up, h1, h2, h3, h4.step hc hs⟩
set_option maxHeartbeats 8000000 in
theorem load_has {w0 w : World} {g : Nat} {s : FsM} {p : FsP} (x : FsO w0 w g s p) {b : List UInt8} (hread : readM s manNm = some b) (hb : b.length ≤ 4194304) (hcalls : s.calls < 1000000000 - 10) :
  Has Tryz.prog 25 #[ptrV g] w (fun v w' =>
   (loadM b = none → v = .tuple #[.pointer none, .int .i64 6] ∧ Chg [] w w') ∧
   ∀ q, loadM b = some q → POk q ∧
    (((scanE b).2.1 < b.length → ∃ p', Chg (p.fp g) w w' ∧ Grows w g p p' ∧ FsO w0 w' g (writeM s manNm neuNm (encE (wholeP q)).1).1 p' ∧
     ((writeM s manNm neuNm (encE (wholeP q)).1).2 ≠ 0 → v = .tuple #[.pointer none, .int .i64 (writeM s manNm neuNm (encE (wholeP q)).1).2]) ∧
     ((writeM s manNm neuNm (encE (wholeP q)).1).2 = 0 → ∃ gm st, v = .tuple #[.pointer (some ⟨gm, 0, none⟩), .int .i64 0] ∧ w.heap.size ≤ gm ∧ st.plain = q ∧ ManO w0 w' gm g (writeM s manNm neuNm (encE (wholeP q)).1).1 p' st false)) ∧
    (¬ (scanE b).2.1 < b.length → ∃ gm st, v = .tuple #[.pointer (some ⟨gm, 0, none⟩), .int .i64 0] ∧ w.heap.size ≤ gm ∧ st.plain = q ∧ Chg [] w w' ∧ ManO w0 w' gm g s p st false))) := by
 refine enter Tryz.func25 rfl rfl (by decide) rfl (e := [(0, ptrV g)]) ⟨rfl, trivial⟩ ?_
 unfold ptrV
 refine run ?_
 refine go T 9 rfl ?_
 refine o1 rfl ?_
 refine op_call rfl rfl rfl (readO_has x manNm) ?_
 rintro v1 w1 ⟨x1, hc1, h1⟩
 rw [hread] at h1
 obtain ⟨ub, rfl, hob, hfb⟩ : ∃ u, v1 = .tuple #[u, .int .i64 0] ∧ Own w1 5 1 u b.length (u8s b) ∧ ∀ h, u.ownBlock = some h → _ ≤ h := h1
 have hsb := hob.bytes
 obtain ⟨Ab, cb, rfl, _, _⟩ := hsb.form
 refine go T 11 rfl ?_
 refine neF rfl rfl rfl rfl (by omega) ?_
 refine go T 8 rfl ?_
 refine o1 rfl ?_
 refine op_call rfl rfl rfl (escan_has Ab b.length cb b w1 hsb hb) ?_
 rintro _ w2 ⟨u, E, rfl, hc2, hE, hEe⟩
 have x2 := x1.keep0 hc2
 have hc02 := hc1.trans' hc2
 have hsum : ∀ e ∈ (scanE b).1, Sums e := fun e he => by
  rw [← hEe] at he
  obtain ⟨xe, h1, rfl⟩ := List.mem_map.1 he
  exact (hE.each xe h1).2.1.sums
 have hq := loadP_ok (l := (scanE b).1) (first := true) (ok := (scanE b).2.2) p0_ok hsum
 have hlm : ∀ r, loadM b = r ↔ r = if (loadP (scanE b).1 true p0 (scanE b).2.2).2 = true ∧ (scanE b).1 ≠ [] then some (loadP (scanE b).1 true p0 (scanE b).2.2).1 else none := fun r => by unfold loadM; exact eq_comm
 generalize scanE b = sc at *
 obtain ⟨es, en, ok0⟩ := sc
 dsimp only at *
 have hEs := hE.own.readsK edL_len
 obtain ⟨Ae, ce, rfl, hel1, hel2⟩ := hEs.form
 unfold maxLen at hel2
 have hEone : ∀ xe ∈ E, ((edL xe).toArray.toList.all (·.oneCell')) = true := fun xe h => (hE.each xe h).1.oneA
 have hEI : ∀ xe ∈ E, EdI xe.e := fun xe h => (hE.each xe h).2.1
 refine go T 12 rfl ?_
 refine o1 rfl (op_build T rfl rfl rfl rfl rfl rfl ?_)
 refine o1 rfl (op_build T rfl rfl rfl rfl rfl rfl ?_)
 refine o1 rfl ?_
 refine op_box rfl rfl (fun gm w3 hs3 hc3 hgm => ?_)
 have hgm : Blk w3 gm 101 [.pointer (some ⟨g, 0, none⟩), .slice none 0 0, .slice none 0 0, .int .i64 1, .int .i64 1, .bool false] := hgm
 have hs3 : w2.heap.size ≤ gm := hs3
 have x3 := x2.keep0 hc3
 have hout : gm ∉ p.fp g := fun h => by have := x2.at_.lt gm h; omega
 have hgml := hgm.lt
 have hEf : ∀ xe ∈ E, Firm (gm :: p.fp g) w3 (fun w => EOwn w xe) := fun xe h w4 h4 => by
  have hc24 : Chg (p.fp g) w2 w4 := (hc3.mono (fun k hk _ => by cases hk)).trans h4 (fun k hk hlt => by
   rcases List.mem_cons.1 hk with rfl | hk
   ·omega
   ·exact hk)
  exact (hE.each xe h).1.keepB (hE.each xe h).2.2 hc24 (fun k hk => by have := x1.at_.lt k hk; omega)
 have hEs3 := hEs.keepR hc3
 have hst0 : Firm (gm :: p.fp g) w3 (fun w => StRd w (.slice none 0 0) (.slice none 0 0) ⟨[], [], 1, 1⟩) := fun w4 _ => ⟨SliceK.nil _ _ _, SliceK.nil _ _ _, fun q hq => by cases hq⟩
 have hz2 := hc02.size
 refine go T 12 rfl ?_
 refine W_loop (σ := Nat × StM × Bool) (fun t => [(4, .slice Ab b.length cb), (6, .slice Ae E.length ce), (7, .int .i64 (en : Nat)), (8, .bool t.2.2), (9, .pointer (some ⟨gm, 0, none⟩)), (32, .slice Ae E.length ce), (33, .int .i64 (E.length : Nat)), (34, .int .i64 (t.1 : Nat))])
  (fun t w' => t.1 ≤ E.length ∧ Chg [gm] w3 w' ∧ (t.2.1.plain, t.2.2) = loadP (es.take t.1) true p0 ok0 ∧ ∃ vs vp, Blk w' gm 101 [.pointer (some ⟨g, 0, none⟩), vs, vp, .int .i64 t.2.1.next, .int .i64 t.2.1.seq, .bool false] ∧ Firm (gm :: p.fp g) w' (fun w => StRd w vs vp t.2.1))
  (fun t => E.length - t.1) (0, ⟨[], [], 1, 1⟩, ok0) ⟨rfl, rfl, rfl, rfl, rfl, rfl, rfl, rfl, trivial⟩ ⟨Nat.zero_le _, Chg.refl _ _, rfl, _, _, hgm, hst0⟩ ?_
 rintro ⟨i, st, ok⟩ w4 ⟨hi, hc34, hlp, vs, vp, hgm4, hst⟩
 dsimp only at hi hlp hgm4 hst ⊢
 have hEl : E.length = es.length := by rw [← hEe, List.length_map]
 have hpok : POk st.plain := by
  have := loadP_ok (l := es.take i) (first := true) (ok := ok0) p0_ok (fun e he => hsum e (List.mem_of_mem_take he))
  rw [← hlp] at this
  exact this
 have hgm4l := hgm4.lt
 refine run ?_
 refine go T 2 rfl ?_
 refine ltS rfl rfl rfl rfl (fun hcmp => ?_) (fun hcmp => ?_)
 ·have hlt : i < E.length := by omega
  have hx := List.getElem?_eq_getElem hlt
  have hmem : E[i] ∈ E := List.getElem_mem _
  have hes : es[i]? = some E[i].e := by rw [← hEe, List.getElem?_map, hx]; rfl
  have hIx := hEI _ hmem
  have hFx := (hEf _ hmem).step hc34 (fun k hk _ => by simp at hk; simp [hk])
  have hone := hEone _ hmem
  have hEs4 : SliceK 6 (RdL edL) w4 (.slice Ae E.length ce) E := hEs.keepR ((hc3.trans hc34 (S := []) (fun k hk hlt => by simp at hk; omega)))
  obtain ⟨ad, rfl, helx⟩ := hEs4.at hx
  generalize E[i] = xe at *
  obtain ⟨e, xa, xd, xp, xr, Q⟩ := xe
  dsimp only [edL] at *
  obtain ⟨X, rfl⟩ := parS_of Q (fun q hq => ⟨own_one (hFx.now.prd q hq).nums, own_one (hFx.now.prd q hq).sizes⟩)
  refine go T 11 rfl ?_
  refine o1 rfl (op_indexK T rfl rfl rfl rfl rfl (by omega) ?_)
  refine o1 rfl (op_loadE T helx rfl rfl rfl rfl rfl ?_)
  refine o1 rfl ?_
  refine op_alloc T rfl rfl (fun g11 w5 hs5 hc5 hg11 => ?_)
  have hg11 : Blk w5 g11 49 [.int .i64 0, .int .i64 0, .slice none 0 0, .slice none 0 0, .slice none 0 0, .slice none 0 0] := hg11
  have hs5 : w4.heap.size ≤ g11 := hs5
  refine go T 1 rfl ?_
  refine op0 rfl rfl ?_
  refine op_store_agg T rfl rfl rfl rfl rfl hone hg11 (by exact Nat.le_of_ble_eq_true rfl) (fun w6 hc6 hg11 _ => ?_)
  replace hg11 : Blk w6 g11 49 [.int .i64 e.next, .int .i64 e.seq, xa, xd, xp, xr] := hg11
  have hc46 : Chg [] w4 w6 := hc5.trans hc6 (fun k hk hlt => by simp at hk; omega)
  have hne : g11 ≠ gm := by omega
  have hgm6 := hgm4.keep0 hc46
  have hst6 := hst.step0 hc46
  have hF6 := hFx.step0 hc46
  obtain ⟨k1, k2, k3, k4⟩ := plain_keys hpok
  obtain ⟨Avs, cvs, rfl, _, _⟩ := hst6.now.segs.form
  obtain ⟨Avp, cvp, rfl, _, _⟩ := hst6.now.pars.form
  have hXe : X.map (·.1.p) = e.pars := by
   have := hF6.now.parsE
   dsimp only at this
   rw [← this, List.map_map]; rfl
  refine go T 8 rfl ?_
  refine Q.W_walkf 15 14 [gm] fol (by kernel_rfl) (by kernel_rfl) ?_
  refine Q.Walk.plain rfl rfl (by intro val w_ hR hp; exact op_move rfl rfl ⟨Chg.refl _ _, rfl⟩) ?_; dsimp only [na1, na2]
  refine Q.Walk.plain rfl rfl (by intro val w_ hR hp; exact op_move rfl rfl ⟨Chg.refl _ _, rfl⟩) ?_; dsimp only [na1, na2]
  refine Q.Walk.plain rfl rfl (by intro val w_ hR hp; exact op_nilCheck rfl rfl ⟨Chg.refl _ _, rfl⟩) ?_; dsimp only [na1, na2]
  refine Q.Walk.plain rfl rfl (by intro val w_ hR hp; exact op_fieldAddr T rfl rfl rfl rfl rfl rfl rfl rfl ⟨Chg.refl _ _, rfl⟩) ?_; dsimp only [na1, na2]
  refine Q.Walk.plainP (v := .agg #[.slice Avs st.segs.length cvs, .slice Avp st.pars.length cvp, .int .i64 st.next, .int .i64 st.seq]) rfl rfl rfl (by intro val w_ hR hp; exact op_load_agg T rfl rfl rfl rfl (hgm6.keep0 hR) (by exact Nat.le_of_ble_eq_true rfl) (by exact rfl) ⟨Chg.refl _ _, rfl⟩) ?_; dsimp only [na1, na2]
  refine Q.Walk.plain (v := .agg #[.int .i64 e.next, .int .i64 e.seq, xa, xd, xp, xr]) rfl rfl (by intro val w_ hR hp; exact op_load_agg T rfl rfl rfl rfl (hg11.keep hR (by simpa using hne)) (by exact Nat.le_of_ble_eq_true rfl) (by exact rfl) ⟨Chg.refl _ _, rfl⟩) ?_; dsimp only [na1, na2]
  refine Q.Walk.plain rfl rfl (by intro val w_ hR hp; exact op_move rfl rfl ⟨Chg.refl _ _, rfl⟩) ?_; dsimp only [na1, na2]
  refine Q.Walk.plain (v := .bool (decide (i = 0))) rfl rfl (by intro val w_ hR hp; exact op_eql rfl rfl rfl (fun h => ⟨Chg.refl _ _, by rw [decide_eq_true (by omega)]⟩) (fun h => ⟨Chg.refl _ _, by rw [decide_eq_false (by omega)]⟩)) ?_; dsimp only [na1, na2]
  refine Q.Walk.rel rfl (fun v w' => ∃ u, v = .tuple #[u, .bool (applyM st e X (decide (i = 0))).isSome] ∧ stF (gm :: p.fp g) ((applyM st e X (decide (i = 0))).getD st) u w') rfl (fun v a b h hab => let ⟨u, h1, h2⟩ := h; ⟨u, h1, stF_step h2 hab (fun k hk _ => by simp at hk; simp [hk])⟩) ?_ ?_
  ·intro val w_ hR hp
   have hst_ := hst6.step hR (fun k hk _ => by simp at hk; simp [hk])
   have hF_ := hF6.step hR (fun k hk _ => by simp at hk; simp [hk])
   have hcall := apply_has st (.slice Avs st.segs.length cvs) (.slice Avp st.pars.length cvp) ⟨e, xa, xd, xp, xr, X.map (·.1)⟩ X (decide (i = 0)) w_ hst_.now.segs hst_.now.pars hIx hF_.now.rd rfl (by omega) (by omega) k1 k2
   refine op_call rfl rfl rfl hcall ?_
   rintro v w' ⟨h1, h2, h3⟩
   refine ⟨h1, ?_⟩
   cases hap : applyM st e X (decide (i = 0)) with
   | none => exact ⟨_, h2 hap, _, _, rfl, rfl, rfl, hst_.step0 h1⟩
   | some st' =>
    obtain ⟨ua, up, h4, h5, h6, h7, h8⟩ := h3 st' hap
    refine ⟨_, h4, ua, up, rfl, own_one h5, own_one h6, fun w1 hw1 => ?_⟩
    have hz4 := hc46.size
    have hz5 := hR.size
    have hin : ∀ k, w_.heap.size ≤ k → k ∉ gm :: p.fp g := fun k hk hm => by
     rcases List.mem_cons.1 hm with rfl | hm
     ·omega
     ·have := x1.at_.lt k hm; have := hc2.size; omega
    refine ⟨(own_firm h5 (fun k hk => hin k (h7 k hk)) w1 hw1).readsK segL_len, (own_firm h6 (fun k hk => hin k (h8 k hk)) w1 hw1).readsK parS_len, fun q hq => ?_⟩
    rcases applyM_pars hap hq with h | h
    ·exact (hst_.step0 h1 w1 hw1).prd q h
    ·exact ((hF_.step0 h1 w1 hw1).prd q.1 (List.mem_map.2 ⟨q, h, rfl⟩)).rd
  dsimp only [List.nil_append, List.cons_append]
  refine Q.Walk.rel rfl (fun v w' => ∃ u, v = .tuple #[u, .bool (applyM st e X (decide (i = 0))).isSome] ∧ stF (gm :: p.fp g) ((applyM st e X (decide (i = 0))).getD st) u w') rfl (fun v a b h hab => let ⟨u, h1, h2⟩ := h; ⟨u, h1, stF_step h2 hab (fun k hk _ => by simp at hk; simp [hk])⟩) ?_ ?_
  ·intro val w_ hR hp
   exact op_move rfl rfl ⟨Chg.refl _ _, hp 8 rfl _ _ rfl rfl⟩
  dsimp only [List.nil_append, List.cons_append]
  refine Q.Walk.rel rfl (stF (gm :: p.fp g) ((applyM st e X (decide (i = 0))).getD st)) rfl (fun v a b h hab => stF_step h hab (fun k hk _ => by simp at hk; simp [hk])) ?_ ?_
  ·intro val w_ hR hp
   obtain ⟨u, h1, h2⟩ := hp 9 rfl _ _ rfl rfl
   have h1 : val 9 = _ := h1
   exact op_extract rfl (show some (val 9) = _ by rw [h1]) rfl ⟨Chg.refl _ _, h2⟩
  dsimp only [List.nil_append, List.cons_append]
  refine Q.Walk.plain (v := .bool (applyM st e X (decide (i = 0))).isSome) rfl rfl ?_ ?_
  ·intro val w_ hR hp
   obtain ⟨u, h1, h2⟩ := hp 9 rfl _ _ rfl rfl
   have h1 : val 9 = _ := h1
   exact op_extract rfl (show some (val 9) = _ by rw [h1]) rfl ⟨Chg.refl _ _, rfl⟩
  dsimp only [List.nil_append, List.cons_append]
  refine Q.Walk.plain rfl rfl (by intro val w_ hR hp; exact op_nilCheck rfl rfl ⟨Chg.refl _ _, rfl⟩) ?_; dsimp only [na1, na2]
  refine Q.Walk.plain rfl rfl (by intro val w_ hR hp; exact op_fieldAddr T rfl rfl rfl rfl rfl rfl rfl rfl ⟨Chg.refl _ _, rfl⟩) ?_; dsimp only [na1, na2]
  refine Q.Walk.turn rfl (fun _ w' => ∃ ua up, Blk w' gm 101 [.pointer (some ⟨g, 0, none⟩), ua, up, .int .i64 ((applyM st e X (decide (i = 0))).getD st).next, .int .i64 ((applyM st e X (decide (i = 0))).getD st).seq, .bool false] ∧ Firm (gm :: p.fp g) w' (fun w => StRd w ua up ((applyM st e X (decide (i = 0))).getD st))) rfl (fun _ _ _ h hab => let ⟨ua, up, h1, h2⟩ := h; ⟨ua, up, h1.keep0 hab, h2.step0 hab⟩) ?_ ?_
  ·intro val w_ hR hp
   obtain ⟨ua, up, h1, h2, h3, h4⟩ := hp 10 rfl _ _ rfl rfl
   have h1 : val 10 = .agg #[ua, up, .int .i64 ((applyM st e X (decide (i = 0))).getD st).next, .int .i64 ((applyM st e X (decide (i = 0))).getD st).seq] := h1
   have hall : ([ua, up, Value.int .i64 ((applyM st e X (decide (i = 0))).getD st).next, Value.int .i64 ((applyM st e X (decide (i = 0))).getD st).seq].all (·.oneCell')) = true := by
    simp only [List.all_cons, List.all_nil, h2, h3, Bool.true_and]; rfl
   exact op_store_agg T rfl rfl (show some (val 10) = _ by rw [h1]) rfl rfl hall (hgm6.keep0 hR) (by exact Nat.le_of_ble_eq_true rfl) (fun w7 hc7 hn _ => ⟨hc7, ua, up, hn, h4.step hc7 (fun k hk _ => by simp at hk; simp [hk])⟩)
  refine Q.Walk.fin ?_
  intro val w7 hc67 _ hn
  obtain ⟨_, ua, up, hgm7, hst7⟩ := hn 14 (by omega) _ rfl rfl
  have hc37 : Chg [gm] w3 w7 := (hc34.trans' hc46).trans hc67 (fun k hk _ => hk)
  have hnext : (((applyM st e X (decide (i = 0))).getD st).plain, ok && (applyM st e X (decide (i = 0))).isSome) = loadP (es.take (i + 1)) true p0 ok0 := by
   have htk : es.take (i + 1) = es.take i ++ [e] := by rw [List.take_add_one, hes]; rfl
   have hem : (true && (es.take i).isEmpty) = decide (i = 0) := by
    rw [Bool.true_and]
    cases i with
    | zero => simp
    | succ i =>
     have : es.take (i + 1) ≠ [] := fun h => by
      have h5 := congrArg List.length h
      rw [List.length_take] at h5
      have := (List.getElem?_eq_some_iff.1 hes).1
      simp only [List.length_nil] at h5
      omega
     rw [show decide (i + 1 = 0) = false from by simp]
     simpa using this
   rw [htk, loadP_snoc, ← hlp, hem]
   dsimp only
   rw [← applyM_plain hXe]
   cases applyM st e X (decide (i = 0)) with
   | none => simp
   | some st' => simp
  generalize (applyM st e X (decide (i = 0))).isSome = sm at *
  generalize (applyM st e X (decide (i = 0))).getD st = st' at *
  refine WL_sub (e' := [(4, .slice Ab b.length cb), (6, .slice (some ad) E.length ce), (7, .int .i64 (en : Nat)), (8, .bool ok), (9, .pointer (some ⟨gm, 0, none⟩)), (32, .slice (some ad) E.length ce), (33, .int .i64 (E.length : Nat)), (34, .int .i64 (i : Nat)), (50, .bool sm)]) ⟨rfl, rfl, rfl, rfl, rfl, rfl, rfl, rfl, rfl, trivial⟩ ?_
  cases ok with
  | true =>
   cases sm with
   | true =>
    refine runL ?_
    refine go T 13 rfl ?_
    refine adI rfl rfl rfl rfl (by omega) (by omega) ?_
    refine go T 2 rfl ?_
    exact Round_n (i + 1, st', true) ⟨rfl, rfl, rfl, rfl, rfl, rfl, rfl, rfl, trivial⟩ ⟨by dsimp only; omega, hc37, hnext, ua, up, hgm7, hst7⟩ (by dsimp only; omega)
   | false =>
    refine runL ?_
    refine go T 13 rfl ?_
    refine adI rfl rfl rfl rfl (by omega) (by omega) ?_
    refine go T 2 rfl ?_
    exact Round_n (i + 1, st', false) ⟨rfl, rfl, rfl, rfl, rfl, rfl, rfl, rfl, trivial⟩ ⟨by dsimp only; omega, hc37, hnext, ua, up, hgm7, hst7⟩ (by dsimp only; omega)
  | false =>
   refine runL ?_
   refine go T 13 rfl ?_
   refine adI rfl rfl rfl rfl (by omega) (by omega) ?_
   refine go T 2 rfl ?_
   exact Round_n (i + 1, st', false) ⟨rfl, rfl, rfl, rfl, rfl, rfl, rfl, rfl, trivial⟩ ⟨by dsimp only; omega, hc37, hnext, ua, up, hgm7, hst7⟩ (by dsimp only; omega)
 ·obtain rfl : i = E.length := by omega
  rw [hEl, List.take_length] at hlp
  have hlm2 : ∀ r, loadM b = r ↔ r = if ok = true ∧ es ≠ [] then some st.plain else none := fun r => by rw [hlm, ← hlp]
  have hend : Chg [] w w4 := (hc02.trans' hc3).trans hc34 (fun k hk hlt => by simp at hk; omega)
  have x4 : FsO w0 w4 g s p := ⟨x3.chg.trans hc34 (fun k hk hlt => by simp at hk; have := x.chg.size; omega), x3.at_.keep hc34 (fun k hk hm => by simp at hm; subst hm; exact hout hk), x3.fresh⟩
  cases ok with
  | false =>
   refine go T 6 rfl ?_
   refine rndX ?_
   refine go T 23 rfl ?_
   exact post2 (.inl rfl) rfl rfl rfl ⟨fun _ => ⟨rfl, hend⟩, fun q h => by rw [hlm2] at h; simp at h⟩
  | true =>
   by_cases hn : E.length = 0
   ·have hes : es = [] := List.eq_nil_of_length_eq_zero (by omega)
    refine go T 6 rfl ?_
    refine rndX ?_
    refine go T 10 rfl ?_
    refine eqT rfl rfl rfl rfl (by omega) ?_
    refine go T 12 rfl ?_
    exact post2 (.inl rfl) rfl rfl rfl ⟨fun _ => ⟨rfl, hend⟩, fun q h => by rw [hlm2, hes] at h; simp at h⟩
   ·have hes : es ≠ [] := fun h => by rw [h] at hEl; simp only [List.length_nil] at hEl; omega
    have hsome : loadM b = some st.plain := by rw [hlm2, if_pos ⟨rfl, hes⟩]
    rw [hsome]
    have hfr : w0.heap.size ≤ gm := by have := x.chg.size; omega
    have hman : ManO w0 w4 gm g s p st false := ⟨x4, ⟨vs, vp, hgm4, hst⟩, hout, hfr⟩
    by_cases hlt : en < b.length
    ·obtain ⟨Avs, cvs, rfl, _, _⟩ := hst.now.segs.form
     obtain ⟨Avp, cvp, rfl, _, _⟩ := hst.now.pars.form
     have hQ : SliceK 5 (RdL parL) w4 (.slice Avp (st.pars.map (·.1)).length cvp) (st.pars.map (·.1)) := by rw [List.length_map]; exact par_reads hst.now.pars
     have hm' : ManB w4 gm g (.slice Avs st.segs.length cvs) (.slice Avp (st.pars.map (·.1)).length cvp) st.next st.seq false := by unfold ManB; rw [List.length_map]; exact hgm4
     have hlay := lay_has x4.at_ hm' hst.now.segs hQ (fun q hq => by obtain ⟨q', h1, rfl⟩ := List.mem_map.1 hq; exact hst.now.prd q' h1) (by rw [wholeM_plain]; exact wholeP_I hpok) hcalls
     refine go T 6 rfl ?_
     refine rndX ?_
     refine go T 10 rfl ?_
     refine eqF rfl rfl rfl rfl (by omega) ?_
     refine go T 12 rfl ?_
     refine ltT rfl rfl rfl rfl (by omega) ?_
     refine go T 6 rfl ?_
     refine o1 rfl ?_
     refine op_call rfl rfl rfl hlay ?_
     rintro v5 w5 ⟨_, hd⟩
     rw [wholeM_plain] at hd
     have hd := hd (by rw [encE_whole hpok])
     obtain ⟨hv5, hc5, p5, x5, hg5⟩ := fsDoneO x4 hd
     have hc45 : Chg (gm :: p.fp g) w4 w5 := hc5.mono (fun k hk _ => by simp [hk])
     have hc05 : Chg (p.fp g) w w5 := (hend.mono (fun k hk _ => by cases hk)).trans hc5 (fun k hk _ => hk)
     have hgr : Grows w g p p5 := fun k hk => (hg5 k hk).imp id (fun h => by have := hend.size; omega)
     have hm5 := hgm4.keep hc5 hout
     have hst5 := firm_grow hst hc45 hg5
     have hout5 : gm ∉ p5.fp g := fun h => by
      rcases hg5 gm h with h | h
      ·exact hout h
      ·omega
     generalize hr5 : writeM s manNm neuNm (encE (wholeP st.plain)).1 = r5 at *
     obtain ⟨s5, e5⟩ := r5
     dsimp only at hv5 x5
     subst hv5
     by_cases hz : e5 = 0
     ·subst hz
      refine go T 6 rfl ?_
      refine neF rfl rfl rfl rfl (by omega) ?_
      refine go T 13 rfl ?_
      refine post2 (.inl rfl) rfl rfl rfl ⟨fun h => (by cases h), fun q h => ?_⟩
      injection h with h
      subst h
      rw [hr5]
      exact ⟨hpok, fun _ => ⟨p5, hc05, hgr, x5, fun h => absurd rfl h, fun _ => ⟨gm, st, rfl, by omega, rfl, x5, ⟨_, _, hm5, hst5⟩, hout5, hfr⟩⟩, fun h => absurd hlt h⟩
     ·refine go T 6 rfl ?_
      refine neT rfl rfl rfl rfl (by omega) ?_
      refine go T 12 rfl ?_
      refine post2 (.inl rfl) rfl rfl rfl ⟨fun h => (by cases h), fun q h => ?_⟩
      injection h with h
      subst h
      rw [hr5]
      exact ⟨hpok, fun _ => ⟨p5, hc05, hgr, x5, fun _ => rfl, fun h => absurd h hz⟩, fun h => absurd hlt h⟩
    ·refine go T 6 rfl ?_
     refine rndX ?_
     refine go T 10 rfl ?_
     refine eqF rfl rfl rfl rfl (by omega) ?_
     refine go T 12 rfl ?_
     refine ltF rfl rfl rfl rfl (by omega) ?_
     refine go T 13 rfl ?_
     refine post2 (.inl rfl) rfl rfl rfl ⟨fun h => (by cases h), fun q h => ?_⟩
     injection h with h
     subst h
     exact ⟨hpok, fun h => absurd h hlt, fun _ => ⟨gm, st, rfl, by omega, rfl, hend, hman⟩⟩
end Go.Proofs.YtiadjkjlifnopaaGreatDoor.Tryz
/-! Files that have one file, in plain words; a file of other bytes takes its place. -/
namespace Go.Vc
open Go
/-! ### Files that have one file -/
structure OneAt (s : FsM) (room calls : Int) (nm : Nm) (b : List UInt8) (sy i : Nat) : Prop where
 room : s.room = room
 calls : s.calls = calls
 fail : s.fail = -1
 dir : s.dir = [(nm, i)]
 file : s.files[i]? = some ⟨b, sy⟩
structure Lasts (s : FsM) (nm : Nm) (i : Nat) : Prop where
 last : s.lasts = [(nm, i)]
 wait : s.waits = []
section
variable {s : FsM} {room calls : Int} {nm : Nm} {b c : List UInt8} {sy i : Nat}
theorem OneAt.lt (h : OneAt s room calls nm b sy i) : i < s.files.length := (List.getElem?_eq_some_iff.1 h.file).1
theorem OneAt.nofail (h : OneAt s room calls nm b sy i) : failsM s = false := by unfold failsM; rw [h.fail]; rfl
theorem OneAt.used (h : OneAt s room calls nm b sy i) : usedM s = b.length := by simp [usedM, h.dir, lenOf, h.file]
theorem OneAt.looks (h : OneAt s room calls nm b sy i) : Go.Vc.looks s.dir nm = some i := by rw [h.dir]; simp [Go.Vc.looks]
theorem OneAt.read (h : OneAt s room calls nm b sy i) : readM s nm = some b := by simp [readM, h.looks, h.file]
theorem one_append (h : OneAt s room calls nm b sy i) (hr : (b.length : Int) + c.length ≤ room) : (appendM s nm c).2 = 0 ∧ OneAt (appendM s nm c).1 room (calls + 1) nm (b ++ c) sy i ∧ (∀ j, Lasts s nm j → Lasts (appendM s nm c).1 nm j) := by
 have hu : usedM (callM s) = b.length := h.used
 have hl : Go.Vc.looks (callM s).dir nm = some i := h.looks
 have hrm : (callM s).room = room := h.room
 have e : appendM s nm c = ({ callM s with files := (callM s).files.modify i fun f => { f with b := f.b ++ c } }, 0) := by
  unfold appendM
  dsimp only
  rw [h.nofail, hl, hu]
  dsimp only
  rw [if_neg (by simp), if_neg (by rw [hrm]; omega)]
 rw [e]
 refine ⟨rfl, ⟨h.room, by show s.calls + 1 = _; rw [h.calls], by show max (s.fail - 1) (-1) = -1; rw [h.fail]; rfl, h.dir, ?_⟩, fun j hj => ⟨hj.last, hj.wait⟩⟩
 show (s.files.modify i _)[i]? = _
 rw [List.getElem?_modify, h.file]; simp
theorem one_sync (h : OneAt s room calls nm b sy i) : (syncM s nm).2 = 0 ∧ OneAt (syncM s nm).1 room (calls + 1) nm b b.length i ∧ (∀ j, Lasts s nm j → Lasts (syncM s nm).1 nm j) := by
 have hl : Go.Vc.looks (callM s).dir nm = some i := h.looks
 have e : syncM s nm = ({ callM s with files := (callM s).files.modify i fun f => { f with synced := f.b.length } }, 0) := by
  unfold syncM
  dsimp only
  rw [h.nofail, hl]
  dsimp only
  rw [if_neg (by simp)]
 rw [e]
 refine ⟨rfl, ⟨h.room, by show s.calls + 1 = _; rw [h.calls], by show max (s.fail - 1) (-1) = -1; rw [h.fail]; rfl, h.dir, ?_⟩, fun j hj => ⟨hj.last, hj.wait⟩⟩
 show (s.files.modify i _)[i]? = _
 rw [List.getElem?_modify, h.file]; simp
theorem one_syncDir (h : OneAt s room calls nm b sy i) : (syncDirM s).2 = 0 ∧ OneAt (syncDirM s).1 room (calls + 1) nm b sy i ∧ Lasts (syncDirM s).1 nm i := by
 have e : syncDirM s = ({ callM s with lasts := (callM s).dir, waits := [] }, 0) := by
  unfold syncDirM
  dsimp only
  rw [h.nofail, if_neg (by simp)]
 rw [e]
 exact ⟨rfl, ⟨h.room, by show s.calls + 1 = _; rw [h.calls], by show max (s.fail - 1) (-1) = -1; rw [h.fail]; rfl, h.dir, h.file⟩, h.dir, rfl⟩
theorem one_crash (h : OneAt s room calls nm b sy i) (hl : Lasts s nm i) : OneAt (crashM s 0 []) room 0 nm (b.take sy) sy 0 := by
 have ed : crashDir s 0 = [(nm, i)] := by unfold crashDir; rw [hl.last]; rfl
 unfold crashM
 rw [ed]
 refine ⟨h.room, rfl, rfl, rfl, ?_⟩
 simp [crashFiles, h.file, cutM, tailOf]
def AtMost (s : FsM) (nm : Nm) (u : Nat) : Prop := (s.dir = [] ∧ u = 0) ∨ ∃ i f, s.dir = [(nm, i)] ∧ s.files[i]? = some f ∧ f.b.length = u
theorem OneAt.most (h : OneAt s room calls nm b sy i) : AtMost s nm b.length := .inr ⟨i, _, h.dir, h.file, rfl⟩
theorem most_write {u : Nat} (h0 : AtMost s nm u) (hr0 : s.room = room) (hc0 : s.calls = calls) (hf0 : s.fail = -1) (bes : Nm) (hne : nm ≠ bes) (hm1 : mayM nm = true) (hm2 : mayM bes = true) (hr : (u : Int) + c.length ≤ room) : (writeM s nm bes c).2 = 0 ∧ OneAt (writeM s nm bes c).1 room (calls + 5) nm c c.length s.files.length ∧ Lasts (writeM s nm bes c).1 nm s.files.length := by
 have hfl : ∀ t : FsM, t.fail = -1 → failsM t = false := fun t e => by unfold failsM; rw [e]; rfl
 have hcf : ∀ t : FsM, t.fail = -1 → (callM t).fail = -1 := fun t e => by show max (t.fail - 1) (-1) = -1; rw [e]; rfl
 have hne' : ¬ bes = nm := fun e => hne e.symm
 have hfew : (callM s).dir.length < 150 := by
  show s.dir.length < 150
  rcases h0 with ⟨h, _⟩ | ⟨i, f, h, _⟩ <;> rw [h] <;> simp
 -- made
 have e1 : createM s bes = (changeM { callM s with files := (callM s).files ++ [⟨[], 0⟩] } ⟨0, bes, [], some (callM s).files.length⟩, 0) := by
  unfold createM
  dsimp only
  rw [hfl s hf0, if_neg (by simp), hm2, if_neg (by simp), if_neg (by simp; omega)]
 obtain ⟨s1, hs1⟩ : ∃ s1, s1 = changeM { callM s with files := (callM s).files ++ [⟨[], 0⟩] } ⟨0, bes, [], some (callM s).files.length⟩ := ⟨_, rfl⟩
 rw [← hs1] at e1
 have d1 : s1.dir = ins s.dir bes s.files.length := by rw [hs1]; rfl
 have f1 : s1.files = s.files ++ [⟨[], 0⟩] := by rw [hs1]; rfl
 have r1 : s1.room = room := by rw [hs1]; exact hr0
 have c1 : s1.calls = calls + 1 := by rw [hs1]; show s.calls + 1 = _; rw [hc0]
 have l1 : s1.fail = -1 := by rw [hs1]; exact hcf s hf0
 have fn1 : s1.files[s.files.length]? = some ⟨[], 0⟩ := by rw [f1, List.getElem?_append_right (Nat.le_refl _), Nat.sub_self]; rfl
 have u1 : usedM s1 = u := by
  rcases h0 with ⟨h, hu⟩ | ⟨i, f, h, hf, hu⟩
  ·simp [usedM, d1, h, ins, lenOf, fn1, hu]
  ·have fi1 : s1.files[i]? = some f := by rw [f1, List.getElem?_append_left (List.getElem?_eq_some_iff.1 hf).1]; exact hf
   rw [usedM, d1, h]
   simp only [ins, if_neg hne]
   split
   ·simp [lenOf, fi1, fn1, hu]
   ·simp [lenOf, fi1, fn1, hu]
 have k1 : Go.Vc.looks s1.dir bes = some s.files.length := by
  rw [d1]
  rcases h0 with ⟨h, hu⟩ | ⟨i, f, h, hf, hu⟩
  ·simp [h, ins, Go.Vc.looks]
  ·rw [h]
   simp only [ins, if_neg hne]
   split
   ·simp [Go.Vc.looks]
   ·simp [Go.Vc.looks, hne]
 have dd : doM s1.dir ⟨1, bes, nm, none⟩ = [(nm, s.files.length)] := by
  have k1' := k1
  unfold doM
  dsimp only
  rw [if_neg (by decide), if_pos rfl, k1']
  dsimp only
  rw [d1]
  rcases h0 with ⟨h, hu⟩ | ⟨i, f, h, hf, hu⟩
  ·simp [h, ins, del]
  ·rw [h]
   simp only [ins, if_neg hne]
   split
   ·simp [del, ins, hne, nm_lt_irrefl]
   ·simp [del, ins, hne, nm_lt_irrefl]
 clear hs1
 generalize s.files.length = n at *
 -- appended
 have e2 : appendM s1 bes c = ({ callM s1 with files := (callM s1).files.modify n fun f => { f with b := f.b ++ c } }, 0) := by
  unfold appendM
  dsimp only
  rw [hfl s1 l1, show Go.Vc.looks (callM s1).dir bes = some n from k1, show usedM (callM s1) = u from u1]
  dsimp only
  rw [if_neg (by simp), if_neg (by show ¬ s1.room - _ < _; rw [r1]; omega)]
 obtain ⟨s2, hs2⟩ : ∃ s2, s2 = { callM s1 with files := (callM s1).files.modify n fun f => { f with b := f.b ++ c } } := ⟨_, rfl⟩
 rw [← hs2] at e2
 have d2 : s2.dir = s1.dir := by rw [hs2]; rfl
 have r2 : s2.room = room := by rw [hs2]; exact r1
 have c2 : s2.calls = calls + 2 := by rw [hs2]; show s1.calls + 1 = _; rw [c1]; omega
 have l2 : s2.fail = -1 := by rw [hs2]; exact hcf s1 l1
 have fn2 : s2.files[n]? = some ⟨c, 0⟩ := by
  rw [hs2]
  show (s1.files.modify n _)[n]? = _
  rw [List.getElem?_modify, fn1]; simp
 clear hs2
 -- synced
 have e3 : syncM s2 bes = ({ callM s2 with files := (callM s2).files.modify n fun f => { f with synced := f.b.length } }, 0) := by
  unfold syncM
  dsimp only
  rw [hfl s2 l2, show Go.Vc.looks (callM s2).dir bes = some n from by show Go.Vc.looks s2.dir bes = _; rw [d2]; exact k1]
  dsimp only
  rw [if_neg (by simp)]
 obtain ⟨s3, hs3⟩ : ∃ s3, s3 = { callM s2 with files := (callM s2).files.modify n fun f => { f with synced := f.b.length } } := ⟨_, rfl⟩
 rw [← hs3] at e3
 have d3 : s3.dir = s1.dir := by rw [hs3]; exact d2
 have r3 : s3.room = room := by rw [hs3]; exact r2
 have c3 : s3.calls = calls + 3 := by rw [hs3]; show s2.calls + 1 = _; rw [c2]; omega
 have l3 : s3.fail = -1 := by rw [hs3]; exact hcf s2 l2
 have fn3 : s3.files[n]? = some ⟨c, c.length⟩ := by
  rw [hs3]
  show (s2.files.modify n _)[n]? = _
  rw [List.getElem?_modify, fn2]; simp
 clear hs3
 -- named
 have e4 : renameM s3 bes nm = (changeM (callM s3) ⟨1, bes, nm, none⟩, 0) := by
  unfold renameM
  dsimp only
  rw [hfl s3 l3, if_neg (by simp), show Go.Vc.looks (callM s3).dir bes = some n from by show Go.Vc.looks s3.dir bes = _; rw [d3]; exact k1, if_neg (by simp), hm1, if_neg (by simp)]
 obtain ⟨s4, hs4⟩ : ∃ s4, s4 = changeM (callM s3) ⟨1, bes, nm, none⟩ := ⟨_, rfl⟩
 rw [← hs4] at e4
 have o4 : OneAt s4 room (calls + 4) nm c c.length n := by
  refine ⟨by rw [hs4]; exact r3, by rw [hs4]; show s3.calls + 1 = _; rw [c3]; omega, by rw [hs4]; exact hcf s3 l3, ?_, by rw [hs4]; exact fn3⟩
  rw [hs4]
  show doM s3.dir ⟨1, bes, nm, none⟩ = _
  rw [d3]; exact dd
 obtain ⟨a5, o5, las5⟩ := one_syncDir o4
 have e : writeM s nm bes c = syncDirM s4 := by
  unfold writeM
  simp [writeG, writeK, e1, e2, e3, e4, a5]
  rw [← a5]
 rw [e]
 refine ⟨a5, ?_, las5⟩
 rw [show calls + 5 = calls + 4 + 1 from by omega]
 exact o5
end
end Go.Vc
