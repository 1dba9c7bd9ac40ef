import Derived.Test.YtbhnplghnhafiaaDoorDsk5
/-! Files: Rename, Remove, SyncDir. -/
set_option linter.unusedVariables false
set_option linter.unusedSimpArgs false
namespace Go.Proofs.YtbhnplghnhafiaaDoor.Tryd
open Go Go.Vc

set_option maxHeartbeats 4000000 in
theorem rename_has (g : Nat) (s : FsM) (p : FsP) (k k' : Nm) (w : World) (x : FsAt w g s p) (hk : k'.length ≤ maxLen) (hcalls : s.calls < 1000000000 - 1) :
    Has Go.Proofs.Tryd.prog 60 #[ptrV g, .string (str k), .string (str k')] w (FsDone w g p (renameM s k k')) := by
  refine enter Go.Proofs.Tryd.func60 rfl rfl (by decide) rfl (e := [(0, ptrV g), (1, .string (str k)), (2, .string (str k'))]) ⟨rfl, rfl, rfl, trivial⟩ ?_
  unfold ptrV
  repeat (first | refine W_seq ?_ | refine W_region ?_ | refine Then_n ?_ | refine WL_nil ?_ | refine WL_some rfl rfl rfl ?_ | refine op_move rfl rfl ?_ | refine op_assign rfl rfl ?_)
  refine op_call rfl rfl rfl (call_has g s p w x (by omega)) ?_
  rintro _ w1 ⟨hc1, rfl, x1⟩
  have hcc : (callM s).calls < 1000000000 := by show s.calls + 1 < _; omega
  cases hfm : failsM s with
  | true =>
    have hr : renameM s k k' = (callM s, 5) := by unfold renameM; simp [hfm]
    rw [if_pos rfl]
    repeat (first | refine W_seq ?_ | refine W_region ?_ | refine W_ret ?_ | refine Then_n ?_ | refine Then_r ?_ | refine WL_nil ?_ | refine W_condT rfl ?_ | refine WL_some rfl rfl rfl ?_ | refine op_move rfl rfl ?_ | refine op_assign rfl rfl ?_ | refine op_neq rfl rfl rfl (fun hc => ?_) (fun hc => False.elim (by omega)))
    refine post1 (.inl rfl) rfl rfl ?_
    rw [hr]; exact ⟨chg_self hc1, rfl, p, x1, Grows.refl _ _ _⟩
  | false =>
  rw [if_neg (by simp)]
  have hb1 := x1.blk
  cases hl : looks (callM s).dir k with
  | none =>
    have hr : renameM s k k' = (callM s, 3) := by unfold renameM; simp [hfm, hl]
    repeat (first | refine W_seq ?_ | refine W_block ?_ | refine W_region ?_ | refine W_skip ?_ | refine Then_n ?_ | refine WL_nil ?_ | refine W_condF rfl ?_ | refine WL_some rfl rfl rfl ?_ | refine op_move rfl rfl ?_ | refine op_assign rfl rfl ?_ | refine op_nilCheck rfl rfl ?_ | refine op_neq rfl rfl rfl (fun hc => False.elim (by omega)) (fun hc => ?_) | refine op_fieldAddr T rfl rfl rfl rfl rfl rfl rfl rfl ?_ | refine op_loadB T rfl rfl rfl rfl (by assumption) (by exact rfl) ?_)
    refine op_lookup_v T strKey rfl rfl rfl rfl rfl rfl x1.dirM (v := .pointer none) (fun b hb => by rw [at2_none hl] at hb; cases hb) (fun _ => rfl) ?_
    repeat (first | refine W_seq ?_ | refine W_region ?_ | refine W_ret ?_ | refine Then_n ?_ | refine Then_r ?_ | refine InBlock_r ?_ | refine WL_nil ?_ | refine W_condT rfl ?_ | refine WL_some rfl rfl rfl ?_ | refine op_assign rfl rfl ?_ | refine op_eql_nilptr T rfl rfl rfl rfl rfl ?_)
    refine post1 (.inl rfl) rfl rfl ?_
    rw [hr]; exact ⟨chg_self hc1, rfl, p, x1, Grows.refl _ _ _⟩
  | some i =>
  obtain ⟨q, f, hq, hfi⟩ := x1.get hl
  repeat (first | refine W_seq ?_ | refine W_block ?_ | refine W_region ?_ | refine W_skip ?_ | refine Then_n ?_ | refine WL_nil ?_ | refine W_condF rfl ?_ | refine WL_some rfl rfl rfl ?_ | refine op_move rfl rfl ?_ | refine op_assign rfl rfl ?_ | refine op_nilCheck rfl rfl ?_ | refine op_neq rfl rfl rfl (fun hc => False.elim (by omega)) (fun hc => ?_) | refine op_fieldAddr T rfl rfl rfl rfl rfl rfl rfl rfl ?_ | refine op_loadB T rfl rfl rfl rfl (by assumption) (by exact rfl) ?_)
  refine op_lookup_v T strKey rfl rfl rfl rfl rfl rfl x1.dirM (v := ptrV q.1) (fun b hb => by rw [at2_some hl hq] at hb; injection hb with hb; rw [hb]) (fun hn => by rw [at2_some hl hq] at hn; cases hn) ?_
  unfold ptrV
  repeat (first | refine W_seq ?_ | refine W_region ?_ | refine Then_n ?_ | refine WL_nil ?_ | refine W_condF rfl ?_ | refine WL_some rfl rfl rfl ?_ | refine op_move rfl rfl ?_ | refine op_assign rfl rfl ?_ | refine op_eql_nilptr T rfl rfl rfl rfl rfl ?_)
  refine op_call rfl rfl rfl (may_has k' w1 hk) ?_
  rintro _ w1 ⟨rfl, rfl⟩
  cases hmay : mayM k' with
  | false =>
    have hr : renameM s k k' = (callM s, 10) := by unfold renameM; simp [hfm, hl, hmay]
    repeat (first | refine W_seq ?_ | refine W_region ?_ | refine W_ret ?_ | refine Then_n ?_ | refine Then_r ?_ | refine InBlock_r ?_ | refine WL_nil ?_ | refine W_condT rfl ?_ | refine WL_some rfl rfl rfl ?_ | refine op_assign rfl rfl ?_ | refine op_notF rfl rfl ?_)
    refine post1 (.inl rfl) rfl rfl ?_
    rw [hr]; exact ⟨chg_self hc1, rfl, p, x1, Grows.refl _ _ _⟩
  | true =>
  have hr : renameM s k k' = (changeM (callM s) ⟨1, k, k', none⟩, 0) := by unfold renameM; simp [hfm, hl, hmay]
  have hok := renameM_ok x.ok k k'
  rw [hr] at hok
  have hcv : chV p.fb ⟨1, k, k', none⟩ = [.int .i64 ((1 : Nat) : Int), .string (str k), .string (str k'), .pointer none] := rfl
  have hcall := change_has g _ _ ⟨1, k, k', none⟩ w1 x1 ⟨fun e => by simp at e, fun _ => by simp [hl]⟩ (fun i hi => by cases hi) hok hcc
  rw [hcv] at hcall
  repeat (first | refine W_seq ?_ | refine W_region ?_ | refine W_skip ?_ | refine Then_n ?_ | refine InBlock_n ?_ | refine WL_nil ?_ | refine W_condF rfl ?_ | refine WL_some rfl rfl rfl ?_ | refine op_move rfl rfl ?_ | refine op_assign rfl rfl ?_ | refine op_notT rfl rfl ?_ | refine op_build T rfl rfl rfl rfl rfl rfl ?_)
  refine op_call rfl rfl rfl hcall ?_
  rintro _ w2 ⟨hc2, rfl, wv', x2, hgr⟩
  repeat (first | refine W_ret ?_ | refine Then_n ?_ | refine WL_nil ?_ | refine WL_some rfl rfl rfl ?_ | refine op_assign rfl rfl ?_)
  refine post1 (.inl rfl) rfl rfl ?_
  rw [hr]
  exact ⟨(chg_self hc1).fps (Grows.refl _ _ _) hc2, rfl, _, x2, (Grows.refl _ _ _).trans hgr hc1.size⟩

/-- The lasting directory is now a copy of the one that is. -/
theorem FsAt.syncD {w w' : World} {g : Nat} {s : FsM} {p : FsP} (x : FsAt w g s p) (hc : Chg [g] w w') {ml : Nat} (hb : Blk w' g 56 [.int .i64 s.room, .map (some p.md), .map (some ml), .slice none 0 0, .int .i64 s.calls, .int .i64 s.fail])
    (hm : MapAt keyV ptrV w' ml (at2 p.fb s.dir)) (hne : p.md ≠ ml) (hok : FsOk { s with lasts := s.dir, waits := [] }) : FsAt w' g { s with lasts := s.dir, waits := [] } { p with ml := ml, wv := .slice none 0 0 } := by
  have hrow : ∀ k t cs, Blk w k t cs → t ≠ 56 → k ∉ [g] := fun k t cs hk h1 hm => by
    simp at hm; subst hm
    exact hk.ne_ x.blk h1 rfl
  refine ⟨hok, hb, x.dirM.keep hc (by simpa using x.dirM.ne_blk x.blk), hm, Own.nil _ _ _, x.len, fun i q f hq hf => ?_, fun i q f hq hf => ?_, hne, x.apart2, x.apart3⟩
  · have h1 := x.fblk i q f hq hf
    exact h1.keep hc (hrow _ _ _ h1 (by decide))
  · refine (x.fown i q f hq hf).keep hc (fun h hh => ?_)
    obtain ⟨cur, hr⟩ := (x.fown i q f hq hf).row hh
    exact hrow _ _ _ hr (by decide)

set_option maxHeartbeats 2000000 in
theorem syncDir_has (g : Nat) (s : FsM) (p : FsP) (w : World) (x : FsAt w g s p) (hcalls : s.calls < 1000000000 - 1) :
    Has Go.Proofs.Tryd.prog 24 #[ptrV g] w (FsDone w g p (syncDirM s)) := by
  refine enter Go.Proofs.Tryd.func24 rfl rfl (by decide) rfl (e := [(0, ptrV g)]) ⟨rfl, trivial⟩ ?_
  unfold ptrV
  repeat (first | refine W_seq ?_ | refine W_region ?_ | refine Then_n ?_ | refine WL_nil ?_ | refine WL_some rfl rfl rfl ?_ | refine op_move rfl rfl ?_ | refine op_assign rfl rfl ?_)
  refine op_call rfl rfl rfl (call_has g s p w x (by omega)) ?_
  rintro _ w1 ⟨hc1, rfl, x1⟩
  cases hfm : failsM s with
  | true =>
    have hr : syncDirM s = (callM s, 5) := by unfold syncDirM; simp [hfm]
    rw [if_pos rfl]
    repeat (first | refine W_seq ?_ | refine W_region ?_ | refine W_ret ?_ | refine Then_n ?_ | refine Then_r ?_ | refine WL_nil ?_ | refine W_condT rfl ?_ | refine WL_some rfl rfl rfl ?_ | refine op_move rfl rfl ?_ | refine op_assign rfl rfl ?_ | refine op_neq rfl rfl rfl (fun hc => ?_) (fun hc => False.elim (by omega)))
    refine post1 (.inl rfl) rfl rfl ?_
    rw [hr]; exact ⟨chg_self hc1, rfl, p, x1, Grows.refl _ _ _⟩
  | false =>
  rw [if_neg (by simp)]
  have hb1 := x1.blk
  have hr : syncDirM s = ({ callM s with lasts := (callM s).dir, waits := [] }, 0) := by unfold syncDirM; simp [hfm]
  have hok := syncDirM_ok x.ok
  rw [hr] at hok
  repeat (first | refine W_seq ?_ | refine W_region ?_ | refine W_skip ?_ | refine Then_n ?_ | refine WL_nil ?_ | refine W_condF rfl ?_ | refine WL_some rfl rfl rfl ?_ | refine op_move rfl rfl ?_ | refine op_assign rfl rfl ?_ | refine op_nilCheck rfl rfl ?_ | refine op_neq rfl rfl rfl (fun hc => False.elim (by omega)) (fun hc => ?_) | refine op_fieldAddr T rfl rfl rfl rfl rfl rfl rfl rfl ?_ | refine op_loadB T rfl rfl rfl rfl (by assumption) (by exact rfl) ?_)
  refine op_call rfl rfl rfl (cloneD_has x1.dirM) ?_
  rintro _ w2 ⟨ml, rfl, hml, hc2, hm2⟩
  have x2 := x1.keep0 hc2
  have hb2 := x2.blk
  repeat (first | refine WL_some rfl rfl rfl ?_ | refine WL_none rfl rfl ?_ | refine op_nilCheck rfl rfl ?_ | refine op_fieldAddr T rfl rfl rfl rfl rfl rfl rfl rfl ?_)
  refine op_store T rfl rfl rfl rfl rfl rfl hb2 (Nat.le_of_ble_eq_true rfl) (fun w3 hc3 hb3 _ => ?_)
  have hb3 : Blk w3 g 56 [.int .i64 (callM s).room, .map (some p.md), .map (some ml), p.wv, .int .i64 (callM s).calls, .int .i64 (callM s).fail] := hb3
  repeat (first | refine WL_some rfl rfl rfl ?_ | refine WL_none rfl rfl ?_ | refine op_nilCheck rfl rfl ?_ | refine op_fieldAddr T rfl rfl rfl rfl rfl rfl rfl rfl ?_)
  refine op_store T rfl rfl rfl rfl rfl rfl hb3 (Nat.le_of_ble_eq_true rfl) (fun w4 hc4 hb4 _ => ?_)
  have hb4 : Blk w4 g 56 [.int .i64 (callM s).room, .map (some p.md), .map (some ml), .slice none 0 0, .int .i64 (callM s).calls, .int .i64 (callM s).fail] := hb4
  repeat (first | refine W_seq ?_ | refine W_region ?_ | refine W_ret ?_ | refine Then_n ?_ | refine WL_nil ?_ | refine WL_some rfl rfl rfl ?_ | refine op_assign rfl rfl ?_)
  have hc24 : Chg [g] w2 w4 := hc3.trans hc4 (fun _ h _ => h)
  have hmd := x1.dirM.lt
  have x4 := x2.syncD hc24 hb4 (hm2.keep hc24 (by simpa using hm2.ne_blk hb2)) (by omega) hok
  refine post1 (.inl rfl) rfl rfl ?_
  rw [hr]
  refine ⟨chg_self ((hc1.trans' hc2).trans hc24 (fun _ h _ => h)), rfl, _, x4, fun k hk => ?_⟩
  rcases FsP.mem_fp.1 hk with h | h | h | h | h
  · exact .inl (FsP.mem_fp.2 (.inl h))
  · exact .inl (FsP.mem_fp.2 (.inr (.inl h)))
  · have h : k = ml := h
    exact .inr (by have := hc1.size; omega)
  · cases h
  · exact .inl (FsP.mem_fp.2 (.inr (.inr (.inr (.inr h)))))
end Go.Proofs.YtbhnplghnhafiaaDoor.Tryd
