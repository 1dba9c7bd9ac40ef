import Derived.Test.YtbhnplghnhafiaaDoorDsk4
/-! Files: Create. -/
set_option linter.unusedVariables false
set_option linter.unusedSimpArgs false
namespace Go.Proofs.YtbhnplghnhafiaaDoor.Tryd
open Go Go.Vc

set_option maxHeartbeats 8000000 in
theorem create_has (g : Nat) (s : FsM) (p : FsP) (k : Nm) (w : World) (x : FsAt w g s p) (hk : k.length ≤ maxLen) (hcalls : s.calls < 1000000000 - 1) :
    Has Go.Proofs.Tryd.prog 28 #[ptrV g, .string (str k)] w (FsDone w g p (createM s k)) := by
  refine enter Go.Proofs.Tryd.func28 rfl rfl (by decide) rfl (e := [(0, ptrV g), (1, .string (str k))]) ⟨rfl, rfl, trivial⟩ ?_
  unfold ptrV
  repeat (first | refine W_seq ?_ | refine W_region ?_ | refine Then_n ?_ | refine WL_nil ?_ | refine WL_some rfl rfl rfl ?_ | refine op_move rfl rfl ?_ | refine op_assign rfl rfl ?_)
  refine op_call rfl rfl rfl (call_has g s p w x (by omega)) ?_
  rintro _ w1 ⟨hc1, rfl, x1⟩
  have hcc : (callM s).calls < 1000000000 := by show s.calls + 1 < _; omega
  cases hfm : failsM s with
  | true =>
    have hr : createM s k = (callM s, 5) := by unfold createM; simp [hfm]
    rw [if_pos rfl]
    repeat (first | refine W_seq ?_ | refine W_region ?_ | refine W_ret ?_ | refine Then_n ?_ | refine Then_r ?_ | refine WL_nil ?_ | refine W_condT rfl ?_ | refine WL_some rfl rfl rfl ?_ | refine op_move rfl rfl ?_ | refine op_assign rfl rfl ?_ | refine op_neq rfl rfl rfl (fun hc => ?_) (fun hc => False.elim (by omega)))
    refine post1 (.inl rfl) rfl rfl ?_
    rw [hr]; exact ⟨chg_self hc1, rfl, p, x1, Grows.refl _ _ _⟩
  | false =>
  rw [if_neg (by simp)]
  repeat (first | refine W_seq ?_ | refine W_block ?_ | refine W_region ?_ | refine W_skip ?_ | refine Then_n ?_ | refine WL_nil ?_ | refine W_condF rfl ?_ | refine WL_some rfl rfl rfl ?_ | refine op_move rfl rfl ?_ | refine op_assign rfl rfl ?_ | refine op_neq rfl rfl rfl (fun hc => False.elim (by omega)) (fun hc => ?_))
  refine op_call rfl rfl rfl (may_has k w1 hk) ?_
  rintro _ w1 ⟨rfl, rfl⟩
  cases hmay : mayM k with
  | false =>
    have hr : createM s k = (callM s, 10) := by unfold createM; simp [hfm, hmay]
    repeat (first | refine W_seq ?_ | refine W_region ?_ | refine W_ret ?_ | refine Then_n ?_ | refine Then_r ?_ | refine InBlock_r ?_ | refine WL_nil ?_ | refine W_condT rfl ?_ | refine WL_some rfl rfl rfl ?_ | refine op_assign rfl rfl ?_ | refine op_notF rfl rfl ?_)
    refine post1 (.inl rfl) rfl rfl ?_
    rw [hr]; exact ⟨chg_self hc1, rfl, p, x1, Grows.refl _ _ _⟩
  | true =>
  have hb1 := x1.blk
  have hd1 := x1.dirOk
  have hend : ∀ w2, Chg [] w1 w2 → ((looks (callM s).dir k).isNone && decide (150 ≤ (callM s).dir.length)) = false →
      createM s k = (changeM { callM s with files := (callM s).files ++ [⟨[], 0⟩] } ⟨0, k, [], some (callM s).files.length⟩, 0) := fun w2 hc2 hn => by
    unfold createM
    simp only [hfm, hmay]
    rw [hn]
    simp
  have hok : ((looks (callM s).dir k).isNone && decide (150 ≤ (callM s).dir.length)) = false → FsOk (changeM { callM s with files := (callM s).files ++ [⟨[], 0⟩] } ⟨0, k, [], some (callM s).files.length⟩) := fun hn => by
    have := createM_ok x.ok k
    rw [hend w1 (Chg.refl _ _) hn] at this; exact this
  have hfile : FsOk { callM s with files := (callM s).files ++ [⟨[], 0⟩] } := by
    have h1 := x1.ok
    exact ⟨h1.room0, h1.room1, h1.calls0, h1.fail0, h1.fail1, fun f hf => by
      rcases List.mem_append.1 hf with hf | hf
      · exact h1.files f hf
      · simp at hf; subst hf; simp, h1.replay.more (by simp), h1.waits⟩
  cases hl : looks (callM s).dir k with
  | none =>
    repeat (first | refine W_seq ?_ | refine W_region ?_ | refine Then_n ?_ | refine WL_nil ?_ | refine W_condF rfl ?_ | refine WL_some rfl rfl rfl ?_ | refine op_move rfl rfl ?_ | refine op_assign rfl rfl ?_ | refine op_notT rfl rfl ?_ | refine op_nilCheck rfl rfl ?_ | refine op_fieldAddr T rfl rfl rfl rfl rfl rfl rfl rfl ?_ | refine op_loadB T rfl rfl rfl rfl (by assumption) (by exact rfl) ?_)
    refine op_lookup_v T strKey rfl rfl rfl rfl rfl rfl x1.dirM (v := .pointer none) (fun b hb => by rw [at2_none hl] at hb; cases hb) (fun _ => rfl) ?_
    repeat (first | refine WL_some rfl rfl rfl ?_ | refine WL_guardT rfl rfl rfl rfl ?_ | refine op_move rfl rfl ?_ | refine op_nilCheck rfl rfl ?_ | refine op_fieldAddr T rfl rfl rfl rfl rfl rfl rfl rfl ?_ | refine op_eql_nilptr T rfl rfl rfl rfl rfl ?_ | refine op_loadB T rfl rfl rfl rfl (by assumption) (by exact rfl) ?_)
    refine op_len_map T strKey (ks := (callM s).dir.map (·.1)) rfl rfl rfl rfl x1.dirM hd1.up.nodup (fun k' => (at2_isSome hd1 k').symm) ?_
    rw [List.length_map]
    by_cases hfull : 150 ≤ (callM s).dir.length
    · have hr : createM s k = (callM s, 4) := by unfold createM; simp [hfm, hmay, hl, hfull]
      repeat (first | refine W_seq ?_ | refine W_region ?_ | refine W_ret ?_ | refine Then_n ?_ | refine Then_r ?_ | refine InBlock_r ?_ | refine WL_nil ?_ | refine W_condT rfl ?_ | refine WL_some rfl rfl rfl ?_ | refine WL_guardT rfl rfl rfl rfl ?_ | refine op_assign rfl rfl ?_ | refine op_pick rfl rfl rfl rfl ?_ | refine op_geq rfl rfl rfl (fun hc => ?_) (fun hc => False.elim (by omega)))
      refine post1 (.inl rfl) rfl rfl ?_
      rw [hr]; exact ⟨chg_self hc1, rfl, p, x1, Grows.refl _ _ _⟩
    have hn : ((looks (callM s).dir k).isNone && decide (150 ≤ (callM s).dir.length)) = false := by simp [hfull]
    rw [hend w1 (Chg.refl _ _) hn]
    have hok := hok hn
    repeat (first | refine W_seq ?_ | refine W_region ?_ | refine W_skip ?_ | refine Then_n ?_ | refine InBlock_n ?_ | refine WL_nil ?_ | refine W_condF rfl ?_ | refine WL_some rfl rfl rfl ?_ | refine WL_guardT rfl rfl rfl rfl ?_ | refine op_move rfl rfl ?_ | refine op_assign rfl rfl ?_ | refine op_pick rfl rfl rfl rfl ?_ | refine op_geq rfl rfl rfl (fun hc => False.elim (by omega)) (fun hc => ?_) | refine op_build T rfl rfl rfl rfl rfl rfl ?_)
    refine op_box rfl rfl (fun gf w2 hs2 hc2 hg2 => ?_)
    have x2 := (x1.keep0 hc2).addFile hg2 (fun hm => by have := x1.lt gf hm; omega) hfile
    have hid : idV (p.fb ++ [(gf, Value.slice none 0 0)]) (some (callM s).files.length) = ptrV gf := idV_some (i := (callM s).files.length) (q := (gf, .slice none 0 0)) rfl (by rw [← x1.len]; simp)
    have hcv : chV (p.fb ++ [(gf, Value.slice none 0 0)]) ⟨0, k, [], some (callM s).files.length⟩ = [.int .i64 ((0 : Nat) : Int), .string (str k), .string (str []), .pointer (some ⟨gf, 0, none⟩)] := by unfold chV; rw [hid]; rfl
    repeat (first | refine WL_some rfl rfl rfl ?_ | refine op_build T rfl rfl rfl rfl rfl rfl ?_)
    have hcall := change_has g _ _ ⟨0, k, [], some (callM s).files.length⟩ w2 x2 ⟨fun _ => by simp, fun e => by simp at e⟩ (fun i hi => by simp at hi; subst hi; simp) hok hcc
    rw [hcv] at hcall
    refine op_call rfl rfl rfl hcall ?_
    rintro _ w3 ⟨hc3, rfl, wv', x3, hgr⟩
    repeat (first | refine W_ret ?_ | refine Then_n ?_ | refine WL_nil ?_ | refine WL_some rfl rfl rfl ?_ | refine op_assign rfl rfl ?_)
    have hg2 : Grows w g p { p with fb := p.fb ++ [(gf, Value.slice none 0 0)] } := fun j hj => by
      rcases FsP.mem_fp.1 hj with h | h | h | h | ⟨q, hq, h⟩
      · exact .inl (FsP.mem_fp.2 (.inl h))
      · exact .inl (FsP.mem_fp.2 (.inr (.inl h)))
      · exact .inl (FsP.mem_fp.2 (.inr (.inr (.inl h))))
      · exact .inl (FsP.mem_fp.2 (.inr (.inr (.inr (.inl h)))))
      · rcases List.mem_append.1 hq with hq | hq
        · exact .inl (FsP.mem_fp.2 (.inr (.inr (.inr (.inr ⟨q, hq, h⟩)))))
        · simp at hq
          subst hq
          rcases h with rfl | h
          · exact .inr (by have := hc1.size; omega)
          · cases h
    have hc02 := (chg_self (p := p) hc1).trans' hc2
    exact post1 (.inl rfl) rfl rfl ⟨hc02.fps hg2 hc3, rfl, _, x3, hg2.trans hgr hc02.size⟩
  | some i =>
    obtain ⟨q, f, hq, hfi⟩ := x1.get hl
    repeat (first | refine W_seq ?_ | refine W_region ?_ | refine Then_n ?_ | refine WL_nil ?_ | refine W_condF rfl ?_ | refine WL_some rfl rfl rfl ?_ | refine op_move rfl rfl ?_ | refine op_assign rfl rfl ?_ | refine op_notT rfl rfl ?_ | refine op_nilCheck rfl rfl ?_ | refine op_fieldAddr T rfl rfl rfl rfl rfl rfl rfl rfl ?_ | refine op_loadB T rfl rfl rfl rfl (by assumption) (by exact rfl) ?_)
    refine op_lookup_v T strKey rfl rfl rfl rfl rfl rfl x1.dirM (v := ptrV q.1) (fun b hb => by rw [at2_some hl hq] at hb; injection hb with hb; rw [hb]) (fun hn => by rw [at2_some hl hq] at hn; cases hn) ?_
    unfold ptrV
    have hn : ((looks (callM s).dir k).isNone && decide (150 ≤ (callM s).dir.length)) = false := by simp [hl]
    rw [hend w1 (Chg.refl _ _) hn]
    have hok := hok hn
    repeat (first | refine W_seq ?_ | refine W_region ?_ | refine W_skip ?_ | refine Then_n ?_ | refine InBlock_n ?_ | refine WL_nil ?_ | refine W_condF rfl ?_ | refine WL_some rfl rfl rfl ?_ | refine WL_guardF rfl rfl rfl rfl rfl ?_ | refine op_move rfl rfl ?_ | refine op_assign rfl rfl ?_ | refine op_pick rfl rfl rfl rfl ?_ | refine op_eql_nilptr T rfl rfl rfl rfl rfl ?_ | refine op_build T rfl rfl rfl rfl rfl rfl ?_)
    refine op_box rfl rfl (fun gf w2 hs2 hc2 hg2 => ?_)
    have x2 := (x1.keep0 hc2).addFile hg2 (fun hm => by have := x1.lt gf hm; omega) hfile
    have hid : idV (p.fb ++ [(gf, Value.slice none 0 0)]) (some (callM s).files.length) = ptrV gf := idV_some (i := (callM s).files.length) (q := (gf, .slice none 0 0)) rfl (by rw [← x1.len]; simp)
    have hcv : chV (p.fb ++ [(gf, Value.slice none 0 0)]) ⟨0, k, [], some (callM s).files.length⟩ = [.int .i64 ((0 : Nat) : Int), .string (str k), .string (str []), .pointer (some ⟨gf, 0, none⟩)] := by unfold chV; rw [hid]; rfl
    repeat (first | refine WL_some rfl rfl rfl ?_ | refine op_build T rfl rfl rfl rfl rfl rfl ?_)
    have hcall := change_has g _ _ ⟨0, k, [], some (callM s).files.length⟩ w2 x2 ⟨fun _ => by simp, fun e => by simp at e⟩ (fun i hi => by simp at hi; subst hi; simp) hok hcc
    rw [hcv] at hcall
    refine op_call rfl rfl rfl hcall ?_
    rintro _ w3 ⟨hc3, rfl, wv', x3, hgr⟩
    repeat (first | refine W_ret ?_ | refine Then_n ?_ | refine WL_nil ?_ | refine WL_some rfl rfl rfl ?_ | refine op_assign rfl rfl ?_)
    have hg2 : Grows w g p { p with fb := p.fb ++ [(gf, Value.slice none 0 0)] } := fun j hj => by
      rcases FsP.mem_fp.1 hj with h | h | h | h | ⟨q, hq, h⟩
      · exact .inl (FsP.mem_fp.2 (.inl h))
      · exact .inl (FsP.mem_fp.2 (.inr (.inl h)))
      · exact .inl (FsP.mem_fp.2 (.inr (.inr (.inl h))))
      · exact .inl (FsP.mem_fp.2 (.inr (.inr (.inr (.inl h)))))
      · rcases List.mem_append.1 hq with hq | hq
        · exact .inl (FsP.mem_fp.2 (.inr (.inr (.inr (.inr ⟨q, hq, h⟩)))))
        · simp at hq
          subst hq
          rcases h with rfl | h
          · exact .inr (by have := hc1.size; omega)
          · cases h
    have hc02 := (chg_self (p := p) hc1).trans' hc2
    exact post1 (.inl rfl) rfl rfl ⟨hc02.fps hg2 hc3, rfl, _, x3, hg2.trans hgr hc02.size⟩
end Go.Proofs.YtbhnplghnhafiaaDoor.Tryd
