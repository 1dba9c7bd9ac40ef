import Derived.Test.YtbhnplghnhafiaaDoorDsk6
/-! Files: Sync, Append, Read. -/
set_option linter.unusedVariables false
set_option linter.unusedSimpArgs false
namespace Go.Vc
open Go
theorem at2_fst {fb fb' : List (Nat × Value)} (h : ∀ i : Nat, (fb'[i]?).map (·.1) = (fb[i]?).map (·.1)) (d : Dir) (k : Nm) : at2 fb' d k = at2 fb d k := by
  unfold at2; simp only [h]
theorem chV_fst {fb fb' : List (Nat × Value)} (h : ∀ i : Nat, (fb'[i]?).map (·.1) = (fb[i]?).map (·.1)) (c : ChM) : chV fb' c = chV fb c := by
  unfold chV idV; simp only [h]
theorem set_fst {fb : List (Nat × Value)} {i : Nat} {q : Nat × Value} (hq : fb[i]? = some q) (v : Value) (j : Nat) : ((fb.set i (q.1, v))[j]?).map (·.1) = (fb[j]?).map (·.1) := by
  rw [List.getElem?_set]
  by_cases h : i = j
  · subst h
    obtain ⟨h1, h2⟩ := List.getElem?_eq_some_iff.1 hq
    rw [if_pos rfl, if_pos h1, hq]; rfl
  · rw [if_neg h]
end Go.Vc
namespace Go.Proofs.YtbhnplghnhafiaaDoor.Tryd
open Go Go.Vc

/-- One file's bytes, and how many of them are synced, have turned. -/
theorem FsAt.setFile {w w' : World} {g : Nat} {s : FsM} {p : FsP} {S : List Nat} (x : FsAt w g s p) {i : Nat} {q : Nat × Value} {f : FileM} (hq : p.fb[i]? = some q) (hf : s.files[i]? = some f) (gg : FileM → FileM) {v' : Value} (hc : Chg S w w')
    (hS : ∀ k ∈ S, k < w.heap.size → k = q.1 ∨ q.2.ownBlock = some k) (hb : Blk w' q.1 65 [v', .int .i64 (gg f).synced]) (ho : Own w' 5 1 v' (gg f).b.length (u8s (gg f).b))
    (hv : v'.ownBlock = q.2.ownBlock ∨ ∃ h, v'.ownBlock = some h ∧ w.heap.size ≤ h) (hok : FsOk { s with files := s.files.modify i gg }) :
    FsAt w' g { s with files := s.files.modify i gg } { p with fb := p.fb.set i (q.1, v') } ∧ Grows w g p { p with fb := p.fb.set i (q.1, v') } := by
  have hqb := x.fblk i q f hq hf
  have hc := hc.mono (S' := q.1 :: q.2.ownBlock.toList) (fun k hk hlt => by
    rcases hS k hk hlt with h | h
    · simp [h]
    · simp [h])
  have hil := (List.getElem?_eq_some_iff.1 hq).1
  have hnot : ∀ k, k < w.heap.size → k ≠ q.1 → q.2.ownBlock ≠ some k → k ∉ q.1 :: q.2.ownBlock.toList := fun k _ h1 h2 hm => by
    rcases List.mem_cons.1 hm with h | h
    · exact h1 h
    · exact h2 (by simpa using h)
  have hrow : ∀ k t cs, Blk w k t cs → t ≠ 65 → t ≠ 5 → k ∉ q.1 :: q.2.ownBlock.toList := fun k t cs hk h1 h2 => hnot k hk.lt (fun e => by subst e; exact hk.ne_ hqb h1 rfl) (fun e => by
    obtain ⟨cur, hr⟩ := (x.fown i q f hq hf).row e
    exact hk.ne_ hr h2 rfl)
  have hmap : ∀ (bv : Nat → Value) r ff, MapAt keyV bv w r ff → r ∉ q.1 :: q.2.ownBlock.toList := fun bv r ff hm => hnot r hm.lt (fun e => hm.ne_blk hqb e) (fun e => by
    obtain ⟨cur, hr⟩ := (x.fown i q f hq hf).row e
    exact hm.ne_blk hr rfl)
  have hfst := set_fst hq v'
  have hget : ∀ (j : Nat) q', (p.fb.set i (q.1, v'))[j]? = some q' → (j = i ∧ q' = (q.1, v')) ∨ (j ≠ i ∧ p.fb[j]? = some q') := fun j q' h => by
    rw [List.getElem?_set] at h
    by_cases e : i = j
    · subst e; rw [if_pos rfl, if_pos hil] at h; injection h with h; exact .inl ⟨rfl, h.symm⟩
    · rw [if_neg e] at h; exact .inr ⟨fun e' => e e'.symm, h⟩
  have hfile : ∀ (j : Nat) f', (s.files.modify i gg)[j]? = some f' → (j = i ∧ f' = gg f) ∨ (j ≠ i ∧ s.files[j]? = some f') := fun j f' h => by
    rw [List.getElem?_modify] at h
    by_cases e : i = j
    · subst e; simp [hf] at h; exact .inl ⟨rfl, h.symm⟩
    · simp [e] at h; exact .inr ⟨fun e' => e e'.symm, h⟩
  refine ⟨⟨hok, x.blk.keep hc (hrow _ _ _ x.blk (by decide) (by decide)), (x.dirM.keep hc (hmap _ _ _ x.dirM)).congr (fun k => (at2_fst hfst _ k).symm), (x.lastsM.keep hc (hmap _ _ _ x.lastsM)).congr (fun k => (at2_fst hfst _ k).symm), ?_, by simp [x.len], fun j q' f' h1 h2 => ?_, fun j q' f' h1 h2 => ?_, x.apart1, ?_, fun j j' q1 q2 h h1 h2 h3 h4 => ?_⟩, fun k hk => ?_⟩
  · show Own w' _ 4 p.wv s.waits.length (s.waits.flatMap (chV (p.fb.set i (q.1, v'))))
    rw [flatMap_congr' (g := chV p.fb) (fun c _ => chV_fst hfst c)]
    refine x.waitsM.keep hc (fun h hh => ?_)
    obtain ⟨cur, hr⟩ := x.waitsM.row hh
    exact hrow _ _ _ hr (by decide) (by decide)
  · rcases hget j q' h1 with ⟨rfl, rfl⟩ | ⟨hj, h1⟩
    · rcases hfile j f' h2 with ⟨_, rfl⟩ | ⟨h, _⟩
      · exact hb
      · exact absurd rfl h
    · rcases hfile j f' h2 with ⟨h, _⟩ | ⟨_, h2⟩
      · exact absurd h hj
      · have h5 := x.fblk j q' f' h1 h2
        refine h5.keep hc (hnot _ h5.lt (fun e => hj ?_) (fun e => ?_))
        · have hjl := (List.getElem?_eq_some_iff.1 h1).1
          refine (List.getElem?_inj (l := p.fb.map (·.1)) (by simpa using hjl) x.apart2).1 ?_
          rw [List.getElem?_map, List.getElem?_map, h1, hq]; simp [e]
        · obtain ⟨cur, hr⟩ := (x.fown i q f hq hf).row e
          exact h5.ne_ hr (by decide) rfl
  · rcases hget j q' h1 with ⟨rfl, rfl⟩ | ⟨hj, h1⟩
    · rcases hfile j f' h2 with ⟨_, rfl⟩ | ⟨h, _⟩
      · exact ho
      · exact absurd rfl h
    · rcases hfile j f' h2 with ⟨h, _⟩ | ⟨_, h2⟩
      · exact absurd h hj
      · have h5 := x.fown j q' f' h1 h2
        refine h5.keep hc (fun h hh => hnot _ (h5.lt hh) (fun e => ?_) (fun e => hj (x.apart3 j i q' q h h1 hq hh e)))
        obtain ⟨cur, hr⟩ := h5.row hh
        rw [e] at hr
        exact hqb.ne_ hr (by decide) rfl
  · have : (p.fb.set i (q.1, v')).map (·.1) = p.fb.map (·.1) := by
      apply List.ext_getElem?
      intro j
      rw [List.getElem?_map, List.getElem?_map]; exact hfst j
    show (List.map _ _).Nodup
    rw [this]; exact x.apart2
  · rcases hget j q1 h1 with ⟨rfl, rfl⟩ | ⟨hj, g1⟩
    · rcases hget j' q2 h2 with ⟨rfl, rfl⟩ | ⟨hj', g2⟩
      · rfl
      · have h3 : v'.ownBlock = some h := h3
        rcases hv with hv | ⟨h', hv, hge⟩
        · exact x.apart3 j j' q q2 h hq g2 (hv.symm.trans h3) h4
        · obtain ⟨f2, hf2⟩ : ∃ f2, s.files[j']? = some f2 := ⟨_, List.getElem?_eq_getElem (by rw [← x.len]; exact (List.getElem?_eq_some_iff.1 g2).1)⟩
          have := (x.fown j' q2 f2 g2 hf2).lt h4
          rw [h3] at hv; injection hv with hv; omega
    · rcases hget j' q2 h2 with ⟨rfl, rfl⟩ | ⟨hj', g2⟩
      · have h4 : v'.ownBlock = some h := h4
        rcases hv with hv | ⟨h', hv, hge⟩
        · exact x.apart3 j j' q1 q h g1 hq h3 (hv.symm.trans h4)
        · obtain ⟨f2, hf2⟩ : ∃ f2, s.files[j]? = some f2 := ⟨_, List.getElem?_eq_getElem (by rw [← x.len]; exact (List.getElem?_eq_some_iff.1 g1).1)⟩
          have := (x.fown j q1 f2 g1 hf2).lt h3
          rw [h4] at hv; injection hv with hv; omega
      · exact x.apart3 j j' q1 q2 h g1 g2 h3 h4
  · rcases FsP.mem_fp.1 hk with h | h | h | h | ⟨q', hq', h⟩
    · exact .inl (FsP.mem_fp.2 (.inl h))
    · exact .inl (FsP.mem_fp.2 (.inr (.inl h)))
    · exact .inl (FsP.mem_fp.2 (.inr (.inr (.inl h))))
    · exact .inl (FsP.mem_fp.2 (.inr (.inr (.inr (.inl h)))))
    · rcases List.mem_or_eq_of_mem_set hq' with hq' | rfl
      · exact .inl (FsP.mem_fp.2 (.inr (.inr (.inr (.inr ⟨q', hq', h⟩)))))
      · have hqm := List.mem_of_getElem? hq
        rcases h with h | h
        · exact .inl (FsP.mem_fp.2 (.inr (.inr (.inr (.inr ⟨q, hqm, .inl h⟩)))))
        · have h : v'.ownBlock = some k := h
          rcases hv with hv | ⟨h', hv, hge⟩
          · exact .inl (FsP.mem_fp.2 (.inr (.inr (.inr (.inr ⟨q, hqm, .inr (hv.symm.trans h)⟩)))))
          · rw [h] at hv; injection hv with hv; exact .inr (by omega)

theorem FsAt.mem_file {w : World} {g : Nat} {s : FsM} {p : FsP} (x : FsAt w g s p) {i : Nat} {q : Nat × Value} (hq : p.fb[i]? = some q) : q.1 ∈ p.fp g ∧ ∀ h, q.2.ownBlock = some h → h ∈ p.fp g :=
  ⟨FsP.mem_fp.2 (.inr (.inr (.inr (.inr ⟨q, List.mem_of_getElem? hq, .inl rfl⟩)))), fun h hh => FsP.mem_fp.2 (.inr (.inr (.inr (.inr ⟨q, List.mem_of_getElem? hq, .inr hh⟩))))⟩

set_option maxHeartbeats 2000000 in
theorem sync_has (g : Nat) (s : FsM) (p : FsP) (k : Nm) (w : World) (x : FsAt w g s p) (hcalls : s.calls < 1000000000 - 1) :
    Has Go.Proofs.Tryd.prog 35 #[ptrV g, .string (str k)] w (FsDone w g p (syncM s k)) := by
  refine enter Go.Proofs.Tryd.func35 rfl rfl (by decide) rfl (e := [(0, ptrV g), (1, .string (str k))]) ⟨rfl, rfl, trivial⟩ ?_
  unfold ptrV
  repeat (first | refine W_seq ?_ | refine W_region ?_ | refine Then_n ?_ | refine WL_nil ?_ | refine WL_some rfl rfl rfl ?_ | refine op_move rfl rfl ?_ | refine op_assign rfl rfl ?_)
  refine op_call rfl rfl rfl (call_has g s p w x (by omega)) ?_
  rintro _ w1 ⟨hc1, rfl, x1⟩
  cases hfm : failsM s with
  | true =>
    have hr : syncM s k = (callM s, 5) := by unfold syncM; simp [hfm]
    rw [if_pos rfl]
    repeat (first | refine W_seq ?_ | refine W_region ?_ | refine W_ret ?_ | refine Then_n ?_ | refine Then_r ?_ | refine WL_nil ?_ | refine W_condT rfl ?_ | refine WL_some rfl rfl rfl ?_ | refine op_move rfl rfl ?_ | refine op_assign rfl rfl ?_ | refine op_neq rfl rfl rfl (fun hc => ?_) (fun hc => False.elim (by omega)))
    refine post1 (.inl rfl) rfl rfl ?_
    rw [hr]; exact ⟨chg_self hc1, rfl, p, x1, Grows.refl _ _ _⟩
  | false =>
  rw [if_neg (by simp)]
  have hb1 := x1.blk
  cases hl : looks (callM s).dir k with
  | none =>
    have hr : syncM s k = (callM s, 3) := by unfold syncM; simp [hfm, hl]
    repeat (first | refine W_seq ?_ | refine W_region ?_ | refine W_skip ?_ | refine Then_n ?_ | refine WL_nil ?_ | refine W_condF rfl ?_ | refine WL_some rfl rfl rfl ?_ | refine op_move rfl rfl ?_ | refine op_assign rfl rfl ?_ | refine op_nilCheck rfl rfl ?_ | refine op_neq rfl rfl rfl (fun hc => False.elim (by omega)) (fun hc => ?_) | refine op_fieldAddr T rfl rfl rfl rfl rfl rfl rfl rfl ?_ | refine op_loadB T rfl rfl rfl rfl (by assumption) (by exact rfl) ?_)
    refine op_lookup_v T strKey rfl rfl rfl rfl rfl rfl x1.dirM (v := .pointer none) (fun b hb => by rw [at2_none hl] at hb; cases hb) (fun _ => rfl) ?_
    repeat (first | refine W_seq ?_ | refine W_region ?_ | refine W_ret ?_ | refine Then_n ?_ | refine Then_r ?_ | refine WL_nil ?_ | refine W_condT rfl ?_ | refine WL_some rfl rfl rfl ?_ | refine op_move rfl rfl ?_ | refine op_assign rfl rfl ?_ | refine op_eql_nilptr T rfl rfl rfl rfl rfl ?_)
    refine post1 (.inl rfl) rfl rfl ?_
    rw [hr]; exact ⟨chg_self hc1, rfl, p, x1, Grows.refl _ _ _⟩
  | some i =>
  obtain ⟨q, f, hq, hfi⟩ := x1.get hl
  have hr : syncM s k = ({ callM s with files := (callM s).files.modify i fun f => { f with synced := f.b.length } }, 0) := by unfold syncM; simp [hfm, hl]
  have hok := syncM_ok x.ok k
  rw [hr] at hok
  have hbf := x1.fblk i q f hq hfi
  have hof := x1.fown i q f hq hfi
  obtain ⟨A, c, hv, hv1, hv2⟩ := hof.form
  rw [hv] at hbf
  repeat (first | refine W_seq ?_ | refine W_region ?_ | refine W_skip ?_ | refine Then_n ?_ | refine WL_nil ?_ | refine W_condF rfl ?_ | refine WL_some rfl rfl rfl ?_ | refine op_move rfl rfl ?_ | refine op_assign rfl rfl ?_ | refine op_nilCheck rfl rfl ?_ | refine op_neq rfl rfl rfl (fun hc => False.elim (by omega)) (fun hc => ?_) | refine op_fieldAddr T rfl rfl rfl rfl rfl rfl rfl rfl ?_ | refine op_loadB T rfl rfl rfl rfl (by assumption) (by exact rfl) ?_)
  refine op_lookup_v T strKey rfl rfl rfl rfl rfl rfl x1.dirM (v := ptrV q.1) (fun b hb => by rw [at2_some hl hq] at hb; injection hb with hb; rw [hb]) (fun hn => by rw [at2_some hl hq] at hn; cases hn) ?_
  unfold ptrV
  repeat (first | refine W_seq ?_ | refine W_region ?_ | refine W_skip ?_ | refine Then_n ?_ | refine WL_nil ?_ | refine W_condF rfl ?_ | refine WL_some rfl rfl rfl ?_ | refine WL_none rfl rfl ?_ | refine op_move rfl rfl ?_ | refine op_assign rfl rfl ?_ | refine op_len_slice T rfl rfl rfl rfl ?_ | refine op_nilCheck rfl rfl ?_ | refine op_fieldAddr T rfl rfl rfl rfl rfl rfl rfl rfl ?_ | refine op_eql_nilptr T rfl rfl rfl rfl rfl ?_ | refine op_loadB T rfl rfl rfl rfl (by assumption) (by exact rfl) ?_)
  refine op_store T rfl rfl rfl rfl rfl rfl hbf (Nat.le_of_ble_eq_true rfl) (fun w2 hc2 hb2 _ => ?_)
  repeat (first | refine W_seq ?_ | refine W_region ?_ | refine W_ret ?_ | refine Then_n ?_ | refine WL_nil ?_ | refine WL_some rfl rfl rfl ?_ | refine op_assign rfl rfl ?_)
  have hb2 : Blk w2 q.1 65 [q.2, .int .i64 (f.b.length : Nat)] := by rw [hv]; exact hb2
  obtain ⟨x2, hg2⟩ := x1.setFile hq hfi (fun f => { f with synced := f.b.length }) (v' := q.2) hc2 (fun j hj _ => by simp at hj; exact .inl hj) hb2 (hof.keep hc2 (fun h hh hm => by
    simp at hm
    obtain ⟨cur, hr⟩ := hof.row hh
    rw [hm] at hr
    exact hbf.ne_ hr (by decide) rfl)) (.inl rfl) hok
  refine post1 (.inl rfl) rfl rfl ?_
  rw [hr]
  exact ⟨(chg_self hc1).trans hc2 (fun j hj _ => by simp at hj; subst hj; exact (x1.mem_file hq).1), rfl, _, x2, (Grows.refl _ _ _).trans hg2 hc1.size⟩

set_option maxHeartbeats 4000000 in
theorem append_has (g : Nat) (s : FsM) (p : FsP) (k : Nm) (A : Option Addr) (n c : Nat) (b : List UInt8) (w : World) (x : FsAt w g s p) (hb : Firm (p.fp g) w (fun w => SliceOf Ru8 w (.slice A n c) b)) (hbl : b.length ≤ 1000000000) (hcalls : s.calls < 1000000000 - 1) :
    Has Go.Proofs.Tryd.prog 30 #[ptrV g, .string (str k), .slice A n c] w (FsDone w g p (appendM s k b)) := by
  obtain ⟨rfl, hb1, hb2⟩ := hb.now.len
  refine enter Go.Proofs.Tryd.func30 rfl rfl (by decide) rfl (e := [(0, ptrV g), (1, .string (str k)), (2, .slice A b.length c)]) ⟨rfl, rfl, rfl, trivial⟩ ?_
  unfold ptrV
  repeat (first | refine W_seq ?_ | refine W_region ?_ | refine Then_n ?_ | refine WL_nil ?_ | refine WL_some rfl rfl rfl ?_ | refine op_move rfl rfl ?_ | refine op_assign rfl rfl ?_)
  refine op_call rfl rfl rfl (call_has g s p w x (by omega)) ?_
  rintro _ w1 ⟨hc1, rfl, x1⟩
  have hs1 := hb w1 (chg_self hc1)
  cases hfm : failsM s with
  | true =>
    have hr : appendM s k b = (callM s, 5) := by unfold appendM; simp [hfm]
    rw [if_pos rfl]
    repeat (first | refine W_seq ?_ | refine W_region ?_ | refine W_ret ?_ | refine Then_n ?_ | refine Then_r ?_ | refine WL_nil ?_ | refine W_condT rfl ?_ | refine WL_some rfl rfl rfl ?_ | refine op_move rfl rfl ?_ | refine op_assign rfl rfl ?_ | refine op_neq rfl rfl rfl (fun hc => ?_) (fun hc => False.elim (by omega)))
    refine post1 (.inl rfl) rfl rfl ?_
    rw [hr]; exact ⟨chg_self hc1, rfl, p, x1, Grows.refl _ _ _⟩
  | false =>
  rw [if_neg (by simp)]
  have hbk1 := x1.blk
  cases hl : looks (callM s).dir k with
  | none =>
    have hr : appendM s k b = (callM s, 3) := by unfold appendM; simp [hfm, hl]
    repeat (first | refine W_seq ?_ | refine W_region ?_ | refine W_skip ?_ | refine Then_n ?_ | refine WL_nil ?_ | refine W_condF rfl ?_ | refine WL_some rfl rfl rfl ?_ | refine op_move rfl rfl ?_ | refine op_assign rfl rfl ?_ | refine op_nilCheck rfl rfl ?_ | refine op_neq rfl rfl rfl (fun hc => False.elim (by omega)) (fun hc => ?_) | refine op_fieldAddr T rfl rfl rfl rfl rfl rfl rfl rfl ?_ | refine op_loadB T rfl rfl rfl rfl (by assumption) (by exact rfl) ?_)
    refine op_lookup_v T strKey rfl rfl rfl rfl rfl rfl x1.dirM (v := .pointer none) (fun b hb => by rw [at2_none hl] at hb; cases hb) (fun _ => rfl) ?_
    repeat (first | refine W_seq ?_ | refine W_block ?_ | refine W_region ?_ | refine W_ret ?_ | refine Then_n ?_ | refine Then_r ?_ | refine InBlock_r ?_ | refine WL_nil ?_ | refine W_condT rfl ?_ | refine WL_some rfl rfl rfl ?_ | refine op_move rfl rfl ?_ | refine op_assign rfl rfl ?_ | refine op_eql_nilptr T rfl rfl rfl rfl rfl ?_)
    refine post1 (.inl rfl) rfl rfl ?_
    rw [hr]; exact ⟨chg_self hc1, rfl, p, x1, Grows.refl _ _ _⟩
  | some i =>
  obtain ⟨q, f, hq, hfi⟩ := x1.get hl
  have hul := usedM_le x1.ok
  have hr0 := x1.ok.room0
  have hr1 := x1.ok.room1
  repeat (first | refine W_seq ?_ | refine W_region ?_ | refine W_skip ?_ | refine Then_n ?_ | refine WL_nil ?_ | refine W_condF rfl ?_ | refine WL_some rfl rfl rfl ?_ | refine op_move rfl rfl ?_ | refine op_assign rfl rfl ?_ | refine op_nilCheck rfl rfl ?_ | refine op_neq rfl rfl rfl (fun hc => False.elim (by omega)) (fun hc => ?_) | refine op_fieldAddr T rfl rfl rfl rfl rfl rfl rfl rfl ?_ | refine op_loadB T rfl rfl rfl rfl (by assumption) (by exact rfl) ?_)
  refine op_lookup_v T strKey rfl rfl rfl rfl rfl rfl x1.dirM (v := ptrV q.1) (fun b hb => by rw [at2_some hl hq] at hb; injection hb with hb; rw [hb]) (fun hn => by rw [at2_some hl hq] at hn; cases hn) ?_
  unfold ptrV
  repeat (first | refine W_seq ?_ | refine W_block ?_ | refine W_region ?_ | refine Then_n ?_ | refine WL_nil ?_ | refine W_condF rfl ?_ | refine WL_some rfl rfl rfl ?_ | refine op_move rfl rfl ?_ | refine op_assign rfl rfl ?_ | refine op_eql_nilptr T rfl rfl rfl rfl rfl ?_)
  refine W_walk 10 [] fol (by kernel_rfl) (by kernel_rfl) ?_
  refine Walk.plain rfl (by intro val w_ hR hp; exact op_move rfl rfl ⟨Chg.refl _ _, rfl⟩) ?_; dsimp only [List.nil_append, List.cons_append]
  refine Walk.plain rfl (by intro val w_ hR hp; exact op_len_slice T rfl rfl rfl rfl ⟨Chg.refl _ _, rfl⟩) ?_; dsimp only [List.nil_append, List.cons_append]
  refine Walk.plain rfl (by intro val w_ hR hp; exact op_move rfl rfl ⟨Chg.refl _ _, rfl⟩) ?_; dsimp only [List.nil_append, List.cons_append]
  refine Walk.plain rfl (by intro val w_ hR hp; exact op_nilCheck rfl rfl ⟨Chg.refl _ _, rfl⟩) ?_; dsimp only [List.nil_append, List.cons_append]
  refine Walk.plain rfl (by intro val w_ hR hp; exact op_fieldAddr T rfl rfl rfl rfl rfl rfl rfl rfl ⟨Chg.refl _ _, rfl⟩) ?_; dsimp only [List.nil_append, List.cons_append]
  refine Walk.plain rfl (by intro val w_ hR hp; exact op_load T rfl rfl rfl rfl ((Blk.keep0 hbk1 hR).cell rfl) ⟨Chg.refl _ _, rfl⟩) ?_; dsimp only [List.nil_append, List.cons_append]
  refine Walk.plain rfl (by intro val w_ hR hp; exact op_move rfl rfl ⟨Chg.refl _ _, rfl⟩) ?_; dsimp only [List.nil_append, List.cons_append]
  refine Walk.plain (v := .int .i64 (usedM (callM s))) rfl (by intro val w_ hR hp; exact op_call rfl rfl rfl (used_has g _ p w_ (x1.keep0 hR)) (fun v w' ⟨hc, hv⟩ => ⟨hc, hv⟩)) ?_; dsimp only [List.nil_append, List.cons_append]
  refine Walk.plain rfl (by intro val w_ hR hp; exact op_subt rfl rfl rfl (wrap_i64_in (by omega) (by omega)) ⟨Chg.refl _ _, rfl⟩) ?_; dsimp only [List.nil_append, List.cons_append]
  by_cases hfull : (callM s).room - usedM (callM s) < b.length
  case pos =>
    refine Walk.plain rfl (by intro val w_ hR hp; exact op_gtr rfl rfl rfl (fun hc => ⟨Chg.refl _ _, rfl⟩) (fun hc => False.elim (by omega))) ?_; dsimp only [List.nil_append, List.cons_append]
    refine Walk.fin ?_
    intro val w2 hc2 _
    have x2 := x1.keep0 hc2
    have hr : appendM s k b = (callM s, 4) := by unfold appendM; simp [hfm, hl, hfull]
    refine WL_sub (e' := [(6, .int .i64 0), (33, .bool true)]) ⟨rfl, rfl, trivial⟩ ?_
    repeat (first | refine W_seq ?_ | refine W_region ?_ | refine W_ret ?_ | refine Then_n ?_ | refine Then_r ?_ | refine InBlock_r ?_ | refine WL_nil ?_ | refine W_condT rfl ?_ | refine WL_some rfl rfl rfl ?_ | refine op_assign rfl rfl ?_)
    refine post1 (.inl rfl) rfl rfl ?_
    rw [hr]; exact ⟨(chg_self hc1).trans' hc2, rfl, p, x2, Grows.refl _ _ _⟩
  case neg =>
    refine Walk.plain rfl (by intro val w_ hR hp; exact op_gtr rfl rfl rfl (fun hc => False.elim (by omega)) (fun hc => ⟨Chg.refl _ _, rfl⟩)) ?_; dsimp only [List.nil_append, List.cons_append]
    refine Walk.fin ?_
    intro val w2 hc2 _
    have x2 := x1.keep0 hc2
    have hr : appendM s k b = ({ callM s with files := (callM s).files.modify i fun f => { f with b := f.b ++ b } }, 0) := by unfold appendM; simp [hfm, hl, hfull]
    have hok := appendM_ok x.ok k b
    rw [hr] at hok
    refine WL_sub (e' := [(0, .pointer (some ⟨g, 0, none⟩)), (2, .slice A b.length c), (6, .int .i64 0), (8, .pointer (some ⟨q.1, 0, none⟩)), (33, .bool false)]) ⟨rfl, rfl, rfl, rfl, rfl, trivial⟩ ?_
    have hbf := x2.fblk i q f hq hfi
    have hof := x2.fown i q f hq hfi
    have hs2 := SliceOf.kept Ru8.kept _ _ _ _ hc2 hs1
    have hfl := (x1.ok.files f (List.mem_of_getElem? hfi)).2
    obtain ⟨A2, c2, hv, hv1, hv2⟩ := hof.form
    repeat (first | refine W_seq ?_ | refine W_region ?_ | refine W_skip ?_ | refine Then_n ?_ | refine InBlock_n ?_ | refine WL_nil ?_ | refine W_condF rfl ?_ | refine WL_some rfl rfl rfl ?_ | refine op_move rfl rfl ?_ | refine op_assign rfl rfl ?_ | refine op_nilCheck rfl rfl ?_ | refine op_fieldAddr T rfl rfl rfl rfl rfl rfl rfl rfl ?_ | refine op_loadB T rfl rfl rfl rfl (by assumption) (by exact rfl) ?_)
    refine op_append T (n := f.b.length) (xs := u8s f.b) (m := b.length) (news := u8s b) rfl rfl rfl rfl rfl rfl rfl rfl hof (by rw [u8s_length]; exact (Nat.mul_one _).symm) ?_ (by unfold maxLen; omega) (by show (f.b.length + b.length) * 1 ≤ _; omega) ?_
    · intro j u hj
      obtain ⟨cc, hcc, rfl⟩ := u8s_inv hj
      obtain ⟨ad, u', he, hu, rfl⟩ := hs2.get hcc
      exact ⟨⟨ad, he, hu⟩, rfl⟩
    intro v3 w3 ho3 hc3 hb3 _
    have hq1 : q.1 ∉ q.2.ownBlock.toList := fun hm => by
      obtain ⟨cur, hr⟩ := hof.row (show q.2.ownBlock = some q.1 by simpa using hm)
      exact hbf.ne_ hr (by decide) rfl
    have hbf3 := hbf.keep hc3 hq1
    obtain ⟨A3, c3, rfl, _, _⟩ := ho3.form
    repeat (first | refine WL_some rfl rfl rfl ?_ | refine WL_none rfl rfl ?_ | refine op_nilCheck rfl rfl ?_ | refine op_fieldAddr T rfl rfl rfl rfl rfl rfl rfl rfl ?_)
    refine op_store T rfl rfl rfl rfl rfl rfl hbf3 (Nat.le_of_ble_eq_true rfl) (fun w4 hc4 hb4 _ => ?_)
    repeat (first | refine W_seq ?_ | refine W_region ?_ | refine W_ret ?_ | refine Then_n ?_ | refine WL_nil ?_ | refine WL_some rfl rfl rfl ?_ | refine op_assign rfl rfl ?_)
    have hc24 : Chg (q.1 :: q.2.ownBlock.toList) w2 w4 := (hc3.mono (fun j hj _ => by simp at hj; simp [hj])).trans hc4 (fun j hj _ => by simp at hj; simp [hj])
    obtain ⟨x4, hg4⟩ := x2.setFile hq hfi (fun f => { f with b := f.b ++ b }) hc24 (fun j hj _ => by simpa using hj) hb4 (by
      show Own w4 _ 1 _ (f.b ++ b).length (u8s (f.b ++ b))
      rw [List.length_append, u8s_append]
      refine ho3.keep hc4 (fun h hh hm => ?_)
      simp at hm
      obtain ⟨cur, hr⟩ := ho3.row hh
      rw [hm] at hr
      exact hbf3.ne_ hr (by decide) rfl) hb3 hok
    refine post1 (.inl rfl) rfl rfl ?_
    rw [hr]
    obtain ⟨hm1, hm2⟩ := x2.mem_file hq
    have hc02 := (chg_self (p := p) hc1).trans' hc2
    exact ⟨hc02.trans hc24 (fun j hj _ => by
      rcases List.mem_cons.1 hj with h | h
      · subst h; exact hm1
      · exact hm2 j (by simpa using h)), rfl, _, x4, (Grows.refl _ _ _).trans hg4 hc02.size⟩

/-- What Read leaves: the bytes of a file, in a row of the call's own. -/
def readV (o : Option (List UInt8)) (w0 : World) (v : Value) (w' : World) : Prop := match o with
  | none => v = .tuple #[.slice none 0 0, .int .i64 3]
  | some b => ∃ u, v = .tuple #[u, .int .i64 0] ∧ Own w' 5 1 u b.length (u8s b) ∧ ∀ h, u.ownBlock = some h → w0.heap.size ≤ h
theorem read_has (g : Nat) (s : FsM) (p : FsP) (k : Nm) (w : World) (x : FsAt w g s p) :
    Has Go.Proofs.Tryd.prog 19 #[ptrV g, .string (str k)] w (fun v w' => Chg [] w w' ∧ readV (readM s k) w v w') := by
  refine enter Go.Proofs.Tryd.func19 rfl rfl (by decide) rfl (e := [(0, ptrV g), (1, .string (str k))]) ⟨rfl, rfl, trivial⟩ ?_
  unfold ptrV
  have hb := x.blk
  cases hl : looks s.dir k with
  | none =>
    have hr : readM s k = none := by unfold readM; rw [hl]; rfl
    repeat (first | refine W_seq ?_ | refine W_region ?_ | refine Then_n ?_ | refine WL_nil ?_ | refine WL_some rfl rfl rfl ?_ | refine WL_guardT rfl rfl rfl rfl ?_ | refine op_move rfl rfl ?_ | refine op_assign rfl rfl ?_ | refine op_nilCheck rfl rfl ?_ | refine op_fieldAddr T rfl rfl rfl rfl rfl rfl rfl rfl ?_ | refine op_eql_nilptr T rfl rfl rfl rfl rfl ?_ | refine op_loadB T rfl rfl rfl rfl (by assumption) (by exact rfl) ?_)
    refine op_lookup_v T strKey rfl rfl rfl rfl rfl rfl x.dirM (v := .pointer none) (fun b hb => by rw [at2_none hl] at hb; cases hb) (fun _ => rfl) ?_
    repeat (first | refine W_seq ?_ | refine W_region ?_ | refine W_ret ?_ | refine Then_n ?_ | refine Then_r ?_ | refine WL_nil ?_ | refine W_condT rfl ?_ | refine WL_some rfl rfl rfl ?_ | refine WL_guardT rfl rfl rfl rfl ?_ | refine op_assign rfl rfl ?_ | refine op_pick rfl rfl rfl rfl ?_ | refine op_eql_nilptr T rfl rfl rfl rfl rfl ?_)
    refine post2 (.inl rfl) rfl rfl rfl ⟨Chg.refl _ _, ?_⟩
    rw [hr]; rfl
  | some i =>
    obtain ⟨q, f, hq, hfi⟩ := x.get hl
    have hr : readM s k = some f.b := by unfold readM; rw [hl]; simp [hfi]
    have hbf := x.fblk i q f hq hfi
    have hof := x.fown i q f hq hfi
    have hfl := (x.ok.files f (List.mem_of_getElem? hfi)).2
    obtain ⟨A, c, hv, hv1, hv2⟩ := hof.form
    rw [hv] at hbf hof
    repeat (first | refine W_seq ?_ | refine W_region ?_ | refine Then_n ?_ | refine WL_nil ?_ | refine WL_some rfl rfl rfl ?_ | refine WL_guardT rfl rfl rfl rfl ?_ | refine op_move rfl rfl ?_ | refine op_assign rfl rfl ?_ | refine op_nilCheck rfl rfl ?_ | refine op_fieldAddr T rfl rfl rfl rfl rfl rfl rfl rfl ?_ | refine op_eql_nilptr T rfl rfl rfl rfl rfl ?_ | refine op_loadB T rfl rfl rfl rfl (by assumption) (by exact rfl) ?_)
    refine op_lookup_v T strKey rfl rfl rfl rfl rfl rfl x.dirM (v := ptrV q.1) (fun b hb => by rw [at2_some hl hq] at hb; injection hb with hb; rw [hb]) (fun hn => by rw [at2_some hl hq] at hn; cases hn) ?_
    unfold ptrV
    repeat (first | refine W_seq ?_ | refine W_region ?_ | refine W_skip ?_ | refine Then_n ?_ | refine WL_nil ?_ | refine W_condF rfl ?_ | refine WL_some rfl rfl rfl ?_ | refine WL_guardT rfl rfl rfl rfl ?_ | refine op_move rfl rfl ?_ | refine op_pick rfl rfl rfl rfl ?_ | refine op_nilCheck rfl rfl ?_ | refine op_fieldAddr T rfl rfl rfl rfl rfl rfl rfl rfl ?_ | refine op_eql_nilptr T rfl rfl rfl rfl rfl ?_ | refine op_loadB T rfl rfl rfl rfl (by assumption) (by exact rfl) ?_)
    refine op_lookup_v T strKey rfl rfl rfl rfl rfl rfl x.dirM (v := ptrV q.1) (fun b hb => by rw [at2_some hl hq] at hb; injection hb with hb; rw [hb]) (fun hn => by rw [at2_some hl hq] at hn; cases hn) ?_
    unfold ptrV
    repeat (first | refine WL_some rfl rfl rfl ?_ | refine op_nilCheck rfl rfl ?_ | refine op_fieldAddr T rfl rfl rfl rfl rfl rfl rfl rfl ?_ | refine op_loadB T rfl rfl rfl rfl (by assumption) (by exact rfl) ?_)
    refine op_call rfl rfl rfl (clone_has A _ c f.b w hof.bytes (by omega)) ?_
    rintro v w1 ⟨hc1, ho1, hf1⟩
    repeat (first | refine W_ret ?_ | refine Then_n ?_ | refine WL_nil ?_ | refine WL_some rfl rfl rfl ?_ | refine op_assign rfl rfl ?_)
    refine post2 (.inl rfl) rfl rfl rfl ⟨hc1, ?_⟩
    rw [hr]; exact ⟨v, rfl, ho1, hf1⟩
end Go.Proofs.YtbhnplghnhafiaaDoor.Tryd
