/- Part 4 of the texts that the law of the last one leans on: steps of the walk and contracts of functions. Its conditions stand in each theorem. -/
import Derived.Test.YtiadjkjlifnopaaGreatManifestAnyK3
import Derived.Test.YtiadjkjlifnopaaGreatManifestAnyK1
/-! Files: Sync, Append, Read. -/
set_option linter.unusedVariables false
set_option linter.unusedSimpArgs false
namespace Go.Vc
open Go
theorem at2_fst {fb fb' : List (Nat × Value)} (h : ∀ i : Nat, (fb'[i]?).map (·.1) = (fb[i]?).map (·.1)) (d : Dir) (k : Nm) : at2 fb' d k = at2 fb d k := by
  unfold at2; simp only [h]
theorem chV_fst {fb fb' : List (Nat × Value)} (h : ∀ i : Nat, (fb'[i]?).map (·.1) = (fb[i]?).map (·.1)) (c : ChM) : chV fb' c = chV fb c := by
  unfold chV idV; simp only [h]
theorem set_fst {fb : List (Nat × Value)} {i : Nat} {q : Nat × Value} (hq : fb[i]? = some q) (v : Value) (j : Nat) : ((fb.set i (q.1, v))[j]?).map (·.1) = (fb[j]?).map (·.1) := by
  rw [List.getElem?_set]
  by_cases h : i = j
  · subst h
    obtain ⟨h1, h2⟩ := List.getElem?_eq_some_iff.1 hq
    rw [if_pos rfl, if_pos h1, hq]; rfl
  · rw [if_neg h]
end Go.Vc
namespace Go.Proofs.YtiadjkjlifnopaaGreat.Tryz
open Go Go.Vc

/-- One file's bytes, and how many of them are synced, have turned. -/
theorem FsAt.setFile {w w' : World} {g : Nat} {s : FsM} {p : FsP} {S : List Nat} (x : FsAt w g s p) {i : Nat} {q : Nat × Value} {f : FileM} (hq : p.fb[i]? = some q) (hf : s.files[i]? = some f) (gg : FileM → FileM) {v' : Value} (hc : Chg S w w')
    (hS : ∀ k ∈ S, k < w.heap.size → k = q.1 ∨ q.2.ownBlock = some k) (hb : Blk w' q.1 56 [v', .int .i64 (gg f).synced]) (ho : Own w' 5 1 v' (gg f).b.length (u8s (gg f).b))
    (hv : v'.ownBlock = q.2.ownBlock ∨ ∃ h, v'.ownBlock = some h ∧ w.heap.size ≤ h) (hok : FsOk { s with files := s.files.modify i gg }) :
    FsAt w' g { s with files := s.files.modify i gg } { p with fb := p.fb.set i (q.1, v') } ∧ Grows w g p { p with fb := p.fb.set i (q.1, v') } := by
  have hqb := x.fblk i q f hq hf
  have hc := hc.mono (S' := q.1 :: q.2.ownBlock.toList) (fun k hk hlt => by
    rcases hS k hk hlt with h | h
    · simp [h]
    · simp [h])
  have hil := (List.getElem?_eq_some_iff.1 hq).1
  have hnot : ∀ k, k < w.heap.size → k ≠ q.1 → q.2.ownBlock ≠ some k → k ∉ q.1 :: q.2.ownBlock.toList := fun k _ h1 h2 hm => by
    rcases List.mem_cons.1 hm with h | h
    · exact h1 h
    · exact h2 (by simpa using h)
  have hrow : ∀ k t cs, Blk w k t cs → t ≠ 56 → t ≠ 5 → k ∉ q.1 :: q.2.ownBlock.toList := fun k t cs hk h1 h2 => hnot k hk.lt (fun e => by subst e; exact hk.ne_ hqb h1 rfl) (fun e => by
    obtain ⟨cur, hr⟩ := (x.fown i q f hq hf).row e
    exact hk.ne_ hr h2 rfl)
  have hmap : ∀ (bv : Nat → Value) r ff, MapAt keyV bv w r ff → r ∉ q.1 :: q.2.ownBlock.toList := fun bv r ff hm => hnot r hm.lt (fun e => hm.ne_blk hqb e) (fun e => by
    obtain ⟨cur, hr⟩ := (x.fown i q f hq hf).row e
    exact hm.ne_blk hr rfl)
  have hfst := set_fst hq v'
  have hget : ∀ (j : Nat) q', (p.fb.set i (q.1, v'))[j]? = some q' → (j = i ∧ q' = (q.1, v')) ∨ (j ≠ i ∧ p.fb[j]? = some q') := fun j q' h => by
    rw [List.getElem?_set] at h
    by_cases e : i = j
    · subst e; rw [if_pos rfl, if_pos hil] at h; injection h with h; exact .inl ⟨rfl, h.symm⟩
    · rw [if_neg e] at h; exact .inr ⟨fun e' => e e'.symm, h⟩
  have hfile : ∀ (j : Nat) f', (s.files.modify i gg)[j]? = some f' → (j = i ∧ f' = gg f) ∨ (j ≠ i ∧ s.files[j]? = some f') := fun j f' h => by
    rw [List.getElem?_modify] at h
    by_cases e : i = j
    · subst e; simp [hf] at h; exact .inl ⟨rfl, h.symm⟩
    · simp [e] at h; exact .inr ⟨fun e' => e e'.symm, h⟩
  refine ⟨⟨hok, x.blk.keep hc (hrow _ _ _ x.blk (by decide) (by decide)), (x.dirM.keep hc (hmap _ _ _ x.dirM)).congr (fun k => (at2_fst hfst _ k).symm), (x.lastsM.keep hc (hmap _ _ _ x.lastsM)).congr (fun k => (at2_fst hfst _ k).symm), ?_, by simp [x.len], fun j q' f' h1 h2 => ?_, fun j q' f' h1 h2 => ?_, x.apart1, ?_, fun j j' q1 q2 h h1 h2 h3 h4 => ?_⟩, fun k hk => ?_⟩
  · show Own w' _ 4 p.wv s.waits.length (s.waits.flatMap (chV (p.fb.set i (q.1, v'))))
    rw [flatMap_congr' (g := chV p.fb) (fun c _ => chV_fst hfst c)]
    refine x.waitsM.keep hc (fun h hh => ?_)
    obtain ⟨cur, hr⟩ := x.waitsM.row hh
    exact hrow _ _ _ hr (by decide) (by decide)
  · rcases hget j q' h1 with ⟨rfl, rfl⟩ | ⟨hj, h1⟩
    · rcases hfile j f' h2 with ⟨_, rfl⟩ | ⟨h, _⟩
      · exact hb
      · exact absurd rfl h
    · rcases hfile j f' h2 with ⟨h, _⟩ | ⟨_, h2⟩
      · exact absurd h hj
      · have h5 := x.fblk j q' f' h1 h2
        refine h5.keep hc (hnot _ h5.lt (fun e => hj ?_) (fun e => ?_))
        · have hjl := (List.getElem?_eq_some_iff.1 h1).1
          refine (List.getElem?_inj (l := p.fb.map (·.1)) (by simpa using hjl) x.apart2).1 ?_
          rw [List.getElem?_map, List.getElem?_map, h1, hq]; simp [e]
        · obtain ⟨cur, hr⟩ := (x.fown i q f hq hf).row e
          exact h5.ne_ hr (by decide) rfl
  · rcases hget j q' h1 with ⟨rfl, rfl⟩ | ⟨hj, h1⟩
    · rcases hfile j f' h2 with ⟨_, rfl⟩ | ⟨h, _⟩
      · exact ho
      · exact absurd rfl h
    · rcases hfile j f' h2 with ⟨h, _⟩ | ⟨_, h2⟩
      · exact absurd h hj
      · have h5 := x.fown j q' f' h1 h2
        refine h5.keep hc (fun h hh => hnot _ (h5.lt hh) (fun e => ?_) (fun e => hj (x.apart3 j i q' q h h1 hq hh e)))
        obtain ⟨cur, hr⟩ := h5.row hh
        rw [e] at hr
        exact hqb.ne_ hr (by decide) rfl
  · have : (p.fb.set i (q.1, v')).map (·.1) = p.fb.map (·.1) := by
      apply List.ext_getElem?
      intro j
      rw [List.getElem?_map, List.getElem?_map]; exact hfst j
    show (List.map _ _).Nodup
    rw [this]; exact x.apart2
  · rcases hget j q1 h1 with ⟨rfl, rfl⟩ | ⟨hj, g1⟩
    · rcases hget j' q2 h2 with ⟨rfl, rfl⟩ | ⟨hj', g2⟩
      · rfl
      · have h3 : v'.ownBlock = some h := h3
        rcases hv with hv | ⟨h', hv, hge⟩
        · exact x.apart3 j j' q q2 h hq g2 (hv.symm.trans h3) h4
        · obtain ⟨f2, hf2⟩ : ∃ f2, s.files[j']? = some f2 := ⟨_, List.getElem?_eq_getElem (by rw [← x.len]; exact (List.getElem?_eq_some_iff.1 g2).1)⟩
          have := (x.fown j' q2 f2 g2 hf2).lt h4
          rw [h3] at hv; injection hv with hv; omega
    · rcases hget j' q2 h2 with ⟨rfl, rfl⟩ | ⟨hj', g2⟩
      · have h4 : v'.ownBlock = some h := h4
        rcases hv with hv | ⟨h', hv, hge⟩
        · exact x.apart3 j j' q1 q h g1 hq h3 (hv.symm.trans h4)
        · obtain ⟨f2, hf2⟩ : ∃ f2, s.files[j]? = some f2 := ⟨_, List.getElem?_eq_getElem (by rw [← x.len]; exact (List.getElem?_eq_some_iff.1 g1).1)⟩
          have := (x.fown j q1 f2 g1 hf2).lt h3
          rw [h4] at hv; injection hv with hv; omega
      · exact x.apart3 j j' q1 q2 h g1 g2 h3 h4
  · rcases FsP.mem_fp.1 hk with h | h | h | h | ⟨q', hq', h⟩
    · exact .inl (FsP.mem_fp.2 (.inl h))
    · exact .inl (FsP.mem_fp.2 (.inr (.inl h)))
    · exact .inl (FsP.mem_fp.2 (.inr (.inr (.inl h))))
    · exact .inl (FsP.mem_fp.2 (.inr (.inr (.inr (.inl h)))))
    · rcases List.mem_or_eq_of_mem_set hq' with hq' | rfl
      · exact .inl (FsP.mem_fp.2 (.inr (.inr (.inr (.inr ⟨q', hq', h⟩)))))
      · have hqm := List.mem_of_getElem? hq
        rcases h with h | h
        · exact .inl (FsP.mem_fp.2 (.inr (.inr (.inr (.inr ⟨q, hqm, .inl h⟩)))))
        · have h : v'.ownBlock = some k := h
          rcases hv with hv | ⟨h', hv, hge⟩
          · exact .inl (FsP.mem_fp.2 (.inr (.inr (.inr (.inr ⟨q, hqm, .inr (hv.symm.trans h)⟩)))))
          · rw [h] at hv; injection hv with hv; exact .inr (by omega)

theorem FsAt.mem_file {w : World} {g : Nat} {s : FsM} {p : FsP} (x : FsAt w g s p) {i : Nat} {q : Nat × Value} (hq : p.fb[i]? = some q) : q.1 ∈ p.fp g ∧ ∀ h, q.2.ownBlock = some h → h ∈ p.fp g :=
  ⟨FsP.mem_fp.2 (.inr (.inr (.inr (.inr ⟨q, List.mem_of_getElem? hq, .inl rfl⟩)))), fun h hh => FsP.mem_fp.2 (.inr (.inr (.inr (.inr ⟨q, List.mem_of_getElem? hq, .inr hh⟩))))⟩

set_option maxHeartbeats 2000000 in
theorem sync_has (g : Nat) (s : FsM) (p : FsP) (k : Nm) (w : World) (x : FsAt w g s p) (hcalls : s.calls < 1000000000 - 1) :
    Has Go.Proofs.Tryz.prog 9 #[ptrV g, .string (str k)] w (FsDone w g p (syncM s k)) := by
  refine enter Go.Proofs.Tryz.func9 rfl rfl (by decide) rfl (e := [(0, ptrV g), (1, .string (str k))]) ⟨rfl, rfl, trivial⟩ ?_
  unfold ptrV
  repeat (first | refine W_seq ?_ | refine W_region ?_ | refine Then_n ?_ | refine WL_nil ?_ | refine WL_some rfl rfl rfl ?_ | refine op_move rfl rfl ?_ | refine op_assign rfl rfl ?_)
  refine op_call rfl rfl rfl (call_has g s p w x (by omega)) ?_
  rintro _ w1 ⟨hc1, rfl, x1⟩
  cases hfm : failsM s with
  | true =>
    have hr : syncM s k = (callM s, 5) := by unfold syncM; simp [hfm]
    rw [if_pos rfl]
    repeat (first | refine W_seq ?_ | refine W_region ?_ | refine W_ret ?_ | refine Then_n ?_ | refine Then_r ?_ | refine WL_nil ?_ | refine W_condT rfl ?_ | refine WL_some rfl rfl rfl ?_ | refine op_move rfl rfl ?_ | refine op_assign rfl rfl ?_ | refine op_neq rfl rfl rfl (fun hc => ?_) (fun hc => False.elim (by omega)))
    refine post1 (.inl rfl) rfl rfl ?_
    rw [hr]; exact ⟨chg_self hc1, rfl, p, x1, Grows.refl _ _ _⟩
  | false =>
  rw [if_neg (by simp)]
  have hb1 := x1.blk
  cases hl : looks (callM s).dir k with
  | none =>
    have hr : syncM s k = (callM s, 3) := by unfold syncM; simp [hfm, hl]
    repeat (first | refine W_seq ?_ | refine W_region ?_ | refine W_skip ?_ | refine Then_n ?_ | refine WL_nil ?_ | refine W_condF rfl ?_ | refine WL_some rfl rfl rfl ?_ | refine op_move rfl rfl ?_ | refine op_assign rfl rfl ?_ | refine op_nilCheck rfl rfl ?_ | refine op_neq rfl rfl rfl (fun hc => False.elim (by omega)) (fun hc => ?_) | refine op_fieldAddr T rfl rfl rfl rfl rfl rfl rfl rfl ?_ | refine op_loadB T rfl rfl rfl rfl (by assumption) (by exact rfl) ?_)
    refine op_lookup_v T strKey rfl rfl rfl rfl rfl rfl x1.dirM (v := .pointer none) (fun b hb => by rw [at2_none hl] at hb; cases hb) (fun _ => rfl) ?_
    repeat (first | refine W_seq ?_ | refine W_region ?_ | refine W_ret ?_ | refine Then_n ?_ | refine Then_r ?_ | refine WL_nil ?_ | refine W_condT rfl ?_ | refine WL_some rfl rfl rfl ?_ | refine op_move rfl rfl ?_ | refine op_assign rfl rfl ?_ | refine op_eql_nilptr T rfl rfl rfl rfl rfl ?_)
    refine post1 (.inl rfl) rfl rfl ?_
    rw [hr]; exact ⟨chg_self hc1, rfl, p, x1, Grows.refl _ _ _⟩
  | some i =>
  obtain ⟨q, f, hq, hfi⟩ := x1.get hl
  have hr : syncM s k = ({ callM s with files := (callM s).files.modify i fun f => { f with synced := f.b.length } }, 0) := by unfold syncM; simp [hfm, hl]
  have hok := syncM_ok x.ok k
  rw [hr] at hok
  have hbf := x1.fblk i q f hq hfi
  have hof := x1.fown i q f hq hfi
  obtain ⟨A, c, hv, hv1, hv2⟩ := hof.form
  rw [hv] at hbf
  repeat (first | refine W_seq ?_ | refine W_region ?_ | refine W_skip ?_ | refine Then_n ?_ | refine WL_nil ?_ | refine W_condF rfl ?_ | refine WL_some rfl rfl rfl ?_ | refine op_move rfl rfl ?_ | refine op_assign rfl rfl ?_ | refine op_nilCheck rfl rfl ?_ | refine op_neq rfl rfl rfl (fun hc => False.elim (by omega)) (fun hc => ?_) | refine op_fieldAddr T rfl rfl rfl rfl rfl rfl rfl rfl ?_ | refine op_loadB T rfl rfl rfl rfl (by assumption) (by exact rfl) ?_)
  refine op_lookup_v T strKey rfl rfl rfl rfl rfl rfl x1.dirM (v := ptrV q.1) (fun b hb => by rw [at2_some hl hq] at hb; injection hb with hb; rw [hb]) (fun hn => by rw [at2_some hl hq] at hn; cases hn) ?_
  unfold ptrV
  repeat (first | refine W_seq ?_ | refine W_region ?_ | refine W_skip ?_ | refine Then_n ?_ | refine WL_nil ?_ | refine W_condF rfl ?_ | refine WL_some rfl rfl rfl ?_ | refine WL_none rfl rfl ?_ | refine op_move rfl rfl ?_ | refine op_assign rfl rfl ?_ | refine op_len_slice T rfl rfl rfl rfl ?_ | refine op_nilCheck rfl rfl ?_ | refine op_fieldAddr T rfl rfl rfl rfl rfl rfl rfl rfl ?_ | refine op_eql_nilptr T rfl rfl rfl rfl rfl ?_ | refine op_loadB T rfl rfl rfl rfl (by assumption) (by exact rfl) ?_)
  refine op_store T rfl rfl rfl rfl rfl rfl hbf (Nat.le_of_ble_eq_true rfl) (fun w2 hc2 hb2 _ => ?_)
  repeat (first | refine W_seq ?_ | refine W_region ?_ | refine W_ret ?_ | refine Then_n ?_ | refine WL_nil ?_ | refine WL_some rfl rfl rfl ?_ | refine op_assign rfl rfl ?_)
  have hb2 : Blk w2 q.1 56 [q.2, .int .i64 (f.b.length : Nat)] := by rw [hv]; exact hb2
  obtain ⟨x2, hg2⟩ := x1.setFile hq hfi (fun f => { f with synced := f.b.length }) (v' := q.2) hc2 (fun j hj _ => by simp at hj; exact .inl hj) hb2 (hof.keep hc2 (fun h hh hm => by
    simp at hm
    obtain ⟨cur, hr⟩ := hof.row hh
    rw [hm] at hr
    exact hbf.ne_ hr (by decide) rfl)) (.inl rfl) hok
  refine post1 (.inl rfl) rfl rfl ?_
  rw [hr]
  exact ⟨(chg_self hc1).trans hc2 (fun j hj _ => by simp at hj; subst hj; exact (x1.mem_file hq).1), rfl, _, x2, (Grows.refl _ _ _).trans hg2 hc1.size⟩

set_option maxHeartbeats 4000000 in
theorem append_has (g : Nat) (s : FsM) (p : FsP) (k : Nm) (A : Option Addr) (n c : Nat) (b : List UInt8) (w : World) (x : FsAt w g s p) (hb : Firm (p.fp g) w (fun w => SliceOf Ru8 w (.slice A n c) b)) (hbl : b.length ≤ 1000000000) (hcalls : s.calls < 1000000000 - 1) :
    Has Go.Proofs.Tryz.prog 7 #[ptrV g, .string (str k), .slice A n c] w (FsDone w g p (appendM s k b)) := by
  obtain ⟨rfl, hb1, hb2⟩ := hb.now.len
  refine enter Go.Proofs.Tryz.func7 rfl rfl (by decide) rfl (e := [(0, ptrV g), (1, .string (str k)), (2, .slice A b.length c)]) ⟨rfl, rfl, rfl, trivial⟩ ?_
  unfold ptrV
  repeat (first | refine W_seq ?_ | refine W_region ?_ | refine Then_n ?_ | refine WL_nil ?_ | refine WL_some rfl rfl rfl ?_ | refine op_move rfl rfl ?_ | refine op_assign rfl rfl ?_)
  refine op_call rfl rfl rfl (call_has g s p w x (by omega)) ?_
  rintro _ w1 ⟨hc1, rfl, x1⟩
  have hs1 := hb w1 (chg_self hc1)
  cases hfm : failsM s with
  | true =>
    have hr : appendM s k b = (callM s, 5) := by unfold appendM; simp [hfm]
    rw [if_pos rfl]
    repeat (first | refine W_seq ?_ | refine W_region ?_ | refine W_ret ?_ | refine Then_n ?_ | refine Then_r ?_ | refine WL_nil ?_ | refine W_condT rfl ?_ | refine WL_some rfl rfl rfl ?_ | refine op_move rfl rfl ?_ | refine op_assign rfl rfl ?_ | refine op_neq rfl rfl rfl (fun hc => ?_) (fun hc => False.elim (by omega)))
    refine post1 (.inl rfl) rfl rfl ?_
    rw [hr]; exact ⟨chg_self hc1, rfl, p, x1, Grows.refl _ _ _⟩
  | false =>
  rw [if_neg (by simp)]
  have hbk1 := x1.blk
  cases hl : looks (callM s).dir k with
  | none =>
    have hr : appendM s k b = (callM s, 3) := by unfold appendM; simp [hfm, hl]
    repeat (first | refine W_seq ?_ | refine W_region ?_ | refine W_skip ?_ | refine Then_n ?_ | refine WL_nil ?_ | refine W_condF rfl ?_ | refine WL_some rfl rfl rfl ?_ | refine op_move rfl rfl ?_ | refine op_assign rfl rfl ?_ | refine op_nilCheck rfl rfl ?_ | refine op_neq rfl rfl rfl (fun hc => False.elim (by omega)) (fun hc => ?_) | refine op_fieldAddr T rfl rfl rfl rfl rfl rfl rfl rfl ?_ | refine op_loadB T rfl rfl rfl rfl (by assumption) (by exact rfl) ?_)
    refine op_lookup_v T strKey rfl rfl rfl rfl rfl rfl x1.dirM (v := .pointer none) (fun b hb => by rw [at2_none hl] at hb; cases hb) (fun _ => rfl) ?_
    repeat (first | refine W_seq ?_ | refine W_block ?_ | refine W_region ?_ | refine W_ret ?_ | refine Then_n ?_ | refine Then_r ?_ | refine InBlock_r ?_ | refine WL_nil ?_ | refine W_condT rfl ?_ | refine WL_some rfl rfl rfl ?_ | refine op_move rfl rfl ?_ | refine op_assign rfl rfl ?_ | refine op_eql_nilptr T rfl rfl rfl rfl rfl ?_)
    refine post1 (.inl rfl) rfl rfl ?_
    rw [hr]; exact ⟨chg_self hc1, rfl, p, x1, Grows.refl _ _ _⟩
  | some i =>
  obtain ⟨q, f, hq, hfi⟩ := x1.get hl
  have hul := usedM_le x1.ok
  have hr0 := x1.ok.room0
  have hr1 := x1.ok.room1
  repeat (first | refine W_seq ?_ | refine W_region ?_ | refine W_skip ?_ | refine Then_n ?_ | refine WL_nil ?_ | refine W_condF rfl ?_ | refine WL_some rfl rfl rfl ?_ | refine op_move rfl rfl ?_ | refine op_assign rfl rfl ?_ | refine op_nilCheck rfl rfl ?_ | refine op_neq rfl rfl rfl (fun hc => False.elim (by omega)) (fun hc => ?_) | refine op_fieldAddr T rfl rfl rfl rfl rfl rfl rfl rfl ?_ | refine op_loadB T rfl rfl rfl rfl (by assumption) (by exact rfl) ?_)
  refine op_lookup_v T strKey rfl rfl rfl rfl rfl rfl x1.dirM (v := ptrV q.1) (fun b hb => by rw [at2_some hl hq] at hb; injection hb with hb; rw [hb]) (fun hn => by rw [at2_some hl hq] at hn; cases hn) ?_
  unfold ptrV
  repeat (first | refine W_seq ?_ | refine W_block ?_ | refine W_region ?_ | refine Then_n ?_ | refine WL_nil ?_ | refine W_condF rfl ?_ | refine WL_some rfl rfl rfl ?_ | refine op_move rfl rfl ?_ | refine op_assign rfl rfl ?_ | refine op_eql_nilptr T rfl rfl rfl rfl rfl ?_)
  refine W_walk 10 [] fol (by kernel_rfl) (by kernel_rfl) ?_
  refine Walk.plain rfl (by intro val w_ hR hp; exact op_move rfl rfl ⟨Chg.refl _ _, rfl⟩) ?_; dsimp only [List.nil_append, List.cons_append]
  refine Walk.plain rfl (by intro val w_ hR hp; exact op_len_slice T rfl rfl rfl rfl ⟨Chg.refl _ _, rfl⟩) ?_; dsimp only [List.nil_append, List.cons_append]
  refine Walk.plain rfl (by intro val w_ hR hp; exact op_move rfl rfl ⟨Chg.refl _ _, rfl⟩) ?_; dsimp only [List.nil_append, List.cons_append]
  refine Walk.plain rfl (by intro val w_ hR hp; exact op_nilCheck rfl rfl ⟨Chg.refl _ _, rfl⟩) ?_; dsimp only [List.nil_append, List.cons_append]
  refine Walk.plain rfl (by intro val w_ hR hp; exact op_fieldAddr T rfl rfl rfl rfl rfl rfl rfl rfl ⟨Chg.refl _ _, rfl⟩) ?_; dsimp only [List.nil_append, List.cons_append]
  refine Walk.plain rfl (by intro val w_ hR hp; exact op_load T rfl rfl rfl rfl ((Blk.keep0 hbk1 hR).cell rfl) ⟨Chg.refl _ _, rfl⟩) ?_; dsimp only [List.nil_append, List.cons_append]
  refine Walk.plain rfl (by intro val w_ hR hp; exact op_move rfl rfl ⟨Chg.refl _ _, rfl⟩) ?_; dsimp only [List.nil_append, List.cons_append]
  refine Walk.plain (v := .int .i64 (usedM (callM s))) rfl (by intro val w_ hR hp; exact op_call rfl rfl rfl (used_has g _ p w_ (x1.keep0 hR)) (fun v w' ⟨hc, hv⟩ => ⟨hc, hv⟩)) ?_; dsimp only [List.nil_append, List.cons_append]
  refine Walk.plain rfl (by intro val w_ hR hp; exact op_subt rfl rfl rfl (wrap_i64_in (by omega) (by omega)) ⟨Chg.refl _ _, rfl⟩) ?_; dsimp only [List.nil_append, List.cons_append]
  by_cases hfull : (callM s).room - usedM (callM s) < b.length
  case pos =>
    refine Walk.plain rfl (by intro val w_ hR hp; exact op_gtr rfl rfl rfl (fun hc => ⟨Chg.refl _ _, rfl⟩) (fun hc => False.elim (by omega))) ?_; dsimp only [List.nil_append, List.cons_append]
    refine Walk.fin ?_
    intro val w2 hc2 _
    have x2 := x1.keep0 hc2
    have hr : appendM s k b = (callM s, 4) := by unfold appendM; simp [hfm, hl, hfull]
    refine WL_sub (e' := [(6, .int .i64 0), (33, .bool true)]) ⟨rfl, rfl, trivial⟩ ?_
    repeat (first | refine W_seq ?_ | refine W_region ?_ | refine W_ret ?_ | refine Then_n ?_ | refine Then_r ?_ | refine InBlock_r ?_ | refine WL_nil ?_ | refine W_condT rfl ?_ | refine WL_some rfl rfl rfl ?_ | refine op_assign rfl rfl ?_)
    refine post1 (.inl rfl) rfl rfl ?_
    rw [hr]; exact ⟨(chg_self hc1).trans' hc2, rfl, p, x2, Grows.refl _ _ _⟩
  case neg =>
    refine Walk.plain rfl (by intro val w_ hR hp; exact op_gtr rfl rfl rfl (fun hc => False.elim (by omega)) (fun hc => ⟨Chg.refl _ _, rfl⟩)) ?_; dsimp only [List.nil_append, List.cons_append]
    refine Walk.fin ?_
    intro val w2 hc2 _
    have x2 := x1.keep0 hc2
    have hr : appendM s k b = ({ callM s with files := (callM s).files.modify i fun f => { f with b := f.b ++ b } }, 0) := by unfold appendM; simp [hfm, hl, hfull]
    have hok := appendM_ok x.ok k b
    rw [hr] at hok
    refine WL_sub (e' := [(0, .pointer (some ⟨g, 0, none⟩)), (2, .slice A b.length c), (6, .int .i64 0), (8, .pointer (some ⟨q.1, 0, none⟩)), (33, .bool false)]) ⟨rfl, rfl, rfl, rfl, rfl, trivial⟩ ?_
    have hbf := x2.fblk i q f hq hfi
    have hof := x2.fown i q f hq hfi
    have hs2 := SliceOf.kept Ru8.kept _ _ _ _ hc2 hs1
    have hfl := (x1.ok.files f (List.mem_of_getElem? hfi)).2
    obtain ⟨A2, c2, hv, hv1, hv2⟩ := hof.form
    repeat (first | refine W_seq ?_ | refine W_region ?_ | refine W_skip ?_ | refine Then_n ?_ | refine InBlock_n ?_ | refine WL_nil ?_ | refine W_condF rfl ?_ | refine WL_some rfl rfl rfl ?_ | refine op_move rfl rfl ?_ | refine op_assign rfl rfl ?_ | refine op_nilCheck rfl rfl ?_ | refine op_fieldAddr T rfl rfl rfl rfl rfl rfl rfl rfl ?_ | refine op_loadB T rfl rfl rfl rfl (by assumption) (by exact rfl) ?_)
    refine op_append T (n := f.b.length) (xs := u8s f.b) (m := b.length) (news := u8s b) rfl rfl rfl rfl rfl rfl rfl rfl hof (by rw [u8s_length]; exact (Nat.mul_one _).symm) ?_ (by unfold maxLen; omega) (by show (f.b.length + b.length) * 1 ≤ _; omega) ?_
    · intro j u hj
      obtain ⟨cc, hcc, rfl⟩ := u8s_inv hj
      obtain ⟨ad, u', he, hu, rfl⟩ := hs2.get hcc
      exact ⟨⟨ad, he, hu⟩, rfl⟩
    intro v3 w3 ho3 hc3 hb3 _
    have hq1 : q.1 ∉ q.2.ownBlock.toList := fun hm => by
      obtain ⟨cur, hr⟩ := hof.row (show q.2.ownBlock = some q.1 by simpa using hm)
      exact hbf.ne_ hr (by decide) rfl
    have hbf3 := hbf.keep hc3 hq1
    obtain ⟨A3, c3, rfl, _, _⟩ := ho3.form
    repeat (first | refine WL_some rfl rfl rfl ?_ | refine WL_none rfl rfl ?_ | refine op_nilCheck rfl rfl ?_ | refine op_fieldAddr T rfl rfl rfl rfl rfl rfl rfl rfl ?_)
    refine op_store T rfl rfl rfl rfl rfl rfl hbf3 (Nat.le_of_ble_eq_true rfl) (fun w4 hc4 hb4 _ => ?_)
    repeat (first | refine W_seq ?_ | refine W_region ?_ | refine W_ret ?_ | refine Then_n ?_ | refine WL_nil ?_ | refine WL_some rfl rfl rfl ?_ | refine op_assign rfl rfl ?_)
    have hc24 : Chg (q.1 :: q.2.ownBlock.toList) w2 w4 := (hc3.mono (fun j hj _ => by simp at hj; simp [hj])).trans hc4 (fun j hj _ => by simp at hj; simp [hj])
    obtain ⟨x4, hg4⟩ := x2.setFile hq hfi (fun f => { f with b := f.b ++ b }) hc24 (fun j hj _ => by simpa using hj) hb4 (by
      show Own w4 _ 1 _ (f.b ++ b).length (u8s (f.b ++ b))
      rw [List.length_append, u8s_append]
      refine ho3.keep hc4 (fun h hh hm => ?_)
      simp at hm
      obtain ⟨cur, hr⟩ := ho3.row hh
      rw [hm] at hr
      exact hbf3.ne_ hr (by decide) rfl) hb3 hok
    refine post1 (.inl rfl) rfl rfl ?_
    rw [hr]
    obtain ⟨hm1, hm2⟩ := x2.mem_file hq
    have hc02 := (chg_self (p := p) hc1).trans' hc2
    exact ⟨hc02.trans hc24 (fun j hj _ => by
      rcases List.mem_cons.1 hj with h | h
      · subst h; exact hm1
      · exact hm2 j (by simpa using h)), rfl, _, x4, (Grows.refl _ _ _).trans hg4 hc02.size⟩

/-- What Read leaves: the bytes of a file, in a row of the call's own. -/
def readV (o : Option (List UInt8)) (w0 : World) (v : Value) (w' : World) : Prop := match o with
  | none => v = .tuple #[.slice none 0 0, .int .i64 3]
  | some b => ∃ u, v = .tuple #[u, .int .i64 0] ∧ Own w' 5 1 u b.length (u8s b) ∧ ∀ h, u.ownBlock = some h → w0.heap.size ≤ h
theorem read_has (g : Nat) (s : FsM) (p : FsP) (k : Nm) (w : World) (x : FsAt w g s p) :
    Has Go.Proofs.Tryz.prog 23 #[ptrV g, .string (str k)] w (fun v w' => Chg [] w w' ∧ readV (readM s k) w v w') := by
  refine enter Go.Proofs.Tryz.func23 rfl rfl (by decide) rfl (e := [(0, ptrV g), (1, .string (str k))]) ⟨rfl, rfl, trivial⟩ ?_
  unfold ptrV
  have hb := x.blk
  cases hl : looks s.dir k with
  | none =>
    have hr : readM s k = none := by unfold readM; rw [hl]; rfl
    repeat (first | refine W_seq ?_ | refine W_region ?_ | refine Then_n ?_ | refine WL_nil ?_ | refine WL_some rfl rfl rfl ?_ | refine WL_guardT rfl rfl rfl rfl ?_ | refine op_move rfl rfl ?_ | refine op_assign rfl rfl ?_ | refine op_nilCheck rfl rfl ?_ | refine op_fieldAddr T rfl rfl rfl rfl rfl rfl rfl rfl ?_ | refine op_eql_nilptr T rfl rfl rfl rfl rfl ?_ | refine op_loadB T rfl rfl rfl rfl (by assumption) (by exact rfl) ?_)
    refine op_lookup_v T strKey rfl rfl rfl rfl rfl rfl x.dirM (v := .pointer none) (fun b hb => by rw [at2_none hl] at hb; cases hb) (fun _ => rfl) ?_
    repeat (first | refine W_seq ?_ | refine W_region ?_ | refine W_ret ?_ | refine Then_n ?_ | refine Then_r ?_ | refine WL_nil ?_ | refine W_condT rfl ?_ | refine WL_some rfl rfl rfl ?_ | refine WL_guardT rfl rfl rfl rfl ?_ | refine op_assign rfl rfl ?_ | refine op_pick rfl rfl rfl rfl ?_ | refine op_eql_nilptr T rfl rfl rfl rfl rfl ?_)
    refine post2 (.inl rfl) rfl rfl rfl ⟨Chg.refl _ _, ?_⟩
    rw [hr]; rfl
  | some i =>
    obtain ⟨q, f, hq, hfi⟩ := x.get hl
    have hr : readM s k = some f.b := by unfold readM; rw [hl]; simp [hfi]
    have hbf := x.fblk i q f hq hfi
    have hof := x.fown i q f hq hfi
    have hfl := (x.ok.files f (List.mem_of_getElem? hfi)).2
    obtain ⟨A, c, hv, hv1, hv2⟩ := hof.form
    rw [hv] at hbf hof
    repeat (first | refine W_seq ?_ | refine W_region ?_ | refine Then_n ?_ | refine WL_nil ?_ | refine WL_some rfl rfl rfl ?_ | refine WL_guardT rfl rfl rfl rfl ?_ | refine op_move rfl rfl ?_ | refine op_assign rfl rfl ?_ | refine op_nilCheck rfl rfl ?_ | refine op_fieldAddr T rfl rfl rfl rfl rfl rfl rfl rfl ?_ | refine op_eql_nilptr T rfl rfl rfl rfl rfl ?_ | refine op_loadB T rfl rfl rfl rfl (by assumption) (by exact rfl) ?_)
    refine op_lookup_v T strKey rfl rfl rfl rfl rfl rfl x.dirM (v := ptrV q.1) (fun b hb => by rw [at2_some hl hq] at hb; injection hb with hb; rw [hb]) (fun hn => by rw [at2_some hl hq] at hn; cases hn) ?_
    unfold ptrV
    repeat (first | refine W_seq ?_ | refine W_region ?_ | refine W_skip ?_ | refine Then_n ?_ | refine WL_nil ?_ | refine W_condF rfl ?_ | refine WL_some rfl rfl rfl ?_ | refine WL_guardT rfl rfl rfl rfl ?_ | refine op_move rfl rfl ?_ | refine op_pick rfl rfl rfl rfl ?_ | refine op_nilCheck rfl rfl ?_ | refine op_fieldAddr T rfl rfl rfl rfl rfl rfl rfl rfl ?_ | refine op_eql_nilptr T rfl rfl rfl rfl rfl ?_ | refine op_loadB T rfl rfl rfl rfl (by assumption) (by exact rfl) ?_)
    refine op_lookup_v T strKey rfl rfl rfl rfl rfl rfl x.dirM (v := ptrV q.1) (fun b hb => by rw [at2_some hl hq] at hb; injection hb with hb; rw [hb]) (fun hn => by rw [at2_some hl hq] at hn; cases hn) ?_
    unfold ptrV
    repeat (first | refine WL_some rfl rfl rfl ?_ | refine op_nilCheck rfl rfl ?_ | refine op_fieldAddr T rfl rfl rfl rfl rfl rfl rfl rfl ?_ | refine op_loadB T rfl rfl rfl rfl (by assumption) (by exact rfl) ?_)
    refine op_call rfl rfl rfl (clone_has A _ c f.b w hof.bytes (by omega)) ?_
    rintro v w1 ⟨hc1, ho1, hf1⟩
    repeat (first | refine W_ret ?_ | refine Then_n ?_ | refine WL_nil ?_ | refine WL_some rfl rfl rfl ?_ | refine op_assign rfl rfl ?_)
    refine post2 (.inl rfl) rfl rfl rfl ⟨hc1, ?_⟩
    rw [hr]; exact ⟨v, rfl, ho1, hf1⟩
end Go.Proofs.YtiadjkjlifnopaaGreat.Tryz
/-! Files: Rot. -/
set_option linter.unusedVariables false
set_option linter.unusedSimpArgs false
namespace Go.Vc
open Go
def rotC (x : UInt8) (i : Nat) (c : UInt8) : UInt8 := c ^^^ (x + UInt8.ofNat (i % 64))
def rotTo (b : List UInt8) (sec : Nat) (x : UInt8) (j : Nat) : List UInt8 := b.mapIdx fun i c => if sec * 64 ≤ i ∧ i < j then rotC x i c else c
theorem rotTo_length (b : List UInt8) (sec : Nat) (x : UInt8) (j : Nat) : (rotTo b sec x j).length = b.length := by simp [rotTo]
theorem rotTo_get {b : List UInt8} {sec : Nat} {x : UInt8} {j i : Nat} {c : UInt8} (h : b[i]? = some c) : (rotTo b sec x j)[i]? = some (if sec * 64 ≤ i ∧ i < j then rotC x i c else c) := by
  simp [rotTo, List.getElem?_mapIdx, h]
theorem rotTo_start (b : List UInt8) (sec : Nat) (x : UInt8) : rotTo b sec x (sec * 64) = b := by
  apply List.ext_getElem?
  intro i
  cases h : b[i]? with
  | none => rw [List.getElem?_eq_none_iff] at h ⊢; rw [rotTo_length]; exact h
  | some c => rw [rotTo_get h, if_neg (by omega)]
theorem rotTo_step {b : List UInt8} {sec : Nat} {x : UInt8} {j : Nat} {c : UInt8} (h : b[j]? = some c) (hj : sec * 64 ≤ j) : (rotTo b sec x j).set j (rotC x j c) = rotTo b sec x (j + 1) := by
  apply List.ext_getElem?
  intro i
  rw [List.getElem?_set]
  by_cases e : j = i
  · subst e
    rw [if_pos rfl, rotTo_length, if_pos (List.getElem?_eq_some_iff.1 h).1, rotTo_get h, if_pos ⟨hj, by omega⟩]
  · rw [if_neg e]
    cases hi : b[i]? with
    | none =>
      have h1 := List.getElem?_eq_none_iff.1 hi
      rw [List.getElem?_eq_none_iff.2 (by rw [rotTo_length]; exact h1), List.getElem?_eq_none_iff.2 (by rw [rotTo_length]; exact h1)]
    | some d =>
      rw [rotTo_get hi, rotTo_get hi]
      by_cases h2 : sec * 64 ≤ i ∧ i < j
      · rw [if_pos h2, if_pos ⟨h2.1, by omega⟩]
      · rw [if_neg h2, if_neg (by omega)]
theorem rotTo_end (b : List UInt8) (sec : Nat) (x : UInt8) (j : Nat) (hj : j = min b.length ((sec + 1) * 64)) : rotTo b sec x j = rotB b sec x := by
  unfold rotTo rotB
  apply List.ext_getElem?
  intro i
  rw [List.getElem?_mapIdx, List.getElem?_mapIdx]
  cases h : b[i]? with
  | none => rfl
  | some c =>
    have := (List.getElem?_eq_some_iff.1 h).1
    simp only [Option.map_some]
    by_cases h2 : sec * 64 ≤ i ∧ i < j
    · rw [if_pos h2, if_pos ⟨h2.1, by omega⟩]; rfl
    · rw [if_neg h2, if_neg (by omega)]
theorem add_u8 (x y : UInt8) : IntKind.u8.wrap ((x.toNat : Int) + (y.toNat : Int)) = ((x + y).toNat : Int) := by
  rw [IntKind.wrap_u8, UInt8.toNat_add]; omega
end Go.Vc
namespace Go.Proofs.YtiadjkjlifnopaaGreat.Tryz
open Go Go.Vc

end Go.Proofs.YtiadjkjlifnopaaGreat.Tryz
/-! Files: a crash. Plain laws. -/
set_option linter.unusedVariables false
set_option linter.unusedSimpArgs false
namespace Go.Vc
open Go
def crashTo (s : FsM) (n : Int) (k : Nat) : Dir := (s.waits.take (min k n.toNat)).foldl doM s.lasts
theorem crashTo_zero (s : FsM) (n : Int) : crashTo s n 0 = s.lasts := by unfold crashTo; simp
theorem crashTo_step {s : FsM} {n : Int} {k : Nat} {c : ChM} (hc : s.waits[k]? = some c) (hk : (k : Int) < n) : crashTo s n (k + 1) = doM (crashTo s n k) c := by
  unfold crashTo
  rw [show min (k + 1) n.toNat = k + 1 by omega, show min k n.toNat = k by omega, List.take_add_one, hc, List.foldl_append]
  rfl
theorem crashTo_stop {s : FsM} {n : Int} {k : Nat} (hk : ¬ (k : Int) < n) : crashTo s n (k + 1) = crashTo s n k := by
  unfold crashTo
  rw [show min (k + 1) n.toNat = min k n.toNat by omega]
theorem crashTo_end (s : FsM) (n : Int) : crashTo s n s.waits.length = crashDir s n := by
  unfold crashTo crashDir
  by_cases h : s.waits.length ≤ n.toNat
  · rw [show min s.waits.length n.toNat = s.waits.length by omega, List.take_of_length_le (Nat.le_refl _), List.take_of_length_le h]
  · rw [show min s.waits.length n.toNat = n.toNat by omega]
theorem crashTo_fit {s : FsM} (h : FsOk s) {n : Int} {k : Nat} {c : ChM} (hc : s.waits[k]? = some c) (hk : (k : Int) < n) : DirOk s.files.length (crashTo s n k) ∧ Fit1 (crashTo s n k) c := by
  have hl := (List.getElem?_eq_some_iff.1 hc).1
  have h1 := h.replay.at k (by omega)
  have hd : s.waits.drop k = c :: s.waits.drop (k + 1) := by rw [List.drop_eq_getElem_cons hl, (List.getElem?_eq_some_iff.1 hc).2]
  rw [hd] at h1
  have e : crashTo s n k = (s.waits.take k).foldl doM s.lasts := by unfold crashTo; rw [show min k n.toNat = k by omega]
  rw [e]
  exact ⟨h1.1, h1.2.1⟩
theorem chunk (fb : List (Nat × Value)) : ∀ (l : List ChM) (k : Nat) (c : ChM), l[k]? = some c → ((l.flatMap (chV fb)).drop (k * 4)).take 4 = chV fb c
  | [], k, c, h => by simp at h
  | a :: l, 0, c, h => by simp at h; subst h; rw [List.flatMap_cons]; simp [chV]
  | a :: l, k + 1, c, h => by
    rw [List.flatMap_cons, show (k + 1) * 4 = (chV fb a).length + k * 4 by simp [chV]; omega, List.drop_length_add_append]
    exact chunk fb l k c (by simpa using h)
def idxOf : Dir → Nm → Option Nat
  | [], _ => none
  | p :: d, k => if p.1 = k then some 0 else (idxOf d k).map (· + 1)
theorem idxOf_get {d : Dir} {k : Nm} {j : Nat} (h : idxOf d k = some j) : ∃ p, d[j]? = some p ∧ p.1 = k := by
  induction d generalizing j with
  | nil => cases h
  | cons p d ih =>
    unfold idxOf at h
    split at h
    · injection h with h; subst h; exact ⟨p, rfl, by assumption⟩
    · cases hi : idxOf d k with
      | none => rw [hi] at h; cases h
      | some i =>
        rw [hi] at h
        injection h with h
        subst h
        exact ih hi
theorem idxOf_of {d : Dir} (hr : (d.map (·.1)).Nodup) {j : Nat} {p : Nm × Nat} (h : d[j]? = some p) : idxOf d p.1 = some j := by
  induction d generalizing j with
  | nil => cases h
  | cons q d ih =>
    unfold idxOf
    rw [List.map_cons, List.nodup_cons] at hr
    cases j with
    | zero => simp at h; subst h; rw [if_pos rfl]
    | succ j =>
      have h' : d[j]? = some p := by simpa using h
      rw [if_neg (fun e => hr.1 (by rw [e]; exact List.mem_map.2 ⟨p, List.mem_of_getElem? h', rfl⟩)), ih hr.2 h']
      rfl
theorem looks_idx (d : Dir) (k : Nm) : looks d k = (idxOf d k).bind fun j => (d[j]?).map (·.2) := by
  induction d with
  | nil => rfl
  | cons p d ih =>
    obtain ⟨k', i⟩ := p
    unfold looks idxOf
    by_cases h : k' = k
    · rw [if_pos h, if_pos h]; rfl
    · rw [if_neg h, if_neg h, ih]
      cases idxOf d k <;> rfl
theorem idxOf_map (f : Nat → Nm × Nat → Nat) : ∀ (d : Dir) (k : Nm), idxOf (d.mapIdx fun j p => (p.1, f j p)) k = idxOf d k := by
  intro d
  induction d generalizing f with
  | nil => intro k; rfl
  | cons p d ih =>
    intro k
    rw [List.mapIdx_cons]
    unfold idxOf
    rw [ih (fun j p => f (j + 1) p)]
/-- Where the first files have been laid anew. -/
def hAt (fb nb : List (Nat × Value)) (d : Dir) (k : Nm) : Option Nat := (idxOf d k).bind fun j => if j < nb.length then (nb[j]?).map (·.1) else (d[j]?).bind fun p => (fb[p.2]?).map (·.1)
theorem hAt_start (fb : List (Nat × Value)) (d : Dir) (k : Nm) : hAt fb [] d k = at2 fb d k := by
  unfold hAt at2
  rw [looks_idx]
  cases idxOf d k with
  | none => rfl
  | some j =>
    simp only [Option.bind_some, List.length_nil, Nat.not_lt_zero, if_false]
    cases d[j]? <;> rfl
theorem hAt_step {fb nb : List (Nat × Value)} {d : Dir} (hr : (d.map (·.1)).Nodup) {p : Nm × Nat} (hp : d[nb.length]? = some p) (q : Nat × Value) (k : Nm) : hAt fb (nb ++ [q]) d k = upd (hAt fb nb d) p.1 q.1 k := by
  unfold upd
  by_cases h : k = p.1
  · subst h
    rw [if_pos rfl]
    unfold hAt
    rw [idxOf_of hr hp]
    simp
  · rw [if_neg h]
    unfold hAt
    cases hi : idxOf d k with
    | none => rfl
    | some j =>
      have hj : j ≠ nb.length := fun e => by
        subst e
        obtain ⟨p', h1, h2⟩ := idxOf_get hi
        rw [hp] at h1; injection h1 with h1; subst h1
        exact h h2.symm
      simp only [Option.bind_some, List.length_append, List.length_singleton]
      by_cases hlt : j < nb.length
      · rw [if_pos hlt, if_pos (by omega), List.getElem?_append_left hlt]
      · rw [if_neg hlt, if_neg (by omega)]
theorem hAt_end {fb nb : List (Nat × Value)} {d : Dir} (hl : nb.length = d.length) (k : Nm) : hAt fb nb d k = at2 nb (d.mapIdx fun j p => (p.1, j)) k := by
  unfold hAt at2
  rw [looks_idx, idxOf_map (fun j _ => j)]
  cases hi : idxOf d k with
  | none => rfl
  | some j =>
    obtain ⟨p, h1, _⟩ := idxOf_get hi
    have hj := (List.getElem?_eq_some_iff.1 h1).1
    simp only [Option.bind_some]
    rw [if_pos (by omega)]
    simp [h1]
theorem hAt_at {fb nb : List (Nat × Value)} {d : Dir} (hr : (d.map (·.1)).Nodup) {p : Nm × Nat} (hp : d[nb.length]? = some p) {q : Nat × Value} (hq : fb[p.2]? = some q) : hAt fb nb d p.1 = some q.1 := by
  unfold hAt
  rw [idxOf_of hr hp]
  simp [hp, hq]
end Go.Vc
/-! Files: a crash. -/
set_option linter.unusedVariables false
set_option linter.unusedSimpArgs false
namespace Go.Proofs.YtiadjkjlifnopaaGreat.Tryz
open Go Go.Vc

/-- The file system that a crash leaves, under way: files laid anew so far. -/
structure NewFiles (w0 w : World) (s : FsM) (d : Dir) (tails : List Int) (nb : List (Nat × Value)) : Prop where
  blk : ∀ (j : Nat) q r, nb[j]? = some q → d[j]? = some r → Blk w q.1 56 [q.2, .int .i64 (cutM ((s.files[r.2]?).getD ⟨[], 0⟩) tails j).synced]
  own : ∀ (j : Nat) q r, nb[j]? = some q → d[j]? = some r → Own w 5 1 q.2 (cutM ((s.files[r.2]?).getD ⟨[], 0⟩) tails j).b.length (u8s (cutM ((s.files[r.2]?).getD ⟨[], 0⟩) tails j).b)
  fresh : ∀ q ∈ nb, w0.heap.size ≤ q.1 ∧ q.1 < w.heap.size ∧ ∀ h, q.2.ownBlock = some h → w0.heap.size ≤ h ∧ h < w.heap.size
  apart2 : (nb.map (·.1)).Nodup
  apart3 : ∀ (i j : Nat) q q' h, nb[i]? = some q → nb[j]? = some q' → q.2.ownBlock = some h → q'.2.ownBlock = some h → i = j
theorem NewFiles.keep {w0 w w' : World} {s : FsM} {d : Dir} {tails : List Int} {nb : List (Nat × Value)} {S : List Nat} (x : NewFiles w0 w s d tails nb) (hl : nb.length ≤ d.length) (hc : Chg S w w') (hS : ∀ k ∈ S, ∀ t cs, ¬ Blk w k t cs) : NewFiles w0 w' s d tails nb :=
  ⟨fun j q r h1 h2 => (x.blk j q r h1 h2).keep hc (fun hm => hS _ hm _ _ (x.blk j q r h1 h2)), fun j q r h1 h2 => (x.own j q r h1 h2).keep hc (fun h hh hm => by
    obtain ⟨cur, hr⟩ := (x.own j q r h1 h2).row hh
    exact hS _ hm _ _ hr), fun q hq => by
      obtain ⟨a1, a2, a3⟩ := x.fresh q hq
      have := hc.size
      exact ⟨a1, by omega, fun h hh => ⟨(a3 h hh).1, by have := (a3 h hh).2; omega⟩⟩, x.apart2, x.apart3⟩
theorem NewFiles.snoc {w0 w : World} {s : FsM} {d : Dir} {tails : List Int} {nb : List (Nat × Value)} (x : NewFiles w0 w s d tails nb) {r : Nm × Nat} (hr : d[nb.length]? = some r) {b : Nat} {v : Value}
    (hb : Blk w b 56 [v, .int .i64 (cutM ((s.files[r.2]?).getD ⟨[], 0⟩) tails nb.length).synced]) (ho : Own w 5 1 v (cutM ((s.files[r.2]?).getD ⟨[], 0⟩) tails nb.length).b.length (u8s (cutM ((s.files[r.2]?).getD ⟨[], 0⟩) tails nb.length).b))
    (hb0 : w0.heap.size ≤ b) (hv0 : ∀ h, v.ownBlock = some h → w0.heap.size ≤ h) (hbn : ∀ q ∈ nb, q.1 ≠ b) (hvn : ∀ q ∈ nb, ∀ h, q.2.ownBlock = some h → v.ownBlock ≠ some h) : NewFiles w0 w s d tails (nb ++ [(b, v)]) := by
  have hget : ∀ (j : Nat) q, (nb ++ [(b, v)])[j]? = some q → (j < nb.length ∧ nb[j]? = some q) ∨ (j = nb.length ∧ q = (b, v)) := fun j q h => by
    by_cases hj : j < nb.length
    · rw [List.getElem?_append_left hj] at h; exact .inl ⟨hj, h⟩
    · rw [List.getElem?_append_right (by omega)] at h
      have := (List.getElem?_eq_some_iff.1 h).1
      simp at this
      obtain rfl : j = nb.length := by omega
      simp at h; exact .inr ⟨rfl, h.symm⟩
  refine ⟨fun j q r' h1 h2 => ?_, fun j q r' h1 h2 => ?_, fun q hq => ?_, ?_, fun i j q q' h h1 h2 h3 h4 => ?_⟩
  · rcases hget j q h1 with ⟨_, h1⟩ | ⟨rfl, rfl⟩
    · exact x.blk j q r' h1 h2
    · rw [hr] at h2; injection h2 with h2; subst h2; exact hb
  · rcases hget j q h1 with ⟨_, h1⟩ | ⟨rfl, rfl⟩
    · exact x.own j q r' h1 h2
    · rw [hr] at h2; injection h2 with h2; subst h2; exact ho
  · rcases List.mem_append.1 hq with hq | hq
    · exact x.fresh q hq
    · simp at hq; subst hq; exact ⟨hb0, hb.lt, fun h hh => ⟨hv0 h hh, ho.lt hh⟩⟩
  · rw [List.map_append]
    refine List.nodup_append.2 ⟨x.apart2, by simp, fun a ha c hc e => ?_⟩
    obtain ⟨q, hq, rfl⟩ := List.mem_map.1 ha
    simp at hc
    exact hbn q hq (e.trans hc)
  · rcases hget i q h1 with ⟨_, h1⟩ | ⟨rfl, rfl⟩
    · rcases hget j q' h2 with ⟨_, h2⟩ | ⟨rfl, rfl⟩
      · exact x.apart3 i j q q' h h1 h2 h3 h4
      · exact absurd h4 (hvn q (List.mem_of_getElem? h1) h h3)
    · rcases hget j q' h2 with ⟨_, h2⟩ | ⟨rfl, rfl⟩
      · exact absurd h3 (hvn q' (List.mem_of_getElem? h2) h h4)
      · rfl

set_option maxHeartbeats 8000000 in
theorem crash_has (g : Nat) (s : FsM) (p : FsP) (n : Int) (At : Option Addr) (nt ct : Nat) (tails : List Int) (w : World) (x : FsAt w g s p) (ht : SliceOf Ri64 w (.slice At nt ct) tails) (hcalls : s.calls < 1000000000) :
    Has Go.Proofs.Tryz.prog 15 #[ptrV g, .int .i64 n, .slice At nt ct] w
    (fun v w' => Chg [] w w' ∧ ∃ gc pc, v = ptrV gc ∧ FsAt w' gc (crashM s n tails) pc ∧ ∀ k ∈ pc.fp gc, w.heap.size ≤ k) := by
  obtain ⟨rfl, ht1, ht2⟩ := ht.len
  unfold maxLen at ht2
  have hwl := x.ok.waits
  have hwl2 : s.waits.length < 1000000000 := by omega
  refine enter Go.Proofs.Tryz.func15 rfl rfl (by decide) rfl (e := [(0, ptrV g), (1, .int .i64 n), (2, .slice At tails.length ct)]) ⟨rfl, rfl, rfl, trivial⟩ ?_
  unfold ptrV
  have hb := x.blk
  obtain ⟨Aw, cw, hwv, hw1, hw2⟩ := x.waitsM.form
  repeat (first | refine W_seq ?_ | refine W_region ?_ | refine W_skip ?_ | refine Then_n ?_ | refine WL_nil ?_ | refine W_condF rfl ?_ | refine WL_some rfl rfl rfl ?_ | refine op_move rfl rfl ?_ | refine op_assign rfl rfl ?_ | refine op_eql_nilptr T rfl rfl rfl rfl rfl ?_)
  refine W_walk 11 [] fol (by kernel_rfl) (by kernel_rfl) ?_
  refine Walk.plain rfl (by intro val w_ hR hp; exact op_move rfl rfl ⟨Chg.refl _ _, rfl⟩) ?_; dsimp only [List.nil_append, List.cons_append]
  refine Walk.plain rfl (by intro val w_ hR hp; exact op_nilCheck rfl rfl ⟨Chg.refl _ _, rfl⟩) ?_; dsimp only [List.nil_append, List.cons_append]
  refine Walk.plain rfl (by intro val w_ hR hp; exact op_fieldAddr T rfl rfl rfl rfl rfl rfl rfl rfl ⟨Chg.refl _ _, rfl⟩) ?_; dsimp only [List.nil_append, List.cons_append]
  refine Walk.plain rfl (by intro val w_ hR hp; exact op_load T rfl rfl rfl rfl ((Blk.keep0 hb hR).cell rfl) ⟨Chg.refl _ _, rfl⟩) ?_; dsimp only [List.nil_append, List.cons_append]
  refine Walk.plain rfl (by intro val w_ hR hp; exact op_move rfl rfl ⟨Chg.refl _ _, rfl⟩) ?_; dsimp only [List.nil_append, List.cons_append]
  refine Walk.plain rfl (by intro val w_ hR hp; exact op_nilCheck rfl rfl ⟨Chg.refl _ _, rfl⟩) ?_; dsimp only [List.nil_append, List.cons_append]
  refine Walk.plain rfl (by intro val w_ hR hp; exact op_fieldAddr T rfl rfl rfl rfl rfl rfl rfl rfl ⟨Chg.refl _ _, rfl⟩) ?_; dsimp only [List.nil_append, List.cons_append]
  refine Walk.plain rfl (by intro val w_ hR hp; exact op_load T rfl rfl rfl rfl ((Blk.keep0 hb hR).cell rfl) ⟨Chg.refl _ _, rfl⟩) ?_; dsimp only [List.nil_append, List.cons_append]
  refine Walk.rel (fun u w_ => ∃ m, u = .map (some m) ∧ w.heap.size ≤ m ∧ MapAt keyV ptrV w_ m (at2 p.fb s.lasts)) rfl (fun u a b ⟨m, h1, h2, h3⟩ hab => ⟨m, h1, h2, h3.keep0 hab⟩) ?_ ?_
  · intro val w_ hR hp
    refine op_call rfl rfl rfl (cloneD_has (x.lastsM.keep0 hR)) ?_
    rintro v w' ⟨m, rfl, hs, hc, hm⟩
    exact ⟨hc, m, rfl, by have := hR.size; omega, hm⟩
  dsimp only [List.nil_append, List.cons_append]
  refine Walk.rel (fun u w_ => ∃ m, u = .agg #[.int .i64 s.room, .map none, .map (some m), .slice none 0 0, .int .i64 0, .int .i64 (-1)] ∧ w.heap.size ≤ m ∧ MapAt keyV ptrV w_ m (at2 p.fb s.lasts)) rfl (fun u a b ⟨m, h1, h2, h3⟩ hab => ⟨m, h1, h2, h3.keep0 hab⟩) ?_ ?_
  · intro val w_ hR hp
    obtain ⟨m, he, hs, hm⟩ : ∃ m, val 8 = .map (some m) ∧ w.heap.size ≤ m ∧ MapAt keyV ptrV w_ m (at2 p.fb s.lasts) := hp 8 rfl _ _ rfl rfl
    refine OpW_sub (e' := [(20, .int .i64 s.room), (25, .map (some m))]) ⟨rfl, congrArg some he, trivial⟩ ?_
    refine op_build T rfl rfl rfl rfl rfl rfl ?_
    exact ⟨Chg.refl _ _, m, rfl, hs, hm⟩
  dsimp only [List.nil_append, List.cons_append]
  refine Walk.rel (fun u w_ => ∃ gc m, u = .pointer (some ⟨gc, 0, none⟩) ∧ w.heap.size ≤ gc ∧ Blk w_ gc 51 [.int .i64 s.room, .map none, .map (some m), .slice none 0 0, .int .i64 0, .int .i64 (-1)] ∧ w.heap.size ≤ m ∧ MapAt keyV ptrV w_ m (at2 p.fb s.lasts)) rfl
    (fun u a b ⟨gc, m, h1, h2, h3, h4, h5⟩ hab => ⟨gc, m, h1, h2, h3.keep0 hab, h4, h5.keep0 hab⟩) ?_ ?_
  · intro val w_ hR hp
    obtain ⟨m, he, hs, hm⟩ : ∃ m, val 9 = .agg #[.int .i64 s.room, .map none, .map (some m), .slice none 0 0, .int .i64 0, .int .i64 (-1)] ∧ w.heap.size ≤ m ∧ MapAt keyV ptrV w_ m (at2 p.fb s.lasts) := hp 9 rfl _ _ rfl rfl
    refine OpW_sub (e' := [(26, .agg #[.int .i64 s.room, .map none, .map (some m), .slice none 0 0, .int .i64 0, .int .i64 (-1)])]) ⟨congrArg some he, trivial⟩ ?_
    exact op_box rfl rfl (fun gc w' hs' hc' hg' => ⟨hc', gc, m, rfl, by have := hR.size; omega, hg', hs, hm.keep0 hc'⟩)
  dsimp only [List.nil_append, List.cons_append]
  refine Walk.fin ?_
  intro val w1 hc1 hp
  obtain ⟨gc, m, he, hgc, hb1, hmf, hm1⟩ : ∃ gc m, val 10 = .pointer (some ⟨gc, 0, none⟩) ∧ w.heap.size ≤ gc ∧ Blk w1 gc 51 [.int .i64 s.room, .map none, .map (some m), .slice none 0 0, .int .i64 0, .int .i64 (-1)] ∧ w.heap.size ≤ m ∧ MapAt keyV ptrV w1 m (at2 p.fb s.lasts) := hp 10 (by omega) _ _ rfl rfl
  clear hp
  refine WL_sub (e' := [(0, .pointer (some ⟨g, 0, none⟩)), (1, .int .i64 n), (2, .slice At tails.length ct), (27, .pointer (some ⟨gc, 0, none⟩))]) ⟨rfl, rfl, rfl, congrArg some he, trivial⟩ ?_
  clear he
  have hgb1 : Blk w1 g 51 [.int .i64 s.room, .map (some p.md), .map (some p.ml), .slice Aw s.waits.length cw, .int .i64 s.calls, .int .i64 s.fail] := by rw [← hwv]; exact hb.keep0 hc1
  repeat (first | refine W_seq ?_ | refine W_block ?_ | refine W_region ?_ | refine Then_n ?_ | refine WL_nil ?_ | refine WL_some rfl rfl rfl ?_ | refine op_move rfl rfl ?_ | refine op_assign rfl rfl ?_ | refine op_len_slice T rfl rfl rfl rfl ?_ | refine op_nilCheck rfl rfl ?_ | refine op_fieldAddr T rfl rfl rfl rfl rfl rfl rfl rfl ?_ | refine op_loadB T rfl rfl rfl rfl (by assumption) (by exact rfl) ?_)
  refine W_loop (σ := Nat) (fun k => [(1, .int .i64 n), (2, .slice At tails.length ct), (7, .pointer (some ⟨gc, 0, none⟩)), (31, .slice Aw s.waits.length cw), (32, .int .i64 s.waits.length), (33, .int .i64 k)])
    (fun (k : Nat) w' => k ≤ s.waits.length ∧ Chg [] w w' ∧ Blk w' gc 51 [.int .i64 s.room, .map none, .map (some m), .slice none 0 0, .int .i64 0, .int .i64 (-1)] ∧ MapAt keyV ptrV w' m (at2 p.fb (crashTo s n k))) (fun k => s.waits.length - k) 0
    ⟨rfl, rfl, rfl, rfl, rfl, rfl, trivial⟩ ⟨by omega, hc1, hb1, by rw [crashTo_zero]; exact hm1⟩ ?_
  clear hb1 hm1 hgb1 hc1
  rintro k w2 ⟨hk, hc2, hb2, hm2⟩
  by_cases hkl : k < s.waits.length
  · have hck : s.waits[k]? = some s.waits[k] := List.getElem?_eq_getElem hkl
    generalize s.waits[k] = c at hck
    have x2 := x.keep0 hc2
    obtain ⟨gw, cap, cur, hv', hq1, hq2, hbw, hcl, hct⟩ := x2.waitsM.blk (by omega)
    rw [hwv] at hv'
    injection hv' with e1 e2 e3
    subst e1; subst e3
    obtain ⟨ip, hip⟩ := idV_form p.fb c.id
    have hcv : chV p.fb c = [.int .i64 c.kind, .string (str c.name), .string (str c.to), .pointer ip] := by unfold chV; rw [hip]; rfl
    have hchunk : (cur.drop (k * 4)).take 4 = [.int .i64 c.kind, .string (str c.name), .string (str c.to), .pointer ip] := by
      rw [← hcv, ← chunk p.fb s.waits k c hck, ← hct, List.drop_take, List.take_take]
      congr 1
      omega
    repeat (first | refine W_seq ?_ | refine W_block ?_ | refine W_region ?_ | refine W_skip ?_ | refine Then_n ?_ | refine WL_nil ?_ | refine W_condT rfl ?_ | refine WL_some rfl rfl rfl ?_ | refine op_move rfl rfl ?_ | refine op_lss rfl rfl rfl (fun hc => ?_) (fun hc => False.elim (by omega)))
    refine op_index_slice T rfl rfl rfl rfl rfl (by omega) (by omega) (p := ⟨gw, k * 4, none⟩) (by rw [Int.toNat_natCast]; exact add_plain _ _) ?_
    repeat (refine WL_some rfl rfl rfl ?_)
    refine op_load_agg (c' := #[.int .i64 c.kind, .string (str c.name), .string (str c.to), .pointer ip]) T rfl rfl rfl rfl hbw (by show k * 4 + 4 ≤ cur.length; omega) (by show ((cur.drop (k * 4)).take 4).toArray = _; rw [hchunk]) ?_
    repeat (refine WL_some rfl rfl rfl ?_)
    refine op_alloc T rfl rfl (fun g9 w3 hs3 hc3 hg3 => ?_)
    repeat (first | refine WL_some rfl rfl rfl ?_ | refine WL_none rfl rfl ?_ | refine op_assign rfl rfl ?_)
    refine op_store_agg T rfl rfl rfl rfl rfl rfl hg3 (Nat.le_of_ble_eq_true rfl) (fun w4 hc4 hg4 _ => ?_)
    have hg4 : Blk w4 g9 58 [.int .i64 c.kind, .string (str c.name), .string (str c.to), .pointer ip] := hg4
    have hc24 : Chg [] w2 w4 := hc3.trans hc4 (fun j hj hlt => by simp at hj; omega)
    have hb4 := hb2.keep0 hc24
    have hm4 := hm2.keep0 hc24
    by_cases hkn : (k : Int) < n
    · obtain ⟨hd, hf⟩ := crashTo_fit x.ok hck hkn
      have hids := x.ok.replay.ids c (List.mem_of_getElem? hck)
      repeat (first | refine W_seq ?_ | refine W_region ?_ | refine Then_n ?_ | refine WL_nil ?_ | refine W_condT rfl ?_ | refine WL_some rfl rfl rfl ?_ | refine op_move rfl rfl ?_ | refine op_lss rfl rfl rfl (fun hc => ?_) (fun hc => False.elim (by omega)))
      refine W_walk 5 [] fol (by kernel_rfl) (by kernel_rfl) ?_
      refine Walk.plain rfl (by intro val w_ hR hp; exact op_move rfl rfl ⟨Chg.refl _ _, rfl⟩) ?_; dsimp only [List.nil_append, List.cons_append]
      refine Walk.plain rfl (by intro val w_ hR hp; exact op_nilCheck rfl rfl ⟨Chg.refl _ _, rfl⟩) ?_; dsimp only [List.nil_append, List.cons_append]
      refine Walk.plain rfl (by intro val w_ hR hp; exact op_fieldAddr T rfl rfl rfl rfl rfl rfl rfl rfl ⟨Chg.refl _ _, rfl⟩) ?_; dsimp only [List.nil_append, List.cons_append]
      refine Walk.plain rfl (by intro val w_ hR hp; exact op_load T rfl rfl rfl rfl ((Blk.keep0 hb4 hR).cell rfl) ⟨Chg.refl _ _, rfl⟩) ?_; dsimp only [List.nil_append, List.cons_append]
      refine Walk.plain rfl (by intro val w_ hR hp; exact op_load_agg T rfl rfl rfl rfl (Blk.keep0 hg4 hR) (Nat.le_of_ble_eq_true rfl) rfl ⟨Chg.refl _ _, rfl⟩) ?_; dsimp only [List.nil_append, List.cons_append]
      refine Walk.fin ?_
      intro val w5 hc5 _
      have hm5 := hm4.keep0 hc5
      have hdo := do_has m p.fb (crashTo s n k) c w5 hm5 (by rw [x.len]; exact hd) hf (by rw [x.len]; exact hids)
      rw [hcv] at hdo
      refine WL_sub (e' := [(1, .int .i64 n), (2, .slice (At) tails.length ct), (7, .pointer (some ⟨gc, 0, none⟩)), (31, .slice (some ⟨gw, 0, none⟩) s.waits.length cw), (32, .int .i64 s.waits.length), (33, .int .i64 k), (44, .map (some m)), (45, .agg #[.int .i64 c.kind, .string (str c.name), .string (str c.to), .pointer ip])]) ⟨rfl, rfl, rfl, rfl, rfl, rfl, rfl, rfl, trivial⟩ ?_
      repeat (refine WL_some rfl rfl rfl ?_)
      refine op_call rfl rfl rfl hdo ?_
      rintro v w6 ⟨hc6, hm6⟩
      rw [← crashTo_step hck hkn] at hm6
      repeat (first | refine W_region ?_ | refine Then_n ?_ | refine InBlock_n ?_ | refine WL_nil ?_ | refine WL_some rfl rfl rfl ?_ | refine op_move rfl rfl ?_ | refine op_add rfl rfl rfl (wrap_i64_in (by omega) (by omega)) ?_)
      exact Round_n (k + 1) ⟨rfl, rfl, rfl, rfl, rfl, rfl, trivial⟩ ⟨by omega, ((hc2.trans' hc24).trans' hc5).trans hc6 (fun j hj hlt => by simp at hj; omega), (hb4.keep0 hc5).keep hc6 (by simpa using fun e => hm5.ne_blk (hb4.keep0 hc5) e.symm), hm6⟩ (by omega)
    · repeat (first | refine W_seq ?_ | refine W_region ?_ | refine W_skip ?_ | refine Then_n ?_ | refine InBlock_n ?_ | refine WL_nil ?_ | refine W_condF rfl ?_ | refine WL_some rfl rfl rfl ?_ | refine op_move rfl rfl ?_ | refine op_add rfl rfl rfl (wrap_i64_in (by omega) (by omega)) ?_ | refine op_lss rfl rfl rfl (fun hc => False.elim (by omega)) (fun hc => ?_))
      exact Round_n (k + 1) ⟨rfl, rfl, rfl, rfl, rfl, rfl, trivial⟩ ⟨by omega, hc2.trans' hc24, hb4, by rw [crashTo_stop hkn]; exact hm4⟩ (by omega)
  obtain rfl : k = s.waits.length := by omega
  rw [crashTo_end] at hm2
  have hd := crashDir_ok x.ok n
  have hfew := hd.few
  have hnd := hd.up.nodup
  have hcr : crashM s n tails = ⟨s.room, 0, -1, crashFiles s (crashDir s n) tails, (crashDir s n).mapIdx fun j p => (p.1, j), (crashDir s n).mapIdx fun j p => (p.1, j), []⟩ := rfl
  have hok := crashM_ok x.ok n tails
  rw [hcr] at hok ⊢
  clear hcr
  have hdl : DirOk p.fb.length (crashDir s n) := by rw [x.len]; exact hd
  generalize crashDir s n = d at hm2 hd hfew hnd hok hdl ⊢
  repeat (first | refine W_seq ?_ | refine W_region ?_ | refine W_exit ?_ | refine Then_n ?_ | refine Then_x ?_ | refine InBlock_hit ?_ | refine Round_x ?_ | refine WL_nil ?_ | refine W_condF rfl ?_ | refine WL_some rfl rfl rfl ?_ | refine op_move rfl rfl ?_ | refine op_nilCheck rfl rfl ?_ | refine op_lss rfl rfl rfl (fun hc => False.elim (by omega)) (fun hc => ?_) | refine op_fieldAddr T rfl rfl rfl rfl rfl rfl rfl rfl ?_ | refine op_loadB T rfl rfl rfl rfl (by assumption) (by exact rfl) ?_)
  refine op_call rfl rfl rfl (keysD_has m w2) ?_
  rintro _ _ ⟨rfl, rfl⟩
  repeat (refine WL_some rfl rfl rfl ?_)
  refine op_call rfl rfl rfl (sortedD_has hm2 (d.map (·.1)) (fun k hk => ?_) (by simp; omega)) ?_
  · have hmem := (at2_isSome hdl k).1 hk
    refine ⟨hmem, ?_⟩
    obtain ⟨q, hq, rfl⟩ := List.mem_map.1 hmem
    have := (hd.name q hq).1
    unfold maxLen; omega
  rintro nv w3 ⟨hc3, ss, hn, hs, ho, hfr⟩
  have hp : ss.Perm (d.map (·.1)) := (List.perm_ext_iff_of_nodup hn hnd).2 fun k => by rw [hs, at2_isSome hdl]
  rw [sorted_eq hp hd.up] at ho
  have hlen : ss.length = d.length := by rw [hp.length_eq, List.length_map]
  rw [hlen] at ho
  clear hp hlen hn hs ss
  have hfr' : ∀ h, nv.ownBlock = some h → w.heap.size ≤ h := fun h hh => by have := hfr h hh; have := hc2.size; omega
  obtain ⟨An, cn, rfl, hn1, hn2⟩ := ho.form
  have hm3 : MapAt keyV ptrV w3 m (hAt p.fb [] d) := (hm2.keep0 hc3).congr (fun k => (hAt_start _ _ _).symm)
  have hb3 := hb2.keep0 hc3
  have hc03 := hc2.trans' hc3
  repeat (first | refine W_block ?_ | refine Then_n ?_ | refine WL_nil ?_ | refine WL_some rfl rfl rfl ?_ | refine op_move rfl rfl ?_ | refine op_len_slice T rfl rfl rfl rfl ?_)
  refine W_loop (σ := List (Nat × Value)) (fun nb => [(2, .slice At tails.length ct), (7, .pointer (some ⟨gc, 0, none⟩)), (53, .slice An d.length cn), (54, .int .i64 d.length), (55, .int .i64 nb.length)])
    (fun (nb : List (Nat × Value)) w' => nb.length ≤ d.length ∧ Chg [] w w' ∧ Blk w' gc 51 [.int .i64 s.room, .map none, .map (some m), .slice none 0 0, .int .i64 0, .int .i64 (-1)] ∧ MapAt keyV ptrV w' m (hAt p.fb nb d) ∧ NewFiles w w' s d tails nb ∧ Own w' 9 1 (.slice An d.length cn) d.length ((d.map (·.1)).map keyV)) (fun nb => d.length - nb.length) []
    ⟨rfl, rfl, rfl, rfl, rfl, trivial⟩ ⟨by simp, hc03, hb3, hm3, ⟨(fun j q r h => by simp at h), (fun j q r h => by simp at h), (fun q hq => by cases hq), List.nodup_nil, (fun i j q q' h h1 => by simp at h1)⟩, ho⟩ ?_
  clear hb2 hm2 hb3 hm3 hc3 hc03 ho hfr hk hkl hc2
  rintro nb w4 ⟨hnl, hc4, hb4, hm4, hnf, ho4⟩
  by_cases hj : nb.length < d.length
  · have hr : d[nb.length]? = some d[nb.length] := List.getElem?_eq_getElem hj
    generalize d[nb.length] = r at hr
    have x4 := x.keep0 hc4
    have hri := (hdl.name r (List.mem_of_getElem? hr)).2
    have hq : p.fb[r.2]? = some p.fb[r.2] := List.getElem?_eq_getElem hri
    generalize p.fb[r.2] = q at hq
    obtain ⟨f, hfi⟩ : ∃ f, s.files[r.2]? = some f := ⟨_, List.getElem?_eq_getElem (by rw [← x.len]; exact hri)⟩
    have hfo := x.ok.files f (List.mem_of_getElem? hfi)
    obtain ⟨gn, hgn, ⟨cn', hvn⟩, hcell⟩ := ho4.cell (j := nb.length) (u := keyV r.1) (by rw [List.getElem?_map, List.getElem?_map, hr]; rfl)
    injection hvn with e1 _ e3
    subst e1
    have hcell : w4.cell? ⟨gn, nb.length, none⟩ = some (.string (str r.1)) := hcell
    have hbf := x4.fblk r.2 q f hq hfi
    have hof := x4.fown r.2 q f hq hfi
    obtain ⟨Aq, cq, hqv, hq1, hq2⟩ := hof.form
    rw [hqv] at hbf hof
    have htl := tailOf_le f tails nb.length hfo.1
    have htl0 : f.synced ≤ tailOf f tails nb.length := by unfold tailOf; omega
    have hat := hAt_at hnd hr hq
    repeat (first | refine W_seq ?_ | refine W_block ?_ | refine W_region ?_ | refine W_skip ?_ | refine Then_n ?_ | refine WL_nil ?_ | refine W_condT rfl ?_ | refine WL_some rfl rfl rfl ?_ | refine op_move rfl rfl ?_ | refine op_assign rfl rfl ?_ | refine op_nilCheck rfl rfl ?_ | refine op_index_own T rfl rfl rfl rfl rfl rfl (by omega) ?_ | refine op_load T rfl rfl rfl rfl (by assumption) ?_ | refine op_lss rfl rfl rfl (fun hc => ?_) (fun hc => False.elim (by omega)) | refine op_fieldAddr T rfl rfl rfl rfl rfl rfl rfl rfl ?_ | refine op_loadB T rfl rfl rfl rfl (by assumption) (by exact rfl) ?_)
    refine op_lookup_v T strKey rfl rfl rfl rfl rfl rfl hm4 (v := ptrV q.1) (fun b hb => by rw [hat] at hb; injection hb with hb; rw [hb]) (fun hn => by rw [hat] at hn; cases hn) ?_
    unfold ptrV
    repeat (first | refine W_seq ?_ | refine W_region ?_ | refine Then_n ?_ | refine WL_nil ?_ | refine WL_some rfl rfl rfl ?_ | refine op_move rfl rfl ?_ | refine op_assign rfl rfl ?_ | refine op_len_slice T rfl rfl rfl rfl ?_)
    refine op_lss_b rfl rfl rfl ?_
    repeat (first | refine Then_n ?_ | refine WL_nil ?_)
    refine W_meet (σ := Unit) (fun _ => [(2, .slice At tails.length ct), (7, .pointer (some ⟨gc, 0, none⟩)), (53, .slice (some ⟨gn, 0, none⟩) d.length cn), (54, .int .i64 d.length), (55, .int .i64 nb.length), (11, .string (str r.1)), (12, .pointer (some ⟨q.1, 0, none⟩)), (13, .int .i64 ((tailOf f tails nb.length - f.synced : Nat) : Int))]) (fun _ w' => Chg [] w4 w') ?_ ?_
    · refine W_cond rfl (fun h => ?_) (fun h => ?_)
      · have hjt : nb.length < tails.length := by have := of_decide_eq_true h; omega
        have htj : tails[nb.length]? = some tails[nb.length] := List.getElem?_eq_getElem hjt
        generalize tails[nb.length] = tj at htj
        obtain ⟨ad, u, rfl, hu, rfl, hu1, hu2⟩ := (SliceOf.kept Ri64.kept _ _ _ _ hc4 ht).get htj
        have hsyn := hfo.1
        have hfl := hfo.2
        skip
        refine W_walk 16 [] fol (by kernel_rfl) (by kernel_rfl) ?_
        refine Walk.plain rfl (by intro val w_ hR hp; exact op_move rfl rfl ⟨Chg.refl _ _, rfl⟩) ?_; dsimp only [List.nil_append, List.cons_append]
        refine Walk.plain rfl (by intro val w_ hR hp; exact op_move rfl rfl ⟨Chg.refl _ _, rfl⟩) ?_; dsimp only [List.nil_append, List.cons_append]
        refine Walk.plain rfl (by intro val w_ hR hp; exact op_index_nat T rfl rfl rfl rfl rfl rfl (by omega) ⟨Chg.refl _ _, rfl⟩) ?_; dsimp only [List.nil_append, List.cons_append]
        refine Walk.plain rfl (by intro val w_ hR hp; exact op_load T rfl rfl rfl rfl (hR.cell0 (by assumption)) ⟨Chg.refl _ _, rfl⟩) ?_; dsimp only [List.nil_append, List.cons_append]
        refine Walk.plain rfl (by intro val w_ hR hp; exact op_max rfl rfl rfl ⟨Chg.refl _ _, rfl⟩) ?_; dsimp only [List.nil_append, List.cons_append]
        refine Walk.plain rfl (by intro val w_ hR hp; exact op_move rfl rfl ⟨Chg.refl _ _, rfl⟩) ?_; dsimp only [List.nil_append, List.cons_append]
        refine Walk.plain rfl (by intro val w_ hR hp; exact op_nilCheck rfl rfl ⟨Chg.refl _ _, rfl⟩) ?_; dsimp only [List.nil_append, List.cons_append]
        refine Walk.plain rfl (by intro val w_ hR hp; exact op_fieldAddr T rfl rfl rfl rfl rfl rfl rfl rfl ⟨Chg.refl _ _, rfl⟩) ?_; dsimp only [List.nil_append, List.cons_append]
        refine Walk.plain rfl (by intro val w_ hR hp; exact op_load T rfl rfl rfl rfl ((Blk.keep0 hbf hR).cell rfl) ⟨Chg.refl _ _, rfl⟩) ?_; dsimp only [List.nil_append, List.cons_append]
        refine Walk.plain rfl (by intro val w_ hR hp; exact op_len_slice T rfl rfl rfl rfl ⟨Chg.refl _ _, rfl⟩) ?_; dsimp only [List.nil_append, List.cons_append]
        refine Walk.plain rfl (by intro val w_ hR hp; exact op_move rfl rfl ⟨Chg.refl _ _, rfl⟩) ?_; dsimp only [List.nil_append, List.cons_append]
        refine Walk.plain rfl (by intro val w_ hR hp; exact op_nilCheck rfl rfl ⟨Chg.refl _ _, rfl⟩) ?_; dsimp only [List.nil_append, List.cons_append]
        refine Walk.plain rfl (by intro val w_ hR hp; exact op_fieldAddr T rfl rfl rfl rfl rfl rfl rfl rfl ⟨Chg.refl _ _, rfl⟩) ?_; dsimp only [List.nil_append, List.cons_append]
        refine Walk.plain rfl (by intro val w_ hR hp; exact op_load T rfl rfl rfl rfl ((Blk.keep0 hbf hR).cell rfl) ⟨Chg.refl _ _, rfl⟩) ?_; dsimp only [List.nil_append, List.cons_append]
        refine Walk.plain rfl (by intro val w_ hR hp; exact op_subt rfl rfl rfl (wrap_i64_in (by omega) (by omega)) ⟨Chg.refl _ _, rfl⟩) ?_; dsimp only [List.nil_append, List.cons_append]
        refine Walk.plain rfl (by intro val w_ hR hp; exact op_min rfl rfl rfl ⟨Chg.refl _ _, rfl⟩) ?_; dsimp only [List.nil_append, List.cons_append]
        refine Walk.fin ?_
        intro val w5 hc5 _
        have hval : min (max tj 0) ((f.b.length : Int) - (f.synced : Int)) = ((tailOf f tails nb.length - f.synced : Nat) : Int) := by
          unfold tailOf
          rw [htj]
          simp only
          have hmm : ((min (max tj 0).toNat (f.b.length - f.synced) : Nat) : Int) = min (max tj 0) ((f.b.length : Int) - (f.synced : Int)) := by
            by_cases h1 : (max tj 0).toNat ≤ f.b.length - f.synced
            · rw [Nat.min_eq_left h1]; omega
            · rw [Nat.min_eq_right (by omega)]; omega
          rw [Nat.add_sub_cancel_left, hmm]
        refine WL_sub (e' := [(2, .slice (some ad) tails.length ct), (7, .pointer (some ⟨gc, 0, none⟩)), (53, .slice (some ⟨gn, 0, none⟩) d.length cn), (54, .int .i64 d.length), (55, .int .i64 nb.length), (11, .string (str r.1)), (12, .pointer (some ⟨q.1, 0, none⟩)), (85, .int .i64 ((tailOf f tails nb.length - f.synced : Nat) : Int))]) ⟨rfl, rfl, rfl, rfl, rfl, rfl, rfl, some_int hval, trivial⟩ ?_
        repeat (first | refine WL_nil ?_ | refine WL_some rfl rfl rfl ?_ | refine op_assign rfl rfl ?_)
        exact Meet_n () ⟨rfl, rfl, rfl, rfl, rfl, rfl, rfl, rfl, trivial⟩ hc5
      · have hjt : tails[nb.length]? = none := List.getElem?_eq_none_iff.2 (by have := of_decide_eq_false h; omega)
        have hz : tailOf f tails nb.length - f.synced = 0 := by unfold tailOf; rw [hjt]; simp
        rw [hz]
        repeat (refine W_skip ?_)
        exact Meet_n () ⟨rfl, rfl, rfl, rfl, rfl, rfl, rfl, rfl, trivial⟩ (Chg.refl _ _)
    intro _ w5 hc5
    have hbf5 := hbf.keep0 hc5
    have hof5 := hof.keep0 hc5
    have hm5 := hm4.keep0 hc5
    have hb5 := hb4.keep0 hc5
    have hnf5 := hnf.keep hnl hc5 (fun k hk => by cases hk)
    have ho5 := ho4.keep0 hc5
    have hfl := hfo.2
    repeat (first | refine W_seq ?_ | refine Then_n ?_)
    refine W_walk 12 [] fol (by kernel_rfl) (by kernel_rfl) ?_
    refine Walk.plain rfl (by intro val w_ hR hp; exact op_move rfl rfl ⟨Chg.refl _ _, rfl⟩) ?_; dsimp only [List.nil_append, List.cons_append]
    refine Walk.plain rfl (by intro val w_ hR hp; exact op_nilCheck rfl rfl ⟨Chg.refl _ _, rfl⟩) ?_; dsimp only [List.nil_append, List.cons_append]
    refine Walk.plain rfl (by intro val w_ hR hp; exact op_fieldAddr T rfl rfl rfl rfl rfl rfl rfl rfl ⟨Chg.refl _ _, rfl⟩) ?_; dsimp only [List.nil_append, List.cons_append]
    refine Walk.plain rfl (by intro val w_ hR hp; exact op_load T rfl rfl rfl rfl ((Blk.keep0 hbf5 hR).cell rfl) ⟨Chg.refl _ _, rfl⟩) ?_; dsimp only [List.nil_append, List.cons_append]
    refine Walk.plain rfl (by intro val w_ hR hp; exact op_move rfl rfl ⟨Chg.refl _ _, rfl⟩) ?_; dsimp only [List.nil_append, List.cons_append]
    refine Walk.plain rfl (by intro val w_ hR hp; exact op_nilCheck rfl rfl ⟨Chg.refl _ _, rfl⟩) ?_; dsimp only [List.nil_append, List.cons_append]
    refine Walk.plain rfl (by intro val w_ hR hp; exact op_fieldAddr T rfl rfl rfl rfl rfl rfl rfl rfl ⟨Chg.refl _ _, rfl⟩) ?_; dsimp only [List.nil_append, List.cons_append]
    refine Walk.plain rfl (by intro val w_ hR hp; exact op_load T rfl rfl rfl rfl ((Blk.keep0 hbf5 hR).cell rfl) ⟨Chg.refl _ _, rfl⟩) ?_; dsimp only [List.nil_append, List.cons_append]
    refine Walk.plain rfl (by intro val w_ hR hp; exact op_move rfl rfl ⟨Chg.refl _ _, rfl⟩) ?_; dsimp only [List.nil_append, List.cons_append]
    refine Walk.plain rfl (by intro val w_ hR hp; exact op_add rfl rfl rfl (wrap_i64_in (by omega) (by omega)) ⟨Chg.refl _ _, rfl⟩) ?_; dsimp only [List.nil_append, List.cons_append]
    refine Walk.plain (v := .slice Aq (tailOf f tails nb.length) cq) rfl (by intro val w_ hR hp; exact op_slice_to T (h' := tailOf f tails nb.length) (k := .i64) rfl rfl (some_int (by omega)) rfl rfl (by omega) ⟨Chg.refl _ _, rfl⟩) ?_; dsimp only [List.nil_append, List.cons_append]
    have hcut : SliceOf Ru8 w5 (.slice Aq (tailOf f tails nb.length) cq) (f.b.take (tailOf f tails nb.length)) := hof5.bytes.take (by omega)
    have hclen : (f.b.take (tailOf f tails nb.length)).length = tailOf f tails nb.length := by rw [List.length_take]; omega
    refine Walk.rel (fun u w_ => Own w_ 5 1 u (tailOf f tails nb.length) (u8s (f.b.take (tailOf f tails nb.length))) ∧ ∀ h, u.ownBlock = some h → w5.heap.size ≤ h) rfl (fun u a b h hab => ⟨h.1.keep0 hab, h.2⟩) ?_ ?_
    · intro val w_ hR hp
      refine op_call rfl rfl rfl (clone_has Aq _ cq (f.b.take (tailOf f tails nb.length)) w_ (SliceOf.kept Ru8.kept _ _ _ _ hR hcut) (by rw [hclen]; omega)) ?_
      rintro v w' ⟨hc, ho, hf⟩
      rw [hclen] at ho
      exact ⟨hc, ho, fun h hh => by have := hf h hh; have := hR.size; omega⟩
    dsimp only [List.nil_append, List.cons_append]
    refine Walk.fin ?_
    intro val w6 hc6 hp
    obtain ⟨hu6, huf6⟩ : Own w6 5 1 (val 11) (tailOf f tails nb.length) (u8s (f.b.take (tailOf f tails nb.length))) ∧ ∀ h, (val 11).ownBlock = some h → w5.heap.size ≤ h := hp 11 (by omega) _ _ rfl rfl
    clear hp
    refine WL_sub (e' := [(2, .slice At tails.length ct), (7, .pointer (some ⟨gc, 0, none⟩)), (53, .slice (some ⟨gn, 0, none⟩) d.length cn), (54, .int .i64 d.length), (55, .int .i64 nb.length), (11, .string (str r.1)), (97, val 11)]) ⟨rfl, rfl, rfl, rfl, rfl, rfl, rfl, trivial⟩ ?_
    generalize val 11 = uv at hu6 huf6
    obtain ⟨Au, cu, rfl, _, _⟩ := hu6.form
    have hb6 := hb5.keep0 hc6
    have hm6 := hm5.keep0 hc6
    have hnf6 := hnf5.keep hnl hc6 (fun k hk => by cases hk)
    have ho6 := ho5.keep0 hc6
    repeat (first | refine W_region ?_ | refine Then_n ?_ | refine WL_nil ?_ | refine WL_some rfl rfl rfl ?_ | refine op_move rfl rfl ?_ | refine op_assign rfl rfl ?_ | refine op_len_slice T rfl rfl rfl rfl ?_ | refine op_nilCheck rfl rfl ?_ | refine op_fieldAddr T rfl rfl rfl rfl rfl rfl rfl rfl ?_ | refine op_build T rfl rfl rfl rfl rfl rfl ?_ | refine op_loadB T rfl rfl rfl rfl (by assumption) (by exact rfl) ?_)
    refine op_box rfl rfl (fun gf w7 hs7 hc7 hg7 => ?_)
    have hg7 : Blk w7 gf 56 [.slice Au (tailOf f tails nb.length) cu, .int .i64 (tailOf f tails nb.length : Nat)] := hg7
    have hb7 := hb6.keep0 hc7
    have hm7 := hm6.keep0 hc7
    have hnf7 := hnf6.keep hnl hc7 (fun k hk => by cases hk)
    have ho7 := ho6.keep0 hc7
    have hu7 := hu6.keep0 hc7
    repeat (refine WL_none rfl rfl ?_)
    refine op_mapUpdate T strKey (bv := ptrV) (b := gf) rfl rfl rfl rfl rfl rfl hm7 (fun w8 hc8 hm8 _ => ?_)
    have hmb : ∀ k ∈ [m], ∀ t cs, ¬ Blk w7 k t cs := fun k hk t cs hbk => by simp at hk; subst hk; exact hm7.ne_blk hbk rfl
    have hcf : cutM ((s.files[r.2]?).getD ⟨[], 0⟩) tails nb.length = ⟨f.b.take (tailOf f tails nb.length), tailOf f tails nb.length⟩ := by rw [hfi]; rfl
    have hs45 := hc5.size
    have hs56 := hc6.size
    have hs67 := hc7.size
    have hs04 := hc4.size
    have hnf8 : NewFiles w w8 s d tails (nb ++ [(gf, .slice Au (tailOf f tails nb.length) cu)]) := by
      refine (hnf7.keep hnl hc8 hmb).snoc hr ?_ ?_ (by omega) (fun h hh => by have := huf6 h hh; omega) (fun q hq e => ?_) (fun q hq h hh e => ?_)
      · rw [hcf]; exact hg7.keep hc8 (fun hm => hmb _ hm _ _ hg7)
      · rw [hcf, hclen]
        exact hu7.keep hc8 (fun h hh hm => by
          obtain ⟨cur, hr⟩ := hu7.row hh
          exact hmb _ hm _ _ hr)
      · have := (hnf6.fresh q hq).2.1; omega
      · have h1 := huf6 h e
        have h2 := ((hnf.fresh q hq).2.2 h hh).2
        omega
    repeat (first | refine W_region ?_ | refine Then_n ?_ | refine InBlock_n ?_ | refine WL_nil ?_ | refine WL_some rfl rfl rfl ?_ | refine op_move rfl rfl ?_ | refine op_add rfl rfl rfl (wrap_i64_in (by omega) (by omega)) ?_)
    refine Round_n (nb ++ [(gf, .slice Au (tailOf f tails nb.length) cu)]) ⟨rfl, rfl, rfl, rfl, ?_, trivial⟩ ⟨by rw [List.length_append]; simp; omega, ((((hc4.trans' hc5).trans' hc6).trans' hc7).trans hc8 (fun j hj hlt => by simp at hj; omega)), hb7.keep hc8 (fun hm => hmb _ hm _ _ hb7), hm8.congr (fun k => (hAt_step hnd hr (gf, .slice Au (tailOf f tails nb.length) cu) k).symm), hnf8, ho7.keep hc8 (fun h hh hm => by
      obtain ⟨cur, hr⟩ := ho7.row hh
      exact hmb _ hm _ _ hr)⟩ (by rw [List.length_append]; simp; omega)
    rw [List.length_append]
    exact some_int (by simp)
  have hnl' : nb.length = d.length := by omega
  repeat (first | refine W_seq ?_ | refine W_region ?_ | refine W_exit ?_ | refine Then_n ?_ | refine Then_x ?_ | refine InBlock_hit ?_ | refine Round_x ?_ | refine WL_nil ?_ | refine W_condF rfl ?_ | refine WL_some rfl rfl rfl ?_ | refine op_move rfl rfl ?_ | refine op_nilCheck rfl rfl ?_ | refine op_lss rfl rfl rfl (fun hc => False.elim (by omega)) (fun hc => ?_) | refine op_fieldAddr T rfl rfl rfl rfl rfl rfl rfl rfl ?_ | refine op_loadB T rfl rfl rfl rfl (by assumption) (by exact rfl) ?_)
  refine op_call rfl rfl rfl (cloneD_has hm4) ?_
  rintro _ w5 ⟨md, rfl, hmd, hc5, hm5⟩
  have hb5 := hb4.keep0 hc5
  have hml5 := hm4.keep0 hc5
  have hnf5 := hnf.keep hnl hc5 (fun k hk => by cases hk)
  repeat (first | refine WL_some rfl rfl rfl ?_ | refine WL_none rfl rfl ?_ | refine op_nilCheck rfl rfl ?_ | refine op_fieldAddr T rfl rfl rfl rfl rfl rfl rfl rfl ?_)
  refine op_store T rfl rfl rfl rfl rfl rfl hb5 (Nat.le_of_ble_eq_true rfl) (fun w6 hc6 hb6 _ => ?_)
  have hgrow : ∀ k ∈ [gc], ∀ t cs, Blk w5 k t cs → t = 51 := fun k hk t cs hbk => by
    simp at hk; subst hk
    exact Classical.byContradiction fun hne => hbk.ne_ hb5 hne rfl
  repeat (first | refine W_seq ?_ | refine W_region ?_ | refine W_ret ?_ | refine Then_n ?_ | refine WL_nil ?_ | refine WL_some rfl rfl rfl ?_ | refine op_move rfl rfl ?_ | refine op_assign rfl rfl ?_)
  have hs4 := hc4.size
  have hs5 := hc5.size
  have hml := hm4.lt
  refine post1 (.inl rfl) rfl rfl ⟨(hc4.trans' hc5).trans hc6 (fun j hj hlt => by simp at hj; omega), gc, ⟨md, m, .slice none 0 0, nb⟩, rfl, ⟨hok, hb6, ?_, ?_, Own.nil _ _ _, ?_, fun j q f hq hf => ?_, fun j q f hq hf => ?_, (show md ≠ m by omega), hnf.apart2, hnf.apart3⟩, fun k hk => ?_⟩
  · exact (hm5.keep hc6 (by simpa using hm5.ne_blk hb5)).congr (fun k => hAt_end hnl' k)
  · exact (hml5.keep hc6 (by simpa using hml5.ne_blk hb5)).congr (fun k => hAt_end hnl' k)
  · show nb.length = (crashFiles s d tails).length
    unfold crashFiles
    simpa using hnl'
  · have hjl : j < d.length := by rw [← hnl']; exact (List.getElem?_eq_some_iff.1 hq).1
    have hr : d[j]? = some d[j] := List.getElem?_eq_getElem hjl
    have hf' : f = cutM ((s.files[d[j].2]?).getD ⟨[], 0⟩) tails j := by
      have hf : (crashFiles s d tails)[j]? = some f := hf
      unfold crashFiles at hf
      rw [List.getElem?_mapIdx, hr] at hf
      injection hf with hf; exact hf.symm
    rw [hf']
    have h1 := hnf5.blk j q _ hq hr
    exact h1.keep hc6 (fun hm => by have := hgrow _ hm _ _ h1; exact absurd this (by decide))
  · have hjl : j < d.length := by rw [← hnl']; exact (List.getElem?_eq_some_iff.1 hq).1
    have hr : d[j]? = some d[j] := List.getElem?_eq_getElem hjl
    have hf' : f = cutM ((s.files[d[j].2]?).getD ⟨[], 0⟩) tails j := by
      have hf : (crashFiles s d tails)[j]? = some f := hf
      unfold crashFiles at hf
      rw [List.getElem?_mapIdx, hr] at hf
      injection hf with hf; exact hf.symm
    rw [hf']
    have h1 := hnf5.own j q _ hq hr
    exact h1.keep hc6 (fun h hh hm => by
      obtain ⟨cur, hrr⟩ := h1.row hh
      have := hgrow _ hm _ _ hrr; exact absurd this (by decide))
  · rcases FsP.mem_fp.1 hk with h | h | h | h | ⟨q, hq, h⟩
    · omega
    · have h : k = md := h
      omega
    · have h : k = m := h
      omega
    · cases h
    · have h5 := hnf.fresh q hq
      rcases h with rfl | h
      · exact h5.1
      · exact (h5.2.2 k h).1
end Go.Proofs.YtiadjkjlifnopaaGreat.Tryz
/-! Files: of the call's own; one file. -/
set_option linter.unusedVariables false
set_option linter.unusedSimpArgs false
namespace Go.Proofs.YtiadjkjlifnopaaGreat.Tryz
open Go Go.Vc

/-- A file system that was made since w0; of what lay there nothing has turned. -/
structure FsO (w0 w : World) (g : Nat) (s : FsM) (p : FsP) : Prop where
  chg : Chg [] w0 w
  at_ : FsAt w g s p
  fresh : ∀ k ∈ p.fp g, w0.heap.size ≤ k
section
variable {w0 w w' : World} {g : Nat} {s : FsM} {p : FsP}
theorem FsO.keep0 (x : FsO w0 w g s p) (hc : Chg [] w w') : FsO w0 w' g s p := ⟨x.chg.trans' hc, x.at_.keep0 hc, x.fresh⟩
theorem FsO.base {w1 : World} (x : FsO w1 w g s p) (hc : Chg [] w0 w1) : FsO w0 w g s p := ⟨hc.trans' x.chg, x.at_, fun k hk => by have := x.fresh k hk; have := hc.size; omega⟩
theorem FsO.chgFp (x : FsO w0 w g s p) (hc : Chg (p.fp g) w w') : Chg [] w0 w' := x.chg.trans hc (fun k hk hlt => by have := x.fresh k hk; omega)
/-- A row made behind it, whatever becomes of it. -/
theorem FsO.row (x : FsO w0 w g s p) {w1 : World} (hc : Chg [] w w1) {gb : Nat} (hs : w.heap.size ≤ gb) {vs : List Value} {t : TypeId} {fr : Nat × Nat} (hg : w1.heap[gb]? = some (.cells vs.toArray t fr)) {n c : Nat} {L : List UInt8} (hn : n = L.length) (hnc : n ≤ c) (hcm : c ≤ maxLen)
    (h : ∀ (i : Nat) (y : UInt8), L[i]? = some y → ∃ u, vs[i]? = some u ∧ Ru8 w u y) : Firm (p.fp g) w1 (fun w => SliceOf Ru8 w (.slice (some ⟨gb, 0, none⟩) n c) L) := fun w2 h2 =>
  SliceOf.of_heap ((h2.keep gb (Array.getElem?_eq_some_iff.1 hg).1 (fun hm => by have := x.at_.lt gb hm; omega)).trans hg) hn hnc hcm (fun i y hy => by
    obtain ⟨u, h1, h2⟩ := h i y hy
    exact ⟨u, h1, h2⟩)
theorem FsO.done (x : FsO w0 w g s p) {r : FsM × Int} {v : Value} (h : FsDone w g p r v w') : v = .int .i64 r.2 ∧ ∃ p', FsO w0 w' g r.1 p' := by
  obtain ⟨h1, h2, p', h3, h4⟩ := h
  exact ⟨h2, p', x.chgFp h1, h3, fun k hk => by
    rcases h4 k hk with h | h
    · exact x.fresh k h
    · have := x.chg.size; omega⟩
end
theorem newO_has (n : Int) (w : World) : Has Go.Proofs.Tryz.prog 5 #[.int .i64 n] w (fun v w' => ∃ g p, v = ptrV g ∧ FsO w w' g (newM n) p) :=
  (newFs_has n w).mono fun v w' ⟨hc, g, p, hv, hx, hf⟩ => ⟨g, p, hv, hc, hx, hf⟩
theorem createO_has {w0 w : World} {g : Nat} {s : FsM} {p : FsP} (x : FsO w0 w g s p) (k : Nm) (hk : k.length ≤ maxLen) (hcalls : s.calls < 1000000000 - 1) :
    Has Go.Proofs.Tryz.prog 6 #[ptrV g, .string (str k)] w (fun v w' => v = .int .i64 (createM s k).2 ∧ ∃ p', FsO w0 w' g (createM s k).1 p') := (create_has g s p k w x.at_ hk hcalls).mono fun _ _ h => x.done h
theorem appendO_has {w0 w : World} {g : Nat} {s : FsM} {p : FsP} (x : FsO w0 w g s p) (k : Nm) {A : Option Addr} {n c : Nat} {b : List UInt8} (hb : Firm (p.fp g) w (fun w => SliceOf Ru8 w (.slice A n c) b)) (hbl : b.length ≤ 1000000000) (hcalls : s.calls < 1000000000 - 1) :
    Has Go.Proofs.Tryz.prog 7 #[ptrV g, .string (str k), .slice A n c] w (fun v w' => v = .int .i64 (appendM s k b).2 ∧ ∃ p', FsO w0 w' g (appendM s k b).1 p') := (append_has g s p k A n c b w x.at_ hb hbl hcalls).mono fun _ _ h => x.done h
theorem syncO_has {w0 w : World} {g : Nat} {s : FsM} {p : FsP} (x : FsO w0 w g s p) (k : Nm) (hcalls : s.calls < 1000000000 - 1) :
    Has Go.Proofs.Tryz.prog 9 #[ptrV g, .string (str k)] w (fun v w' => v = .int .i64 (syncM s k).2 ∧ ∃ p', FsO w0 w' g (syncM s k).1 p') := (sync_has g s p k w x.at_ hcalls).mono fun _ _ h => x.done h
theorem syncDirO_has {w0 w : World} {g : Nat} {s : FsM} {p : FsP} (x : FsO w0 w g s p) (hcalls : s.calls < 1000000000 - 1) :
    Has Go.Proofs.Tryz.prog 10 #[ptrV g] w (fun v w' => v = .int .i64 (syncDirM s).2 ∧ ∃ p', FsO w0 w' g (syncDirM s).1 p') := (syncDir_has g s p w x.at_ hcalls).mono fun _ _ h => x.done h
theorem renameO_has {w0 w : World} {g : Nat} {s : FsM} {p : FsP} (x : FsO w0 w g s p) (k k' : Nm) (hk : k'.length ≤ maxLen) (hcalls : s.calls < 1000000000 - 1) :
    Has Go.Proofs.Tryz.prog 89 #[ptrV g, .string (str k), .string (str k')] w (fun v w' => v = .int .i64 (renameM s k k').2 ∧ ∃ p', FsO w0 w' g (renameM s k k').1 p') := (rename_has g s p k k' w x.at_ hk hcalls).mono fun _ _ h => x.done h
theorem readO_has {w0 w : World} {g : Nat} {s : FsM} {p : FsP} (x : FsO w0 w g s p) (k : Nm) :
    Has Go.Proofs.Tryz.prog 23 #[ptrV g, .string (str k)] w (fun v w' => FsO w0 w' g s p ∧ Chg [] w w' ∧ readV (readM s k) w v w') := (read_has g s p k w x.at_).mono fun _ _ ⟨h1, h2⟩ => ⟨x.keep0 h1, h1, h2⟩
theorem crashO_has {w0 w : World} {g : Nat} {s : FsM} {p : FsP} (x : FsO w0 w g s p) (n : Int) {At : Option Addr} {nt ct : Nat} {tails : List Int} (ht : SliceOf Ri64 w (.slice At nt ct) tails) (hcalls : s.calls < 1000000000) :
    Has Go.Proofs.Tryz.prog 15 #[ptrV g, .int .i64 n, .slice At nt ct] w (fun v w' => FsO w0 w' g s p ∧ Chg [] w w' ∧ ∃ gc pc, v = ptrV gc ∧ FsO w w' gc (crashM s n tails) pc) :=
  (crash_has g s p n At nt ct tails w x.at_ ht hcalls).mono fun _ _ ⟨hc, gc, pc, hv, hx, hf⟩ => ⟨x.keep0 hc, hc, gc, pc, hv, hc, hx, hf⟩
theorem fs_eq1 : createM (newM 100) [97] = (⟨100, 1, -1, [⟨[], 0⟩], [([97], 0)], [], [⟨0, [97], [], some 0⟩]⟩, 0) := by rfl
theorem fs_eq2 : appendM ⟨100, 1, -1, [⟨[], 0⟩], [([97], 0)], [], [⟨0, [97], [], some 0⟩]⟩ [97] [120, 121, 122] = (⟨100, 2, -1, [⟨[120, 121, 122], 0⟩], [([97], 0)], [], [⟨0, [97], [], some 0⟩]⟩, 0) := by rfl
end Go.Proofs.YtiadjkjlifnopaaGreat.Tryz
/-! Manifests: segments taken out and put in. -/
set_option linter.unusedVariables false
namespace Go.Proofs.YtiadjkjlifnopaaGreat.Tryz
open Go Go.Vc
def segF : Value := .func (.func 39) #[] #[]
theorem segNum_has (x : SegM) (w : World) : Has Go.Proofs.Tryz.prog 39 #[.agg (segL x).toArray] w (fun v w' => Chg [] w w' ∧ v = .int .i64 x.num) := by
  refine enter Go.Proofs.Tryz.func39 rfl rfl (by decide) rfl (e := [(0, .agg (segL x).toArray)]) ⟨rfl, trivial⟩ ?_
  refine run ?_
  refine go T 2 rfl ?_
  refine o1 rfl ?_
  refine op_box rfl rfl (fun g w1 hs1 hc1 hg1 => ?_)
  have hg1 : Blk w1 g 44 (segL x) := hg1
  unfold segL at hg1
  refine go T 6 rfl ?_
  refine ldB T hg1 rfl rfl rfl rfl rfl rfl ?_
  refine go T 4 rfl ?_
  exact post1 (.inl rfl) rfl rfl ⟨hc1, rfl⟩
/-- Is it this number? -/
theorem takeSeg1_has (gf gn : Nat) (x : SegM) (n : Int) (w : World) (hf : Blk w gf 91 [segF]) (hn : Blk w gn 2 [.int .i64 n]) :
    Has Go.Proofs.Tryz.prog 68 #[.agg (segL x).toArray, ptrV gf, ptrV gn] w (fun v w' => Chg [] w w' ∧ v = .bool (decide (x.num = n))) := by
  refine enter Go.Proofs.Tryz.func68 rfl rfl (by decide) rfl (e := [(0, .agg (segL x).toArray), (1, ptrV gf), (2, ptrV gn)]) ⟨rfl, rfl, rfl, trivial⟩ ?_
  unfold ptrV
  refine run ?_
  refine go T 2 rfl ?_
  refine o1 rfl ?_
  refine op_box rfl rfl (fun g w1 hs1 hc1 hg1 => ?_)
  have hg1 : Blk w1 g 44 (segL x) := hg1
  have hf1 := hf.keep0 hc1
  have hn1 := hn.keep0 hc1
  unfold segF at hf1
  refine go T 4 rfl ?_
  refine W_walk 4 [] fol (by kernel_rfl) (by kernel_rfl) ?_
  refine Walk.plain rfl (by intro val w_ hR hp; exact op_load T rfl rfl rfl rfl ((Blk.keep0 hf1 hR).cell rfl) ⟨Chg.refl _ _, rfl⟩) ?_; dsimp only [List.nil_append, List.cons_append]
  refine Walk.plain rfl (by intro val w_ hR hp; exact op_load_agg T rfl rfl rfl rfl (Blk.keep0 hg1 hR) (Nat.le_of_ble_eq_true rfl) rfl ⟨Chg.refl _ _, rfl⟩) ?_; dsimp only [List.nil_append, List.cons_append]
  refine Walk.plain (v := .int .i64 x.num) rfl (by intro val w_ hR hp; exact op_callf rfl rfl rfl (segNum_has x _) (fun v w' h => h)) ?_; dsimp only [List.nil_append, List.cons_append]
  refine Walk.plain rfl (by intro val w_ hR hp; exact op_load T rfl rfl rfl rfl ((Blk.keep0 hn1 hR).cell rfl) ⟨Chg.refl _ _, rfl⟩) ?_; dsimp only [List.nil_append, List.cons_append]
  refine Walk.fin ?_
  intro val w2 hc2 hp
  clear hp
  refine runL ?_
  refine o1 rfl ?_
  refine op_eql_d rfl rfl rfl ?_
  refine go T 4 rfl ?_
  exact post1 (.inl rfl) rfl rfl ⟨hc1.trans' hc2, rfl⟩
/-- Have they one number? -/
theorem putSeg1_has (gf gx : Nat) (x y : SegM) (w : World) (hf : Blk w gf 91 [segF]) (hx : Blk w gx 44 (segL x)) :
    Has Go.Proofs.Tryz.prog 70 #[.agg (segL y).toArray, ptrV gf, ptrV gx] w (fun v w' => Chg [] w w' ∧ v = .bool (decide (x.num = y.num))) := by
  refine enter Go.Proofs.Tryz.func70 rfl rfl (by decide) rfl (e := [(0, .agg (segL y).toArray), (1, ptrV gf), (2, ptrV gx)]) ⟨rfl, rfl, rfl, trivial⟩ ?_
  unfold ptrV
  refine run ?_
  refine go T 2 rfl ?_
  refine o1 rfl ?_
  refine op_box rfl rfl (fun g w1 hs1 hc1 hg1 => ?_)
  have hg1 : Blk w1 g 44 (segL y) := hg1
  have hf1 := hf.keep0 hc1
  have hx1 := hx.keep0 hc1
  unfold segF at hf1
  refine go T 4 rfl ?_
  refine W_walk 6 [] fol (by kernel_rfl) (by kernel_rfl) ?_
  refine Walk.plain rfl (by intro val w_ hR hp; exact op_load T rfl rfl rfl rfl ((Blk.keep0 hf1 hR).cell rfl) ⟨Chg.refl _ _, rfl⟩) ?_; dsimp only [List.nil_append, List.cons_append]
  refine Walk.plain rfl (by intro val w_ hR hp; exact op_load_agg T rfl rfl rfl rfl (Blk.keep0 hx1 hR) (Nat.le_of_ble_eq_true rfl) rfl ⟨Chg.refl _ _, rfl⟩) ?_; dsimp only [List.nil_append, List.cons_append]
  refine Walk.plain (v := .int .i64 x.num) rfl (by intro val w_ hR hp; exact op_callf rfl rfl rfl (segNum_has x _) (fun v w' h => h)) ?_; dsimp only [List.nil_append, List.cons_append]
  refine Walk.plain rfl (by intro val w_ hR hp; exact op_load T rfl rfl rfl rfl ((Blk.keep0 hf1 hR).cell rfl) ⟨Chg.refl _ _, rfl⟩) ?_; dsimp only [List.nil_append, List.cons_append]
  refine Walk.plain rfl (by intro val w_ hR hp; exact op_load_agg T rfl rfl rfl rfl (Blk.keep0 hg1 hR) (Nat.le_of_ble_eq_true rfl) rfl ⟨Chg.refl _ _, rfl⟩) ?_; dsimp only [List.nil_append, List.cons_append]
  refine Walk.plain (v := .int .i64 y.num) rfl (by intro val w_ hR hp; exact op_callf rfl rfl rfl (segNum_has y _) (fun v w' h => h)) ?_; dsimp only [List.nil_append, List.cons_append]
  refine Walk.fin ?_
  intro val w2 hc2 hp
  clear hp
  refine runL ?_
  refine o1 rfl ?_
  refine op_eql_d rfl rfl rfl ?_
  refine go T 4 rfl ?_
  exact post1 (.inl rfl) rfl rfl ⟨hc1.trans' hc2, rfl⟩
set_option maxHeartbeats 2000000 in
theorem take_has (A : Option Addr) (n c : Nat) (L : List SegM) (B : Option Addr) (m d : Nat) (ns : List Int) (w : World) (hl : SliceK 6 (RdL segL) w (.slice A n c) L) (hns : SliceOf Ri64 w (.slice B m d) ns) (hb : L.length ≤ 1000000) :
    Has Go.Proofs.Tryz.prog 38 #[.slice A n c, .slice B m d, segF] w (fun v w' => Chg [] w w' ∧ (takeK (·.num) ns L = none → v = .tuple #[.slice none 0 0, .bool false]) ∧ ∀ L', takeK (·.num) ns L = some L' → ∃ u, v = .tuple #[u, .bool true] ∧ Own w' 44 6 u L'.length (L'.flatMap segL) ∧ ∀ g, u.ownBlock = some g → w.heap.size ≤ g) := by
  obtain ⟨rfl, hm1, hm2⟩ := hns.len
  unfold maxLen at hm2
  refine enter Go.Proofs.Tryz.func38 rfl rfl (by decide) rfl (e := [(0, .slice A n c), (1, .slice B ns.length d), (2, segF)]) ⟨rfl, rfl, rfl, trivial⟩ ?_
  refine run ?_
  refine go T 2 rfl ?_
  refine o1 rfl ?_
  refine op_box rfl rfl (fun gf w1 hs1 hc1 hg1 => ?_)
  have hg1 : Blk w1 gf 91 [segF] := hg1
  have hs1 : w.heap.size ≤ gf := hs1
  refine go T 7 rfl ?_
  refine o1 rfl ?_
  refine op_call rfl rfl rfl (cloneSeg_has A n c L w1 (hl.keepR hc1) hb) ?_
  rintro v2 w2 ⟨hc2, ho2, hf2⟩
  refine go T 12 rfl ?_
  refine W_loop (σ := Nat × List SegM × Value) (fun s => [(0, s.2.2), (5, .pointer (some ⟨gf, 0, none⟩)), (13, .slice B ns.length d), (14, .int .i64 ns.length), (15, .int .i64 s.1)])
    (fun s w' => s.1 ≤ ns.length ∧ takeK (·.num) ns L = takeK (·.num) (ns.drop s.1) s.2.1 ∧ s.2.1.length ≤ L.length ∧ Chg [] w w' ∧ Own w' 44 6 s.2.2 s.2.1.length (s.2.1.flatMap segL) ∧ (∀ g, s.2.2.ownBlock = some g → w1.heap.size ≤ g) ∧ Blk w' gf 91 [segF])
    (fun s => ns.length - s.1) (0, L, v2) ⟨rfl, rfl, rfl, rfl, rfl, trivial⟩ ⟨by omega, by simp, Nat.le_refl _, hc1.trans' hc2, ho2, hf2, hg1.keep0 hc2⟩ ?_
  rintro ⟨i, M, u⟩ w3 ⟨hi, htk, hML, hc3, hu3, hf3, hg3⟩
  dsimp only at hi htk hML hc3 hu3 hf3 hg3 ⊢
  have hz1 := hc1.size
  have hgl := hg1.lt
  obtain ⟨Au, cu, rfl, hcu1, hcu2⟩ := hu3.form
  refine run ?_
  refine go T 2 rfl ?_
  refine ltS rfl rfl rfl rfl (fun hcmp => ?_) (fun hcmp => ?_)
  · have hi2 : i < ns.length := by omega
    obtain ⟨ad, u0, rfl, hu0, rfl, _, _⟩ := hns.get (i := i) (List.getElem?_eq_getElem hi2)
    have hdrop : ns.drop i = ns[i] :: ns.drop (i + 1) := List.drop_eq_getElem_cons hi2
    rw [hdrop] at htk
    generalize ns[i] = x at *
    have hu0' := hc3.cell0 hu0
    refine go T 10 rfl ?_
    refine o1 rfl (op_index_nat T rfl rfl rfl rfl rfl rfl (by omega) ?_)
    refine o1 rfl (op_load T rfl rfl rfl rfl (by assumption) ?_)
    refine o1 rfl ?_
    refine op_alloc T rfl rfl (fun gn w4 hs4 hc4 hg4 => ?_)
    have hg4 : Blk w4 gn 2 [.int .i64 0] := hg4
    have hs4 : w3.heap.size ≤ gn := hs4
    refine op0 rfl rfl ?_
    refine op_store T rfl rfl rfl rfl rfl rfl hg4 (by simp) (fun w5 hc5 hg5 _ => ?_)
    have hg5 : Blk w5 gn 2 [.int .i64 x] := hg5
    have hc35 : Chg [] w3 w5 := hc4.trans hc5 (fun k hk hlt => by simp at hk; omega)
    have hu5 := hu3.keep0 hc35
    have hg5f := hg3.keep0 hc35
    clear hg4
    refine go T 5 rfl ?_
    refine o1 rfl ?_
    refine op_makeFunc (fv := #[]) (cv := #[ptrV gf, ptrV gn]) rfl rfl rfl ?_
    refine o1 rfl ?_
    refine op_call rfl rfl rfl (indexSeg_has Au _ cu M _ _ (fun s => decide (s.num = x)) (hu5.readsK segL_len) (fun wq s hq _ => takeSeg1_has gf gn s x wq (hg5f.keep0 hq) (hg5.keep0 hq))) ?_
    rintro _ w6 ⟨hc6, rfl⟩
    have hix := idxM_lt (fun s : SegM => decide (s.num = x)) M
    have hu6 := hu5.keep0 hc6
    have hg6 := hg5f.keep0 hc6
    have hc36 := hc35.trans' hc6
    by_cases hneg : idxM (fun s : SegM => decide (s.num = x)) M < 0
    · rw [takeK, if_pos hneg] at htk
      refine go T 7 rfl ?_
      refine ltT rfl rfl rfl rfl (by omega) ?_
      refine go T 13 rfl ?_
      refine rndR ?_
      refine go T 2 rfl ?_
      exact post2 (.inl rfl) rfl rfl rfl ⟨hc3.trans' hc36, fun _ => rfl, fun L' h => by rw [htk] at h; cases h⟩
    · rw [takeK, if_neg hneg] at htk
      obtain ⟨k, hk⟩ : ∃ k : Nat, idxM (fun s : SegM => decide (s.num = x)) M = k := ⟨_, (Int.toNat_of_nonneg (by omega)).symm⟩
      rw [hk] at htk hneg hix ⊢
      rw [Int.toNat_natCast] at htk
      have hkl : k < M.length := by omega
      refine go T 7 rfl ?_
      refine ltF rfl rfl rfl rfl (by omega) ?_
      refine go T 9 rfl ?_
      refine adI rfl rfl rfl rfl (by omega) (by omega) ?_
      refine o1 rfl ?_
      refine op_call rfl rfl rfl (deleteSeg_has _ M k w6 hu6 hkl (by omega)) ?_
      rintro v7 w7 ⟨hc7, hb7, hu7⟩
      have hg7 := hg6.keep hc7 (fun hm => by have := hf3 gf (by simpa using hm); omega)
      have hc07 : Chg [] w w7 := (hc3.trans' hc36).trans hc7 (fun k hk hlt => by have := hf3 k (by simpa using hk); omega)
      refine go T 5 rfl ?_
      refine adI rfl rfl rfl rfl (by omega) (by omega) ?_
      refine go T 2 rfl ?_
      refine Round_n (i + 1, M.eraseIdx k, v7) ⟨rfl, rfl, rfl, rfl, rfl, trivial⟩ ⟨by dsimp only; omega, htk, ?_, hc07, hu7, fun g hg => hf3 g (by rw [← hb7]; exact hg), hg7⟩ (by dsimp only; omega)
      dsimp only
      rw [List.length_eraseIdx]; split <;> omega
  obtain rfl : i = ns.length := by omega
  rw [List.drop_length, takeK] at htk
  refine go T 6 rfl ?_
  refine rndX ?_
  refine go T 10 rfl ?_
  refine post2 (.inl rfl) rfl rfl rfl ⟨hc3, ?_, ?_⟩
  · intro h; rw [htk] at h; cases h
  · intro L' h
    rw [htk] at h; injection h with h; subst h
    exact ⟨_, rfl, hu3, fun g hg => by have := hf3 g hg; omega⟩
end Go.Proofs.YtiadjkjlifnopaaGreat.Tryz
/-! Manifests: segments put in. -/
set_option linter.unusedVariables false
namespace Go.Proofs.YtiadjkjlifnopaaGreat.Tryz
open Go Go.Vc
set_option maxHeartbeats 2000000 in
theorem put_has' (v : Value) (M : List SegM) (B : Option Addr) (m d : Nat) (xs : List SegM) (w : World) (hown : Own w 44 6 v M.length (M.flatMap segL)) (hxs : Firm v.ownBlock.toList w (fun w => SliceK 6 (RdL segL) w (.slice B m d) xs)) (hb : M.length + xs.length ≤ 1000000) :
    Has Go.Proofs.Tryz.prog 40 #[v, .slice B m d, segF] w (fun v' w' => Chg v.ownBlock.toList w w' ∧ (putK (·.num) xs M = none → v' = .tuple #[.slice none 0 0, .bool false]) ∧ ∀ M', putK (·.num) xs M = some M' → (M'.map (·.num)).Nodup → ∃ u, v' = .tuple #[u, .bool true] ∧ Own w' 44 6 u (sortK (·.num) M').length ((sortK (·.num) M').flatMap segL) ∧ ∀ g, u.ownBlock = some g → g ∈ v.ownBlock.toList ∨ w.heap.size ≤ g) := by
  obtain ⟨rfl, hm1, hm2⟩ := (hxs w (Chg.refl _ _)).len
  unfold maxLen at hm2
  refine enter Go.Proofs.Tryz.func40 rfl rfl (by decide) rfl (e := [(0, v), (1, .slice B xs.length d), (2, segF)]) ⟨rfl, rfl, rfl, trivial⟩ ?_
  refine run ?_
  refine go T 2 rfl ?_
  refine o1 rfl ?_
  refine op_box rfl rfl (fun gf w1 hs1 hc1 hg1 => ?_)
  have hg1 : Blk w1 gf 91 [segF] := hg1
  have hs1 : w.heap.size ≤ gf := hs1
  have hown1 := hown.keep0 hc1
  have hc0 : Chg v.ownBlock.toList w w1 := hc1.mono (fun k hk _ => by cases hk)
  refine go T 13 rfl ?_
  refine W_loop (σ := Nat × List SegM × Value) (fun s => [(0, s.2.2), (5, .pointer (some ⟨gf, 0, none⟩)), (10, .slice B xs.length d), (11, .int .i64 xs.length), (12, .int .i64 s.1)])
    (fun s w' => s.1 ≤ xs.length ∧ putK (·.num) xs M = putK (·.num) (xs.drop s.1) s.2.1 ∧ s.2.1.length = M.length + s.1 ∧ Chg v.ownBlock.toList w w' ∧ Own w' 44 6 s.2.2 s.2.1.length (s.2.1.flatMap segL) ∧ (∀ g, s.2.2.ownBlock = some g → g ∈ v.ownBlock.toList ∨ w.heap.size ≤ g) ∧ Blk w' gf 91 [segF])
    (fun s => xs.length - s.1) (0, M, v) ⟨rfl, rfl, rfl, rfl, rfl, trivial⟩ ⟨by omega, by simp, by simp, hc0, hown1, fun g hg => .inl (by simpa using hg), hg1⟩ ?_
  rintro ⟨i, N, u⟩ w3 ⟨hi, hpk, hNM, hc3, hu3, hf3, hg3⟩
  dsimp only at hi hpk hNM hc3 hu3 hf3 hg3 ⊢
  obtain ⟨Au, cu, rfl, hcu1, hcu2⟩ := hu3.form
  refine run ?_
  refine go T 2 rfl ?_
  refine ltS rfl rfl rfl rfl (fun hcmp => ?_) (fun hcmp => ?_)
  · have hi2 : i < xs.length := by omega
    obtain ⟨ad, hA, hel⟩ := (hxs w3 hc3).at (i := i) (List.getElem?_eq_getElem hi2)
    subst hA
    have hdrop : xs.drop i = xs[i] :: xs.drop (i + 1) := List.drop_eq_getElem_cons hi2
    rw [hdrop] at hpk
    generalize xs[i] = x at *
    refine go T 10 rfl ?_
    refine o1 rfl (op_indexK T rfl rfl rfl rfl rfl (by omega) ?_)
    refine o1 rfl (op_loadE T hel rfl rfl rfl rfl rfl ?_)
    refine o1 rfl ?_
    refine op_alloc T rfl rfl (fun gn w4 hs4 hc4 hg4 => ?_)
    have hg4 : Blk w4 gn 44 [.int .i64 0, .bool false, .int .i64 0, .int .i64 0, .int .i64 0, .int .u32 0] := hg4
    have hs4 : w3.heap.size ≤ gn := hs4
    refine op0 rfl rfl ?_
    refine op_store_agg T rfl rfl rfl rfl rfl rfl hg4 (by exact Nat.le_of_ble_eq_true rfl) (fun w5 hc5 hg5 _ => ?_)
    have hg5 : Blk w5 gn 44 (segL x) := hg5
    have hc35 : Chg [] w3 w5 := hc4.trans hc5 (fun k hk hlt => by simp at hk; omega)
    have hu5 := hu3.keep0 hc35
    have hg5f := hg3.keep0 hc35
    clear hg4
    refine go T 6 rfl ?_
    refine o1 rfl ?_
    refine op_makeFunc (fv := #[]) (cv := #[ptrV gf, ptrV gn]) rfl rfl rfl ?_
    refine o1 rfl ?_
    refine op_call rfl rfl rfl (hasSeg_has Au _ cu N _ _ (fun s => decide (x.num = s.num)) (hu5.readsK segL_len) (fun wq s hq _ => putSeg1_has gf gn x s wq (hg5f.keep0 hq) (hg5.keep0 hq))) ?_
    rintro _ w6 ⟨hc6, rfl⟩
    have hu6 := hu5.keep0 hc6
    have hg6 := hg5f.keep0 hc6
    have hg6n := hg5.keep0 hc6
    have hc06 := hc3.trans' (hc35.trans' hc6)
    by_cases hany : (N.any fun s => decide (x.num = s.num)) = true
    · rw [putK, if_pos hany] at hpk
      rw [hany]
      refine go T 13 rfl ?_
      refine rndR ?_
      refine go T 2 rfl ?_
      exact post2 (.inl rfl) rfl rfl rfl ⟨hc06, fun _ => rfl, fun L' h => by rw [hpk] at h; cases h⟩
    · rw [putK, if_neg hany] at hpk
      rw [Bool.eq_false_iff.2 hany]
      refine go T 7 rfl ?_
      refine o1 rfl (op_load_agg T rfl rfl rfl rfl hg6n (by exact Nat.le_of_ble_eq_true rfl) (by exact rfl) ?_)
      refine o1 rfl ?_
      refine op_buildSlice T rfl rfl rfl rfl rfl rfl rfl (fun g7 w7 hs7 hc7 hg7 => ?_)
      have hg7 : Blk w7 g7 44 (segL x) := hg7
      have hu7 := hu6.keep0 hc7
      have hg7f := hg6.keep0 hc7
      have hc07 := hc06.trans' hc7
      refine o1 rfl ?_
      refine op_append T (n := N.length) (xs := N.flatMap segL) (m := 1) (news := segL x) rfl rfl rfl rfl rfl rfl rfl rfl hu7 rfl ?_ (by unfold maxLen; omega) (by show (N.length + 1) * 48 ≤ _; omega) ?_
      · intro j u hj
        exact ⟨⟨_, rfl, by rw [add_plain]; exact hg7.cell hj⟩, segL_one _ u (List.mem_of_getElem? hj)⟩
      · intro v8 w8 hu8 hc8 hb8 _
        have hfr : ∀ h, v8.ownBlock = some h → h ∈ v.ownBlock.toList ∨ w.heap.size ≤ h := fun h hh => by
          rcases hb8 with hb | ⟨g', hb, hge⟩
          · exact hf3 h (by rw [← hb]; exact hh)
          · rw [hb] at hh; injection hh with hh; have := hc07.size; exact .inr (by omega)
        have hc08 : Chg v.ownBlock.toList w w8 := hc07.trans hc8 (fun k hk hlt => (hf3 k (by simpa using hk)).resolve_right (by omega))
        have hg8f := hg7f.keep hc8 (fun hm => by
          obtain ⟨cur, hrow⟩ := hu7.row (show _ = some gf by simpa using hm)
          exact hg7f.ne_ hrow (by decide) rfl)
        refine go T 5 rfl ?_
        refine adI rfl rfl rfl rfl (by omega) (by omega) ?_
        refine go T 2 rfl ?_
        refine Round_n (i + 1, N ++ [x], v8) ⟨rfl, rfl, rfl, rfl, rfl, trivial⟩ ⟨by dsimp only; omega, hpk, by dsimp only; rw [List.length_append, List.length_singleton]; omega, hc08, ?_, hfr, hg8f⟩ (by dsimp only; omega)
        dsimp only
        rw [List.length_append, List.flatMap_append]
        simpa using hu8
  obtain rfl : i = xs.length := by omega
  rw [List.drop_length, putK] at hpk
  have hgfo : gf ∉ (Value.slice Au N.length cu).ownBlock.toList := fun hm => by
    obtain ⟨cur, hrow⟩ := hu3.row (show _ = some gf by simpa using hm)
    exact hg3.ne_ hrow (by decide) rfl
  refine go T 6 rfl ?_
  refine rndX ?_
  refine go T 5 rfl ?_
  refine o1 rfl ?_
  refine op_makeFunc (fv := #[]) (cv := #[ptrV gf]) rfl rfl rfl ?_
  refine o1 rfl ?_
  refine op_call rfl rfl rfl (sortSeg_has gf _ N w3 hu3 (by omega) (hg3.cell rfl) hgfo) ?_
  rintro _ w4 ⟨rfl, hc4, N', hp, hpw, hu4⟩
  have hlen4 : N'.length = N.length := hp.length_eq
  have hc04 : Chg v.ownBlock.toList w w4 := hc3.trans hc4 (fun k hk hlt => (hf3 k (by simpa using hk)).resolve_right (by omega))
  refine go T 10 rfl ?_
  refine post2 (.inl rfl) rfl rfl rfl ⟨hc04, ?_, ?_⟩
  · intro h; rw [hpk] at h; cases h
  · intro M' h hn
    rw [hpk] at h; injection h with h; subst h
    obtain rfl := sortK_unique (key := fun s : SegM => s.num) hn hp hpw
    refine ⟨_, rfl, ?_, hf3⟩
    rw [hlen4] at hu4 ⊢
    exact hu4
end Go.Proofs.YtiadjkjlifnopaaGreat.Tryz
/-! Manifests: the library's Clone and Delete of parity segments. -/
set_option linter.unusedVariables false
namespace Go.Vc
open Go
def parKey (s : ParS) : Int := s.1.p.group
theorem parS_all (x : ParS) : ((parSL x).toArray.toList.all fun u => u.oneCell') = true := List.all_eq_true.2 fun u hu => parS_one x u (by simpa using hu)
theorem idxM_map {α β : Type} (g : α → β) (p : β → Bool) : ∀ L : List α, idxM p (L.map g) = idxM (fun x => p (g x)) L
  | [] => rfl
  | a :: l => by rw [List.map_cons, idxM, idxM, idxM_map g p l]
theorem par_reads {w : World} {v : Value} {L : List ParS} (h : SliceK 5 (RdL parSL) w v L) : SliceK 5 (RdL parL) w v (L.map (·.1)) := by
  unfold SliceK at *
  obtain ⟨A, c, rfl, h1, h2, h⟩ := h
  refine ⟨A, c, by rw [List.length_map], by rw [List.length_map]; exact h1, h2, fun i x hx => ?_⟩
  rw [List.getElem?_map] at hx
  cases hi : L[i]? with
  | none => rw [hi] at hx; cases hx
  | some y =>
    rw [hi] at hx
    injection hx with hx
    subst hx
    exact h i y hi
end Go.Vc
namespace Go.Proofs.YtiadjkjlifnopaaGreat.Tryz
open Go Go.Vc
set_option maxHeartbeats 1000000 in
theorem clonePar_has (A : Option Addr) (n c : Nat) (L : List ParS) (w : World) (hl : SliceK 5 (RdL parSL) w (.slice A n c) L) (hb : L.length ≤ 1000000) :
    Has Go.Proofs.Tryz.prog 74 #[.slice A n c] w (fun v w' => Chg [] w w' ∧ Own w' 96 5 v L.length (L.flatMap parSL) ∧ ∀ g, v.ownBlock = some g → w.heap.size ≤ g) := by
  obtain ⟨rfl, hl1, hl2⟩ := hl.len
  refine enter Go.Proofs.Tryz.func74 rfl rfl (by decide) rfl (e := [(0, .slice A L.length c)]) ⟨rfl, trivial⟩ ?_
  refine run ?_
  refine go T 9 rfl ?_
  refine o1 rfl ?_
  refine op_eql_nil T rfl rfl rfl rfl (fun hA => ?_) (fun ad hA => ?_)
  · have hl0 : L = [] := by
      cases L with
      | nil => rfl
      | cons c l => obtain ⟨ad, he, _⟩ := hl.at (i := 0) (x := c) rfl; rw [hA] at he; cases he
    subst hl0
    refine go T 10 rfl ?_
    exact post1 (.inl rfl) rfl rfl ⟨Chg.refl _ _, Own.nil _ _ _, fun g h => by simp [Value.ownBlock] at h⟩
  · subst hA
    refine go T 7 rfl ?_
    refine o1 rfl ?_
    refine op_buildSlice T rfl rfl rfl rfl rfl rfl rfl (fun g w1 hgs hc1 hg1 => ?_)
    have ho : Own w1 96 5 (.slice (some ⟨g, 0, none⟩) 0 0) 0 [] := Own.mk hg1 (Nat.le_refl _) (Nat.zero_le _) rfl rfl
    have hl' := hl.keepR hc1
    refine go T 1 rfl ?_
    refine o1 rfl ?_
    refine op_append T (n := 0) (xs := []) (m := L.length) (news := L.flatMap parSL) rfl rfl rfl rfl rfl rfl rfl rfl ho (rk_len parS_len L) ?_ (by unfold maxLen; omega) (by show (0 + _) * 72 ≤ _; omega) ?_
    · intro j u hu
      have hjl := (List.getElem?_eq_some_iff.1 hu).1
      rw [rk_len parS_len] at hjl
      have hi : j / 5 < L.length := by omega
      have hm : j % 5 < 5 := by omega
      have hx : L[j / 5]? = some L[j / 5] := List.getElem?_eq_getElem hi
      have h1 := rk_get parS_len L hx hm
      rw [show j / 5 * 5 + j % 5 = j from by omega, hu] at h1
      obtain ⟨ad', he, hel⟩ := hl'.at hx
      have h2 := hel (j % 5) u h1.symm
      rw [show j / 5 * 5 + j % 5 = j from by omega] at h2
      exact ⟨⟨ad', he, h2⟩, parS_one _ u (List.mem_of_getElem? h1.symm)⟩
    · intro v w2 hu2 hc2 hb2 _
      rw [Nat.zero_add, List.nil_append] at hu2
      have hgs : w.heap.size ≤ g := hgs
      refine go T 4 rfl ?_
      refine post1 (.inl rfl) rfl rfl ⟨hc1.trans hc2 (fun k hk hlt => by simp [Value.ownBlock] at hk; omega), hu2, fun h hh => ?_⟩
      rcases hb2 with hb2 | ⟨g', hb2, hge⟩
      · rw [hb2] at hh; simp [Value.ownBlock] at hh; omega
      · rw [hb2] at hh; injection hh with hh; have := hc1.size; omega
set_option maxHeartbeats 2000000 in
/-- One goes, in place. -/
theorem deletePar_has (v : Value) (L : List ParS) (k : Nat) (w : World) (hown : Own w 96 5 v L.length (L.flatMap parSL)) (hk : k < L.length) (hb : L.length ≤ 1000000) :
    Has Go.Proofs.Tryz.prog 77 #[v, .int .i64 (k : Int), .int .i64 ((k : Int) + 1)] w (fun v' w' => Chg v.ownBlock.toList w w' ∧ v'.ownBlock = v.ownBlock ∧ Own w' 96 5 v' (L.eraseIdx k).length ((L.eraseIdx k).flatMap parSL)) := by
  obtain ⟨g, cap, cur, rfl, hn, hm, hblk, hl, ht⟩ := hown.blk (by omega)
  have hmm := hm
  unfold maxLen at hmm
  refine enter Go.Proofs.Tryz.func77 rfl rfl (by decide) rfl (e := [(0, .slice (some ⟨g, 0, none⟩) L.length cap), (1, .int .i64 (k : Int)), (2, .int .i64 ((k : Int) + 1))]) ⟨rfl, rfl, rfl, trivial⟩ ?_
  rw [show ((k : Int) + 1) = ((k + 1 : Nat) : Int) from by omega]
  refine run ?_
  refine go T 12 rfl ?_
  refine o1 rfl ?_
  refine op_slice3 T (l := k) (h' := k + 1) (m := L.length) rfl rfl rfl rfl rfl rfl rfl (by omega) (by omega) (by omega) (fun v13 => ?_)
  refine go T 7 rfl ?_
  refine eqF rfl rfl rfl rfl (by omega) ?_
  refine go T 13 rfl ?_
  refine W_walk 6 [] fol (by kernel_rfl) (by kernel_rfl) ?_
  refine Walk.plain rfl (by intro val w_ hR hp; exact op_move rfl rfl ⟨Chg.refl _ _, rfl⟩) ?_; dsimp only [List.nil_append, List.cons_append]
  refine Walk.plain rfl (by intro val w_ hR hp; exact op_move rfl rfl ⟨Chg.refl _ _, rfl⟩) ?_; dsimp only [List.nil_append, List.cons_append]
  refine Walk.plain (v := .slice (some ⟨g, 0, none⟩) k cap) rfl (by intro val w_ hR hp; exact op_slice_to T (h' := k) (k := .i64) rfl rfl rfl rfl rfl (by omega) ⟨Chg.refl _ _, rfl⟩) ?_; dsimp only [List.nil_append, List.cons_append]
  refine Walk.plain rfl (by intro val w_ hR hp; exact op_move rfl rfl ⟨Chg.refl _ _, rfl⟩) ?_; dsimp only [List.nil_append, List.cons_append]
  refine Walk.plain rfl (by intro val w_ hR hp; exact op_move rfl rfl ⟨Chg.refl _ _, rfl⟩) ?_; dsimp only [List.nil_append, List.cons_append]
  refine Walk.plain (v := .slice (if cap = k + 1 then some ⟨g, 0, none⟩ else (some (⟨g, 0, none⟩ : Addr)).map (·.add ((k + 1) * 5))) (L.length - (k + 1)) (cap - (k + 1))) rfl (by intro val w_ hR hp; exact op_slice T (l := k + 1) (h' := L.length) rfl rfl rfl rfl ⟨_, rfl⟩ rfl (by omega) (by omega) ⟨Chg.refl _ _, rfl⟩) ?_; dsimp only [List.nil_append, List.cons_append]
  skip
  refine Walk.fin ?_
  intro val w1 hc1 hp
  clear hp
  replace hown := hown.keep0 hc1
  replace hblk := hblk.keep0 hc1
  have hb1 := hblk
  obtain ⟨a, ha, hav⟩ : ∃ a, (if cap = k + 1 then some ⟨g, 0, none⟩ else (some (⟨g, 0, none⟩ : Addr)).map (·.add ((k + 1) * 5))) = some a ∧ (cap = k + 1 ∨ a = (⟨g, 0, none⟩ : Addr).add ((k + 1) * 5)) := by
    split
    · rename_i h; exact ⟨_, rfl, .inl h⟩
    · exact ⟨_, rfl, .inr rfl⟩
  rw [ha]
  have hcells : ∀ j u, ((L.drop (k + 1)).flatMap parSL)[j]? = some u → w1.cell? (a.add j) = some u := fun j u hj => by
    rcases hav with h | h
    · have : L.drop (k + 1) = [] := List.drop_eq_nil_of_le (by omega)
      rw [this] at hj; simp at hj
    · rw [h, add_of_add, add_plain]
      have hlen : ((L.drop (k + 1)).flatMap parSL).length = (L.length - (k + 1)) * 5 := by rw [rk_len parS_len, List.length_drop]
      have hjl := (List.getElem?_eq_some_iff.1 hj).1
      rw [hlen] at hjl
      refine hb1.cell ?_
      have e1 : (L.flatMap parSL)[(k + 1) * 5 + j]? = some u := by
        have h2 : L.flatMap parSL = (L.take (k + 1)).flatMap parSL ++ (L.drop (k + 1)).flatMap parSL := by rw [← List.flatMap_append, List.take_append_drop]
        rw [h2, List.getElem?_append_right (by rw [rk_len parS_len, List.length_take]; omega), rk_len parS_len, List.length_take, Nat.min_eq_left (by omega), Nat.add_sub_cancel_left]
        exact hj
      rw [← ht, List.getElem?_take] at e1
      split at e1
      · exact e1
      · cases e1
  have hnl : ((L.drop (k + 1)).flatMap parSL).length = (L.length - (k + 1)) * 5 := by rw [rk_len parS_len, List.length_drop]
  have hfitl : k * 5 + ((L.drop (k + 1)).flatMap parSL).length ≤ cur.length := by rw [hnl, hl]; omega
  have hone : ∀ u ∈ (L.drop (k + 1)).flatMap parSL, u.oneCell' = true := fun u hu => by
    obtain ⟨x, _, hx⟩ := List.mem_flatMap.1 hu
    exact parS_one x u hx
  refine runL ?_
  refine o1 rfl ?_
  refine op_appendIn T (t := 38) (el := 96) (g := g) (a := a) (n := k) (cap := cap) (m := L.length - (k + 1)) (news := (L.drop (k + 1)).flatMap parSL) rfl rfl rfl rfl rfl rfl hb1 hnl hcells hone (by omega) hfitl (fun w2 hc2 hb2 => ?_)
  have hb2 : Blk w2 g 96 (cur.take (k * 5) ++ (L.drop (k + 1)).flatMap parSL ++ cur.drop (k * 5 + ((L.drop (k + 1)).flatMap parSL).length)) := hb2
  have hkn : k + (L.length - (k + 1)) = L.length - 1 := by omega
  rw [hkn]
  have htk : cur.take (k * 5) = (L.take k).flatMap parSL := by
    have : cur.take (k * 5) = (L.flatMap parSL).take (k * 5) := by rw [← ht, List.take_take, Nat.min_eq_left (by omega)]
    rw [this]
    have h2 : L.flatMap parSL = (L.take k).flatMap parSL ++ (L.drop k).flatMap parSL := by rw [← List.flatMap_append, List.take_append_drop]
    rw [h2]
    exact List.take_left' (by rw [rk_len parS_len, List.length_take, Nat.min_eq_left (by omega)])
  have her : cur.take (k * 5) ++ (L.drop (k + 1)).flatMap parSL = (L.eraseIdx k).flatMap parSL := by
    rw [htk, eraseIdx_split L k hk, List.flatMap_append]
  rw [her] at hb2
  have hel : (L.eraseIdx k).length = L.length - 1 := by rw [List.length_eraseIdx, if_pos hk]
  have hefl : ((L.eraseIdx k).flatMap parSL).length = (L.length - 1) * 5 := by rw [rk_len parS_len, hel]
  have htot : ((L.eraseIdx k).flatMap parSL ++ cur.drop (k * 5 + ((L.drop (k + 1)).flatMap parSL).length)).length = cap * 5 := by
    rw [List.length_append, hefl, List.length_drop, hnl, hl]; omega
  generalize cur.drop (k * 5 + ((L.drop (k + 1)).flatMap parSL).length) = back at *
  refine go T 9 rfl ?_
  refine o1 rfl ?_
  refine op_slice T (l := L.length - 1) (h' := L.length) rfl rfl rfl rfl ⟨_, rfl⟩ ⟨_, rfl⟩ (by omega) (by omega) ?_
  rw [if_neg (by omega)]
  refine op0 rfl rfl ?_
  refine op_clear T (A := some ⟨g, (L.length - 1) * 5, none⟩) (g := g) (off := (L.length - 1) * 5) (m := L.length - (L.length - 1)) (c := cap - (L.length - 1)) rfl rfl (by show some (Value.slice (some ((⟨g, 0, none⟩ : Addr).add ((L.length - 1) * 5))) _ _) = _; rw [add_plain]) rfl rfl rfl rfl (.inr rfl) hb2 (by rw [htot]; show (L.length - 1) * 5 + (L.length - (L.length - 1)) * 5 ≤ _; omega) (fun w3 rest hc3 hb3 hl3 => ?_)
  rw [List.take_left' hefl] at hb3 hl3
  rw [htot] at hl3
  refine go T 9 rfl ?_
  refine post1 (.inl rfl) rfl rfl ⟨(hc1.mono (fun k hk _ => by cases hk)).trans (hc2.trans hc3 (fun i hi _ => hi)) (fun i hi _ => by simpa [Value.ownBlock] using hi), rfl, ?_⟩
  rw [hel]
  exact Own.mk hb3 (by omega) hm hl3 (List.take_left' hefl)
theorem indexParS_has {w : World} (A : Option Addr) (n c : Nat) (L : List ParS) (fn : Nat) (cv : Array Value) (q : ParS → Bool) (p : ParV → Bool) (hq : ∀ s, q s = p s.1) (hs : SliceK 5 (RdL parSL) w (.slice A n c) L)
    (hf : ∀ w1 x, Chg [] w w1 → Has Go.Proofs.Tryz.prog fn (#[] ++ #[.agg (parL x).toArray] ++ cv) w1 (fun v w' => Chg [] w1 w' ∧ v = .bool (p x))) :
    Has Go.Proofs.Tryz.prog 75 #[.slice A n c, .func (.func fn) #[] cv] w (fun v w' => Chg [] w w' ∧ v = .int .i64 (idxM q L)) := by
  have := indexPar_has A n c (L.map (·.1)) fn cv p (par_reads hs) (fun w1 x h _ => hf w1 x h)
  rw [idxM_map, show (fun x : ParS => p x.1) = q from funext fun s => (hq s).symm] at this
  exact this
theorem hasParS_has {w : World} (A : Option Addr) (n c : Nat) (L : List ParS) (fn : Nat) (cv : Array Value) (q : ParS → Bool) (p : ParV → Bool) (hq : ∀ s, q s = p s.1) (hs : SliceK 5 (RdL parSL) w (.slice A n c) L)
    (hf : ∀ w1 x, Chg [] w w1 → Has Go.Proofs.Tryz.prog fn (#[] ++ #[.agg (parL x).toArray] ++ cv) w1 (fun v w' => Chg [] w1 w' ∧ v = .bool (p x))) :
    Has Go.Proofs.Tryz.prog 64 #[.slice A n c, .func (.func fn) #[] cv] w (fun v w' => Chg [] w w' ∧ v = .bool (L.any q)) := by
  have := hasPar_has A n c (L.map (·.1)) fn cv p (par_reads hs) (fun w1 x h _ => hf w1 x h)
  rw [List.any_map, show (p ∘ fun x : ParS => x.1) = q from funext fun s => (hq s).symm] at this
  exact this
end Go.Proofs.YtiadjkjlifnopaaGreat.Tryz
/-! Manifests: parity segments taken out and put in. -/
set_option linter.unusedVariables false
namespace Go.Proofs.YtiadjkjlifnopaaGreat.Tryz
open Go Go.Vc
def parF : Value := .func (.func 42) #[] #[]
theorem parNum_has (x : ParV) (w : World) : Has Go.Proofs.Tryz.prog 42 #[.agg (parL x).toArray] w (fun v w' => Chg [] w w' ∧ v = .int .i64 x.p.group) := by
  refine enter Go.Proofs.Tryz.func42 rfl rfl (by decide) rfl (e := [(0, .agg (parL x).toArray)]) ⟨rfl, trivial⟩ ?_
  refine run ?_
  refine go T 2 rfl ?_
  refine o1 rfl ?_
  refine op_box rfl rfl (fun g w1 hs1 hc1 hg1 => ?_)
  have hg1 : Blk w1 g 96 (parL x) := hg1
  unfold parL at hg1
  refine go T 6 rfl ?_
  refine ldB T hg1 rfl rfl rfl rfl rfl rfl ?_
  refine go T 4 rfl ?_
  exact post1 (.inl rfl) rfl rfl ⟨hc1, rfl⟩
/-- Is it this number? -/
theorem takePar1_has (gf gn : Nat) (x : ParV) (n : Int) (w : World) (hf : Blk w gf 97 [parF]) (hn : Blk w gn 2 [.int .i64 n]) :
    Has Go.Proofs.Tryz.prog 76 #[.agg (parL x).toArray, ptrV gf, ptrV gn] w (fun v w' => Chg [] w w' ∧ v = .bool (decide (x.p.group = n))) := by
  refine enter Go.Proofs.Tryz.func76 rfl rfl (by decide) rfl (e := [(0, .agg (parL x).toArray), (1, ptrV gf), (2, ptrV gn)]) ⟨rfl, rfl, rfl, trivial⟩ ?_
  unfold ptrV
  refine run ?_
  refine go T 2 rfl ?_
  refine o1 rfl ?_
  refine op_box rfl rfl (fun g w1 hs1 hc1 hg1 => ?_)
  have hg1 : Blk w1 g 96 (parL x) := hg1
  have hf1 := hf.keep0 hc1
  have hn1 := hn.keep0 hc1
  unfold parF at hf1
  refine go T 4 rfl ?_
  refine W_walk 4 [] fol (by kernel_rfl) (by kernel_rfl) ?_
  refine Walk.plain rfl (by intro val w_ hR hp; exact op_load T rfl rfl rfl rfl ((Blk.keep0 hf1 hR).cell rfl) ⟨Chg.refl _ _, rfl⟩) ?_; dsimp only [List.nil_append, List.cons_append]
  refine Walk.plain rfl (by intro val w_ hR hp; exact op_load_agg T rfl rfl rfl rfl (Blk.keep0 hg1 hR) (Nat.le_of_ble_eq_true rfl) rfl ⟨Chg.refl _ _, rfl⟩) ?_; dsimp only [List.nil_append, List.cons_append]
  refine Walk.plain (v := .int .i64 x.p.group) rfl (by intro val w_ hR hp; exact op_callf rfl rfl rfl (parNum_has x _) (fun v w' h => h)) ?_; dsimp only [List.nil_append, List.cons_append]
  refine Walk.plain rfl (by intro val w_ hR hp; exact op_load T rfl rfl rfl rfl ((Blk.keep0 hn1 hR).cell rfl) ⟨Chg.refl _ _, rfl⟩) ?_; dsimp only [List.nil_append, List.cons_append]
  refine Walk.fin ?_
  intro val w2 hc2 hp
  clear hp
  refine runL ?_
  refine o1 rfl ?_
  refine op_eql_d rfl rfl rfl ?_
  refine go T 4 rfl ?_
  exact post1 (.inl rfl) rfl rfl ⟨hc1.trans' hc2, rfl⟩
/-- Have they one number? -/
theorem putPar1_has (gf gx : Nat) (x y : ParV) (w : World) (hf : Blk w gf 97 [parF]) (hx : Blk w gx 96 (parL x)) :
    Has Go.Proofs.Tryz.prog 78 #[.agg (parL y).toArray, ptrV gf, ptrV gx] w (fun v w' => Chg [] w w' ∧ v = .bool (decide (x.p.group = y.p.group))) := by
  refine enter Go.Proofs.Tryz.func78 rfl rfl (by decide) rfl (e := [(0, .agg (parL y).toArray), (1, ptrV gf), (2, ptrV gx)]) ⟨rfl, rfl, rfl, trivial⟩ ?_
  unfold ptrV
  refine run ?_
  refine go T 2 rfl ?_
  refine o1 rfl ?_
  refine op_box rfl rfl (fun g w1 hs1 hc1 hg1 => ?_)
  have hg1 : Blk w1 g 96 (parL y) := hg1
  have hf1 := hf.keep0 hc1
  have hx1 := hx.keep0 hc1
  unfold parF at hf1
  refine go T 4 rfl ?_
  refine W_walk 6 [] fol (by kernel_rfl) (by kernel_rfl) ?_
  refine Walk.plain rfl (by intro val w_ hR hp; exact op_load T rfl rfl rfl rfl ((Blk.keep0 hf1 hR).cell rfl) ⟨Chg.refl _ _, rfl⟩) ?_; dsimp only [List.nil_append, List.cons_append]
  refine Walk.plain rfl (by intro val w_ hR hp; exact op_load_agg T rfl rfl rfl rfl (Blk.keep0 hx1 hR) (Nat.le_of_ble_eq_true rfl) rfl ⟨Chg.refl _ _, rfl⟩) ?_; dsimp only [List.nil_append, List.cons_append]
  refine Walk.plain (v := .int .i64 x.p.group) rfl (by intro val w_ hR hp; exact op_callf rfl rfl rfl (parNum_has x _) (fun v w' h => h)) ?_; dsimp only [List.nil_append, List.cons_append]
  refine Walk.plain rfl (by intro val w_ hR hp; exact op_load T rfl rfl rfl rfl ((Blk.keep0 hf1 hR).cell rfl) ⟨Chg.refl _ _, rfl⟩) ?_; dsimp only [List.nil_append, List.cons_append]
  refine Walk.plain rfl (by intro val w_ hR hp; exact op_load_agg T rfl rfl rfl rfl (Blk.keep0 hg1 hR) (Nat.le_of_ble_eq_true rfl) rfl ⟨Chg.refl _ _, rfl⟩) ?_; dsimp only [List.nil_append, List.cons_append]
  refine Walk.plain (v := .int .i64 y.p.group) rfl (by intro val w_ hR hp; exact op_callf rfl rfl rfl (parNum_has y _) (fun v w' h => h)) ?_; dsimp only [List.nil_append, List.cons_append]
  refine Walk.fin ?_
  intro val w2 hc2 hp
  clear hp
  refine runL ?_
  refine o1 rfl ?_
  refine op_eql_d rfl rfl rfl ?_
  refine go T 4 rfl ?_
  exact post1 (.inl rfl) rfl rfl ⟨hc1.trans' hc2, rfl⟩
set_option maxHeartbeats 2000000 in
theorem takeP_has (A : Option Addr) (n c : Nat) (L : List ParS) (B : Option Addr) (m d : Nat) (ns : List Int) (w : World) (hl : SliceK 5 (RdL parSL) w (.slice A n c) L) (hns : SliceOf Ri64 w (.slice B m d) ns) (hb : L.length ≤ 1000000) :
    Has Go.Proofs.Tryz.prog 41 #[.slice A n c, .slice B m d, parF] w (fun v w' => Chg [] w w' ∧ (takeK parKey ns L = none → v = .tuple #[.slice none 0 0, .bool false]) ∧ ∀ L', takeK parKey ns L = some L' → ∃ u, v = .tuple #[u, .bool true] ∧ Own w' 96 5 u L'.length (L'.flatMap parSL) ∧ ∀ g, u.ownBlock = some g → w.heap.size ≤ g) := by
  obtain ⟨rfl, hm1, hm2⟩ := hns.len
  unfold maxLen at hm2
  refine enter Go.Proofs.Tryz.func41 rfl rfl (by decide) rfl (e := [(0, .slice A n c), (1, .slice B ns.length d), (2, parF)]) ⟨rfl, rfl, rfl, trivial⟩ ?_
  refine run ?_
  refine go T 2 rfl ?_
  refine o1 rfl ?_
  refine op_box rfl rfl (fun gf w1 hs1 hc1 hg1 => ?_)
  have hg1 : Blk w1 gf 97 [parF] := hg1
  have hs1 : w.heap.size ≤ gf := hs1
  refine go T 7 rfl ?_
  refine o1 rfl ?_
  refine op_call rfl rfl rfl (clonePar_has A n c L w1 (hl.keepR hc1) hb) ?_
  rintro v2 w2 ⟨hc2, ho2, hf2⟩
  refine go T 12 rfl ?_
  refine W_loop (σ := Nat × List ParS × Value) (fun s => [(0, s.2.2), (5, .pointer (some ⟨gf, 0, none⟩)), (13, .slice B ns.length d), (14, .int .i64 ns.length), (15, .int .i64 s.1)])
    (fun s w' => s.1 ≤ ns.length ∧ takeK parKey ns L = takeK parKey (ns.drop s.1) s.2.1 ∧ s.2.1.length ≤ L.length ∧ Chg [] w w' ∧ Own w' 96 5 s.2.2 s.2.1.length (s.2.1.flatMap parSL) ∧ (∀ g, s.2.2.ownBlock = some g → w1.heap.size ≤ g) ∧ Blk w' gf 97 [parF])
    (fun s => ns.length - s.1) (0, L, v2) ⟨rfl, rfl, rfl, rfl, rfl, trivial⟩ ⟨by omega, by simp, Nat.le_refl _, hc1.trans' hc2, ho2, hf2, hg1.keep0 hc2⟩ ?_
  rintro ⟨i, M, u⟩ w3 ⟨hi, htk, hML, hc3, hu3, hf3, hg3⟩
  dsimp only at hi htk hML hc3 hu3 hf3 hg3 ⊢
  have hz1 := hc1.size
  have hgl := hg1.lt
  obtain ⟨Au, cu, rfl, hcu1, hcu2⟩ := hu3.form
  refine run ?_
  refine go T 2 rfl ?_
  refine ltS rfl rfl rfl rfl (fun hcmp => ?_) (fun hcmp => ?_)
  · have hi2 : i < ns.length := by omega
    obtain ⟨ad, u0, rfl, hu0, rfl, _, _⟩ := hns.get (i := i) (List.getElem?_eq_getElem hi2)
    have hdrop : ns.drop i = ns[i] :: ns.drop (i + 1) := List.drop_eq_getElem_cons hi2
    rw [hdrop] at htk
    generalize ns[i] = x at *
    have hu0' := hc3.cell0 hu0
    refine go T 10 rfl ?_
    refine o1 rfl (op_index_nat T rfl rfl rfl rfl rfl rfl (by omega) ?_)
    refine o1 rfl (op_load T rfl rfl rfl rfl (by assumption) ?_)
    refine o1 rfl ?_
    refine op_alloc T rfl rfl (fun gn w4 hs4 hc4 hg4 => ?_)
    have hg4 : Blk w4 gn 2 [.int .i64 0] := hg4
    have hs4 : w3.heap.size ≤ gn := hs4
    refine op0 rfl rfl ?_
    refine op_store T rfl rfl rfl rfl rfl rfl hg4 (by simp) (fun w5 hc5 hg5 _ => ?_)
    have hg5 : Blk w5 gn 2 [.int .i64 x] := hg5
    have hc35 : Chg [] w3 w5 := hc4.trans hc5 (fun k hk hlt => by simp at hk; omega)
    have hu5 := hu3.keep0 hc35
    have hg5f := hg3.keep0 hc35
    clear hg4
    refine go T 5 rfl ?_
    refine o1 rfl ?_
    refine op_makeFunc (fv := #[]) (cv := #[ptrV gf, ptrV gn]) rfl rfl rfl ?_
    refine o1 rfl ?_
    refine op_call rfl rfl rfl (indexParS_has Au _ cu M _ _ (fun s => decide (parKey s = x)) (fun s => decide (s.p.group = x)) (fun _ => rfl) (hu5.readsK parS_len) (fun wq s hq => takePar1_has gf gn s x wq (hg5f.keep0 hq) (hg5.keep0 hq))) ?_
    rintro _ w6 ⟨hc6, rfl⟩
    have hix := idxM_lt (fun s : ParS => decide (parKey s = x)) M
    have hu6 := hu5.keep0 hc6
    have hg6 := hg5f.keep0 hc6
    have hc36 := hc35.trans' hc6
    by_cases hneg : idxM (fun s : ParS => decide (parKey s = x)) M < 0
    · rw [takeK, if_pos hneg] at htk
      refine go T 7 rfl ?_
      refine ltT rfl rfl rfl rfl (by omega) ?_
      refine go T 13 rfl ?_
      refine rndR ?_
      refine go T 2 rfl ?_
      exact post2 (.inl rfl) rfl rfl rfl ⟨hc3.trans' hc36, fun _ => rfl, fun L' h => by rw [htk] at h; cases h⟩
    · rw [takeK, if_neg hneg] at htk
      obtain ⟨k, hk⟩ : ∃ k : Nat, idxM (fun s : ParS => decide (parKey s = x)) M = k := ⟨_, (Int.toNat_of_nonneg (by omega)).symm⟩
      rw [hk] at htk hneg hix ⊢
      rw [Int.toNat_natCast] at htk
      have hkl : k < M.length := by omega
      refine go T 7 rfl ?_
      refine ltF rfl rfl rfl rfl (by omega) ?_
      refine go T 9 rfl ?_
      refine adI rfl rfl rfl rfl (by omega) (by omega) ?_
      refine o1 rfl ?_
      refine op_call rfl rfl rfl (deletePar_has _ M k w6 hu6 hkl (by omega)) ?_
      rintro v7 w7 ⟨hc7, hb7, hu7⟩
      have hg7 := hg6.keep hc7 (fun hm => by have := hf3 gf (by simpa using hm); omega)
      have hc07 : Chg [] w w7 := (hc3.trans' hc36).trans hc7 (fun k hk hlt => by have := hf3 k (by simpa using hk); omega)
      refine go T 5 rfl ?_
      refine adI rfl rfl rfl rfl (by omega) (by omega) ?_
      refine go T 2 rfl ?_
      refine Round_n (i + 1, M.eraseIdx k, v7) ⟨rfl, rfl, rfl, rfl, rfl, trivial⟩ ⟨by dsimp only; omega, htk, ?_, hc07, hu7, fun g hg => hf3 g (by rw [← hb7]; exact hg), hg7⟩ (by dsimp only; omega)
      dsimp only
      rw [List.length_eraseIdx]; split <;> omega
  obtain rfl : i = ns.length := by omega
  rw [List.drop_length, takeK] at htk
  refine go T 6 rfl ?_
  refine rndX ?_
  refine go T 10 rfl ?_
  refine post2 (.inl rfl) rfl rfl rfl ⟨hc3, ?_, ?_⟩
  · intro h; rw [htk] at h; cases h
  · intro L' h
    rw [htk] at h; injection h with h; subst h
    exact ⟨_, rfl, hu3, fun g hg => by have := hf3 g hg; omega⟩
end Go.Proofs.YtiadjkjlifnopaaGreat.Tryz
/-! Manifests: parity segments put in. -/
set_option linter.unusedVariables false
namespace Go.Proofs.YtiadjkjlifnopaaGreat.Tryz
open Go Go.Vc
set_option maxHeartbeats 2000000 in
theorem putP_has' (v : Value) (M : List ParS) (B : Option Addr) (m d : Nat) (xs : List ParS) (w : World) (hown : Own w 96 5 v M.length (M.flatMap parSL)) (hxs : Firm v.ownBlock.toList w (fun w => SliceK 5 (RdL parSL) w (.slice B m d) xs)) (hb : M.length + xs.length ≤ 1000000) :
    Has Go.Proofs.Tryz.prog 43 #[v, .slice B m d, parF] w (fun v' w' => Chg v.ownBlock.toList w w' ∧ (putK parKey xs M = none → v' = .tuple #[.slice none 0 0, .bool false]) ∧ ∀ M', putK parKey xs M = some M' → (M'.map parKey).Nodup → ∃ u, v' = .tuple #[u, .bool true] ∧ Own w' 96 5 u (sortK parKey M').length ((sortK parKey M').flatMap parSL) ∧ ∀ g, u.ownBlock = some g → g ∈ v.ownBlock.toList ∨ w.heap.size ≤ g) := by
  obtain ⟨rfl, hm1, hm2⟩ := (hxs w (Chg.refl _ _)).len
  unfold maxLen at hm2
  refine enter Go.Proofs.Tryz.func43 rfl rfl (by decide) rfl (e := [(0, v), (1, .slice B xs.length d), (2, parF)]) ⟨rfl, rfl, rfl, trivial⟩ ?_
  refine run ?_
  refine go T 2 rfl ?_
  refine o1 rfl ?_
  refine op_box rfl rfl (fun gf w1 hs1 hc1 hg1 => ?_)
  have hg1 : Blk w1 gf 97 [parF] := hg1
  have hs1 : w.heap.size ≤ gf := hs1
  have hown1 := hown.keep0 hc1
  have hc0 : Chg v.ownBlock.toList w w1 := hc1.mono (fun k hk _ => by cases hk)
  refine go T 13 rfl ?_
  refine W_loop (σ := Nat × List ParS × Value) (fun s => [(0, s.2.2), (5, .pointer (some ⟨gf, 0, none⟩)), (10, .slice B xs.length d), (11, .int .i64 xs.length), (12, .int .i64 s.1)])
    (fun s w' => s.1 ≤ xs.length ∧ putK parKey xs M = putK parKey (xs.drop s.1) s.2.1 ∧ s.2.1.length = M.length + s.1 ∧ Chg v.ownBlock.toList w w' ∧ Own w' 96 5 s.2.2 s.2.1.length (s.2.1.flatMap parSL) ∧ (∀ g, s.2.2.ownBlock = some g → g ∈ v.ownBlock.toList ∨ w.heap.size ≤ g) ∧ Blk w' gf 97 [parF])
    (fun s => xs.length - s.1) (0, M, v) ⟨rfl, rfl, rfl, rfl, rfl, trivial⟩ ⟨by omega, by simp, by simp, hc0, hown1, fun g hg => .inl (by simpa using hg), hg1⟩ ?_
  rintro ⟨i, N, u⟩ w3 ⟨hi, hpk, hNM, hc3, hu3, hf3, hg3⟩
  dsimp only at hi hpk hNM hc3 hu3 hf3 hg3 ⊢
  obtain ⟨Au, cu, rfl, hcu1, hcu2⟩ := hu3.form
  refine run ?_
  refine go T 2 rfl ?_
  refine ltS rfl rfl rfl rfl (fun hcmp => ?_) (fun hcmp => ?_)
  · have hi2 : i < xs.length := by omega
    obtain ⟨ad, hA, hel⟩ := (hxs w3 hc3).at (i := i) (List.getElem?_eq_getElem hi2)
    subst hA
    have hdrop : xs.drop i = xs[i] :: xs.drop (i + 1) := List.drop_eq_getElem_cons hi2
    rw [hdrop] at hpk
    generalize xs[i] = x at *
    refine go T 10 rfl ?_
    refine o1 rfl (op_indexK T rfl rfl rfl rfl rfl (by omega) ?_)
    refine o1 rfl (op_loadE T hel rfl rfl rfl rfl rfl ?_)
    refine o1 rfl ?_
    refine op_alloc T rfl rfl (fun gn w4 hs4 hc4 hg4 => ?_)
    have hg4 : Blk w4 gn 96 [.int .i64 0, .slice none 0 0, .slice none 0 0, .int .i64 0, .int .u32 0] := hg4
    have hs4 : w3.heap.size ≤ gn := hs4
    refine op0 rfl rfl ?_
    refine op_store_agg T rfl rfl rfl rfl rfl (parS_all x) hg4 (by exact Nat.le_of_ble_eq_true rfl) (fun w5 hc5 hg5 _ => ?_)
    have hg5 : Blk w5 gn 96 (parSL x) := hg5
    have hc35 : Chg [] w3 w5 := hc4.trans hc5 (fun k hk hlt => by simp at hk; omega)
    have hu5 := hu3.keep0 hc35
    have hg5f := hg3.keep0 hc35
    clear hg4
    refine go T 6 rfl ?_
    refine o1 rfl ?_
    refine op_makeFunc (fv := #[]) (cv := #[ptrV gf, ptrV gn]) rfl rfl rfl ?_
    refine o1 rfl ?_
    refine op_call rfl rfl rfl (hasParS_has Au _ cu N _ _ (fun s => decide (parKey x = parKey s)) (fun s => decide (x.1.p.group = s.p.group)) (fun _ => rfl) (hu5.readsK parS_len) (fun wq s hq => putPar1_has gf gn x.1 s wq (hg5f.keep0 hq) (hg5.keep0 hq))) ?_
    rintro _ w6 ⟨hc6, rfl⟩
    have hu6 := hu5.keep0 hc6
    have hg6 := hg5f.keep0 hc6
    have hg6n := hg5.keep0 hc6
    have hc06 := hc3.trans' (hc35.trans' hc6)
    by_cases hany : (N.any fun s => decide (parKey x = parKey s)) = true
    · rw [putK, if_pos hany] at hpk
      rw [hany]
      refine go T 13 rfl ?_
      refine rndR ?_
      refine go T 2 rfl ?_
      exact post2 (.inl rfl) rfl rfl rfl ⟨hc06, fun _ => rfl, fun L' h => by rw [hpk] at h; cases h⟩
    · rw [putK, if_neg hany] at hpk
      rw [Bool.eq_false_iff.2 hany]
      refine go T 7 rfl ?_
      refine o1 rfl (op_load_agg T rfl rfl rfl rfl hg6n (by exact Nat.le_of_ble_eq_true rfl) (by exact rfl) ?_)
      refine o1 rfl ?_
      refine op_buildSlice T rfl rfl rfl rfl rfl rfl rfl (fun g7 w7 hs7 hc7 hg7 => ?_)
      have hg7 : Blk w7 g7 96 (parSL x) := hg7
      have hu7 := hu6.keep0 hc7
      have hg7f := hg6.keep0 hc7
      have hc07 := hc06.trans' hc7
      refine o1 rfl ?_
      refine op_append T (n := N.length) (xs := N.flatMap parSL) (m := 1) (news := parSL x) rfl rfl rfl rfl rfl rfl rfl rfl hu7 rfl ?_ (by unfold maxLen; omega) (by show (N.length + 1) * 72 ≤ _; omega) ?_
      · intro j u hj
        exact ⟨⟨_, rfl, by rw [add_plain]; exact hg7.cell hj⟩, parS_one _ u (List.mem_of_getElem? hj)⟩
      · intro v8 w8 hu8 hc8 hb8 _
        have hfr : ∀ h, v8.ownBlock = some h → h ∈ v.ownBlock.toList ∨ w.heap.size ≤ h := fun h hh => by
          rcases hb8 with hb | ⟨g', hb, hge⟩
          · exact hf3 h (by rw [← hb]; exact hh)
          · rw [hb] at hh; injection hh with hh; have := hc07.size; exact .inr (by omega)
        have hc08 : Chg v.ownBlock.toList w w8 := hc07.trans hc8 (fun k hk hlt => (hf3 k (by simpa using hk)).resolve_right (by omega))
        have hg8f := hg7f.keep hc8 (fun hm => by
          obtain ⟨cur, hrow⟩ := hu7.row (show _ = some gf by simpa using hm)
          exact hg7f.ne_ hrow (by decide) rfl)
        refine go T 5 rfl ?_
        refine adI rfl rfl rfl rfl (by omega) (by omega) ?_
        refine go T 2 rfl ?_
        refine Round_n (i + 1, N ++ [x], v8) ⟨rfl, rfl, rfl, rfl, rfl, trivial⟩ ⟨by dsimp only; omega, hpk, by dsimp only; rw [List.length_append, List.length_singleton]; omega, hc08, ?_, hfr, hg8f⟩ (by dsimp only; omega)
        dsimp only
        rw [List.length_append, List.flatMap_append]
        simpa using hu8
  obtain rfl : i = xs.length := by omega
  rw [List.drop_length, putK] at hpk
  have hgfo : gf ∉ (Value.slice Au N.length cu).ownBlock.toList := fun hm => by
    obtain ⟨cur, hrow⟩ := hu3.row (show _ = some gf by simpa using hm)
    exact hg3.ne_ hrow (by decide) rfl
  refine go T 6 rfl ?_
  refine rndX ?_
  refine go T 5 rfl ?_
  refine o1 rfl ?_
  refine op_makeFunc (fv := #[]) (cv := #[ptrV gf]) rfl rfl rfl ?_
  refine o1 rfl ?_
  refine op_call rfl rfl rfl (sortPar0_has gf _ N w3 hu3 (by omega) (hg3.cell rfl) hgfo) ?_
  rintro _ w4 ⟨rfl, hc4, N', hp, hpw, hu4⟩
  have hlen4 : N'.length = N.length := hp.length_eq
  have hc04 : Chg v.ownBlock.toList w w4 := hc3.trans hc4 (fun k hk hlt => (hf3 k (by simpa using hk)).resolve_right (by omega))
  refine go T 10 rfl ?_
  refine post2 (.inl rfl) rfl rfl rfl ⟨hc04, ?_, ?_⟩
  · intro h; rw [hpk] at h; cases h
  · intro M' h hn
    rw [hpk] at h; injection h with h; subst h
    obtain rfl := sortK_unique (key := parKey) hn hp hpw
    refine ⟨_, rfl, ?_, hf3⟩
    rw [hlen4] at hu4 ⊢
    exact hu4
end Go.Proofs.YtiadjkjlifnopaaGreat.Tryz
/-! Manifests: later, whether all went, and the first parts of fine. -/
set_option linter.unusedVariables false
namespace Go.Vc
open Go
def laterM (was is_ : Int) : Int × Bool := if is_ = 0 then (was, true) else (is_, decide (was ≤ is_))
def sealedAt (n : Int) (s : SegM) : Bool := decide (s.num = n) && s.sealed
def fineM (S : List SegM) (Q : List ParV) (nx : Int) (X : List ParV) : Bool :=
  (X.all fun q => q.p.nums.all fun n => S.any (sealedAt n)) && (decide (max S.length Q.length ≤ 60) && (!(S.any fun s => decide (nx ≤ s.num)) && !(Q.any fun q => decide (nx ≤ q.p.group))))
end Go.Vc
namespace Go.Proofs.YtiadjkjlifnopaaGreat.Tryz
open Go Go.Vc
theorem later_has (was is_ : Int) (w : World) : Has Go.Proofs.Tryz.prog 44 #[.int .i64 was, .int .i64 is_] w (fun v w' => w' = w ∧ v = .tuple #[.int .i64 (laterM was is_).1, .bool (laterM was is_).2]) := by
  refine enter Go.Proofs.Tryz.func44 rfl rfl (by decide) rfl (e := [(0, .int .i64 was), (1, .int .i64 is_)]) ⟨rfl, rfl, trivial⟩ ?_
  unfold laterM
  by_cases h0 : is_ = 0
  · rw [if_pos h0]
    refine run ?_
    refine go T 10 rfl ?_
    refine eqT rfl rfl rfl rfl (by omega) ?_
    refine go T 12 rfl ?_
    exact post2 (.inl rfl) rfl rfl rfl ⟨rfl, rfl⟩
  · rw [if_neg h0]
    by_cases h1 : was ≤ is_
    · rw [decide_eq_true h1]
      refine run ?_
      refine go T 10 rfl ?_
      refine eqF rfl rfl rfl rfl (by omega) ?_
      refine go T 10 rfl ?_
      refine geT rfl rfl rfl rfl (by omega) ?_
      refine go T 5 rfl ?_
      exact post2 (.inl rfl) rfl rfl rfl ⟨rfl, rfl⟩
    · rw [decide_eq_false h1]
      refine run ?_
      refine go T 10 rfl ?_
      refine eqF rfl rfl rfl rfl (by omega) ?_
      refine go T 10 rfl ?_
      refine geF rfl rfl rfl rfl (by omega) ?_
      refine go T 5 rfl ?_
      exact post2 (.inl rfl) rfl rfl rfl ⟨rfl, rfl⟩
theorem fine1_has (gn : Nat) (s : SegM) (n : Int) (w : World) (hn : Blk w gn 2 [.int .i64 n]) :
    Has Go.Proofs.Tryz.prog 82 #[.agg (segL s).toArray, ptrV gn] w (fun v w' => Chg [] w w' ∧ v = .bool (sealedAt n s)) := by
  refine enter Go.Proofs.Tryz.func82 rfl rfl (by decide) rfl (e := [(0, .agg (segL s).toArray), (1, ptrV gn)]) ⟨rfl, rfl, trivial⟩ ?_
  unfold ptrV sealedAt
  refine run ?_
  refine go T 2 rfl ?_
  refine o1 rfl ?_
  refine op_box rfl rfl (fun g w1 hs1 hc1 hg1 => ?_)
  have hg1 : Blk w1 g 44 (segL s) := hg1
  have hn1 := hn.keep0 hc1
  unfold segL at hg1
  by_cases h : s.num = n
  · rw [decide_eq_true h, Bool.true_and]
    refine go T 6 rfl ?_
    refine ldB T hg1 rfl rfl rfl rfl rfl rfl ?_
    refine ldB T hn1 rfl rfl rfl rfl rfl rfl ?_
    refine eqT rfl rfl rfl rfl (by omega) ?_
    refine go T 2 rfl ?_
    refine ldB T hg1 rfl rfl rfl rfl rfl rfl ?_
    refine go T 5 rfl ?_
    exact post1 (.inl rfl) rfl rfl ⟨hc1, rfl⟩
  · rw [decide_eq_false h, Bool.false_and]
    refine go T 6 rfl ?_
    refine ldB T hg1 rfl rfl rfl rfl rfl rfl ?_
    refine ldB T hn1 rfl rfl rfl rfl rfl rfl ?_
    refine eqF rfl rfl rfl rfl (by omega) ?_
    refine go T 8 rfl ?_
    exact post1 (.inl rfl) rfl rfl ⟨hc1, rfl⟩
theorem fine2_has (gs : Nat) (s : SegM) (va vp : Value) (nx sq : Int) (w : World) (hst : Blk w gs 67 [va, vp, .int .i64 nx, .int .i64 sq]) :
    Has Go.Proofs.Tryz.prog 83 #[.agg (segL s).toArray, ptrV gs] w (fun v w' => Chg [] w w' ∧ v = .bool (decide (nx ≤ s.num))) := by
  refine enter Go.Proofs.Tryz.func83 rfl rfl (by decide) rfl (e := [(0, .agg (segL s).toArray), (1, ptrV gs)]) ⟨rfl, rfl, trivial⟩ ?_
  unfold ptrV
  refine run ?_
  refine go T 2 rfl ?_
  refine o1 rfl ?_
  refine op_box rfl rfl (fun g w1 hs1 hc1 hg1 => ?_)
  have hg1 : Blk w1 g 44 (segL s) := hg1
  have hn1 := hst.keep0 hc1
  unfold segL at hg1
  by_cases h : nx ≤ s.num
  · rw [decide_eq_true h]
    refine go T 6 rfl ?_
    refine ldB T hg1 rfl rfl rfl rfl rfl rfl ?_
    refine go T 1 rfl ?_
    refine ldB T hn1 rfl rfl rfl rfl rfl rfl ?_
    refine geT rfl rfl rfl rfl (by omega) ?_
    refine go T 4 rfl ?_
    exact post1 (.inl rfl) rfl rfl ⟨hc1, rfl⟩
  · rw [decide_eq_false h]
    refine go T 6 rfl ?_
    refine ldB T hg1 rfl rfl rfl rfl rfl rfl ?_
    refine go T 1 rfl ?_
    refine ldB T hn1 rfl rfl rfl rfl rfl rfl ?_
    refine geF rfl rfl rfl rfl (by omega) ?_
    refine go T 4 rfl ?_
    exact post1 (.inl rfl) rfl rfl ⟨hc1, rfl⟩
theorem fine3_has (gs : Nat) (s : ParV) (va vp : Value) (nx sq : Int) (w : World) (hst : Blk w gs 67 [va, vp, .int .i64 nx, .int .i64 sq]) :
    Has Go.Proofs.Tryz.prog 84 #[.agg (parL s).toArray, ptrV gs] w (fun v w' => Chg [] w w' ∧ v = .bool (decide (nx ≤ s.p.group))) := by
  refine enter Go.Proofs.Tryz.func84 rfl rfl (by decide) rfl (e := [(0, .agg (parL s).toArray), (1, ptrV gs)]) ⟨rfl, rfl, trivial⟩ ?_
  unfold ptrV
  refine run ?_
  refine go T 2 rfl ?_
  refine o1 rfl ?_
  refine op_box rfl rfl (fun g w1 hs1 hc1 hg1 => ?_)
  have hg1 : Blk w1 g 96 (parL s) := hg1
  have hn1 := hst.keep0 hc1
  unfold parL at hg1
  by_cases h : nx ≤ s.p.group
  · rw [decide_eq_true h]
    refine go T 6 rfl ?_
    refine ldB T hg1 rfl rfl rfl rfl rfl rfl ?_
    refine go T 1 rfl ?_
    refine ldB T hn1 rfl rfl rfl rfl rfl rfl ?_
    refine geT rfl rfl rfl rfl (by omega) ?_
    refine go T 4 rfl ?_
    exact post1 (.inl rfl) rfl rfl ⟨hc1, rfl⟩
  · rw [decide_eq_false h]
    refine go T 6 rfl ?_
    refine ldB T hg1 rfl rfl rfl rfl rfl rfl ?_
    refine go T 1 rfl ?_
    refine ldB T hn1 rfl rfl rfl rfl rfl rfl ?_
    refine geF rfl rfl rfl rfl (by omega) ?_
    refine go T 4 rfl ?_
    exact post1 (.inl rfl) rfl rfl ⟨hc1, rfl⟩
end Go.Proofs.YtiadjkjlifnopaaGreat.Tryz
/-! Manifests: fine. -/
set_option linter.unusedVariables false
namespace Go.Vc
open Go
theorem all_no {α : Type} {l : List α} {P : α → Bool} {i : Nat} {x : α} (h : l[i]? = some x) (hp : P x = false) : l.all P = false := by
  rw [Bool.eq_false_iff]
  intro ha
  have := List.all_eq_true.1 ha x (List.mem_of_getElem? h)
  rw [hp] at this; cases this
theorem all_take {α : Type} {l : List α} {P : α → Bool} {i : Nat} {x : α} (h : l[i]? = some x) (ha : (l.take i).all P = true) (hp : P x = true) : (l.take (i + 1)).all P = true := by
  rw [List.take_add_one, h, List.all_append, ha]
  simp [hp]
end Go.Vc
namespace Go.Proofs.YtiadjkjlifnopaaGreat.Tryz
open Go Go.Vc
set_option maxHeartbeats 4000000 in
theorem fine_has (va vp : Value) (nx sq : Int) (B : Option Addr) (m d : Nat) (S : List SegM) (Q X : List ParV) (w : World) (hS : SliceK 6 (RdL segL) w va S) (hQ : SliceK 5 (RdL parL) w vp Q) (hX : SliceK 5 (RdL parL) w (.slice B m d) X) (hp : ∀ q ∈ X, PRd w q) (hone : ∀ q ∈ X, q.vn.oneCell' = true ∧ q.vs.oneCell' = true) :
    Has Go.Proofs.Tryz.prog 46 #[.agg #[va, vp, .int .i64 nx, .int .i64 sq], .slice B m d] w (fun v w' => Chg [] w w' ∧ v = .bool (fineM S Q nx X)) := by
  obtain ⟨rfl, hm1, hm2⟩ := hX.len
  unfold maxLen at hm2
  obtain ⟨As, cs, rfl, hs1, hs2⟩ := hS.form
  obtain ⟨Aq, cq, rfl, hq1, hq2⟩ := hQ.form
  unfold maxLen at hs2 hq2
  refine enter Go.Proofs.Tryz.func46 rfl rfl (by decide) rfl (e := [(0, .agg #[.slice As S.length cs, .slice Aq Q.length cq, .int .i64 nx, .int .i64 sq]), (1, .slice B X.length d)]) ⟨rfl, rfl, trivial⟩ ?_
  refine run ?_
  refine go T 2 rfl ?_
  refine o1 rfl ?_
  refine op_box rfl rfl (fun gs w1 hs1 hc1 hg1 => ?_)
  have hg1 : Blk w1 gs 67 [.slice As S.length cs, .slice Aq Q.length cq, .int .i64 nx, .int .i64 sq] := hg1
  refine go T 12 rfl ?_
  refine W_loop (σ := Nat) (fun k => [(2, .pointer (some ⟨gs, 0, none⟩)), (9, .slice B X.length d), (10, .int .i64 X.length), (11, .int .i64 (k : Int))])
    (fun k w' => k ≤ X.length ∧ Chg [] w1 w' ∧ (X.take k).all (fun q => q.p.nums.all fun n => S.any (sealedAt n)) = true)
    (fun k => X.length - k) 0 ⟨rfl, rfl, rfl, rfl, trivial⟩ ⟨by omega, Chg.refl _ _, by simp⟩ ?_
  rintro k w3 ⟨hk, hc3, hall⟩
  have hg3 := hg1.keep0 hc3
  refine run ?_
  refine go T 2 rfl ?_
  refine ltS rfl rfl rfl rfl (fun hcmp => ?_) (fun hcmp => ?_)
  · have hk2 : k < X.length := by omega
    have hx : X[k]? = some X[k] := List.getElem?_eq_getElem hk2
    have hmem : X[k] ∈ X := List.getElem_mem hk2
    obtain ⟨ad, hA, hel⟩ := hX.at hx
    have hpr := hp _ hmem
    have hon := hone _ hmem
    subst hA
    generalize X[k] = q at *
    have hc03 : Chg [] w w3 := hc1.trans' hc3
    obtain ⟨hnr, _⟩ := hpr
    obtain ⟨An, cn, hvn, hn1, hn2⟩ := hnr.form
    unfold maxLen at hn2
    refine go T 10 rfl ?_
    refine o1 rfl (op_indexK T rfl rfl rfl rfl rfl (by omega) ?_)
    refine o1 rfl ?_
    refine op_load_cells (cs := parL q) T rfl rfl rfl rfl rfl (fun j u hj => hc03.cell0 (by rw [add_of_add]; exact hel j u hj)) ?_
    refine o1 rfl ?_
    refine op_alloc T rfl rfl (fun g6 w4 hs4 hc4 hg4 => ?_)
    have hg4 : Blk w4 g6 96 [.int .i64 0, .slice none 0 0, .slice none 0 0, .int .i64 0, .int .u32 0] := hg4
    have hs4 : w3.heap.size ≤ g6 := hs4
    refine op0 rfl rfl ?_
    refine op_store_agg T rfl rfl rfl rfl rfl (List.all_eq_true.2 fun u hu => by
      have hu : u ∈ parL q := hu
      simp only [parL, List.mem_cons, List.not_mem_nil, or_false] at hu
      rcases hu with rfl | rfl | rfl | rfl | rfl
      · rfl
      · exact hon.1
      · exact hon.2
      · rfl
      · rfl) hg4 (by exact Nat.le_of_ble_eq_true rfl) (fun w5 hc5 hg5 _ => ?_)
    have hg5 : Blk w5 g6 96 (parL q) := hg5
    have hc35 : Chg [] w3 w5 := hc4.trans hc5 (fun k hk hlt => by simp at hk; omega)
    have hc15 : Chg [] w1 w5 := hc3.trans' hc35
    clear hg4
    have hg5s := hg3.keep0 hc35
    unfold parL at hg5
    rw [hvn] at hg5
    refine go T 5 rfl ?_
    refine ldB T hg5 rfl rfl rfl rfl rfl rfl ?_
    refine go T 5 rfl ?_
    refine W_loop (σ := Nat) (fun j => [(2, .pointer (some ⟨gs, 0, none⟩)), (9, .slice (some ad) X.length d), (10, .int .i64 X.length), (11, .int .i64 (k : Int)), (16, .slice An q.p.nums.length cn), (17, .int .i64 q.p.nums.length), (18, .int .i64 (j : Int))])
      (fun j w' => j ≤ q.p.nums.length ∧ Chg [] w1 w' ∧ (q.p.nums.take j).all (fun n => S.any (sealedAt n)) = true)
      (fun j => q.p.nums.length - j) 0 ⟨rfl, rfl, rfl, rfl, rfl, rfl, rfl, trivial⟩ ⟨by omega, hc15, by simp⟩ ?_
    rintro j w6 ⟨hj, hc6, hallj⟩
    have hg6 := hg1.keep0 hc6
    refine run ?_
    refine go T 2 rfl ?_
    refine ltS rfl rfl rfl rfl (fun hcmp => ?_) (fun hcmp => ?_)
    · have hj2 : j < q.p.nums.length := by omega
      have hy : q.p.nums[j]? = some q.p.nums[j] := List.getElem?_eq_getElem hj2
      rw [hvn] at hnr
      obtain ⟨adn, u0, rfl, hu0, rfl, _, _⟩ := hnr.get hy
      generalize q.p.nums[j] = n at *
      have hu0' := (hc1.trans' hc6).cell0 hu0
      refine go T 10 rfl ?_
      refine o1 rfl (op_index_nat T rfl rfl rfl rfl rfl rfl (by omega) ?_)
      refine o1 rfl (op_load T rfl rfl rfl rfl (by assumption) ?_)
      refine o1 rfl ?_
      refine op_alloc T rfl rfl (fun gn w7 hs7 hc7 hg7 => ?_)
      have hg7 : Blk w7 gn 2 [.int .i64 0] := hg7
      have hs7 : w6.heap.size ≤ gn := hs7
      refine op0 rfl rfl ?_
      refine op_store T rfl rfl rfl rfl rfl rfl hg7 (by simp) (fun w8 hc8 hg8 _ => ?_)
      have hg8 : Blk w8 gn 2 [.int .i64 n] := hg8
      have hc68 : Chg [] w6 w8 := hc7.trans hc8 (fun k hk hlt => by simp at hk; omega)
      have hc18 : Chg [] w1 w8 := hc6.trans' hc68
      have hg8s := hg6.keep0 hc68
      clear hg7
      refine go T 5 rfl ?_
      refine ldB T hg8s rfl rfl rfl rfl rfl rfl ?_
      refine o1 rfl ?_
      refine op_makeFunc (fv := #[]) (cv := #[ptrV gn]) rfl rfl rfl ?_
      refine o1 rfl ?_
      refine op_call rfl rfl rfl (hasSeg_has As _ cs S _ _ (sealedAt n) (hS.keepR (hc1.trans' hc18)) (fun wq s hq _ => fine1_has gn s n wq (hg8.keep0 hq))) ?_
      rintro _ w9 ⟨hc9, rfl⟩
      have hc19 := hc18.trans' hc9
      cases hany : S.any (sealedAt n) with
      | false =>
        have hno : (q.p.nums.all fun n => S.any (sealedAt n)) = false := all_no hy hany
        have hno2 : (X.all fun q => q.p.nums.all fun n => S.any (sealedAt n)) = false := all_no hx hno
        refine go T 12 rfl ?_
        refine rndR ?_
        refine go T 3 rfl ?_
        refine rndR ?_
        refine go T 2 rfl ?_
        exact post1 (.inl rfl) rfl rfl ⟨hc1.trans' hc19, by unfold fineM; rw [hno2, Bool.false_and]⟩
      | true =>
        refine go T 8 rfl ?_
        refine adI rfl rfl rfl rfl (by omega) (by omega) ?_
        refine go T 2 rfl ?_
        exact Round_n (j + 1) ⟨rfl, rfl, rfl, rfl, rfl, rfl, rfl, trivial⟩ ⟨by omega, hc19, all_take hy hallj hany⟩ (by omega)
    obtain rfl : j = q.p.nums.length := by omega
    rw [List.take_length] at hallj
    refine go T 6 rfl ?_
    refine rndX ?_
    refine go T 4 rfl ?_
    refine adI rfl rfl rfl rfl (by omega) (by omega) ?_
    refine go T 2 rfl ?_
    exact Round_n (k + 1) ⟨rfl, rfl, rfl, rfl, trivial⟩ ⟨by omega, hc6, all_take hx hall hallj⟩ (by omega)
  obtain rfl : k = X.length := by omega
  rw [List.take_length] at hall
  have hc03 : Chg [] w w3 := hc1.trans' hc3
  unfold fineM
  rw [hall, Bool.true_and]
  by_cases h60 : max S.length Q.length ≤ 60
  · rw [decide_eq_true h60, Bool.true_and]
    have h60a : (max (S.length : Int) Q.length) ≤ 60 := by omega
    refine go T 6 rfl ?_
    refine rndX ?_
    refine go T 5 rfl ?_
    refine ldB T hg3 rfl rfl rfl rfl rfl rfl ?_
    refine go T 2 rfl ?_
    refine ldB T hg3 rfl rfl rfl rfl rfl rfl ?_
    refine go T 1 rfl ?_
    refine o1 rfl (op_max rfl rfl rfl ?_)
    refine leT rfl rfl rfl rfl (by omega) ?_
    refine go T 2 rfl ?_
    refine ldB T hg3 rfl rfl rfl rfl rfl rfl ?_
    refine o1 rfl ?_
    refine op_makeFunc (fv := #[]) (cv := #[ptrV gs]) rfl rfl rfl ?_
    refine o1 rfl ?_
    refine op_call rfl rfl rfl (hasSeg_has As _ cs S _ _ (fun s => decide (nx ≤ s.num)) (hS.keepR hc03) (fun wq s hq _ => fine2_has gs s _ _ nx sq wq (hg3.keep0 hq))) ?_
    rintro _ w4 ⟨hc4, rfl⟩
    have hg4 := hg3.keep0 hc4
    cases hany : S.any (fun s => decide (nx ≤ s.num)) with
    | true =>
      refine go T 13 rfl ?_
      exact post1 (.inl rfl) rfl rfl ⟨hc03.trans' hc4, rfl⟩
    | false =>
      refine go T 4 rfl ?_
      refine ldB T hg4 rfl rfl rfl rfl rfl rfl ?_
      refine o1 rfl ?_
      refine op_makeFunc (fv := #[]) (cv := #[ptrV gs]) rfl rfl rfl ?_
      refine o1 rfl ?_
      refine op_call rfl rfl rfl (hasPar_has Aq _ cq Q _ _ (fun s => decide (nx ≤ s.p.group)) (hQ.keepR (hc03.trans' hc4)) (fun wq s hq _ => fine3_has gs s _ _ nx sq wq (hg4.keep0 hq))) ?_
      rintro _ w5 ⟨hc5, rfl⟩
      cases hany2 : Q.any (fun s => decide (nx ≤ s.p.group)) with
      | true =>
        refine go T 6 rfl ?_
        exact post1 (.inl rfl) rfl rfl ⟨(hc03.trans' hc4).trans' hc5, rfl⟩
      | false =>
        refine go T 6 rfl ?_
        exact post1 (.inl rfl) rfl rfl ⟨(hc03.trans' hc4).trans' hc5, rfl⟩
  · rw [decide_eq_false h60, Bool.false_and]
    have h60a : ¬ (max (S.length : Int) Q.length) ≤ 60 := by omega
    refine go T 6 rfl ?_
    refine rndX ?_
    refine go T 5 rfl ?_
    refine ldB T hg3 rfl rfl rfl rfl rfl rfl ?_
    refine go T 2 rfl ?_
    refine ldB T hg3 rfl rfl rfl rfl rfl rfl ?_
    refine go T 1 rfl ?_
    refine o1 rfl (op_max rfl rfl rfl ?_)
    refine leF rfl rfl rfl rfl (by omega) ?_
    refine go T 18 rfl ?_
    exact post1 (.inl rfl) rfl rfl ⟨hc03, rfl⟩
end Go.Proofs.YtiadjkjlifnopaaGreat.Tryz
/-! Manifests: whether one of some truths is x; an array as a slice; what apply makes, in plain words. -/
set_option linter.unusedVariables false
namespace Go.Vc
open Go
theorem op_slice_arr {P : Program} {N : Nat} {e : Env} {w : World} {o : Oper} {K : Value → World → Prop} (T : Types P) {x : Operand} {t el n g : Nat} {d : TInfo}
    (hop : o.op = .slice t x none none none) (hx : ev e x = some (.pointer (some ⟨g, 0, none⟩))) (ht : T.d t = some (.array n el)) (hel : T.tbl el = some d) (hn : 0 < n) (h : K (.slice (some ⟨g, 0, none⟩) n n) w) : OpW P N o e w K := by
  obtain ⟨q, hq, _, _, _⟩ := T.inf el d hel
  have hn0 : ¬ n = 0 := by omega
  exact OpW_run (fun a ha => by simp [execOp, hop, ha.ev hx, Instr.sliceAt, Instr.sureAddr, Instr.sliceBounds, run_underlying (T.und' ht), sizeOf, typeInfo, hq, hn0, Result.andThen]; rfl) h
structure StM where
  segs : List SegM
  pars : List ParS
  next : Int
  seq : Int
/-- An edit at a state: the new state, or none. first: as it is read, its parities' segments need not stand. -/
def applyM (st : StM) (e : EditM) (X : List ParS) (first : Bool) : Option StM :=
  let t1 := takeK (fun s : SegM => s.num) e.dels st.segs
  let p1 := putK (fun s : SegM => s.num) e.adds (t1.getD [])
  let s2 := (p1.map (sortK (fun s : SegM => s.num))).getD []
  let t2 := takeK parKey e.drops st.pars
  let p2 := putK parKey X (t2.getD [])
  let q2 := (p2.map (sortK parKey)).getD []
  let n := laterM st.next e.next
  let s := laterM st.seq e.seq
  if (editB e && (t1.isSome && (p1.isSome && (t2.isSome && (p2.isSome && (n.2 && (s.2 && fineM s2 (q2.map (·.1)) n.1 (if first then [] else X.map (·.1))))))))) = true then some ⟨s2, q2, n.1, s.1⟩ else none
end Go.Vc
namespace Go.Proofs.YtiadjkjlifnopaaGreat.Tryz
open Go Go.Vc
set_option maxHeartbeats 1000000 in
theorem indexB_has (A : Option Addr) (n c : Nat) (L : List Bool) (b : Bool) (w : World) (hs : SliceOf Rbool w (.slice A n c) L) :
    Has Go.Proofs.Tryz.prog 81 #[.slice A n c, .bool b] w (fun v w' => w' = w ∧ v = .int .i64 (idxM (fun x => b == x) L)) := by
  obtain ⟨rfl, hl1, hl2⟩ := hs.len
  unfold maxLen at hl2
  refine enter Go.Proofs.Tryz.func81 rfl rfl (by decide) rfl (e := [(0, .slice A L.length c), (1, .bool b)]) ⟨rfl, rfl, trivial⟩ ?_
  refine run ?_
  refine go T 14 rfl ?_
  refine W_loop (σ := Nat) (fun i => [(0, .slice A L.length c), (1, .bool b), (6, .slice A L.length c), (7, .int .i64 L.length), (8, .int .i64 i)])
    (fun (i : Nat) w' => i ≤ L.length ∧ (∀ (j : Nat) y, j < i → L[j]? = some y → (b == y) = false) ∧ w' = w) (fun i => L.length - i) 0 ⟨rfl, rfl, rfl, rfl, rfl, trivial⟩ ⟨by omega, fun j y hj => by omega, rfl⟩ ?_
  rintro i w1 ⟨hi, hb, rfl⟩
  refine run ?_
  refine go T 2 rfl ?_
  refine ltS rfl rfl rfl rfl (fun hcmp => ?_) (fun hcmp => ?_)
  · have hlt : i < L.length := by omega
    have hx := List.getElem?_eq_getElem hlt
    obtain ⟨ad, u, rfl, hu, hur⟩ := hs.get hx
    generalize L[i] = y at *
    obtain rfl : u = .bool y := hur
    refine go T 19 rfl ?_
    refine o1 rfl (op_index_nat T rfl rfl rfl rfl rfl rfl (by omega) ?_)
    refine o1 rfl (op_load T rfl rfl rfl rfl (by assumption) ?_)
    refine o1 rfl ?_
    refine op_eql_bools T rfl rfl rfl rfl ?_
    cases hp : (b == y) with
    | true =>
      rw [idxM_stop (p := fun x => b == x) hx hp hb]
      refine go T 12 rfl ?_
      refine rndR ?_
      refine go T 2 rfl ?_
      exact post1 (.inl rfl) rfl rfl ⟨rfl, rfl⟩
    | false =>
      refine go T 7 rfl ?_
      refine adI rfl rfl rfl rfl (by omega) (by omega) ?_
      refine go T 2 rfl ?_
      refine Round_n (i + 1) ⟨rfl, rfl, rfl, rfl, rfl, trivial⟩ ⟨by omega, fun j z hj hz => ?_, rfl⟩ (by omega)
      by_cases hji : j = i
      · subst hji; rw [hx] at hz; injection hz with hz; subst hz; exact hp
      · exact hb j z (by omega) hz
  · rw [idxM_none (p := fun x => b == x) (l := L) (fun x hx => by
      obtain ⟨j, hj⟩ := List.getElem?_of_mem hx
      have := (List.getElem?_eq_some_iff.1 hj).1
      exact hb j x (by omega) hj)]
    refine go T 6 rfl ?_
    refine rndX ?_
    refine go T 8 rfl ?_
    exact post1 (.inl rfl) rfl rfl ⟨rfl, rfl⟩
theorem hasB_has (A : Option Addr) (n c : Nat) (L : List Bool) (b : Bool) (w : World) (hs : SliceOf Rbool w (.slice A n c) L) :
    Has Go.Proofs.Tryz.prog 45 #[.slice A n c, .bool b] w (fun v w' => w' = w ∧ v = .bool (L.any (fun x => b == x))) := by
  refine enter Go.Proofs.Tryz.func45 rfl rfl (by decide) rfl (e := [(0, .slice A n c), (1, .bool b)]) ⟨rfl, rfl, trivial⟩ ?_
  refine run ?_
  refine go T 9 rfl ?_
  refine o1 rfl ?_
  refine op_call rfl rfl rfl (indexB_has A n c L b w hs) ?_
  rintro _ w ⟨rfl, rfl⟩
  rw [any_idxM]
  by_cases h : 0 ≤ idxM (fun x => b == x) L
  · rw [decide_eq_true h]
    refine geT rfl rfl rfl rfl (by omega) ?_
    refine go T 4 rfl ?_
    exact post1 (.inl rfl) rfl rfl ⟨rfl, rfl⟩
  · rw [decide_eq_false h]
    refine geF rfl rfl rfl rfl (by omega) ?_
    refine go T 4 rfl ?_
    exact post1 (.inl rfl) rfl rfl ⟨rfl, rfl⟩
end Go.Proofs.YtiadjkjlifnopaaGreat.Tryz
/-! Manifests: take and put, what they give in one sentence. -/
set_option linter.unusedVariables false
namespace Go.Vc
open Go
def numK (s : SegM) : Int := s.num
def tookK {α : Type} (key : α → Int) (ns : List Int) (L : List α) : List α := (takeK key ns L).getD []
def putsK {α : Type} (key : α → Int) (xs M : List α) : List α := ((putK key xs M).map (sortK key)).getD []
theorem took_nodup {α : Type} {key : α → Int} {ns : List Int} {L : List α} (h : (L.map key).Nodup) : ((tookK key ns L).map key).Nodup := by
  unfold tookK
  cases ht : takeK key ns L with
  | none => simp
  | some L' => exact ((takeK_sub ht).map key).nodup h
theorem took_len {α : Type} {key : α → Int} {ns : List Int} {L : List α} : (tookK key ns L).length ≤ L.length := by
  unfold tookK
  cases ht : takeK key ns L with
  | none => simp
  | some L' => exact (takeK_sub ht).length_le
theorem sortK_perm {α : Type} (key : α → Int) (L : List α) : (sortK key L).Perm L := isM_perm (le := leK key) L
theorem puts_nodup {α : Type} {key : α → Int} {xs M : List α} (h : (M.map key).Nodup) : ((putsK key xs M).map key).Nodup := by
  unfold putsK
  cases ht : putK key xs M with
  | none => simp
  | some M' => exact ((sortK_perm key M').map key).nodup_iff.2 ((putK_eq ht).2 h)
theorem puts_len {α : Type} {key : α → Int} {xs M : List α} : (putsK key xs M).length ≤ M.length + xs.length := by
  unfold putsK
  cases ht : putK key xs M with
  | none => simp
  | some M' =>
    have h1 := (sortK_perm key M').length_eq
    have h2 := (putK_eq ht).1
    show (sortK key M').length ≤ _
    rw [h1, h2, List.length_append]; exact Nat.le_refl _
end Go.Vc
namespace Go.Proofs.YtiadjkjlifnopaaGreat.Tryz
open Go Go.Vc
theorem takeU_has (v : Value) (L : List SegM) (vn : Value) (ns : List Int) (w : World) (hl : SliceK 6 (RdL segL) w v L) (hns : SliceOf Ri64 w vn ns) (hb : L.length ≤ 1000000) :
    Has Go.Proofs.Tryz.prog 38 #[v, vn, segF] w (fun v' w' => ∃ u, v' = .tuple #[u, .bool (takeK numK ns L).isSome] ∧ Chg [] w w' ∧ Own w' 44 6 u (tookK numK ns L).length ((tookK numK ns L).flatMap segL) ∧ ∀ g, u.ownBlock = some g → w.heap.size ≤ g) := by
  obtain ⟨A, c, rfl, _, _⟩ := hl.form
  obtain ⟨B, d, rfl, _, _⟩ := hns.form
  refine (take_has A _ c L B _ d ns w hl hns hb).mono ?_
  rintro v' w' ⟨hc, h1, h2⟩
  unfold tookK
  change takeK numK ns L = none → _ at h1
  change ∀ L', takeK numK ns L = some L' → _ at h2
  cases h : takeK numK ns L with
  | none => exact ⟨_, h1 h, hc, Own.nil _ _ _, fun g hg => by simp [Value.ownBlock] at hg⟩
  | some L' =>
    obtain ⟨u, e, ho, hf⟩ := h2 L' h
    exact ⟨u, e, hc, ho, hf⟩
theorem putU_has (v : Value) (M : List SegM) (vx : Value) (xs : List SegM) (w : World) (hown : Own w 44 6 v M.length (M.flatMap segL)) (hxs : Firm v.ownBlock.toList w (fun w => SliceK 6 (RdL segL) w vx xs)) (hb : M.length + xs.length ≤ 1000000) (hn : (M.map numK).Nodup) :
    Has Go.Proofs.Tryz.prog 40 #[v, vx, segF] w (fun v' w' => ∃ u, v' = .tuple #[u, .bool (putK numK xs M).isSome] ∧ Chg v.ownBlock.toList w w' ∧ Own w' 44 6 u (putsK numK xs M).length ((putsK numK xs M).flatMap segL) ∧ ∀ g, u.ownBlock = some g → g ∈ v.ownBlock.toList ∨ w.heap.size ≤ g) := by
  obtain ⟨B, d, rfl, _, _⟩ := (hxs w (Chg.refl _ _)).form
  refine (put_has' v M B _ d xs w hown hxs hb).mono ?_
  rintro v' w' ⟨hc, h1, h2⟩
  unfold putsK
  change putK numK xs M = none → _ at h1
  change ∀ M', putK numK xs M = some M' → _ at h2
  cases h : putK numK xs M with
  | none => exact ⟨_, h1 h, hc, Own.nil _ _ _, fun g hg => by simp [Value.ownBlock] at hg⟩
  | some M' =>
    obtain ⟨u, e, ho, hf⟩ := h2 M' h ((putK_eq h).2 hn)
    exact ⟨u, e, hc, ho, hf⟩
theorem takePU_has (v : Value) (L : List ParS) (vn : Value) (ns : List Int) (w : World) (hl : SliceK 5 (RdL parSL) w v L) (hns : SliceOf Ri64 w vn ns) (hb : L.length ≤ 1000000) :
    Has Go.Proofs.Tryz.prog 41 #[v, vn, parF] w (fun v' w' => ∃ u, v' = .tuple #[u, .bool (takeK parKey ns L).isSome] ∧ Chg [] w w' ∧ Own w' 96 5 u (tookK parKey ns L).length ((tookK parKey ns L).flatMap parSL) ∧ ∀ g, u.ownBlock = some g → w.heap.size ≤ g) := by
  obtain ⟨A, c, rfl, _, _⟩ := hl.form
  obtain ⟨B, d, rfl, _, _⟩ := hns.form
  refine (takeP_has A _ c L B _ d ns w hl hns hb).mono ?_
  rintro v' w' ⟨hc, h1, h2⟩
  unfold tookK
  cases h : takeK parKey ns L with
  | none => exact ⟨_, h1 h, hc, Own.nil _ _ _, fun g hg => by simp [Value.ownBlock] at hg⟩
  | some L' =>
    obtain ⟨u, e, ho, hf⟩ := h2 L' h
    exact ⟨u, e, hc, ho, hf⟩
theorem putPU_has (v : Value) (M : List ParS) (vx : Value) (xs : List ParS) (w : World) (hown : Own w 96 5 v M.length (M.flatMap parSL)) (hxs : Firm v.ownBlock.toList w (fun w => SliceK 5 (RdL parSL) w vx xs)) (hb : M.length + xs.length ≤ 1000000) (hn : (M.map parKey).Nodup) :
    Has Go.Proofs.Tryz.prog 43 #[v, vx, parF] w (fun v' w' => ∃ u, v' = .tuple #[u, .bool (putK parKey xs M).isSome] ∧ Chg v.ownBlock.toList w w' ∧ Own w' 96 5 u (putsK parKey xs M).length ((putsK parKey xs M).flatMap parSL) ∧ ∀ g, u.ownBlock = some g → g ∈ v.ownBlock.toList ∨ w.heap.size ≤ g) := by
  obtain ⟨B, d, rfl, _, _⟩ := (hxs w (Chg.refl _ _)).form
  refine (putP_has' v M B _ d xs w hown hxs hb).mono ?_
  rintro v' w' ⟨hc, h1, h2⟩
  unfold putsK
  cases h : putK parKey xs M with
  | none => exact ⟨_, h1 h, hc, Own.nil _ _ _, fun g hg => by simp [Value.ownBlock] at hg⟩
  | some M' =>
    obtain ⟨u, e, ho, hf⟩ := h2 M' h ((putK_eq h).2 hn)
    exact ⟨u, e, hc, ho, hf⟩
end Go.Proofs.YtiadjkjlifnopaaGreat.Tryz
/-! Manifests: apply. -/
set_option linter.unusedVariables false
namespace Go.Vc
open Go
theorem own_one {w : World} {t : TypeId} {k n : Nat} {v : Value} {xs : List Value} (h : Own w t k v n xs) : v.oneCell' = true := by
  obtain ⟨A, c, rfl, _, _⟩ := h.form
  rfl
theorem par_reads_inv {w : World} {v : Value} {L : List ParS} (h : SliceK 5 (RdL parL) w v (L.map (·.1))) : SliceK 5 (RdL parSL) w v L := by
  unfold SliceK at *
  obtain ⟨A, c, rfl, h1, h2, h⟩ := h
  rw [List.length_map] at h1 ⊢
  refine ⟨A, c, rfl, h1, h2, fun i x hx => ?_⟩
  exact h i x.1 (by rw [List.getElem?_map, hx]; rfl)
end Go.Vc
namespace Go.Proofs.YtiadjkjlifnopaaGreat.Tryz
open Go Go.Vc
set_option maxHeartbeats 8000000 in
theorem apply_has (st : StM) (va vp : Value) (x : EdV) (X : List ParS) (first : Bool) (w : World) (hS : SliceK 6 (RdL segL) w va st.segs) (hQ : SliceK 5 (RdL parSL) w vp st.pars) (hI : EdI x.e) (hr : ERd w x) (hXQ : x.Q = X.map (·.1)) (hbs : st.segs.length ≤ 1000) (hbq : st.pars.length ≤ 1000) (hns : (st.segs.map numK).Nodup) (hnq : (st.pars.map parKey).Nodup) :
    Has Go.Proofs.Tryz.prog 25 #[.agg #[va, vp, .int .i64 st.next, .int .i64 st.seq], .agg (edL x).toArray, .bool first] w (fun v w' => Chg [] w w' ∧ (applyM st x.e X first = none → v = .tuple #[.agg #[va, vp, .int .i64 st.next, .int .i64 st.seq], .bool false]) ∧ ∀ st', applyM st x.e X first = some st' → ∃ ua up, v = .tuple #[.agg #[ua, up, .int .i64 st'.next, .int .i64 st'.seq], .bool true] ∧ Own w' 44 6 ua st'.segs.length (st'.segs.flatMap segL) ∧ Own w' 96 5 up st'.pars.length (st'.pars.flatMap parSL) ∧ (∀ g, ua.ownBlock = some g → w.heap.size ≤ g) ∧ ∀ g, up.ownBlock = some g → w.heap.size ≤ g) := by
  refine enter Go.Proofs.Tryz.func25 rfl rfl (by decide) rfl (e := [(0, .agg #[va, vp, .int .i64 st.next, .int .i64 st.seq]), (1, .agg (edL x).toArray), (2, .bool first)]) ⟨rfl, rfl, rfl, trivial⟩ ?_
  obtain ⟨As, cs, rfl, _, _⟩ := hS.form
  obtain ⟨Aq, cq, rfl, _, _⟩ := hQ.form
  refine run ?_
  refine go T 2 rfl ?_
  refine o1 rfl ?_
  refine op_box rfl rfl (fun g3 w1 hs1 hc1 hg3 => ?_)
  have hg3 : Blk w1 g3 67 [.slice As st.segs.length cs, .slice Aq st.pars.length cq, .int .i64 st.next, .int .i64 st.seq] := hg3
  have hs1 : w.heap.size ≤ g3 := hs1
  refine o1 rfl ?_
  refine op_box rfl rfl (fun g4 w2 hs2 hc2 hg4 => ?_)
  have hg4 : Blk w2 g4 40 (edL x) := hg4
  have hs2 : w1.heap.size ≤ g4 := hs2
  have hg3l := hg3.lt
  replace hg3 := hg3.keep0 hc2
  have hc02 := hc1.trans' hc2
  refine o1 rfl ?_
  refine op_alloc T rfl rfl (fun g6 w3 hs3 hc3 hg6 => ?_)
  have hg6 : Blk w3 g6 67 [.slice none 0 0, .slice none 0 0, .int .i64 0, .int .i64 0] := hg6
  have hs3 : w2.heap.size ≤ g6 := hs3
  have hg4l := hg4.lt
  replace hg3 := hg3.keep0 hc3
  replace hg4 := hg4.keep0 hc3
  have hc03 := hc02.trans' hc3
  refine go T 6 rfl ?_
  refine o1 rfl (op_load_agg T rfl rfl rfl rfl hg4 (by exact Nat.le_of_ble_eq_true rfl) (by exact rfl) ?_)
  refine o1 rfl ?_
  refine op_call rfl rfl rfl (checkE_has x hI (hr.keep0 hc03)) ?_
  rintro _ w4 ⟨hc4, rfl⟩
  have hg6l := hg6.lt
  replace hg3 := hg3.keep0 hc4
  replace hg4 := hg4.keep0 hc4
  replace hg6 := hg6.keep0 hc4
  have hc04 := hc03.trans' hc4
  have hz4 := hc4.size
  cases hB : editB x.e with
  | false =>
    have hno : applyM st x.e X first = none := by unfold applyM; rw [hB]; simp
    rw [if_neg (by simp)]
    refine neT rfl rfl rfl rfl (by omega) ?_
    refine go T 5 rfl ?_
    refine o1 rfl (op_load_agg T rfl rfl rfl rfl hg3 (by exact Nat.le_of_ble_eq_true rfl) (by exact rfl) ?_)
    refine op0 rfl rfl ?_
    refine op_store_agg T rfl rfl rfl rfl rfl rfl hg6 (by exact Nat.le_of_ble_eq_true rfl) (fun w5 hc5 hg6n _ => ?_)
    refine go T 5 rfl ?_
    refine post2c T (.inl rfl) rfl rfl rfl rfl rfl hg6n rfl ⟨hc04.trans hc5 (fun k hk hlt => by simp at hk; have := hc1.size; have := hc2.size; omega), fun _ => rfl, fun st' h => by rw [hno] at h; cases h⟩
  | true =>
  rw [if_pos rfl]
  obtain ⟨e, xa, xd, xp, xr, Q⟩ := x
  dsimp only at hI hXQ hB hr hg4 ⊢
  subst hXQ
  obtain ⟨ha, hd, hp, hpe, hpr, hdr⟩ := hr
  dsimp only at ha hd hp hpe hpr hdr
  have hX := par_reads_inv hp
  obtain ⟨Aa, ca, rfl, _, _⟩ := ha.form
  obtain ⟨Ad, cd, rfl, _, _⟩ := hd.form
  obtain ⟨Ap, cp, rfl, _, _⟩ := hX.form
  obtain ⟨Ar, cr, rfl, _, _⟩ := hdr.form
  have hlens : e.adds.length ≤ 60 ∧ X.length ≤ 60 := by
    have hpl : X.length = e.pars.length := by rw [← hpe]; simp
    have hB' := hB
    unfold editB at hB'
    simp only [Bool.and_eq_true, decide_eq_true_eq] at hB'
    omega
  have hg4 : Blk w4 g4 40 [.int .i64 e.next, .int .i64 e.seq, .slice Aa e.adds.length ca, .slice Ad e.dels.length cd, .slice Ap X.length cp, .slice Ar e.drops.length cr] := by simpa [edL] using hg4
  refine neF rfl rfl rfl rfl (by omega) ?_
  refine go T 7 rfl ?_
  refine o1 rfl ?_
  refine op_alloc T rfl rfl (fun g8 w5 hs5 hc5 hg8 => ?_)
  have hg8 : Blk w5 g8 88 [.bool false, .bool false, .bool false, .bool false, .bool false, .bool false] := hg8
  have hs5 : w4.heap.size ≤ g8 := hs5
  have hg8l := hg8.lt
  replace hg3 := hg3.keep0 hc5
  replace hg4 := hg4.keep0 hc5
  replace hg6 := hg6.keep0 hc5
  refine go T 4 rfl ?_
  refine o1 rfl (op_build T rfl rfl rfl rfl rfl rfl ?_)
  refine o1 rfl ?_
  refine op_alloc T rfl rfl (fun g9 w6 hs6 hc6 hg9 => ?_)
  have hg9 : Blk w6 g9 67 [.slice none 0 0, .slice none 0 0, .int .i64 0, .int .i64 0] := hg9
  have hs6 : w5.heap.size ≤ g9 := hs6
  replace hg3 := hg3.keep0 hc6
  replace hg4 := hg4.keep0 hc6
  replace hg6 := hg6.keep0 hc6
  replace hg8 := hg8.keep0 hc6
  have hg9l := hg9.lt
  refine op0 rfl rfl ?_
  refine op_store_agg T rfl rfl rfl rfl rfl rfl hg9 (by exact Nat.le_of_ble_eq_true rfl) (fun wb hc7 hg9n hsz7 => ?_)
  replace hg9 : Blk wb g9 67 [.slice none 0 0, .slice none 0 0, .int .i64 0, .int .i64 0] := hg9n
  clear hg9n
  replace hg3 := hg3.keep hc7 (by simp; omega)
  replace hg4 := hg4.keep hc7 (by simp; omega)
  replace hg6 := hg6.keep hc7 (by simp; omega)
  replace hg8 := hg8.keep hc7 (by simp; omega)
  have hc0 : Chg [] w wb := ((hc04.trans' hc5).trans' hc6).trans hc7 (fun k hk hlt => by simp at hk; have := hc04.size; omega)
  have hwg8 : w.heap.size ≤ g8 := by have := hc04.size; omega
  have hwg9 : w.heap.size ≤ g9 := by have := hc04.size; omega
  have h3 := hg3; have h4 := hg4
  have hcw : Chg [g8, g9] wb wb := Chg.refl _ _
  clear hc7 hc6 hc5 hc4 hc3 hc2 hc1 hc02 hc03 hc04
  refine go T 5 rfl ?_
  refine ldB T h3 rfl rfl rfl rfl rfl rfl ?_
  refine go T 1 rfl ?_
  refine ldB T h4 rfl rfl rfl rfl rfl rfl ?_
  refine o1 rfl ?_
  refine op_call rfl rfl rfl (takeU_has _ st.segs _ e.dels _ (hS.keepR (hc0.trans hcw (fun k hk hlt => by simp at hk; omega))) (SliceOf.kept Ri64.kept _ _ _ _ (hc0.trans hcw (fun k hk hlt => by simp at hk; omega)) hd) (by omega)) ?_
  rintro _ w5 ⟨u1, rfl, hcx, r1, r1f0⟩
  have r1f : ∀ g, (u1).ownBlock = some g → wb.heap.size ≤ g := fun g hg => by have := r1f0 g hg; have := hcw.size; omega
  clear r1f0
  replace hg8 := hg8.keep0 hcx
  replace hg9 := hg9.keep0 hcx
  replace hcw := hcw.trans' hcx
  replace h4 := h4.keep0 hcx
  replace h3 := h3.keep0 hcx
  clear hcx
  refine go T 4 rfl ?_
  refine op0 rfl rfl ?_
  refine op_store T rfl rfl rfl rfl rfl (own_one r1) hg9 (by simp) (fun wa5 hca hg9n _ => ?_)
  replace hg9 : Blk wa5 g9 67 [u1, .slice none 0 0, .int .i64 0, .int .i64 0] := hg9n
  clear hg9n
  replace hg8 := hg8.keep hca (by simp; omega)
  replace hcw := hcw.trans hca (fun k hk _ => by simp at hk; simp [hk])
  replace h4 := h4.keep hca (by simp; omega)
  replace h3 := h3.keep hca (by simp; omega)
  replace r1 := r1.keep hca (fun k hk hm => by have := r1f k hk; simp at hm; omega)
  clear hca
  refine o1 rfl ?_
  refine op_index_at T (i := 0) rfl rfl rfl rfl rfl rfl (by decide) ?_
  refine op0 rfl rfl ?_
  refine op_store T rfl rfl rfl rfl rfl rfl hg8 (by simp) (fun wb5 hcb hg8n _ => ?_)
  replace hg8 : Blk wb5 g8 88 [.bool (takeK numK e.dels st.segs).isSome, .bool false, .bool false, .bool false, .bool false, .bool false] := hg8n
  clear hg8n
  replace hg9 := hg9.keep hcb (by simp; omega)
  replace hcw := hcw.trans hcb (fun k hk _ => by simp at hk; simp [hk])
  replace h4 := h4.keep hcb (by simp; omega)
  replace h3 := h3.keep hcb (by simp; omega)
  replace r1 := r1.keep hcb (fun k hk hm => by have := r1f k hk; simp at hm; omega)
  clear hcb
  refine go T 5 rfl ?_
  refine ldB T hg9 rfl rfl rfl rfl rfl rfl ?_
  refine go T 1 rfl ?_
  refine ldB T h4 rfl rfl rfl rfl rfl rfl ?_
  refine o1 rfl ?_
  refine op_call rfl rfl rfl (putU_has _ _ _ e.adds _ r1 (fun wq hq => ha.keepR ((hc0.trans hcw (fun k hk hlt => by simp at hk; omega)).trans hq (fun k hk hlt => by have := r1f k (by simpa using hk); omega))) (by have := took_len (key := numK) (ns := e.dels) (L := st.segs); omega) (took_nodup hns)) ?_
  rintro _ w6 ⟨u2, rfl, hcx, r2, r2f0⟩
  have r2f : ∀ g, (u2).ownBlock = some g → wb.heap.size ≤ g := fun g hg => by
    rcases r2f0 g hg with h | h
    · exact r1f g (by simpa using h)
    · have := hcw.size; omega
  clear r2f0
  have hin : ∀ k, k < wb.heap.size → k ∉ (u1).ownBlock.toList := fun k hk hm => by have := r1f k (by simpa using hm); omega
  replace hg8 := hg8.keep hcx (hin _ (by omega))
  replace hg9 := hg9.keep hcx (hin _ (by omega))
  replace h4 := h4.keep hcx (hin _ (by omega))
  replace h3 := h3.keep hcx (hin _ (by omega))
  replace hcw := hcw.trans hcx (fun k hk hlt => absurd hk (hin k hlt))
  clear hcx hin r1
  refine go T 4 rfl ?_
  refine op0 rfl rfl ?_
  refine op_store T rfl rfl rfl rfl rfl (own_one r2) hg9 (by simp) (fun wa6 hca hg9n _ => ?_)
  replace hg9 : Blk wa6 g9 67 [u2, .slice none 0 0, .int .i64 0, .int .i64 0] := hg9n
  clear hg9n
  replace hg8 := hg8.keep hca (by simp; omega)
  replace hcw := hcw.trans hca (fun k hk _ => by simp at hk; simp [hk])
  replace h4 := h4.keep hca (by simp; omega)
  replace h3 := h3.keep hca (by simp; omega)
  replace r2 := r2.keep hca (fun k hk hm => by have := r2f k hk; simp at hm; omega)
  clear hca
  refine o1 rfl ?_
  refine op_index_at T (i := 1) rfl rfl rfl rfl rfl rfl (by decide) ?_
  refine op0 rfl rfl ?_
  refine op_store T rfl rfl rfl rfl rfl rfl hg8 (by simp) (fun wb6 hcb hg8n _ => ?_)
  replace hg8 : Blk wb6 g8 88 [.bool (takeK numK e.dels st.segs).isSome, .bool (putK numK e.adds (tookK numK e.dels st.segs)).isSome, .bool false, .bool false, .bool false, .bool false] := hg8n
  clear hg8n
  replace hg9 := hg9.keep hcb (by simp; omega)
  replace hcw := hcw.trans hcb (fun k hk _ => by simp at hk; simp [hk])
  replace h4 := h4.keep hcb (by simp; omega)
  replace h3 := h3.keep hcb (by simp; omega)
  replace r2 := r2.keep hcb (fun k hk hm => by have := r2f k hk; simp at hm; omega)
  clear hcb
  refine go T 5 rfl ?_
  refine ldB T h3 rfl rfl rfl rfl rfl rfl ?_
  refine go T 1 rfl ?_
  refine ldB T h4 rfl rfl rfl rfl rfl rfl ?_
  refine o1 rfl ?_
  refine op_call rfl rfl rfl (takePU_has _ st.pars _ e.drops _ (hQ.keepR (hc0.trans hcw (fun k hk hlt => by simp at hk; omega))) (SliceOf.kept Ri64.kept _ _ _ _ (hc0.trans hcw (fun k hk hlt => by simp at hk; omega)) hdr) (by omega)) ?_
  rintro _ w7 ⟨u3, rfl, hcx, r3, r3f0⟩
  have r3f : ∀ g, (u3).ownBlock = some g → wb.heap.size ≤ g := fun g hg => by have := r3f0 g hg; have := hcw.size; omega
  clear r3f0
  replace hg8 := hg8.keep0 hcx
  replace hg9 := hg9.keep0 hcx
  replace hcw := hcw.trans' hcx
  replace h4 := h4.keep0 hcx
  replace h3 := h3.keep0 hcx
  replace r2 := r2.keep0 hcx
  clear hcx
  refine go T 4 rfl ?_
  refine op0 rfl rfl ?_
  refine op_store T rfl rfl rfl rfl rfl (own_one r3) hg9 (by simp) (fun wa7 hca hg9n _ => ?_)
  replace hg9 : Blk wa7 g9 67 [u2, u3, .int .i64 0, .int .i64 0] := hg9n
  clear hg9n
  replace hg8 := hg8.keep hca (by simp; omega)
  replace hcw := hcw.trans hca (fun k hk _ => by simp at hk; simp [hk])
  replace h4 := h4.keep hca (by simp; omega)
  replace h3 := h3.keep hca (by simp; omega)
  replace r2 := r2.keep hca (fun k hk hm => by have := r2f k hk; simp at hm; omega)
  replace r3 := r3.keep hca (fun k hk hm => by have := r3f k hk; simp at hm; omega)
  clear hca
  refine o1 rfl ?_
  refine op_index_at T (i := 2) rfl rfl rfl rfl rfl rfl (by decide) ?_
  refine op0 rfl rfl ?_
  refine op_store T rfl rfl rfl rfl rfl rfl hg8 (by simp) (fun wb7 hcb hg8n _ => ?_)
  replace hg8 : Blk wb7 g8 88 [.bool (takeK numK e.dels st.segs).isSome, .bool (putK numK e.adds (tookK numK e.dels st.segs)).isSome, .bool (takeK parKey e.drops st.pars).isSome, .bool false, .bool false, .bool false] := hg8n
  clear hg8n
  replace hg9 := hg9.keep hcb (by simp; omega)
  replace hcw := hcw.trans hcb (fun k hk _ => by simp at hk; simp [hk])
  replace h4 := h4.keep hcb (by simp; omega)
  replace h3 := h3.keep hcb (by simp; omega)
  replace r2 := r2.keep hcb (fun k hk hm => by have := r2f k hk; simp at hm; omega)
  replace r3 := r3.keep hcb (fun k hk hm => by have := r3f k hk; simp at hm; omega)
  clear hcb
  refine go T 5 rfl ?_
  refine ldB T hg9 rfl rfl rfl rfl rfl rfl ?_
  refine go T 1 rfl ?_
  refine ldB T h4 rfl rfl rfl rfl rfl rfl ?_
  refine o1 rfl ?_
  refine op_call rfl rfl rfl (putPU_has _ _ _ X _ r3 (fun wq hq => hX.keepR ((hc0.trans hcw (fun k hk hlt => by simp at hk; omega)).trans hq (fun k hk hlt => by have := r3f k (by simpa using hk); omega))) (by have := took_len (key := parKey) (ns := e.drops) (L := st.pars); omega) (took_nodup hnq)) ?_
  rintro _ w8 ⟨u4, rfl, hcx, r4, r4f0⟩
  have r4f : ∀ g, (u4).ownBlock = some g → wb.heap.size ≤ g := fun g hg => by
    rcases r4f0 g hg with h | h
    · exact r3f g (by simpa using h)
    · have := hcw.size; omega
  clear r4f0
  have hin : ∀ k, k < wb.heap.size → k ∉ (u3).ownBlock.toList := fun k hk hm => by have := r3f k (by simpa using hm); omega
  replace hg8 := hg8.keep hcx (hin _ (by omega))
  replace hg9 := hg9.keep hcx (hin _ (by omega))
  replace h4 := h4.keep hcx (hin _ (by omega))
  replace h3 := h3.keep hcx (hin _ (by omega))
  replace hcw := hcw.trans hcx (fun k hk hlt => absurd hk (hin k hlt))
  replace r2 := r2.keep hcx (fun k hk hm => by
    obtain ⟨c1, hr1⟩ := r2.row hk
    obtain ⟨c2, hr2⟩ := r3.row (show (u3).ownBlock = some k by simpa using hm)
    exact hr1.ne_ hr2 (by decide) rfl)
  clear hcx hin r3
  refine go T 4 rfl ?_
  refine op0 rfl rfl ?_
  refine op_store T rfl rfl rfl rfl rfl (own_one r4) hg9 (by simp) (fun wa8 hca hg9n _ => ?_)
  replace hg9 : Blk wa8 g9 67 [u2, u4, .int .i64 0, .int .i64 0] := hg9n
  clear hg9n
  replace hg8 := hg8.keep hca (by simp; omega)
  replace hcw := hcw.trans hca (fun k hk _ => by simp at hk; simp [hk])
  replace h4 := h4.keep hca (by simp; omega)
  replace h3 := h3.keep hca (by simp; omega)
  replace r2 := r2.keep hca (fun k hk hm => by have := r2f k hk; simp at hm; omega)
  replace r4 := r4.keep hca (fun k hk hm => by have := r4f k hk; simp at hm; omega)
  clear hca
  refine o1 rfl ?_
  refine op_index_at T (i := 3) rfl rfl rfl rfl rfl rfl (by decide) ?_
  refine op0 rfl rfl ?_
  refine op_store T rfl rfl rfl rfl rfl rfl hg8 (by simp) (fun wb8 hcb hg8n _ => ?_)
  replace hg8 : Blk wb8 g8 88 [.bool (takeK numK e.dels st.segs).isSome, .bool (putK numK e.adds (tookK numK e.dels st.segs)).isSome, .bool (takeK parKey e.drops st.pars).isSome, .bool (putK parKey X (tookK parKey e.drops st.pars)).isSome, .bool false, .bool false] := hg8n
  clear hg8n
  replace hg9 := hg9.keep hcb (by simp; omega)
  replace hcw := hcw.trans hcb (fun k hk _ => by simp at hk; simp [hk])
  replace h4 := h4.keep hcb (by simp; omega)
  replace h3 := h3.keep hcb (by simp; omega)
  replace r2 := r2.keep hcb (fun k hk hm => by have := r2f k hk; simp at hm; omega)
  replace r4 := r4.keep hcb (fun k hk hm => by have := r4f k hk; simp at hm; omega)
  clear hcb
  refine go T 5 rfl ?_
  refine ldB T h3 rfl rfl rfl rfl rfl rfl ?_
  refine go T 1 rfl ?_
  refine ldB T h4 rfl rfl rfl rfl rfl rfl ?_
  refine o1 rfl ?_
  refine op_call rfl rfl rfl (later_has st.next e.next _) ?_
  rintro _ _ ⟨rfl, rfl⟩
  refine go T 4 rfl ?_
  refine op0 rfl rfl ?_
  refine op_store T rfl rfl rfl rfl rfl rfl hg9 (by simp) (fun wa9 hca hg9n _ => ?_)
  replace hg9 : Blk wa9 g9 67 [u2, u4, .int .i64 (laterM st.next e.next).1, .int .i64 0] := hg9n
  clear hg9n
  replace hg8 := hg8.keep hca (by simp; omega)
  replace hcw := hcw.trans hca (fun k hk _ => by simp at hk; simp [hk])
  replace h4 := h4.keep hca (by simp; omega)
  replace h3 := h3.keep hca (by simp; omega)
  replace r2 := r2.keep hca (fun k hk hm => by have := r2f k hk; simp at hm; omega)
  replace r4 := r4.keep hca (fun k hk hm => by have := r4f k hk; simp at hm; omega)
  clear hca
  refine o1 rfl ?_
  refine op_index_at T (i := 4) rfl rfl rfl rfl rfl rfl (by decide) ?_
  refine op0 rfl rfl ?_
  refine op_store T rfl rfl rfl rfl rfl rfl hg8 (by simp) (fun wb9 hcb hg8n _ => ?_)
  replace hg8 : Blk wb9 g8 88 [.bool (takeK numK e.dels st.segs).isSome, .bool (putK numK e.adds (tookK numK e.dels st.segs)).isSome, .bool (takeK parKey e.drops st.pars).isSome, .bool (putK parKey X (tookK parKey e.drops st.pars)).isSome, .bool (laterM st.next e.next).2, .bool false] := hg8n
  clear hg8n
  replace hg9 := hg9.keep hcb (by simp; omega)
  replace hcw := hcw.trans hcb (fun k hk _ => by simp at hk; simp [hk])
  replace h4 := h4.keep hcb (by simp; omega)
  replace h3 := h3.keep hcb (by simp; omega)
  replace r2 := r2.keep hcb (fun k hk hm => by have := r2f k hk; simp at hm; omega)
  replace r4 := r4.keep hcb (fun k hk hm => by have := r4f k hk; simp at hm; omega)
  clear hcb
  refine go T 5 rfl ?_
  refine ldB T h3 rfl rfl rfl rfl rfl rfl ?_
  refine go T 1 rfl ?_
  refine ldB T h4 rfl rfl rfl rfl rfl rfl ?_
  refine o1 rfl ?_
  refine op_call rfl rfl rfl (later_has st.seq e.seq _) ?_
  rintro _ _ ⟨rfl, rfl⟩
  refine go T 4 rfl ?_
  refine op0 rfl rfl ?_
  refine op_store T rfl rfl rfl rfl rfl rfl hg9 (by simp) (fun wa10 hca hg9n _ => ?_)
  replace hg9 : Blk wa10 g9 67 [u2, u4, .int .i64 (laterM st.next e.next).1, .int .i64 (laterM st.seq e.seq).1] := hg9n
  clear hg9n
  replace hg8 := hg8.keep hca (by simp; omega)
  replace hcw := hcw.trans hca (fun k hk _ => by simp at hk; simp [hk])
  replace h4 := h4.keep hca (by simp; omega)
  replace h3 := h3.keep hca (by simp; omega)
  replace r2 := r2.keep hca (fun k hk hm => by have := r2f k hk; simp at hm; omega)
  replace r4 := r4.keep hca (fun k hk hm => by have := r4f k hk; simp at hm; omega)
  clear hca
  refine o1 rfl ?_
  refine op_index_at T (i := 5) rfl rfl rfl rfl rfl rfl (by decide) ?_
  refine op0 rfl rfl ?_
  refine op_store T rfl rfl rfl rfl rfl rfl hg8 (by simp) (fun wb10 hcb hg8n _ => ?_)
  replace hg8 : Blk wb10 g8 88 [.bool (takeK numK e.dels st.segs).isSome, .bool (putK numK e.adds (tookK numK e.dels st.segs)).isSome, .bool (takeK parKey e.drops st.pars).isSome, .bool (putK parKey X (tookK parKey e.drops st.pars)).isSome, .bool (laterM st.next e.next).2, .bool (laterM st.seq e.seq).2] := hg8n
  clear hg8n
  replace hg9 := hg9.keep hcb (by simp; omega)
  replace hcw := hcw.trans hcb (fun k hk _ => by simp at hk; simp [hk])
  replace h4 := h4.keep hcb (by simp; omega)
  replace h3 := h3.keep hcb (by simp; omega)
  replace r2 := r2.keep hcb (fun k hk hm => by have := r2f k hk; simp at hm; omega)
  replace r4 := r4.keep hcb (fun k hk hm => by have := r4f k hk; simp at hm; omega)
  clear hcb
  have h6 := hg6.keep hcw (by simp; omega)
  have hend : ∀ {wz : World}, Chg [g6] wb10 wz → Chg [] w wz := fun hz => (hc0.trans hcw (fun k hk hlt => by simp at hk; omega)).trans hz (fun k hk hlt => by simp at hk; omega)
  have hkey : applyM st e X first = if (editB e && ((takeK numK e.dels st.segs).isSome && ((putK numK e.adds (tookK numK e.dels st.segs)).isSome && ((takeK parKey e.drops st.pars).isSome && ((putK parKey X (tookK parKey e.drops st.pars)).isSome && ((laterM st.next e.next).2 && ((laterM st.seq e.seq).2 && fineM (putsK numK e.adds (tookK numK e.dels st.segs)) ((putsK parKey X (tookK parKey e.drops st.pars)).map (·.1)) (laterM st.next e.next).1 (if first then [] else X.map (·.1))))))))) = true then some ⟨putsK numK e.adds (tookK numK e.dels st.segs), putsK parKey X (tookK parKey e.drops st.pars), (laterM st.next e.next).1, (laterM st.seq e.seq).1⟩ else none := rfl
  rw [hB, Bool.true_and] at hkey
  have hrd : SliceK 5 (RdL parL) wb10 (.slice Ap X.length cp) (X.map (·.1)) := hp.keepR (hc0.trans hcw (fun k hk hlt => by simp at hk; omega))
  have hpr' : ∀ q ∈ X.map (·.1), PRd wb10 q := fun q hq => (hpr q hq).keep0 (hc0.trans hcw (fun k hk hlt => by simp at hk; omega))
  generalize (takeK numK e.dels st.segs).isSome = b0 at *
  generalize (putK numK e.adds (tookK numK e.dels st.segs)).isSome = b1 at *
  generalize (takeK parKey e.drops st.pars).isSome = b2 at *
  generalize (putK parKey X (tookK parKey e.drops st.pars)).isSome = b3 at *
  generalize putsK numK e.adds (tookK numK e.dels st.segs) = S2 at *
  generalize putsK parKey X (tookK parKey e.drops st.pars) = Q2 at *
  generalize laterM st.next e.next = ln at *
  generalize laterM st.seq e.seq = ls at *
  obtain ⟨n2, b4⟩ := ln
  obtain ⟨s2, b5⟩ := ls
  dsimp only at hg8 hg9 hkey ⊢
  have hsb : SliceOf Rbool wb10 (.slice (some ⟨g8, 0, none⟩) 6 6) [b0, b1, b2, b3, b4, b5] := SliceOf.of_blk hg8 rfl (Nat.le_refl _) (by decide) (fun i y hy => by
    match i, hy with
    | 0, hy => cases hy; exact ⟨_, rfl, rfl⟩
    | 1, hy => cases hy; exact ⟨_, rfl, rfl⟩
    | 2, hy => cases hy; exact ⟨_, rfl, rfl⟩
    | 3, hy => cases hy; exact ⟨_, rfl, rfl⟩
    | 4, hy => cases hy; exact ⟨_, rfl, rfl⟩
    | 5, hy => cases hy; exact ⟨_, rfl, rfl⟩)
  have hone : ∀ q ∈ X.map (·.1), q.vn.oneCell' = true ∧ q.vs.oneCell' = true := fun q hq => by
    obtain ⟨y, _, rfl⟩ := List.mem_map.1 hq
    exact y.2
  have hnil : SliceK 5 (RdL parL) wb10 (.slice none 0 0) [] := by
    unfold SliceK
    exact ⟨none, 0, rfl, Nat.le_refl _, Nat.zero_le _, fun i x h => by simp at h⟩
  obtain ⟨A2, c2, rfl, _, _⟩ := r2.form
  obtain ⟨A4, c4, rfl, _, _⟩ := r4.form
  have hrS := r2.readsK segL_len
  have hrQ := par_reads (r4.readsK parS_len)
  cases first with
  | false =>
    refine go T 5 rfl ?_
    refine ldB T h4 rfl rfl rfl rfl rfl rfl ?_
    refine go T 15 rfl ?_
    refine o1 rfl ?_
    refine op_slice_arr T rfl rfl rfl rfl (by decide) ?_
    refine o1 rfl ?_
    refine op_call rfl rfl rfl (hasB_has _ _ _ [b0, b1, b2, b3, b4, b5] false _ hsb) ?_
    rintro _ wb10 ⟨rfl, rfl⟩
    cases hany : ([b0, b1, b2, b3, b4, b5].any fun x => false == x) with
    | true =>
      have hno : applyM st e X false = none := by
        rw [hkey]
        refine if_neg (fun h => ?_)
        simp only [Bool.and_eq_true] at h
        obtain ⟨rfl, rfl, rfl, rfl, rfl, rfl, _⟩ := h
        simp at hany
      refine go T 11 rfl ?_
      refine o1 rfl (op_load_agg T rfl rfl rfl rfl h3 (by exact Nat.le_of_ble_eq_true rfl) (by exact rfl) ?_)
      refine op0 rfl rfl ?_
      refine op_store_agg T rfl rfl rfl rfl rfl rfl h6 (by exact Nat.le_of_ble_eq_true rfl) (fun wz hcz hz _ => ?_)
      refine go T 5 rfl ?_
      exact post2c T (.inl rfl) rfl rfl rfl rfl rfl hz rfl ⟨hend hcz, fun _ => rfl, fun st' h => by rw [hno] at h; cases h⟩
    | false =>
      have hyes : b0 = true ∧ b1 = true ∧ b2 = true ∧ b3 = true ∧ b4 = true ∧ b5 = true := by
        revert hany
        cases b0 <;> cases b1 <;> cases b2 <;> cases b3 <;> cases b4 <;> cases b5 <;> simp
      obtain ⟨rfl, rfl, rfl, rfl, rfl, rfl⟩ := hyes
      simp only [Bool.true_and] at hkey
      refine go T 1 rfl ?_
      refine o1 rfl (op_load_agg T rfl rfl rfl rfl hg9 (by exact Nat.le_of_ble_eq_true rfl) (by exact rfl) ?_)
      refine go T 1 rfl ?_
      refine o1 rfl ?_
      refine op_call rfl rfl rfl (fine_has _ _ n2 s2 _ _ _ S2 (Q2.map (·.1)) (X.map (·.1)) _ hrS hrQ hrd hpr' hone) ?_
      rintro _ wc ⟨hcf, rfl⟩
      replace h6 := h6.keep0 hcf
      replace h3 := h3.keep0 hcf
      replace hg9 := hg9.keep0 hcf
      replace r2 := r2.keep0 hcf
      replace r4 := r4.keep0 hcf
      have hendc : ∀ {wz : World}, Chg [g6] wc wz → Chg [] w wz := fun hz => hend ((hcf.mono (fun k hk _ => by cases hk)).trans hz (fun k hk _ => hk))
      cases hfine : fineM S2 (Q2.map (·.1)) n2 (X.map (·.1)) with
      | false =>
        have hno : applyM st e X false = none := by rw [hkey]; simp; exact hfine
        refine go T 7 rfl ?_
        refine o1 rfl (op_load_agg T rfl rfl rfl rfl h3 (by exact Nat.le_of_ble_eq_true rfl) (by exact rfl) ?_)
        refine op0 rfl rfl ?_
        refine op_store_agg T rfl rfl rfl rfl rfl rfl h6 (by exact Nat.le_of_ble_eq_true rfl) (fun wz hcz hz _ => ?_)
        refine go T 5 rfl ?_
        exact post2c T (.inl rfl) rfl rfl rfl rfl rfl hz rfl ⟨hendc hcz, fun _ => rfl, fun st' h => by rw [hno] at h; cases h⟩
      | true =>
        have hyes : applyM st e X false = some ⟨S2, Q2, n2, s2⟩ := by rw [hkey]; simp; exact hfine
        refine go T 9 rfl ?_
        refine o1 rfl (op_load_agg T rfl rfl rfl rfl hg9 (by exact Nat.le_of_ble_eq_true rfl) (by exact rfl) ?_)
        refine op0 rfl rfl ?_
        refine op_store_agg T rfl rfl rfl rfl rfl rfl h6 (by exact Nat.le_of_ble_eq_true rfl) (fun wz hcz hz _ => ?_)
        refine go T 4 rfl ?_
        replace hz : Blk wz g6 67 [.slice A2 S2.length c2, .slice A4 Q2.length c4, .int .i64 n2, .int .i64 s2] := hz
        refine post2c T (.inl rfl) rfl rfl rfl rfl rfl hz rfl ⟨hendc hcz, ?_, ?_⟩
        · intro h; rw [hyes] at h; cases h
        intro st' h
        rw [hyes] at h
        injection h with h
        subst h
        exact ⟨_, _, rfl, r2.keep hcz (fun k hk hm => by have := r2f k hk; simp at hm; omega), r4.keep hcz (fun k hk hm => by have := r4f k hk; simp at hm; omega), fun g hg => by have := r2f g hg; have := hc0.size; omega, fun g hg => by have := r4f g hg; have := hc0.size; omega⟩
  | true =>
    refine go T 5 rfl ?_
    refine ldB T h4 rfl rfl rfl rfl rfl rfl ?_
    refine go T 17 rfl ?_
    refine o1 rfl ?_
    refine op_slice_arr T rfl rfl rfl rfl (by decide) ?_
    refine o1 rfl ?_
    refine op_call rfl rfl rfl (hasB_has _ _ _ [b0, b1, b2, b3, b4, b5] false _ hsb) ?_
    rintro _ wb10 ⟨rfl, rfl⟩
    cases hany : ([b0, b1, b2, b3, b4, b5].any fun x => false == x) with
    | true =>
      have hno : applyM st e X true = none := by
        rw [hkey]
        refine if_neg (fun h => ?_)
        simp only [Bool.and_eq_true] at h
        obtain ⟨rfl, rfl, rfl, rfl, rfl, rfl, _⟩ := h
        simp at hany
      refine go T 11 rfl ?_
      refine o1 rfl (op_load_agg T rfl rfl rfl rfl h3 (by exact Nat.le_of_ble_eq_true rfl) (by exact rfl) ?_)
      refine op0 rfl rfl ?_
      refine op_store_agg T rfl rfl rfl rfl rfl rfl h6 (by exact Nat.le_of_ble_eq_true rfl) (fun wz hcz hz _ => ?_)
      refine go T 5 rfl ?_
      exact post2c T (.inl rfl) rfl rfl rfl rfl rfl hz rfl ⟨hend hcz, fun _ => rfl, fun st' h => by rw [hno] at h; cases h⟩
    | false =>
      have hyes : b0 = true ∧ b1 = true ∧ b2 = true ∧ b3 = true ∧ b4 = true ∧ b5 = true := by
        revert hany
        cases b0 <;> cases b1 <;> cases b2 <;> cases b3 <;> cases b4 <;> cases b5 <;> simp
      obtain ⟨rfl, rfl, rfl, rfl, rfl, rfl⟩ := hyes
      simp only [Bool.true_and] at hkey
      refine go T 1 rfl ?_
      refine o1 rfl (op_load_agg T rfl rfl rfl rfl hg9 (by exact Nat.le_of_ble_eq_true rfl) (by exact rfl) ?_)
      refine go T 1 rfl ?_
      refine o1 rfl ?_
      refine op_call rfl rfl rfl (fine_has _ _ n2 s2 _ _ _ S2 (Q2.map (·.1)) [] _ hrS hrQ hnil (fun q hq => by cases hq) (fun q hq => by cases hq)) ?_
      rintro _ wc ⟨hcf, rfl⟩
      replace h6 := h6.keep0 hcf
      replace h3 := h3.keep0 hcf
      replace hg9 := hg9.keep0 hcf
      replace r2 := r2.keep0 hcf
      replace r4 := r4.keep0 hcf
      have hendc : ∀ {wz : World}, Chg [g6] wc wz → Chg [] w wz := fun hz => hend ((hcf.mono (fun k hk _ => by cases hk)).trans hz (fun k hk _ => hk))
      cases hfine : fineM S2 (Q2.map (·.1)) n2 [] with
      | false =>
        have hno : applyM st e X true = none := by rw [hkey]; simp; exact hfine
        refine go T 7 rfl ?_
        refine o1 rfl (op_load_agg T rfl rfl rfl rfl h3 (by exact Nat.le_of_ble_eq_true rfl) (by exact rfl) ?_)
        refine op0 rfl rfl ?_
        refine op_store_agg T rfl rfl rfl rfl rfl rfl h6 (by exact Nat.le_of_ble_eq_true rfl) (fun wz hcz hz _ => ?_)
        refine go T 5 rfl ?_
        exact post2c T (.inl rfl) rfl rfl rfl rfl rfl hz rfl ⟨hendc hcz, fun _ => rfl, fun st' h => by rw [hno] at h; cases h⟩
      | true =>
        have hyes : applyM st e X true = some ⟨S2, Q2, n2, s2⟩ := by rw [hkey]; simp; exact hfine
        refine go T 9 rfl ?_
        refine o1 rfl (op_load_agg T rfl rfl rfl rfl hg9 (by exact Nat.le_of_ble_eq_true rfl) (by exact rfl) ?_)
        refine op0 rfl rfl ?_
        refine op_store_agg T rfl rfl rfl rfl rfl rfl h6 (by exact Nat.le_of_ble_eq_true rfl) (fun wz hcz hz _ => ?_)
        refine go T 4 rfl ?_
        replace hz : Blk wz g6 67 [.slice A2 S2.length c2, .slice A4 Q2.length c4, .int .i64 n2, .int .i64 s2] := hz
        refine post2c T (.inl rfl) rfl rfl rfl rfl rfl hz rfl ⟨hendc hcz, ?_, ?_⟩
        · intro h; rw [hyes] at h; cases h
        intro st' h
        rw [hyes] at h
        injection h with h
        subst h
        exact ⟨_, _, rfl, r2.keep hcz (fun k hk hm => by have := r2f k hk; simp at hm; omega), r4.keep hcz (fun k hk hm => by have := r4f k hk; simp at hm; omega), fun g hg => by have := r2f g hg; have := hc0.size; omega, fun g hg => by have := r4f g hg; have := hc0.size; omega⟩
end Go.Proofs.YtiadjkjlifnopaaGreat.Tryz
/-! Manifests: whole; Segs, Next, Seq; of no manifest. -/
set_option linter.unusedVariables false
namespace Go.Proofs.YtiadjkjlifnopaaGreat.Tryz
open Go Go.Vc
/-- A manifest in memory: its cells. -/
def ManB (w : World) (gm g : Nat) (vs vp : Value) (nx sq : Int) (cl : Bool) : Prop := Blk w gm 69 [.pointer (some ⟨g, 0, none⟩), vs, vp, .int .i64 nx, .int .i64 sq, .bool cl]
theorem whole_has (A : Option Addr) (n c : Nat) (B : Option Addr) (m d : Nat) (nx sq : Int) (w : World) :
    Has Go.Proofs.Tryz.prog 47 #[.agg #[.slice A n c, .slice B m d, .int .i64 nx, .int .i64 sq]] w (fun v w' => Chg [] w w' ∧ v = .agg #[.int .i64 nx, .int .i64 sq, .slice A n c, .slice none 0 0, .slice B m d, .slice none 0 0]) := by
  refine enter Go.Proofs.Tryz.func47 rfl rfl (by decide) rfl (e := [(0, .agg #[.slice A n c, .slice B m d, .int .i64 nx, .int .i64 sq])]) ⟨rfl, trivial⟩ ?_
  refine run ?_
  refine go T 2 rfl ?_
  refine o1 rfl ?_
  refine op_box rfl rfl (fun g1 w1 hs1 hc1 hg1 => ?_)
  have hg1 : Blk w1 g1 67 [.slice A n c, .slice B m d, .int .i64 nx, .int .i64 sq] := hg1
  refine o1 rfl ?_
  refine op_alloc T rfl rfl (fun g2 w2 hs2 hc2 hg2 => ?_)
  have hg2 : Blk w2 g2 40 [.int .i64 0, .int .i64 0, .slice none 0 0, .slice none 0 0, .slice none 0 0, .slice none 0 0] := hg2
  have hs2 : w1.heap.size ≤ g2 := hs2
  have hg12 := hg1.keep0 hc2
  refine go T 5 rfl ?_
  refine ldB T hg12 rfl rfl rfl rfl rfl rfl ?_
  refine go T 1 rfl ?_
  refine ldB T hg12 rfl rfl rfl rfl rfl rfl ?_
  refine go T 1 rfl ?_
  refine ldB T hg12 rfl rfl rfl rfl rfl rfl ?_
  refine go T 1 rfl ?_
  refine ldB T hg12 rfl rfl rfl rfl rfl rfl ?_
  refine o1 rfl (op_build T rfl rfl rfl rfl rfl rfl ?_)
  refine op0 rfl rfl ?_
  refine op_store_agg T rfl rfl rfl rfl rfl rfl hg2 (by exact Nat.le_of_ble_eq_true rfl) (fun w3 hc3 hg3 _ => ?_)
  have hz := hc1.size
  refine go T 3 rfl ?_
  exact post1c T (.inl rfl) rfl rfl rfl rfl hg3 rfl ⟨(hc1.trans' hc2).trans hc3 (fun k hk hlt => by simp at hk; omega), rfl⟩
section
variable {w : World} {gm g : Nat} {vs vp : Value} {nx sq : Int} {cl : Bool}
theorem nextM_has (x : ManB w gm g vs vp nx sq cl) : Has Go.Proofs.Tryz.prog 12 #[.pointer (some ⟨gm, 0, none⟩)] w (fun v w' => w' = w ∧ v = .int .i64 nx) := by
  refine enter Go.Proofs.Tryz.func12 rfl rfl (by decide) rfl (e := [(0, .pointer (some ⟨gm, 0, none⟩))]) ⟨rfl, trivial⟩ ?_
  unfold ManB at x
  refine run ?_
  refine go T 21 rfl ?_
  refine ldB T x rfl rfl rfl rfl rfl rfl ?_
  refine go T 4 rfl ?_
  exact post1 (.inl rfl) rfl rfl ⟨rfl, rfl⟩
theorem segsM_has (x : ManB w gm g vs vp nx sq cl) (L : List SegM) (hl : SliceK 6 (RdL segL) w vs L) (hb : L.length ≤ 1000000) : Has Go.Proofs.Tryz.prog 16 #[.pointer (some ⟨gm, 0, none⟩)] w (fun v w' => Chg [] w w' ∧ Own w' 44 6 v L.length (L.flatMap segL) ∧ ∀ g, v.ownBlock = some g → w.heap.size ≤ g) := by
  refine enter Go.Proofs.Tryz.func16 rfl rfl (by decide) rfl (e := [(0, .pointer (some ⟨gm, 0, none⟩))]) ⟨rfl, trivial⟩ ?_
  unfold ManB at x
  obtain ⟨A, c, rfl, _, _⟩ := hl.form
  refine run ?_
  refine go T 21 rfl ?_
  refine ldB T x rfl rfl rfl rfl rfl rfl ?_
  refine o1 rfl ?_
  refine op_call rfl rfl rfl (cloneSeg_has A _ c L w hl hb) ?_
  rintro v1 w1 h1
  refine go T 4 rfl ?_
  exact post1 (.inl rfl) rfl rfl h1
end
theorem nextNil_has (w : World) : Has Go.Proofs.Tryz.prog 12 #[.pointer none] w (fun v w' => w' = w ∧ v = .int .i64 0) := by
  refine enter Go.Proofs.Tryz.func12 rfl rfl (by decide) rfl (e := [(0, .pointer none)]) ⟨rfl, trivial⟩ ?_
  refine run ?_
  refine go T 20 rfl ?_
  exact post1 (.inl rfl) rfl rfl ⟨rfl, rfl⟩
theorem segsNil_has (w : World) : Has Go.Proofs.Tryz.prog 16 #[.pointer none] w (fun v w' => w' = w ∧ v = .slice none 0 0) := by
  refine enter Go.Proofs.Tryz.func16 rfl rfl (by decide) rfl (e := [(0, .pointer none)]) ⟨rfl, trivial⟩ ?_
  refine run ?_
  refine go T 20 rfl ?_
  exact post1 (.inl rfl) rfl rfl ⟨rfl, rfl⟩
end Go.Proofs.YtiadjkjlifnopaaGreat.Tryz
/-! raw.Write: five steps, one after the other, until one fails. -/
set_option linter.unusedVariables false
namespace Go.Vc
open Go
def writeK (s : FsM) (nm beside : Nm) (b : List UInt8) : Nat → FsM × Int
  | 0 => createM s beside
  | 1 => appendM s beside b
  | 2 => syncM s beside
  | 3 => renameM s beside nm
  | _ => syncDirM s
/-- The steps from k on. -/
def writeG (nm beside : Nm) (b : List UInt8) : Nat → Nat → FsM → FsM × Int
  | 0, _, s => (s, 0)
  | n + 1, k, s => if (writeK s nm beside b k).2 ≠ 0 then writeK s nm beside b k else writeG nm beside b n (k + 1) (writeK s nm beside b k).1
theorem writeK_calls (s : FsM) (nm beside : Nm) (b : List UInt8) (k : Nat) : (writeK s nm beside b k).1.calls = s.calls + 1 := by
  unfold writeK
  split
  · unfold createM; dsimp only; split; · rfl
    split; · rfl
    split <;> rfl
  · unfold appendM; dsimp only; split; · rfl
    split; · rfl
    split <;> rfl
  · unfold syncM; dsimp only; split; · rfl
    split <;> rfl
  · unfold renameM; dsimp only; split; · rfl
    split; · rfl
    split <;> rfl
  · unfold syncDirM; dsimp only; split <;> rfl
def writeM (s : FsM) (nm beside : Nm) (b : List UInt8) : FsM × Int := writeG nm beside b 5 0 s
end Go.Vc
namespace Go.Proofs.YtiadjkjlifnopaaGreat.Tryz
open Go Go.Vc
theorem FsDone.trans {w w1 w2 : World} {g : Nat} {p p1 : FsP} {r' : FsM × Int} {v' : Value} (h1 : Chg (p.fp g) w w1) (hg : Grows w g p p1) (h2 : FsDone w1 g p1 r' v' w2) : FsDone w g p r' v' w2 := by
  obtain ⟨h3, h4, p2, h5, h6⟩ := h2
  exact ⟨h1.fps hg h3, h4, p2, h5, hg.trans h6 h1.size⟩
section
variable {w : World} {g : Nat} {s : FsM} {p : FsP} {gf gn gb gc : Nat} {nm beside : Nm} {A : Option Addr} {n c : Nat} {b : List UInt8}
theorem write1_has (x : FsAt w g s p) (h4 : Blk w gf 24 [ptrV g]) (h6 : Blk w gb 9 [.string (str beside)]) (hk : beside.length ≤ maxLen) (hcalls : s.calls < 1000000000 - 1) :
    Has Go.Proofs.Tryz.prog 85 #[ptrV gf, ptrV gb] w (FsDone w g p (createM s beside)) := by
  refine enter Go.Proofs.Tryz.func85 rfl rfl (by decide) rfl (e := [(0, ptrV gf), (1, ptrV gb)]) ⟨rfl, rfl, trivial⟩ ?_
  unfold ptrV at *
  repeat (first | refine W_seq ?_ | refine W_region ?_ | refine Then_n ?_ | refine WL_nil ?_ | refine WL_some rfl rfl rfl ?_ | refine op_assign rfl rfl ?_ | refine op_loadB T rfl rfl rfl rfl (by assumption) (by exact rfl) ?_)
  refine op_call rfl rfl rfl (create_has g s p beside w x hk hcalls) ?_
  intro v w1 h
  have hv := h.2.1
  subst hv
  repeat (first | refine W_ret ?_ | refine Then_n ?_ | refine WL_nil ?_ | refine WL_some rfl rfl rfl ?_ | refine op_assign rfl rfl ?_)
  exact post1 (.inl rfl) rfl rfl h
theorem write2_has (x : FsAt w g s p) (h4 : Blk w gf 24 [ptrV g]) (h6 : Blk w gb 9 [.string (str beside)]) (h7 : Blk w gc 22 [.slice A n c]) (hb : Firm (p.fp g) w (fun w => SliceOf Ru8 w (.slice A n c) b)) (hbl : b.length ≤ 1000000000) (hcalls : s.calls < 1000000000 - 1) :
    Has Go.Proofs.Tryz.prog 86 #[ptrV gf, ptrV gb, ptrV gc] w (FsDone w g p (appendM s beside b)) := by
  refine enter Go.Proofs.Tryz.func86 rfl rfl (by decide) rfl (e := [(0, ptrV gf), (1, ptrV gb), (2, ptrV gc)]) ⟨rfl, rfl, rfl, trivial⟩ ?_
  unfold ptrV at *
  repeat (first | refine W_seq ?_ | refine W_region ?_ | refine Then_n ?_ | refine WL_nil ?_ | refine WL_some rfl rfl rfl ?_ | refine op_assign rfl rfl ?_ | refine op_loadB T rfl rfl rfl rfl (by assumption) (by exact rfl) ?_)
  refine op_call rfl rfl rfl (append_has g s p beside A n c b w x hb hbl hcalls) ?_
  intro v w1 h
  have hv := h.2.1
  subst hv
  repeat (first | refine W_ret ?_ | refine Then_n ?_ | refine WL_nil ?_ | refine WL_some rfl rfl rfl ?_ | refine op_assign rfl rfl ?_)
  exact post1 (.inl rfl) rfl rfl h
theorem write3_has (x : FsAt w g s p) (h4 : Blk w gf 24 [ptrV g]) (h6 : Blk w gb 9 [.string (str beside)]) (hcalls : s.calls < 1000000000 - 1) :
    Has Go.Proofs.Tryz.prog 87 #[ptrV gf, ptrV gb] w (FsDone w g p (syncM s beside)) := by
  refine enter Go.Proofs.Tryz.func87 rfl rfl (by decide) rfl (e := [(0, ptrV gf), (1, ptrV gb)]) ⟨rfl, rfl, trivial⟩ ?_
  unfold ptrV at *
  repeat (first | refine W_seq ?_ | refine W_region ?_ | refine Then_n ?_ | refine WL_nil ?_ | refine WL_some rfl rfl rfl ?_ | refine op_assign rfl rfl ?_ | refine op_loadB T rfl rfl rfl rfl (by assumption) (by exact rfl) ?_)
  refine op_call rfl rfl rfl (sync_has g s p beside w x hcalls) ?_
  intro v w1 h
  have hv := h.2.1
  subst hv
  repeat (first | refine W_ret ?_ | refine Then_n ?_ | refine WL_nil ?_ | refine WL_some rfl rfl rfl ?_ | refine op_assign rfl rfl ?_)
  exact post1 (.inl rfl) rfl rfl h
theorem write4_has (x : FsAt w g s p) (h4 : Blk w gf 24 [ptrV g]) (h6 : Blk w gb 9 [.string (str beside)]) (h5 : Blk w gn 9 [.string (str nm)]) (hk : nm.length ≤ maxLen) (hcalls : s.calls < 1000000000 - 1) :
    Has Go.Proofs.Tryz.prog 88 #[ptrV gf, ptrV gb, ptrV gn] w (FsDone w g p (renameM s beside nm)) := by
  refine enter Go.Proofs.Tryz.func88 rfl rfl (by decide) rfl (e := [(0, ptrV gf), (1, ptrV gb), (2, ptrV gn)]) ⟨rfl, rfl, rfl, trivial⟩ ?_
  unfold ptrV at *
  repeat (first | refine W_seq ?_ | refine W_region ?_ | refine Then_n ?_ | refine WL_nil ?_ | refine WL_some rfl rfl rfl ?_ | refine op_assign rfl rfl ?_ | refine op_loadB T rfl rfl rfl rfl (by assumption) (by exact rfl) ?_)
  refine op_call rfl rfl rfl (rename_has g s p beside nm w x hk hcalls) ?_
  intro v w1 h
  have hv := h.2.1
  subst hv
  repeat (first | refine W_ret ?_ | refine Then_n ?_ | refine WL_nil ?_ | refine WL_some rfl rfl rfl ?_ | refine op_assign rfl rfl ?_)
  exact post1 (.inl rfl) rfl rfl h
set_option maxHeartbeats 4000000 in
theorem write_has (x : FsAt w g s p) (hb : Firm (p.fp g) w (fun w => SliceOf Ru8 w (.slice A n c) b)) (hbl : b.length ≤ 1000000000) (hk1 : nm.length ≤ maxLen) (hk2 : beside.length ≤ maxLen) (hcalls : s.calls < 1000000000 - 10) :
    Has Go.Proofs.Tryz.prog 48 #[ptrV g, .string (str nm), .string (str beside), .slice A n c] w (FsDone w g p (writeM s nm beside b)) := by
  refine enter Go.Proofs.Tryz.func48 rfl rfl (by decide) rfl (e := [(0, ptrV g), (1, .string (str nm)), (2, .string (str beside)), (3, .slice A n c)]) ⟨rfl, rfl, rfl, rfl, trivial⟩ ?_
  repeat (first | refine W_seq ?_ | refine W_region ?_ | refine WL_some rfl rfl rfl ?_)
  refine op_box rfl rfl (fun gf w1 hs1 hc1 h4 => ?_)
  have h4 : Blk w1 gf 24 [ptrV g] := h4
  have hs1 : w.heap.size ≤ gf := hs1
  repeat (refine WL_some rfl rfl rfl ?_)
  refine op_box rfl rfl (fun gn w2 hs2 hc2 h5 => ?_)
  have h5 : Blk w2 gn 9 [.string (str nm)] := h5
  have hs2 : w1.heap.size ≤ gn := hs2
  repeat (refine WL_some rfl rfl rfl ?_)
  refine op_box rfl rfl (fun gb w3 hs3 hc3 h6 => ?_)
  have h6 : Blk w3 gb 9 [.string (str beside)] := h6
  have hs3 : w2.heap.size ≤ gb := hs3
  repeat (refine WL_some rfl rfl rfl ?_)
  refine op_box rfl rfl (fun gc w4 hs4 hc4 h7 => ?_)
  have h7 : Blk w4 gc 22 [.slice A n c] := h7
  have hs4 : w3.heap.size ≤ gc := hs4
  have h44 := ((h4.keep0 hc2).keep0 hc3).keep0 hc4
  have h54 := (h5.keep0 hc3).keep0 hc4
  have h64 := h6.keep0 hc4
  have hc04 : Chg [] w w4 := ((hc1.trans' hc2).trans' hc3).trans' hc4
  unfold ptrV at *
  repeat (first | refine W_seq ?_ | refine W_region ?_ | refine Then_n ?_ | refine WL_nil ?_ | refine WL_some rfl rfl rfl ?_ | refine op_assign rfl rfl ?_)
  refine op_makeFunc (fv := #[]) (cv := #[.pointer (some ⟨gf, 0, none⟩), .pointer (some ⟨gb, 0, none⟩)]) rfl rfl rfl ?_
  repeat (refine WL_some rfl rfl rfl ?_)
  refine op_makeFunc (fv := #[]) (cv := #[.pointer (some ⟨gf, 0, none⟩), .pointer (some ⟨gb, 0, none⟩), .pointer (some ⟨gc, 0, none⟩)]) rfl rfl rfl ?_
  repeat (refine WL_some rfl rfl rfl ?_)
  refine op_makeFunc (fv := #[]) (cv := #[.pointer (some ⟨gf, 0, none⟩), .pointer (some ⟨gb, 0, none⟩)]) rfl rfl rfl ?_
  repeat (refine WL_some rfl rfl rfl ?_)
  refine op_makeFunc (fv := #[]) (cv := #[.pointer (some ⟨gf, 0, none⟩), .pointer (some ⟨gb, 0, none⟩), .pointer (some ⟨gn, 0, none⟩)]) rfl rfl rfl ?_
  repeat (first | refine WL_some rfl rfl rfl ?_ | refine op_loadB T rfl rfl rfl rfl (by assumption) (by exact rfl) ?_)
  refine op_makeFunc (fv := #[.pointer (some ⟨g, 0, none⟩)]) (cv := #[]) rfl rfl rfl ?_
  repeat (refine WL_some rfl rfl rfl ?_)
  refine op_buildSlice T rfl rfl rfl rfl rfl rfl rfl (fun gt w5 hs5 hc5 h8 => ?_)
  repeat (first | refine W_block ?_ | refine Then_n ?_ | refine WL_nil ?_ | refine WL_some rfl rfl rfl ?_ | refine op_move rfl rfl ?_ | refine op_len_slice T rfl rfl rfl rfl ?_)
  have h8 : Blk w5 gt 30 [.func (.func 85) #[] #[ptrV gf, ptrV gb], .func (.func 86) #[] #[ptrV gf, ptrV gb, ptrV gc], .func (.func 87) #[] #[ptrV gf, ptrV gb], .func (.func 88) #[] #[ptrV gf, ptrV gb, ptrV gn], .func (.func 10) #[ptrV g] #[]] := h8
  have hc05 : Chg [] w w5 := hc04.trans' hc5
  have x5 := x.keep0 hc05
  have hb5 := hb.step0 hc05
  have hlift : ∀ r v w', FsDone w5 g p r v w' → FsDone w g p r v w' := fun r v w' ⟨a, b', p', c', d⟩ => ⟨(hc05.mono (fun k hk _ => by cases hk)).trans a (fun _ h _ => h), b', p', c', fun k hk => (d k hk).imp id (fun h => by have := hc05.size; omega)⟩
  have hnew : ∀ k, w.heap.size ≤ k → k ∉ p.fp g := fun k hk hm => by have := x.lt k hm; omega
  have hz1 := hc1.size; have hz2 := hc2.size; have hz3 := hc3.size; have hz4 := hc4.size
  refine W_loop (σ := Nat) (fun k => [(18, .slice (some ⟨gt, 0, none⟩) 5 5), (19, .int .i64 5), (20, .int .i64 (k : Int))])
    (fun k w' => k ≤ 5 ∧ ∃ s' p', FsAt w' g s' p' ∧ Chg (p.fp g) w5 w' ∧ Grows w5 g p p' ∧ s'.calls = s.calls + k ∧ writeM s nm beside b = writeG nm beside b (5 - k) k s')
    (fun k => 5 - k) 0 ⟨rfl, rfl, rfl, trivial⟩ ⟨by omega, s, p, x5, Chg.refl _ _, Grows.refl _ _ _, by omega, rfl⟩ ?_
  rintro k w6 ⟨hk, s6, p6, x6, hc6, hg6, hcl, hw⟩
  have hnf : ∀ j, w.heap.size ≤ j → j ∉ p.fp g := hnew
  have h46 := (h44.keep0 hc5).keep hc6 (hnew _ hs1)
  have h56 := (h54.keep0 hc5).keep hc6 (hnew _ (by omega))
  have h66 := (h64.keep0 hc5).keep hc6 (hnew _ (by omega))
  have h76 := (h7.keep0 hc5).keep hc6 (hnew _ (by omega))
  have h86 := h8.keep hc6 (hnew _ (by omega))
  have hb6 : Firm (p6.fp g) w6 (fun w => SliceOf Ru8 w (.slice A n c) b) := fun w1 h => hb5 w1 (hc6.fps hg6 h)
  repeat (first | refine W_seq ?_ | refine W_region ?_ | refine WL_some rfl rfl rfl ?_)
  (refine op_lss rfl rfl rfl (fun hc => ?_) (fun hc => ?_))
  · have hk5 : k < 5 := by omega
    have hstep : ∃ nk fv cv, ([.func (.func 85) #[] #[ptrV gf, ptrV gb], .func (.func 86) #[] #[ptrV gf, ptrV gb, ptrV gc], .func (.func 87) #[] #[ptrV gf, ptrV gb], .func (.func 88) #[] #[ptrV gf, ptrV gb, ptrV gn], .func (.func 10) #[ptrV g] #[]] : List Value)[k]? = some (.func (.func nk) fv cv) ∧ Has Go.Proofs.Tryz.prog nk (fv ++ #[] ++ cv) w6 (FsDone w6 g p6 (writeK s6 nm beside b k)) := by
      match k, hk5 with
      | 0, _ => exact ⟨_, _, _, rfl, write1_has x6 h46 h66 hk2 (by omega)⟩
      | 1, _ => exact ⟨_, _, _, rfl, write2_has x6 h46 h66 h76 hb6 hbl (by omega)⟩
      | 2, _ => exact ⟨_, _, _, rfl, write3_has x6 h46 h66 (by omega)⟩
      | 3, _ => exact ⟨_, _, _, rfl, write4_has x6 h46 h66 h56 hk1 (by omega)⟩
      | 4, _ => exact ⟨_, _, _, rfl, syncDir_has g s6 p6 w6 x6 (by omega)⟩
    obtain ⟨nk, fv, cv, hcell, hhas⟩ := hstep
    have hcl2 := writeK_calls s6 nm beside b k
    have hcell6 := h86.cell hcell
    have hwg : writeG nm beside b (5 - k) k s6 = if (writeK s6 nm beside b k).2 ≠ 0 then writeK s6 nm beside b k else writeG nm beside b (5 - (k + 1)) (k + 1) (writeK s6 nm beside b k).1 := by
      rw [show 5 - k = (5 - (k + 1)) + 1 from by omega]; rfl
    repeat (first | refine W_seq ?_ | refine W_block ?_ | refine W_region ?_ | refine W_skip ?_ | refine Then_n ?_ | refine WL_nil ?_ | refine W_condT rfl ?_ | refine WL_some rfl rfl rfl ?_ | refine op_move rfl rfl ?_ | refine op_assign rfl rfl ?_ | refine op_index_own T rfl rfl rfl rfl rfl rfl (by omega) ?_ | refine op_load T rfl rfl rfl rfl (by assumption) ?_)
    refine op_callf rfl rfl rfl hhas ?_
    intro v w7 hd
    have hv := hd.2.1
    subst hv
    have hd5 : FsDone w5 g p (writeK s6 nm beside b k) _ w7 := FsDone.trans hc6 hg6 hd
    by_cases hz : (writeK s6 nm beside b k).2 = 0
    · rw [if_neg (by simp [hz])] at hwg
      obtain ⟨a1, _, p7, a3, a4⟩ := hd5
      repeat (first | refine W_seq ?_ | refine W_region ?_ | refine W_skip ?_ | refine Then_n ?_ | refine InBlock_n ?_ | refine WL_nil ?_ | refine W_condF rfl ?_ | refine WL_some rfl rfl rfl ?_ | refine op_move rfl rfl ?_ | refine op_assign rfl rfl ?_ | refine op_add rfl rfl rfl (wrap_i64_in (by omega) (by omega)) ?_ | refine op_neq rfl rfl rfl (fun hc => False.elim (by omega)) (fun hc => ?_))
      exact Round_n (k + 1) ⟨rfl, rfl, rfl, trivial⟩ ⟨by omega, _, p7, a3, a1, a4, by omega, by rw [hw, hwg]⟩ (by omega)
    · rw [if_pos hz] at hwg
      repeat (first | refine W_seq ?_ | refine W_region ?_ | refine W_ret ?_ | refine Then_n ?_ | refine Then_r ?_ | refine InBlock_r ?_ | refine Round_r ?_ | refine WL_nil ?_ | refine W_condT rfl ?_ | refine WL_some rfl rfl rfl ?_ | refine op_move rfl rfl ?_ | refine op_assign rfl rfl ?_ | refine op_neq rfl rfl rfl (fun hc => ?_) (fun hc => False.elim (by omega)))
      refine post1 (.inl rfl) rfl rfl (hlift _ _ _ ?_)
      rw [hw, hwg]; exact hd5
  · obtain rfl : k = 5 := by omega
    repeat (first | refine W_seq ?_ | refine W_region ?_ | refine W_exit ?_ | refine W_ret ?_ | refine Then_n ?_ | refine Then_x ?_ | refine InBlock_hit ?_ | refine Round_x ?_ | refine WL_nil ?_ | refine W_condF rfl ?_ | refine WL_some rfl rfl rfl ?_ | refine op_assign rfl rfl ?_)
    refine post1 (.inl rfl) rfl rfl (hlift _ _ _ ⟨hc6, ?_, p6, ?_, hg6⟩)
    · rw [hw]; rfl
    · rw [hw]; exact x6
end
end Go.Proofs.YtiadjkjlifnopaaGreat.Tryz
/-! Manifests: lay. -/
set_option linter.unusedVariables false
namespace Go.Vc
open Go
def manNm : Nm := [77, 65, 78, 73, 70, 69, 83, 84]
def neuNm : Nm := [78, 69, 87]
def wholeM (S : List SegM) (Q : List ParV) (nx sq : Int) : EditM := { next := nx, seq := sq, adds := S, dels := [], pars := Q.map (·.p), drops := [] }
end Go.Vc
namespace Go.Proofs.YtiadjkjlifnopaaGreat.Tryz
open Go Go.Vc
set_option maxHeartbeats 1000000 in
theorem lay_has {w : World} {gm g : Nat} {s : FsM} {p : FsP} {A : Option Addr} {c : Nat} {B : Option Addr} {d : Nat} {nx sq : Int} {cl : Bool} {S : List SegM} {Q : List ParV} (x : FsAt w g s p)
    (hm : ManB w gm g (.slice A S.length c) (.slice B Q.length d) nx sq cl) (hS : SliceK 6 (RdL segL) w (.slice A S.length c) S) (hQ : SliceK 5 (RdL parL) w (.slice B Q.length d) Q) (hp : ∀ q ∈ Q, PRd w q) (hI : EdI (wholeM S Q nx sq)) (hcalls : s.calls < 1000000000 - 10) :
    Has Go.Proofs.Tryz.prog 26 #[.pointer (some ⟨gm, 0, none⟩)] w (fun v w' => ((encE (wholeM S Q nx sq)).2 ≠ 0 → Chg [] w w' ∧ v = .int .i64 (encE (wholeM S Q nx sq)).2) ∧ ((encE (wholeM S Q nx sq)).2 = 0 → FsDone w g p (writeM s manNm neuNm (encE (wholeM S Q nx sq)).1) v w')) := by
  refine enter Go.Proofs.Tryz.func26 rfl rfl (by decide) rfl (e := [(0, .pointer (some ⟨gm, 0, none⟩))]) ⟨rfl, trivial⟩ ?_
  unfold ManB at hm
  refine run ?_
  refine go T 10 rfl ?_
  refine o1 rfl (op_load_agg T rfl rfl rfl rfl hm (by exact Nat.le_of_ble_eq_true rfl) (by exact rfl) ?_)
  refine o1 rfl ?_
  refine op_call rfl rfl rfl (whole_has A _ c B _ d nx sq w) ?_
  rintro _ w1 ⟨hc1, rfl⟩
  have hr : ERd w1 ⟨wholeM S Q nx sq, .slice A S.length c, .slice none 0 0, .slice B Q.length d, .slice none 0 0, Q⟩ := ⟨hS.keepR hc1, SliceOf.nil _ _, hQ.keepR hc1, rfl, fun q hq => (hp q hq).keep0 hc1, SliceOf.nil _ _⟩
  have hcall := encodeE_has (w := w1) ⟨wholeM S Q nx sq, .slice A S.length c, .slice none 0 0, .slice B Q.length d, .slice none 0 0, Q⟩ hI hr
  dsimp only at hcall
  generalize encE (wholeM S Q nx sq) = en at *
  obtain ⟨b, er⟩ := en
  dsimp only at hcall ⊢
  refine o1 rfl ?_
  refine op_call rfl rfl rfl hcall ?_
  rintro _ w2 ⟨u, rfl, m2, hbl⟩
  obtain ⟨Au, cu, rfl, _, _⟩ := m2.form
  have hc02 := hc1.trans' m2.chg
  have hm2 := hm.keep0 hc02
  by_cases h0 : er = 0
  · subst h0
    have hfirm := m2.firm (fun k (hk : k ∈ p.fp g) => by have := x.lt k hk; have := hc1.size; omega)
    have x2 := x.keep0 hc02
    refine go T 11 rfl ?_
    refine neF rfl rfl rfl rfl (by omega) ?_
    refine go T 10 rfl ?_
    refine ldB T hm2 rfl rfl rfl rfl rfl rfl ?_
    refine go T 1 rfl ?_
    refine o1 rfl ?_
    refine op_call rfl rfl rfl (write_has (nm := manNm) (beside := neuNm) x2 hfirm (by omega) (by show 8 ≤ maxLen; decide) (by show 3 ≤ maxLen; decide) hcalls) ?_
    intro v3 w3 hd
    have hd' : FsDone w g p (writeM s manNm neuNm b) v3 w3 := ⟨(hc02.mono (fun k hk _ => by cases hk)).trans hd.1 (fun k hk _ => hk), hd.2.1, let ⟨p', h3, h4⟩ := hd.2.2; ⟨p', h3, fun k hk => (h4 k hk).imp id (fun h => by have := hc02.size; omega)⟩⟩
    have hv := hd.2.1
    subst hv
    refine go T 4 rfl ?_
    exact post1 (.inl rfl) rfl rfl ⟨fun h => absurd rfl h, fun _ => hd'⟩
  · refine go T 11 rfl ?_
    refine neT rfl rfl rfl rfl (by omega) ?_
    refine go T 11 rfl ?_
    exact post1 (.inl rfl) rfl rfl ⟨fun _ => ⟨hc02, rfl⟩, fun h => absurd h h0⟩
end Go.Proofs.YtiadjkjlifnopaaGreat.Tryz
/-! Manifests: Create. -/
set_option linter.unusedVariables false
namespace Go.Vc
open Go
def man0 : EditM := wholeM [] [] 1 1
theorem man0_enc : (encE man0).2 = 0 := by
  have h : editB man0 = true := by decide
  unfold encE
  simp [h]
end Go.Vc
namespace Go.Proofs.YtiadjkjlifnopaaGreat.Tryz
open Go Go.Vc
theorem fsDoneO {w0 w w' : World} {g : Nat} {s : FsM} {p : FsP} (x : FsO w0 w g s p) {r : FsM × Int} {v : Value} (h : FsDone w g p r v w') : v = .int .i64 r.2 ∧ Chg (p.fp g) w w' ∧ ∃ p', FsO w0 w' g r.1 p' ∧ Grows w g p p' := by
  obtain ⟨h1, h2, p', h3, h4⟩ := h
  exact ⟨h2, h1, p', ⟨x.chgFp h1, h3, fun k hk => by
    rcases h4 k hk with h | h
    · exact x.fresh k h
    · have := x.chg.size; omega⟩, h4⟩
theorem createThere_has {w0 w : World} {g : Nat} {s : FsM} {p : FsP} (x : FsO w0 w g s p) (b : List UInt8) (hread : readM s manNm = some b) :
    Has Go.Proofs.Tryz.prog 14 #[ptrV g] w (fun v w' => Chg [] w w' ∧ v = .tuple #[.pointer none, .int .i64 8]) := by
  refine enter Go.Proofs.Tryz.func14 rfl rfl (by decide) rfl (e := [(0, ptrV g)]) ⟨rfl, trivial⟩ ?_
  unfold ptrV
  refine run ?_
  refine go T 10 rfl ?_
  refine o1 rfl ?_
  refine op_call rfl rfl rfl (readO_has x manNm) ?_
  rintro v1 w1 ⟨x1, hc1, h1⟩
  rw [hread] at h1
  obtain ⟨ub, rfl, hob, hfb⟩ : ∃ u, v1 = .tuple #[u, .int .i64 0] ∧ Own w1 5 1 u b.length (u8s b) ∧ ∀ h, u.ownBlock = some h → _ ≤ h := h1
  refine go T 10 rfl ?_
  refine eqT rfl rfl rfl rfl (by omega) ?_
  refine go T 11 rfl ?_
  exact post2 (.inl rfl) rfl rfl rfl ⟨hc1, rfl⟩
set_option maxHeartbeats 1000000 in
theorem createMan_has {w0 w : World} {g : Nat} {s : FsM} {p : FsP} (x : FsO w0 w g s p) (hcalls : s.calls < 1000000000 - 10) (hread : readM s manNm = none) (hz : (writeM s manNm neuNm (encE man0).1).2 = 0) :
    Has Go.Proofs.Tryz.prog 14 #[ptrV g] w (fun v w' => ∃ gm p', v = .tuple #[.pointer (some ⟨gm, 0, none⟩), .int .i64 0] ∧ Chg (p.fp g) w w' ∧ FsO w0 w' g (writeM s manNm neuNm (encE man0).1).1 p' ∧ Grows w g p p' ∧ ManB w' gm g (.slice none 0 0) (.slice none 0 0) 1 1 false ∧ gm ∉ p'.fp g ∧ w.heap.size ≤ gm) := by
  refine enter Go.Proofs.Tryz.func14 rfl rfl (by decide) rfl (e := [(0, ptrV g)]) ⟨rfl, trivial⟩ ?_
  unfold ptrV
  refine run ?_
  refine go T 10 rfl ?_
  refine o1 rfl ?_
  refine op_call rfl rfl rfl (readO_has x manNm) ?_
  rintro v1 w1 ⟨x1, hc1, h1⟩
  rw [hread] at h1
  obtain rfl : v1 = .tuple #[.slice none 0 0, .int .i64 3] := h1
  refine go T 10 rfl ?_
  refine eqF rfl rfl rfl rfl (by omega) ?_
  refine go T 8 rfl ?_
  refine o1 rfl (op_build T rfl rfl rfl rfl rfl rfl ?_)
  refine o1 rfl (op_build T rfl rfl rfl rfl rfl rfl ?_)
  refine o1 rfl ?_
  refine op_box rfl rfl (fun gm w2 hs2 hc2 hg2 => ?_)
  have hg2 : ManB w2 gm g (.slice none 0 0) (.slice none 0 0) 1 1 false := hg2
  have hs2 : w1.heap.size ≤ gm := hs2
  have x2 := x1.keep0 hc2
  have hc02 := hc1.trans' hc2
  have hout : gm ∉ p.fp g := fun hm => by have := x1.at_.lt gm hm; omega
  have hnS : SliceK 6 (RdL segL) w2 (.slice none 0 0) [] := by
    unfold SliceK
    exact ⟨none, 0, rfl, Nat.le_refl _, Nat.zero_le _, fun i x h => by simp at h⟩
  have hnQ : SliceK 5 (RdL parL) w2 (.slice none 0 0) [] := by
    unfold SliceK
    exact ⟨none, 0, rfl, Nat.le_refl _, Nat.zero_le _, fun i x h => by simp at h⟩
  have hI : EdI (wholeM [] [] 1 1) := ⟨⟨by decide, by decide⟩, ⟨by decide, by decide⟩, fun s hs => by simp [wholeM] at hs, fun q hq => by simp [wholeM] at hq⟩
  refine go T 7 rfl ?_
  refine o1 rfl ?_
  refine op_call rfl rfl rfl (lay_has (S := []) (Q := []) x2.at_ hg2 hnS hnQ (fun q hq => by cases hq) hI hcalls) ?_
  rintro v3 w3 ⟨_, hd⟩
  have hd := hd man0_enc
  have hgl := hg2
  obtain ⟨hv3, hc3, p3, x3, hg3⟩ := fsDoneO x2 hd
  change v3 = .int .i64 (writeM s manNm neuNm (encE man0).1).2 at hv3
  rw [hz] at hv3
  subst hv3
  have hgl2 : gm < w2.heap.size := Blk.lt hg2
  have hman : ManB w3 gm g (.slice none 0 0) (.slice none 0 0) 1 1 false := Blk.keep hg2 hc3 hout
  have hgrow : Grows w g p p3 := fun k hk => (hg3 k hk).imp id (fun h => by have := hc02.size; omega)
  refine go T 6 rfl ?_
  refine neF rfl rfl rfl rfl (by omega) ?_
  refine go T 13 rfl ?_
  refine post2 (.inl rfl) rfl rfl rfl ⟨gm, p3, rfl, (hc02.mono (fun k hk _ => by cases hk)).trans hc3 (fun k hk _ => hk), x3, hgrow, hman, fun hm => ?_, by have := hc1.size; omega⟩
  rcases hg3 gm hm with h | h
  · exact hout h
  · omega
end Go.Proofs.YtiadjkjlifnopaaGreat.Tryz
/-! Manifests: Rewrite; Commit of no manifest. -/
set_option linter.unusedVariables false
namespace Go.Proofs.YtiadjkjlifnopaaGreat.Tryz
open Go Go.Vc
theorem commitNil_has (cs : List Value) (w : World) : Has Go.Proofs.Tryz.prog 13 #[.pointer none, .agg cs.toArray] w (fun v w' => Chg [] w w' ∧ v = .int .i64 9) := by
  refine enter Go.Proofs.Tryz.func13 rfl rfl (by decide) rfl (e := [(0, .pointer none), (1, .agg cs.toArray)]) ⟨rfl, rfl, trivial⟩ ?_
  refine run ?_
  refine go T 2 rfl ?_
  refine o1 rfl ?_
  refine op_box rfl rfl (fun g w1 hs1 hc1 hg1 => ?_)
  refine go T 24 rfl ?_
  exact post1 (.inl rfl) rfl rfl ⟨hc1, rfl⟩
end Go.Proofs.YtiadjkjlifnopaaGreat.Tryz
/-! Manifests: a state in plain words, without the places of its lists. -/
set_option linter.unusedVariables false
namespace Go.Vc
open Go
section
variable {α β : Type} {f : α → β} {key : β → Int}
theorem erase_map : ∀ (L : List α) (i : Nat), (L.map f).eraseIdx i = (L.eraseIdx i).map f
  | [], i => by simp
  | a :: L, 0 => by simp
  | a :: L, i + 1 => by simp [erase_map L i]
theorem takeK_map : ∀ (ns : List Int) (L : List α), takeK key ns (L.map f) = (takeK (fun x => key (f x)) ns L).map (List.map f)
  | [], L => rfl
  | n :: ns, L => by
    rw [takeK, takeK, idxM_map]
    split
    · rfl
    · rw [erase_map, takeK_map ns]
theorem putK_map : ∀ (xs L : List α), putK key (xs.map f) (L.map f) = (putK (fun x => key (f x)) xs L).map (List.map f)
  | [], L => rfl
  | x :: xs, L => by
    rw [List.map_cons, putK, putK, List.any_map]
    by_cases h : (L.any fun y => decide (key (f x) = key (f y))) = true
    · rw [if_pos h, if_pos (by exact h)]; rfl
    · rw [if_neg h, if_neg (by exact h), show L.map f ++ [f x] = (L ++ [x]).map f from by simp, putK_map xs]
theorem insK_map (x : α) : ∀ l : List α, insM (leK key) (f x) (l.map f) = (insM (leK fun x => key (f x)) x l).map f
  | [] => rfl
  | y :: l => by
    rw [List.map_cons, insM, insM]
    by_cases h : leK (fun x => key (f x)) x y = true
    · rw [if_pos h, if_pos (by exact h)]; rfl
    · rw [if_neg h, if_neg (by exact h), insK_map x l]; rfl
theorem sortK_map : ∀ L : List α, sortK key (L.map f) = (sortK (fun x => key (f x)) L).map f
  | [] => rfl
  | x :: l => by
    have h := sortK_map l
    unfold sortK at *
    rw [List.map_cons, isM, isM, h, insK_map]
end
theorem ite_some {α : Type} {c : Bool} {a b : α} (h : (if c = true then some a else none) = some b) : c = true ∧ a = b := by
  cases c with
  | true => injection h with h; exact ⟨rfl, h⟩
  | false => cases h
structure PSt where
  segs : List SegM
  pars : List ParM
  next : Int
  seq : Int
def gKey (p : ParM) : Int := p.group
def finePM (S : List SegM) (Q : List ParM) (nx : Int) (X : List ParM) : Bool :=
  (X.all fun q => q.nums.all fun n => S.any (sealedAt n)) && (decide (max S.length Q.length ≤ 60) && (!(S.any fun s => decide (nx ≤ s.num)) && !(Q.any fun q => decide (nx ≤ q.group))))
def applyP (st : PSt) (e : EditM) (first : Bool) : Option PSt :=
  let t1 := takeK numK e.dels st.segs
  let p1 := putK numK e.adds (t1.getD [])
  let s2 := (p1.map (sortK numK)).getD []
  let t2 := takeK gKey e.drops st.pars
  let p2 := putK gKey e.pars (t2.getD [])
  let q2 := (p2.map (sortK gKey)).getD []
  let n := laterM st.next e.next
  let s := laterM st.seq e.seq
  if (editB e && (t1.isSome && (p1.isSome && (t2.isSome && (p2.isSome && (n.2 && (s.2 && finePM s2 q2 n.1 (if first then [] else e.pars)))))))) = true then some ⟨s2, q2, n.1, s.1⟩ else none
def StM.plain (st : StM) : PSt := ⟨st.segs, st.pars.map (·.1.p), st.next, st.seq⟩
theorem fineM_plain (S : List SegM) (Q X : List ParV) (nx : Int) : fineM S Q nx X = finePM S (Q.map (·.p)) nx (X.map (·.p)) := by
  unfold fineM finePM
  rw [List.length_map, List.all_map, List.any_map]
  rfl
theorem applyM_plain {st : StM} {e : EditM} {X : List ParS} {first : Bool} (hX : X.map (·.1.p) = e.pars) : (applyM st e X first).map StM.plain = applyP st.plain e first := by
  have ht : takeK gKey e.drops (st.pars.map (·.1.p)) = (takeK parKey e.drops st.pars).map (List.map (·.1.p)) := takeK_map e.drops st.pars
  have hp : putK gKey (X.map (·.1.p)) (((takeK parKey e.drops st.pars).getD []).map (·.1.p)) = (putK parKey X ((takeK parKey e.drops st.pars).getD [])).map (List.map (·.1.p)) := putK_map X _
  have hg : ∀ o : Option (List ParS), (o.map (List.map (·.1.p))).getD [] = (o.getD []).map (·.1.p) := fun o => by cases o <;> rfl
  have hs : ∀ o : Option (List ParS), ((o.map (List.map (·.1.p))).map (sortK gKey)).getD [] = ((o.map (sortK parKey)).getD []).map (·.1.p) := fun o => by
    cases o with
    | none => rfl
    | some l => exact sortK_map l
  have hi : ∀ o : Option (List ParS), (o.map (List.map (·.1.p))).isSome = o.isSome := fun o => by cases o <;> rfl
  have hif : ∀ b : Bool, ((if b then ([] : List ParV) else X.map (·.1))).map (·.p) = if b then [] else X.map (·.1.p) := fun b => by cases b <;> simp
  have key : ∀ (c c' : Bool) (a : StM) (b : PSt), c = c' → a.plain = b → (if c = true then some a else none).map StM.plain = if c' = true then some b else none := fun c c' a b hc hb => by subst hc; subst hb; split <;> rfl
  unfold applyM applyP
  refine key _ _ _ _ ?_ ?_
  · unfold StM.plain
    dsimp only
    rw [ht, hg, ← hX, hp, hs, hi, hi, fineM_plain, hif, List.map_map]
    cases first <;> rfl
  · unfold StM.plain
    dsimp only
    rw [ht, hg, ← hX, hp, hs]
    rfl
end Go.Vc
/-! Regions that draw their order, one of whose operations (number q) may turn blocks that the region itself has made; of one value that stands ahead of it (number j0) it is told what holds behind it (A0). -/
set_option linter.unusedSimpArgs false
set_option linter.unusedVariables false
namespace Go.Vc.G
open Go Go.RowKit Go.Vc

theorem OpW_mono' {P : Program} {N : Nat} {o : Oper} {e : Env} {w : World} {K K' : Value → World → Prop} (h : OpW P N o e w K) (hk : ∀ v w', K v w' → K' v w') : OpW P N o e w K' := by
  unfold OpW at *
  intro a ha K1 Q1 h1
  exact h a ha K1 Q1 (fun v w' hv => h1 v w' (hk v w' hv))
/-- What is told of a value: of one that is no constant, where b, what holds of it; else what held once. -/
def Tells (b : Bool) : VS → Value → World → Prop
  | .c u, v, _ => v = u
  | .r R, v, w => (b = true → R v w) ∧ ∃ w0, R v w0
theorem Tells.of {s : VS} {b : Bool} {v : Value} {w : World} (h : s.holds v w) : Tells b s v w := by
  cases s with
  | c u => exact h
  | r R => exact ⟨fun _ => h, _, h⟩
theorem Tells.less {s : VS} {b b' : Bool} {v : Value} {w : World} (h : Tells b s v w) (hb : b' = true → b = true) : Tells b' s v w := by
  cases s with
  | c u => exact h
  | r R => exact ⟨fun h' => h.1 (hb h'), h.2⟩
/-- What operation i may turn, n blocks being there before the region. -/
def Turns (q n i : Nat) (w w' : World) : Prop := ∃ S : List Nat, (∀ k ∈ S, n ≤ k ∧ i = q) ∧ Chg S w w'
theorem Turns.chg {q n i : Nat} {w w' : World} (h : Turns q n i w w') (hi : i ≠ q) : Chg [] w w' := by
  obtain ⟨S, h1, h2⟩ := h
  exact h2.mono (fun k hk _ => absurd (h1 k hk).2 hi)
theorem Turns.none (q n i : Nat) {w w' : World} (h : Chg [] w w') : Turns q n i w w' := ⟨[], fun _ h => (by cases h), h⟩

/-- Operation i is number q, or stands ahead of it. -/
def bq (l : List Oper) (q i : Nat) : Bool := Nat.beq i q || ((l[q]?).map fun o => (predsOf o).contains i).getD false
theorem bq_self (l : List Oper) (q : Nat) : bq l q q = true := by simp [bq]
/-- What is asked of front operation i. -/
def FrontOp (P : Program) (N : Nat) (q j0 : Nat) (A0 : Value → World → Prop) (l : List Oper) (Vs : List VS) (e : Env) (w : World) (i : Nat) (o : Oper) : Prop :=
  ∀ (val : Nat → Value) (w1 : World), Chg [] w w1 → (∀ j, (predsOf o).contains j = true → ∀ oj d, l[j]? = some oj → oj.dst = some d → Tells (bq l q i) (vsAt Vs j) (valOf Vs val j) w1) →
    match o.guard with
    | none => OpW P N o (opEnv l Vs e i o val) w1 (fun v w' => Turns q w.heap.size i w1 w' ∧ (vsAt Vs i).holds v w' ∧ (i = q → A0 (valOf Vs val j0) w'))
    | some (j, want) => ∃ b, (predsOf o).contains j = true ∧ ((l[j]?).bind (·.dst)).isSome = true ∧ (valOf Vs val j = .bool b ∨ (b = (!want) ∧ valOf Vs val j = undef)) ∧
        (b = want → OpW P N o (opEnv l Vs e i o val) w1 (fun v w' => Turns q w.heap.size i w1 w' ∧ (vsAt Vs i).holds v w' ∧ (i = q → A0 (valOf Vs val j0) w'))) ∧ (b = !want → (vsAt Vs i).holds undef w1 ∧ i ≠ q)
def Front (P : Program) (N : Nat) (q j0 : Nat) (A0 : Value → World → Prop) (l : List Oper) (Vs : List VS) (e : Env) (w : World) : Nat → Nat → List Oper → Prop
  | _, 0, _ => True
  | _, _ + 1, [] => True
  | i, m + 1, o :: r => FrontOp P N q j0 A0 l Vs e w i o ∧ Front P N q j0 A0 l Vs e w (i + 1) m r

theorem Front.get {P : Program} {N : Nat} {q j0 : Nat} {A0 : Value → World → Prop} {l : List Oper} {Vs : List VS} {e : Env} {w : World} :
    ∀ (r : List Oper) (i m : Nat), Front P N q j0 A0 l Vs e w i m r → ∀ k o, k < m → r[k]? = some o → FrontOp P N q j0 A0 l Vs e w (i + k) o
  | [], i, m, h, k, o, hk, ho => by simp at ho
  | p :: r, i, 0, h, k, o, hk, ho => by omega
  | p :: r, i, m + 1, h, 0, o, hk, ho => by simp at ho; subst ho; exact h.1
  | p :: r, i, m + 1, h, k + 1, o, hk, ho => by
    have := Front.get r (i + 1) m h.2 k o (by omega) (by simpa using ho)
    rw [show i + (k + 1) = i + 1 + k from by omega]; exact this

/-- The state in the middle of a region. -/
structure Mid (N : Nat) (q j0 : Nat) (A0 : Value → World → Prop) (l : List Oper) (m : Nat) (Vs : List VS) (e : Env) (w0 : World) (listed : Array Bool) (a : Act) (w : World) : Prop where
  size : a.tmps.size = N
  defers : a.defers = []
  chg : Chg [] w0 w
  lsize : listed.size = l.length
  front : ∀ i, i < l.length → m ≤ i → listed.getD i true = false
  down : ∀ i o, l[i]? = some o → listed.getD i true = true → ∀ j, (predsOf o).contains j = true → listed.getD j false = true
  old : ∀ t v, look e t = some v → (∀ i o, l[i]? = some o → o.dst = some t → listed.getD i true = false) → a.tmps[t]? = some v
  new : ∀ i o d, l[i]? = some o → o.dst = some d → listed.getD i true = true → ∃ v, a.tmps[d]? = some v ∧ Tells (Nat.beq i q || !listed.getD q false) (vsAt Vs i) v w
  noval : ∀ i o, l[i]? = some o → o.dst = none → listed.getD i true = true → ∃ v, Tells (Nat.beq i q || !listed.getD q false) (vsAt Vs i) v w
  behind : listed.getD q false = true → ∀ o d, l[j0]? = some o → o.dst = some d → listed.getD j0 true = true ∧ ∃ v, a.tmps[d]? = some v ∧ A0 v w

section
variable {P : Program} {N : Nat} {q j0 : Nat} {A0 : Value → World → Prop} {l : List Oper} {m : Nat} {Vs : List VS} {e : Env} {w0 : World} {listed : Array Bool} {a : Act} {w : World}

/-- The values that the listed front operations have left, as a function of their numbers. -/
theorem Mid.vals (hM : Mid N q j0 A0 l m Vs e w0 listed a w) : ∃ val : Nat → Value, ∀ i o d, l[i]? = some o → o.dst = some d → listed.getD i true = true → a.tmps[d]? = some (valOf Vs val i) ∧ Tells (Nat.beq i q || !listed.getD q false) (vsAt Vs i) (valOf Vs val i) w := by
  refine ⟨fun i => ((l[i]?).bind (·.dst)).elim undef fun d => a.tmps.getD d undef, fun i o d ho hd hl => ?_⟩
  obtain ⟨v, hv, hh⟩ := hM.new i o d ho hd hl
  unfold valOf
  cases hvs : Vs[i]? with
  | none => simp [ho, hd, Array.getD_eq_getD_getElem?, hv]; simpa [vsAt, hvs] using hh
  | some s =>
    cases s with
    | c u =>
      have : v = u := by simpa [vsAt, hvs, Tells] using hh
      subst this
      exact ⟨hv, by simp [vsAt, hvs, Tells]⟩
    | r R => simp [ho, hd, Array.getD_eq_getD_getElem?, hv]; simpa [vsAt, hvs] using hh

/-- One front operation more. -/
theorem Mid.step (hdst : dstsOk N l = true) (hM : Mid N q j0 A0 l m Vs e w0 listed a w) {i : Nat} {o : Oper} (ho : l[i]? = some o) (him : i < m) (hun : listed.getD i true = false)
    (hpre : ∀ j, (predsOf o).contains j = true → listed.getD j false = true) (hfirm : ∀ i, (vsAt Vs i).firm []) {v : Value} {w' : World} (hc : Turns q w0.heap.size i w w') (hv : (vsAt Vs i).holds v w') (hA : ∀ v w w', A0 v w → Chg [] w w' → A0 v w') (hq : i = q → ∀ o d, l[j0]? = some o → o.dst = some d → listed.getD j0 true = true ∧ ∃ u, a.tmps[d]? = some u ∧ A0 u w') :
    Mid N q j0 A0 l m Vs e w0 (listed.setIfInBounds i true) (a.put o.dst v) w' := by
  have hi : i < listed.size := by rw [hM.lsize]; exact (List.getElem?_eq_some_iff.1 ho).1
  refine ⟨by cases hd : o.dst <;> simp [Act.put, hM.size], by cases hd : o.dst <;> simp [Act.put, hM.defers], ?_, by simp [hM.lsize], fun k hk hmk => ?_, fun k ok hok hlk j hj => ?_, fun t u hu hall => ?_, fun k ok d hok hd hlk => ?_, fun k ok hok hd hlk => ?_, fun hlq o0 d0 ho0 hd0 => ?_⟩
  · obtain ⟨S, h1, h2⟩ := hc
    exact hM.chg.trans h2 (fun k hk hlt => by have := (h1 k hk).1; omega)
  · rw [getD_set hi, if_neg (by omega)]; exact hM.front k hk hmk
  · rw [getD_set hi] at hlk ⊢
    by_cases hij : i = j
    · rw [if_pos hij]
    · rw [if_neg hij]
      by_cases hik : i = k
      · subst hik
        rw [ho] at hok; injection hok with hok; subst hok
        exact hpre j hj
      · rw [if_neg hik] at hlk
        exact hM.down k ok hok hlk j hj
  · have h1 := hM.old t u hu (fun k ok hok hd => by
      have := hall k ok hok hd
      rw [getD_set hi] at this
      split at this
      · cases this
      · exact this)
    cases hd : o.dst with
    | none => simpa [Act.put] using h1
    | some d =>
      have hne : d ≠ t := fun h => by
        subst h
        have := hall i o ho hd
        rw [getD_set hi, if_pos rfl] at this
        cases this
      simp only [Act.put, Array.getElem?_setIfInBounds_ne hne]
      exact h1
  · rw [getD_set hi] at hlk
    by_cases hik : i = k
    · subst hik
      rw [ho] at hok; injection hok with hok; subst hok
      have := (dsts_spec hdst ho hd).1
      exact ⟨v, by simp [Act.put, hd, hM.size, this], Tells.of hv⟩
    · rw [if_neg hik] at hlk
      obtain ⟨u, hu, hh⟩ := hM.new k ok d hok hd hlk
      refine ⟨u, ?_, ?_⟩
      · cases hdo : o.dst with
        | none => simpa [Act.put] using hu
        | some d' =>
          have hne : d' ≠ d := fun h => by
            subst h
            exact hik ((dsts_spec hdst ho hdo).2 k ok hok hd).symm
          simp only [Act.put, Array.getElem?_setIfInBounds_ne hne]
          exact hu
      · by_cases hiq : i = q
        · subst hiq
          have hkq : Nat.beq k i = false := by
            cases hx : Nat.beq k i with
            | false => rfl
            | true => exact absurd (Nat.eq_of_beq_eq_true hx).symm hik
          rw [getD_set hi, if_pos rfl, hkq]
          revert hh
          cases vsAt Vs k with
          | c u' => exact fun h => h
          | r R => exact fun h => ⟨fun h' => absurd h' (by simp), h.2⟩
        · have hc0 := hc.chg hiq
          rw [getD_set hi, if_neg hiq]
          have hf := hfirm k
          revert hh hf
          cases vsAt Vs k with
          | c u' => exact fun h _ => h
          | r R => exact fun h hf => ⟨fun hb => hf _ _ _ (h.1 hb) hc0, h.2⟩
  · rw [getD_set hi] at hlk
    by_cases hik : i = k
    · subst hik; exact ⟨v, Tells.of hv⟩
    · rw [if_neg hik] at hlk
      obtain ⟨u, hh⟩ := hM.noval k ok hok hd hlk
      refine ⟨u, ?_⟩
      by_cases hiq : i = q
      · subst hiq
        have hkq : Nat.beq k i = false := by
          cases hx : Nat.beq k i with
          | false => rfl
          | true => exact absurd (Nat.eq_of_beq_eq_true hx).symm hik
        rw [getD_set hi, if_pos rfl, hkq]
        revert hh
        cases vsAt Vs k with
        | c u' => exact fun h => h
        | r R => exact fun h => ⟨fun h' => absurd h' (by simp), h.2⟩
      · have hc0 := hc.chg hiq
        rw [getD_set hi, if_neg hiq]
        have hf := hfirm k
        revert hh hf
        cases vsAt Vs k with
        | c u' => exact fun h _ => h
        | r R => exact fun h hf => ⟨fun hb => hf _ _ _ (h.1 hb) hc0, h.2⟩
  · have hput : ∀ u, listed.getD j0 true = true → a.tmps[d0]? = some u → (a.put o.dst v).tmps[d0]? = some u := fun u hl0 hu => by
      cases hdo : o.dst with
      | none => simpa [Act.put] using hu
      | some d' =>
        have hne : d' ≠ d0 := fun h => by
          subst h
          have := (dsts_spec hdst ho hdo).2 j0 o0 ho0 hd0
          subst this
          rw [hl0] at hun
          cases hun
        simp only [Act.put, Array.getElem?_setIfInBounds_ne hne]
        exact hu
    have hl' : listed.getD j0 true = true → (listed.setIfInBounds i true).getD j0 true = true := fun h => by
      rw [getD_set hi]
      split
      · rfl
      · exact h
    by_cases hiq : i = q
    · obtain ⟨h1, u, h2, h3⟩ := hq hiq o0 d0 ho0 hd0
      exact ⟨hl' h1, u, hput u h1 h2, h3⟩
    · rw [getD_set hi, if_neg hiq] at hlq
      obtain ⟨h1, u, h2, h3⟩ := hM.behind hlq o0 d0 ho0 hd0
      exact ⟨hl' h1, u, hput u h1 h2, hA _ _ _ h3 (hc.chg hiq)⟩

theorem Mid.fits (hdst : dstsOk N l = true) (hM : Mid N q j0 A0 l m Vs e w0 listed a w) {i : Nat} {o : Oper} (ho : l[i]? = some o) (hun : listed.getD i true = false)
    (hpre : ∀ j, (predsOf o).contains j = true → listed.getD j false = true) {val : Nat → Value}
    (hval : ∀ i o d, l[i]? = some o → o.dst = some d → listed.getD i true = true → a.tmps[d]? = some (valOf Vs val i) ∧ Tells (Nat.beq i q || !listed.getD q false) (vsAt Vs i) (valOf Vs val i) w) :
    Fits N (opEnv l Vs e i o val) a := by
  refine ⟨hM.size, hM.defers, fun t v hv => ?_⟩
  unfold opEnv at hv
  rw [look_append] at hv
  cases hp : look (predEnv l Vs val (predsOf o)) t with
  | some u =>
    rw [hp] at hv
    simp at hv
    subst hv
    obtain ⟨j, oj, hj, hoj, hd, rfl⟩ := look_predEnv val _ _ _ hp
    have h1 := hpre j (by simpa using hj)
    have h2 : listed.getD j true = true := by
      have : j < listed.size := by rw [hM.lsize]; exact (List.getElem?_eq_some_iff.1 hoj).1
      simpa [Array.getD_eq_getD_getElem?, this] using h1
    exact (hval j oj t hoj hd h2).1
  | none =>
    rw [hp] at hv
    simp at hv
    obtain ⟨h1, h2⟩ := look_filter hv
    refine hM.old t v h1 (fun k ok hok hd => ?_)
    unfold freeAt at h2
    have h3 := List.all_eq_true.1 h2 (ok, k) (by rw [List.mem_zipIdx_iff_getElem?]; exact hok)
    simp only [hd, Bool.or_eq_true] at h3
    rcases h3 with (h3 | h3) | h3
    · simp at h3
    · cases hlk : listed.getD k true with
      | false => rfl
      | true =>
        have := hM.down k ok hok hlk i h3
        have hi : i < listed.size := by rw [hM.lsize]; exact (List.getElem?_eq_some_iff.1 ho).1
        simp [Array.getD_eq_getD_getElem?, hi] at this hun
        rw [this] at hun; cases hun
    · have : k = i := Nat.eq_of_beq_eq_true h3
      subst this
      exact hun

/-- Once operation m may come up, all front operations have. -/
theorem tail_all (h : tailOk m l = true) (hM : Mid N q j0 A0 l m Vs e w0 listed a w) {o : Oper} (ho : l[m]? = some o) (hpre : ∀ j, (predsOf o).contains j = true → listed.getD j false = true) :
    ∀ k, k < m → listed.getD k false = true := by
  unfold tailOk at h
  rw [ho] at h
  simp only [Bool.and_eq_true] at h
  have hc := h.1.2
  have key : ∀ n k, m - k ≤ n → k < m → listed.getD k false = true := by
    intro n
    induction n with
    | zero => intro k h1 h2; omega
    | succ n ih =>
      intro k h1 h2
      have h3 := List.all_eq_true.1 hc k (by simpa using h2)
      obtain ⟨c, hcm, h4⟩ := List.any_eq_true.1 h3
      simp only [Bool.and_eq_true] at h4
      have hkc : k < c := by simpa [Nat.blt_eq] using h4.1
      have hcm' : c < m + 1 := by simpa using hcm
      cases hoc : l[c]? with
      | none => simp [hoc] at h4
      | some oc =>
        simp only [hoc] at h4
        by_cases hcc : c = m
        · subst hcc
          rw [ho] at hoc; injection hoc with hoc; subst hoc
          exact hpre k h4.2
        · have h5 := ih c (by omega) (by omega)
          have hlt : c < listed.size := by rw [hM.lsize]; exact (List.getElem?_eq_some_iff.1 hoc).1
          have h6 : listed.getD c true = true := by
            simp [Array.getD_eq_getD_getElem?, hlt] at h5 ⊢; exact h5
          exact hM.down c oc hoc h6 k h4.2
  exact fun k hk => key (m - k) k (Nat.le_refl _) hk

theorem Mid.full (hM : Mid N q j0 A0 l m Vs e w0 listed a w) (hall : ∀ k, k < m → listed.getD k true = true) {val : Nat → Value}
    (hval : ∀ i o d, l[i]? = some o → o.dst = some d → listed.getD i true = true → a.tmps[d]? = some (valOf Vs val i) ∧ Tells (Nat.beq i q || !listed.getD q false) (vsAt Vs i) (valOf Vs val i) w) :
    Fits N (frontEnv Vs val 0 m l ++ e) a := by
  refine ⟨hM.size, hM.defers, fun t v hv => ?_⟩
  rw [look_append] at hv
  cases hp : look (frontEnv Vs val 0 m l) t with
  | some u =>
    rw [hp] at hv; simp at hv; subst hv
    obtain ⟨j, o, hj, ho, hd, rfl⟩ := look_frontEnv val _ _ _ _ _ hp
    rw [Nat.zero_add]
    exact (hval j o t ho hd (hall j hj)).1
  | none =>
    rw [hp] at hv; simp at hv
    refine hM.old t v hv (fun i o ho hd => ?_)
    by_cases hi : i < m
    · exact absurd hd (look_front_none l 0 m hp i o hi ho)
    · exact hM.front i (List.getElem?_eq_some_iff.1 ho).1 (by omega)

theorem mid_any {Q : Post} (hdst : dstsOk N l = true) (htl : tailOk m l = true) (hfirm : ∀ i, (vsAt Vs i).firm []) (hA : ∀ v w w', A0 v w → Chg [] w w' → A0 v w') (hqm : q < m) (hpj : ∀ o, l[q]? = some o → (predsOf o).contains j0 = true)
    (hfront : ∀ i o, i < m → l[i]? = some o → FrontOp P N q j0 A0 l Vs e w0 i o)
    (hend : ∀ (val : Nat → Value) (w1 : World), Chg [] w0 w1 → (∀ i, i < m → ∀ o d, l[i]? = some o → o.dst = some d → Tells (Nat.beq i q) (vsAt Vs i) (valOf Vs val i) w1) → (∀ i, i < m → ∀ o, l[i]? = some o → o.dst = none → ∃ v, Tells (Nat.beq i q) (vsAt Vs i) v w1) → (∀ o d, l[j0]? = some o → o.dst = some d → A0 (valOf Vs val j0) w1) → WL P N l.toArray (l.drop m) Q (frontEnv Vs val 0 m l ++ e) w1) :
    ∀ (fuel : Nat) (listed : Array Bool) (a : Act) (w : World), openCount listed l.length = fuel → Mid N q j0 A0 l m Vs e w0 listed a w → wpAny P .any l.toArray (Lift N Q) fuel listed a w := by
  have hml : m ≤ l.length := by
    unfold tailOk at htl
    simp only [Bool.and_eq_true] at htl
    exact Nat.le_of_ble_eq_true htl.1.1
  -- all front operations have come up: the tail
  have hdone : ∀ (listed : Array Bool) (a : Act) (w : World), Mid N q j0 A0 l m Vs e w0 listed a w → (∀ k, k < m → listed.getD k true = true) → wpAny P .any l.toArray (Lift N Q) (l.drop m).length listed a w := by
    intro listed a w hM hall
    obtain ⟨val, hval⟩ := hM.vals
    have hW := hend val w hM.chg (fun i hi o d ho hd => (hval i o d ho hd (hall i hi)).2.less (fun h => by rw [h]; rfl)) (fun i hi o ho hd => let ⟨v, hv⟩ := hM.noval i o ho hd (hall i hi); ⟨v, hv.less (fun h => by rw [h]; rfl)⟩) (fun o d ho hd => by
      have hq0 := hall q hqm
      have hqs : q < listed.size := by rw [hM.lsize]; omega
      obtain ⟨h1, u, h2, h3⟩ := hM.behind (by simp [Array.getD_eq_getD_getElem?, hqs] at hq0 ⊢; exact hq0) o d ho hd
      have h4 := (hval j0 o d ho hd h1).1
      rw [h2] at h4
      injection h4 with h4
      rw [← h4]; exact h3)
    unfold WL at hW
    refine tail_any htl (l.drop m) m listed a w (Nat.le_refl _) rfl hM.lsize (fun k hk => ?_) (hW a (hM.full hall hval))
    by_cases hkm : k < m
    · rw [hall k hkm]; simp [hkm]
    · rw [hM.front k hk (by omega)]; simp [hkm]
  have hcount : ∀ (listed : Array Bool), (∀ k, k < m → listed.getD k true = true) → (∀ i, i < l.length → m ≤ i → listed.getD i true = false) → openCount listed l.length = (l.drop m).length := by
    intro listed h1 h2
    have : ∀ n, n ≤ l.length → openCount listed n = n - m := by
      intro n
      induction n with
      | zero => intro _; simp [openCount]
      | succ n ih =>
        intro hn
        simp only [openCount]
        rw [ih (by omega)]
        by_cases hnm : n < m
        · rw [h1 n hnm]; simp; omega
        · rw [h2 n (by omega) (by omega)]; simp; omega
    rw [this _ (Nat.le_refl _)]; simp
  intro fuel
  induction fuel with
  | zero =>
    intro listed a w hcnt hM
    have hall : ∀ k, k < l.length → listed.getD k true = true := by
      have : ∀ n, openCount listed n = 0 → ∀ k, k < n → listed.getD k true = true := by
        intro n
        induction n with
        | zero => intro _ k hk; omega
        | succ n ih =>
          intro h k hk
          simp only [openCount] at h
          by_cases hkn : k = n
          · subst hkn
            cases hx : listed.getD k true with
            | true => rfl
            | false => rw [hx] at h; simp at h
          · exact ih (by omega) k (by omega)
      exact this _ hcnt
    have hd := hdone listed a w hM (fun k hk => hall k (by omega))
    rw [← hcount listed (fun k hk => hall k (by omega)) hM.front, hcnt] at hd
    exact hd
  | succ fuel ih =>
    intro listed a w hcnt hM
    by_cases hall : ∀ k, k < m → listed.getD k true = true
    · have hd := hdone listed a w hM hall
      rw [← hcount listed hall hM.front, hcnt] at hd
      exact hd
    · -- some front operation is open: the least one may come up; and whatever may come up is a front operation
      have hready : ∀ i, i ∈ Region.ready .any l.toArray listed → i < m := by
        intro i hi
        obtain ⟨o, ho, hun, hpre⟩ := ready_spec hi
        rcases Nat.lt_or_ge i m with h | h
        · exact h
        · exfalso
          have hil := (List.getElem?_eq_some_iff.1 ho).1
          rcases Nat.lt_or_ge m i with h2 | h2
          · have h3 := hpre (i - 1) ((tail_preds htl ho).1 h2)
            have h4 := hM.front (i - 1) (by omega) (by omega)
            have hsz : i - 1 < listed.size := by rw [hM.lsize]; omega
            simp [Array.getD_eq_getD_getElem?, hsz] at h3 h4
            rw [h3] at h4; cases h4
          · have hmi : i = m := by omega
            subst hmi
            refine hall (fun k hk => ?_)
            have h3 := tail_all htl hM ho hpre k hk
            have hsz : k < listed.size := by rw [hM.lsize]; omega
            simp [Array.getD_eq_getD_getElem?, hsz] at h3 ⊢; exact h3
      refine ⟨fun hnil => ?_, fun i hi => ?_⟩
      · exfalso
        have hmin : ∃ k, k < m ∧ listed.getD k true = false ∧ ∀ j, j < k → listed.getD j true = true := by
          have : ∀ n, (∃ k, k < n ∧ ¬ listed.getD k true = true) → ∃ k, k < n ∧ listed.getD k true = false ∧ ∀ j, j < k → listed.getD j true = true := by
            intro n
            induction n with
            | zero => rintro ⟨k, hk, _⟩; omega
            | succ n ih =>
              rintro ⟨k, hk, hx⟩
              by_cases hex : ∃ k, k < n ∧ ¬ listed.getD k true = true
              · obtain ⟨k', h1, h2, h3⟩ := ih hex
                exact ⟨k', by omega, h2, h3⟩
              · have hkn : k = n := by
                  rcases Nat.lt_or_ge k n with h | h
                  · exact absurd ⟨k, h, hx⟩ hex
                  · omega
                subst hkn
                refine ⟨k, by omega, by simpa using hx, fun j hj => ?_⟩
                cases hxj : listed.getD j true with
                | true => rfl
                | false => exact absurd ⟨j, hj, by simp [hxj]⟩ hex
          have hex : ∃ k, k < m ∧ ¬ listed.getD k true = true := by
            refine Classical.byContradiction fun hno => hall fun k hk => ?_
            cases hx : listed.getD k true with
            | true => rfl
            | false => exact absurd ⟨k, hk, by simp [hx]⟩ hno
          exact this m hex
        obtain ⟨k, hkm, hku, hkl⟩ := hmin
        have hkl' : k < l.length := by omega
        have ho : l[k]? = some l[k] := List.getElem?_eq_getElem hkl'
        have : k ∈ Region.ready .any l.toArray listed := by
          unfold Region.ready
          simp only [List.mem_filter, List.mem_range, Bool.and_eq_true, Bool.not_eq_true']
          refine ⟨by simpa using hkl', hku, ?_⟩
          simp [hkl']
          intro q hq
          by_cases hb : Region.binds .any l[k].after[q] = true
          · refine .inr ?_
            have hlt := (tail_preds htl ho).2 (l[k].after[q]).on (by
              simp only [predsOf, List.contains_eq_mem, List.mem_map, List.mem_filter, decide_eq_true_eq]
              exact ⟨l[k].after[q], ⟨by simp, hb⟩, rfl⟩)
            have h2 := hkl (l[k].after[q]).on hlt
            have hsz : (l[k].after[q]).on < listed.size := by rw [hM.lsize]; omega
            simp [Array.getD_eq_getD_getElem?, hsz] at h2 ⊢
            exact h2
          · exact .inl (by simpa using hb)
        rw [hnil] at this; cases this
      · have him := hready i hi
        obtain ⟨o, ho, hun, hpre⟩ := ready_spec hi
        have hlit : l.toArray[i]? = some o := by simpa using ho
        obtain ⟨val, hval⟩ := hM.vals
        have hfit := hM.fits hdst ho hun hpre hval
        have hisz : i < listed.size := by rw [hM.lsize]; exact (List.getElem?_eq_some_iff.1 ho).1
        have hil := (List.getElem?_eq_some_iff.1 ho).1
        have hpv : ∀ j, (predsOf o).contains j = true → ∀ oj, l[j]? = some oj → ∀ d, oj.dst = some d → a.tmps[d]? = some (valOf Vs val j) ∧ Tells (bq l q i) (vsAt Vs j) (valOf Vs val j) w := fun j hj oj hoj d hd => by
          have h1 := hpre j hj
          have hsz : j < listed.size := by rw [hM.lsize]; exact (List.getElem?_eq_some_iff.1 hoj).1
          obtain ⟨h2, h3⟩ := hval j oj d hoj hd (by simp [Array.getD_eq_getD_getElem?, hsz] at h1 ⊢; exact h1)
          refine ⟨h2, h3.less (fun h => ?_)⟩
          have hun' : listed.getD q false = false := by
            unfold bq at h
            rw [Bool.or_eq_true] at h
            rcases h with h | h
            · have hiq : i = q := Nat.eq_of_beq_eq_true h
              subst hiq
              simp [Array.getD_eq_getD_getElem?, hisz] at hun ⊢; exact hun
            · cases hoq : l[q]? with
              | none => rw [hoq] at h; cases h
              | some oq =>
                rw [hoq] at h
                have h : (predsOf oq).contains i = true := h
                cases hlq : listed.getD q false with
                | false => rfl
                | true =>
                  have hqs : q < listed.size := by rw [hM.lsize]; exact (List.getElem?_eq_some_iff.1 hoq).1
                  have h5 := hM.down q oq hoq (by simp [Array.getD_eq_getD_getElem?, hqs] at hlq ⊢; exact hlq) i h
                  simp [Array.getD_eq_getD_getElem?, hisz] at h5 hun; rw [hun] at h5; cases h5
          rw [hun']; simp
        have hF := hfront i o him ho val w hM.chg (fun j hj oj d hoj hd => (hpv j hj oj hoj d hd).2)
        have hgo : ∀ v w', Turns q w0.heap.size i w w' ∧ (vsAt Vs i).holds v w' ∧ (i = q → A0 (valOf Vs val j0) w') → wpAny P .any l.toArray (Lift N Q) fuel (listed.setIfInBounds i true) (a.put o.dst v) w' := fun v w' ⟨hc, hv, ha⟩ =>
          ih _ _ _ (by have := openCount_set hisz hun l.length hil; omega) (hM.step hdst ho him hun hpre hfirm hc hv hA (fun hiq oj d hoj hd => by
            subst hiq
            have hj := hpj o ho
            have h1 := hpre j0 hj
            have hsz : j0 < listed.size := by rw [hM.lsize]; exact (List.getElem?_eq_some_iff.1 hoj).1
            exact ⟨by simp [Array.getD_eq_getD_getElem?, hsz] at h1 ⊢; exact h1, _, (hpv j0 hj oj hoj d hd).1, ha rfl⟩))
        unfold wpOp
        rw [hlit]
        simp only
        cases hg : o.guard with
        | none =>
          rw [hg] at hF
          have hwa : Region.wanted o (yielded l.toArray a.tmps) = true := by simp [Region.wanted, hg]
          rw [if_pos hwa]
          unfold OpW at hF
          exact .inl (hF a hfit _ _ hgo)
        | some g =>
          obtain ⟨j, want⟩ := g
          rw [hg] at hF
          obtain ⟨b, hj, hjd, hb, h1, h2⟩ := hF
          have hwa : Region.wanted o (yielded l.toArray a.tmps) = (b == want) := by
            cases hoj : l[j]? with
            | none => simp [hoj] at hjd
            | some oj =>
              cases hd : oj.dst with
              | none => simp [hoj, hd] at hjd
              | some d =>
                have := (hpv j hj oj hoj d hd).1
                unfold Region.wanted yielded
                rcases hb with hb | ⟨hbw, hb⟩
                · rw [hb] at this
                  simp only [hg, List.getElem?_toArray, hoj, Option.bind_some, hd, this]
                  cases b <;> cases want <;> rfl
                · rw [hb] at this
                  simp only [hg, List.getElem?_toArray, hoj, Option.bind_some, hd, this]
                  subst hbw
                  cases want <;> rfl
          rw [hwa]
          by_cases hbw : b = want
          · subst hbw
            rw [if_pos (by simp)]
            have h3 := h1 rfl
            unfold OpW at h3
            exact .inl (h3 a hfit _ _ hgo)
          · have hbn : b = !want := by cases b <;> cases want <;> first | rfl | exact absurd rfl hbw
            rw [if_neg (by simpa using hbw)]
            exact hgo undef w ⟨Turns.none _ _ _ (Chg.refl _ _), (h2 hbn).1, fun h => absurd h (h2 hbn).2⟩

def Firms : List VS → Prop
  | [] => True
  | s :: r => s.firm [] ∧ Firms r
theorem Firms.at : ∀ {Vs : List VS}, Firms Vs → ∀ i, (vsAt Vs i).firm []
  | [], _, i => by simp [vsAt, VS.firm]
  | s :: r, h, 0 => h.1
  | s :: r, h, i + 1 => Firms.at h.2 i
theorem Firms.snoc {s : VS} : ∀ {Vs : List VS}, Firms Vs → s.firm [] → Firms (Vs ++ [s])
  | [], _, h => ⟨h, trivial⟩
  | a :: A, hf, h => ⟨hf.1, Firms.snoc hf.2 h⟩

/-- **A region that draws its order.** m: how many operations stand in front; Vs: what they leave; -/
theorem W_draw {id : Nat} {Q : Post} (m q j0 : Nat) (A0 : Value → World → Prop) (Vs : List VS) (hfol : P.follows .mixedOrders = true) (hdst : dstsOk N l = true) (htl : tailOk m l = true) (hfirms : Firms Vs) (hA : ∀ v w w', A0 v w → Chg [] w w' → A0 v w') (hqm : q < m) (hpj : ∀ o, l[q]? = some o → (predsOf o).contains j0 = true)
    (hfront : Front P N q j0 A0 l Vs e w 0 m l)
    (hend : ∀ (val : Nat → Value) (w1 : World), Chg [] w w1 → (∀ i, i < m → ∀ o d, l[i]? = some o → o.dst = some d → Tells (Nat.beq i q) (vsAt Vs i) (valOf Vs val i) w1) → (∀ i, i < m → ∀ o, l[i]? = some o → o.dst = none → ∃ v, Tells (Nat.beq i q) (vsAt Vs i) v w1) → (∀ o d, l[j0]? = some o → o.dst = some d → A0 (valOf Vs val j0) w1) → WL P N l.toArray (l.drop m) Q (frontEnv Vs val 0 m l ++ e) w1) :
    W P N (.region id l.toArray true) Q e w := by
  have hfirm : ∀ i, (vsAt Vs i).firm [] := fun i => hfirms.at i
  unfold W
  intro a ha
  refine wp_region_any hfol ?_
  have hc0 : openCount (Array.replicate l.length false) l.length = l.length := by
    have : ∀ n, n ≤ l.length → openCount (Array.replicate l.length false) n = n := by
      intro n
      induction n with
      | zero => intro _; rfl
      | succ n ih =>
        intro hn
        have h1 : (Array.replicate l.length false).getD n true = false := by rw [Array.getD_eq_getD_getElem?, Array.getElem?_replicate, if_pos (by omega)]; rfl
        simp only [openCount]; rw [ih (by omega), h1]; rfl
    exact this _ (Nat.le_refl _)
  have hM : Mid N q j0 A0 l m Vs e w (Array.replicate l.length false) a { w with drawn := w.drawn + 1 } := by
    refine ⟨ha.size, ha.defers, Chg.drawn [] w _, by simp, fun i hi _ => by simp [Array.getD_eq_getD_getElem?, hi], fun i o ho hl => ?_, fun t v hv _ => ha.look t v hv, fun i o d ho _ hl => ?_, fun i o ho _ hl => ?_, fun hlq => ?_⟩
    · have hi := (List.getElem?_eq_some_iff.1 ho).1
      simp [Array.getD_eq_getD_getElem?, hi] at hl
    · have hi := (List.getElem?_eq_some_iff.1 ho).1
      simp [Array.getD_eq_getD_getElem?, hi] at hl
    · have hi := (List.getElem?_eq_some_iff.1 ho).1
      simp [Array.getD_eq_getD_getElem?, hi] at hl
    · exfalso
      by_cases hx : q < l.length <;> simp [Array.getD_eq_getD_getElem?, hx] at hlq
  have := mid_any (P := P) (Q := Q) hdst htl hfirm hA hqm hpj (fun i o him ho => by simpa using Front.get l 0 m hfront i o him ho) hend l.length _ _ _ hc0 hM
  simpa using this

/-! ### The same, walked in the text's order: what an operation leaves is found on the way -/
/-- Operation i, what the elder ones leave being Vs; it leaves s. -/
def StepP (P : Program) (N : Nat) (q j0 : Nat) (A0 : Value → World → Prop) (l : List Oper) (Vs : List VS) (e : Env) (w : World) (i : Nat) (o : Oper) (s : VS) : Prop :=
  ∀ (val : Nat → Value) (w1 : World), Chg [] w w1 → (∀ j, (predsOf o).contains j = true → ∀ oj d, l[j]? = some oj → oj.dst = some d → Tells (bq l q i) (vsAt Vs j) (valOf Vs val j) w1) →
    match o.guard with
    | none => OpW P N o (opEnv l Vs e i o val) w1 (fun v w' => Turns q w.heap.size i w1 w' ∧ s.holds v w' ∧ (i = q → A0 (valOf Vs val j0) w'))
    | some (j, want) => ∃ b, (predsOf o).contains j = true ∧ ((l[j]?).bind (·.dst)).isSome = true ∧ (valOf Vs val j = .bool b ∨ (b = (!want) ∧ valOf Vs val j = undef)) ∧
        (b = want → OpW P N o (opEnv l Vs e i o val) w1 (fun v w' => Turns q w.heap.size i w1 w' ∧ s.holds v w' ∧ (i = q → A0 (valOf Vs val j0) w'))) ∧ (b = !want → s.holds undef w1 ∧ i ≠ q)
def Walk (P : Program) (N : Nat) (q j0 : Nat) (A0 : Value → World → Prop) (l : List Oper) (e : Env) (w : World) (fin : List VS → Prop) : Nat → List Oper → List VS → Prop
  | _, [], Vs => fin Vs
  | i, o :: r, Vs => ∃ s : VS, s.firm [] ∧ StepP P N q j0 A0 l Vs e w i o s ∧ Walk P N q j0 A0 l e w fin (i + 1) r (Vs ++ [s])

theorem walk_front (htl : tailOk m l = true) (hml : m ≤ l.length) (hpj : ∀ o, l[q]? = some o → (predsOf o).contains j0 = true) {fin : List VS → Prop} : ∀ (r : List Oper) (i : Nat) (Vs : List VS), Vs.length = i → (l.take m).drop i = r → Firms Vs → Walk P N q j0 A0 l e w fin i r Vs →
    ∃ rest : List VS, rest.length = r.length ∧ Firms (Vs ++ rest) ∧ fin (Vs ++ rest) ∧ ∀ k o, r[k]? = some o → FrontOp P N q j0 A0 l (Vs ++ rest) e w (i + k) o
  | [], i, Vs, hi, hr, hf, h => ⟨[], rfl, by simpa using hf, by simpa [Walk] using h, fun k o hk => by simp at hk⟩
  | o :: r, i, Vs, hi, hr, hf, h => by
    obtain ⟨s, hs, hst, hw⟩ := h
    have hr' : (l.take m).drop (i + 1) = r := by rw [← List.drop_drop, hr]; rfl
    have hf' : Firms (Vs ++ [s]) := hf.snoc hs
    obtain ⟨rest, hl, h1, h2, h3⟩ := walk_front htl hml hpj r (i + 1) (Vs ++ [s]) (by simp [hi]) hr' hf' hw
    rw [List.append_assoc] at h1 h2 h3
    refine ⟨s :: rest, by simp [hl], h1, h2, fun k ok hk => ?_⟩
    cases k with
    | zero =>
      simp at hk
      subst hk
      rw [Nat.add_zero]
      have ho : l[i]? = some o := by
        have h4 : ((l.take m).drop i)[0]? = some o := by rw [hr]; rfl
        rw [List.getElem?_drop, Nat.add_zero, List.getElem?_take] at h4
        split at h4
        · exact h4
        · cases h4
      have hpl : ∀ j, (predsOf o).contains j = true → j < Vs.length := fun j hj => by rw [hi]; exact (tail_preds htl ho).2 j hj
      have hpe : ∀ val, opEnv l (Vs ++ s :: rest) e i o val = opEnv l Vs e i o val := fun val => by
        unfold opEnv; rw [predEnv_append _ (fun j hj => hpl j (by simpa using hj))]
      have hvs : vsAt (Vs ++ s :: rest) i = s := by rw [← hi]; exact vsAt_at
      intro val w1 hc hp
      have hq := hst val w1 hc (fun j hj oj d h5 h6 => by
        have := hp j hj oj d h5 h6
        rw [vsAt_append (hpl j hj), valOf_append (hpl j hj)] at this; exact this)
      rw [hpe val, hvs]
      have hA0 : ∀ val w', i = q → A0 (valOf Vs val j0) w' → A0 (valOf (Vs ++ s :: rest) val j0) w' := fun val w' hiq h => by
        subst hiq
        rw [valOf_append (hpl j0 (hpj o ho))]; exact h
      cases hg : o.guard with
      | none => rw [hg] at hq; exact OpW_mono' hq (fun v w' hh => ⟨hh.1, hh.2.1, fun hi => hA0 val w' hi (hh.2.2 hi)⟩)
      | some g =>
        obtain ⟨j, want⟩ := g
        rw [hg] at hq
        obtain ⟨b, h5, h6, h7, h8, h9⟩ := hq
        exact ⟨b, h5, h6, by rw [valOf_append (hpl j h5)]; exact h7, fun hb => OpW_mono' (h8 hb) (fun v w' hh => ⟨hh.1, hh.2.1, fun hi => hA0 val w' hi (hh.2.2 hi)⟩), h9⟩
    | succ k =>
      have := h3 k ok (by simpa using hk)
      rw [show i + (k + 1) = i + 1 + k from by omega]; exact this

theorem front_of {Vs : List VS} : ∀ (r : List Oper) (i k : Nat), (∀ j o, j < k → r[j]? = some o → FrontOp P N q j0 A0 l Vs e w (i + j) o) → Front P N q j0 A0 l Vs e w i k r
  | [], i, k, h => by cases k <;> exact trivial
  | o :: r, i, 0, h => trivial
  | o :: r, i, k + 1, h => ⟨h 0 o (by omega) rfl, front_of r (i + 1) k (fun j oj hj hoj => by
      have := h (j + 1) oj (by omega) (by simpa using hoj)
      rw [show i + 1 + j = i + (j + 1) from by omega]; exact this)⟩

/-- **A region that draws, walked in the text's order.** -/
theorem W_walkrf {id : Nat} {Q : Post} (m q j0 : Nat) (A0 : Value → World → Prop) (hA : ∀ v w w', A0 v w → Chg [] w w' → A0 v w') (hqm : q < m) (hpj : ∀ o, l[q]? = some o → (predsOf o).contains j0 = true) (hfol : P.follows .mixedOrders = true) (hdst : dstsOk N l = true) (htl : tailOk m l = true)
    (h : Walk P N q j0 A0 l e w (fun Vs => ∀ (val : Nat → Value) (w1 : World), Chg [] w w1 → (∀ i, i < m → ∀ o d, l[i]? = some o → o.dst = some d → Tells (Nat.beq i q) (vsAt Vs i) (valOf Vs val i) w1) → (∀ i, i < m → ∀ o, l[i]? = some o → o.dst = none → ∃ v, Tells (Nat.beq i q) (vsAt Vs i) v w1) → (∀ o d, l[j0]? = some o → o.dst = some d → A0 (valOf Vs val j0) w1) → WL P N l.toArray (l.drop m) Q (frontEnv Vs val 0 m l ++ e) w1) 0 (l.take m) []) :
    W P N (.region id l.toArray true) Q e w := by
  have hml : m ≤ l.length := by
    have h2 := htl
    unfold tailOk at h2
    simp only [Bool.and_eq_true] at h2
    exact Nat.le_of_ble_eq_true h2.1.1
  obtain ⟨rest, hl, h1, h2, h3⟩ := walk_front htl hml hpj (l.take m) 0 [] rfl (by simp) trivial h
  rw [List.nil_append] at h1 h2 h3
  refine W_draw m q j0 A0 rest hfol hdst htl h1 hA hqm hpj (front_of l 0 m fun j o hj ho => ?_) h2
  exact h3 j o (by rw [List.getElem?_take, if_pos hj]; exact ho)

theorem Walk.mono {fin fin' : List VS → Prop} (hf : ∀ Vs, fin Vs → fin' Vs) : ∀ (r : List Oper) (i : Nat) (Vs : List VS), Walk P N q j0 A0 l e w fin i r Vs → Walk P N q j0 A0 l e w fin' i r Vs
  | [], _, Vs, h => hf Vs h
  | _ :: r, i, Vs, ⟨s, h1, h2, h3⟩ => ⟨s, h1, h2, Walk.mono hf r (i + 1) (Vs ++ [s]) h3⟩
theorem Walk.plain {fin : List VS → Prop} {i : Nat} {r : List Oper} {Vs : List VS} {o : Oper} {v : Value} (hiq : i ≠ q) (hg : o.guard = none)
    (h : ∀ (val : Nat → Value) (w1 : World), Chg [] w w1 → (∀ j, (predsOf o).contains j = true → ∀ oj d, l[j]? = some oj → oj.dst = some d → Tells (bq l q i) (vsAt Vs j) (valOf Vs val j) w1) → OpW P N o (opEnv l Vs e i o val) w1 (fun u w' => Chg [] w1 w' ∧ u = v))
    (hr : Walk P N q j0 A0 l e w fin (i + 1) r (Vs ++ [.c v])) : Walk P N q j0 A0 l e w fin i (o :: r) Vs := by
  refine ⟨.c v, trivial, fun val w1 hc hp => ?_, hr⟩
  rw [hg]
  exact OpW_mono' (h val w1 hc hp) (fun u w' ⟨h1, h2⟩ => ⟨Turns.none _ _ _ h1, h2, fun h => absurd h hiq⟩)
theorem Walk.guardT {fin : List VS → Prop} {i j : Nat} {want : Bool} {r : List Oper} {Vs : List VS} {o : Oper} {v : Value} (hiq : i ≠ q) (hg : o.guard = some (j, want)) (hj : (predsOf o).contains j = true) (hjd : ((l[j]?).bind (·.dst)).isSome = true) (hb : ∀ val, valOf Vs val j = .bool want)
    (h : ∀ (val : Nat → Value) (w1 : World), Chg [] w w1 → (∀ j, (predsOf o).contains j = true → ∀ oj d, l[j]? = some oj → oj.dst = some d → Tells (bq l q i) (vsAt Vs j) (valOf Vs val j) w1) → OpW P N o (opEnv l Vs e i o val) w1 (fun u w' => Chg [] w1 w' ∧ u = v))
    (hr : Walk P N q j0 A0 l e w fin (i + 1) r (Vs ++ [.c v])) : Walk P N q j0 A0 l e w fin i (o :: r) Vs := by
  refine ⟨.c v, trivial, fun val w1 hc hp => ?_, hr⟩
  rw [hg]
  exact ⟨want, hj, hjd, .inl (hb val), (fun _ => OpW_mono' (h val w1 hc hp) (fun u w' ⟨h1, h2⟩ => ⟨Turns.none _ _ _ h1, h2, fun h => absurd h hiq⟩)), (fun hn => by cases want <;> cases hn)⟩
theorem Walk.guardR {fin : List VS → Prop} {i j : Nat} {want : Bool} {r : List Oper} {Vs : List VS} {o : Oper} (R : Value → World → Prop) (hiq : i ≠ q) (hg : o.guard = some (j, want)) (hj : (predsOf o).contains j = true) (hjd : ((l[j]?).bind (·.dst)).isSome = true) (hb : ∀ val, valOf Vs val j = .bool want) (hR : ∀ v w w', R v w → Chg [] w w' → R v w')
    (h : ∀ (val : Nat → Value) (w1 : World), Chg [] w w1 → (∀ j, (predsOf o).contains j = true → ∀ oj d, l[j]? = some oj → oj.dst = some d → Tells (bq l q i) (vsAt Vs j) (valOf Vs val j) w1) → OpW P N o (opEnv l Vs e i o val) w1 (fun u w' => Chg [] w1 w' ∧ R u w'))
    (hr : Walk P N q j0 A0 l e w fin (i + 1) r (Vs ++ [.r R])) : Walk P N q j0 A0 l e w fin i (o :: r) Vs := by
  refine ⟨.r R, hR, fun val w1 hc hp => ?_, hr⟩
  rw [hg]
  exact ⟨want, hj, hjd, .inl (hb val), (fun _ => OpW_mono' (h val w1 hc hp) (fun u w' ⟨h1, h2⟩ => ⟨Turns.none _ _ _ h1, h2, fun h => absurd h hiq⟩)), (fun hn => by cases want <;> cases hn)⟩
/-- The one that turns what the region has made. -/
theorem Walk.guardQ {fin : List VS → Prop} {i j : Nat} {want : Bool} {r : List Oper} {Vs : List VS} {o : Oper} (hi : i = q) (R : Value → World → Prop) (hg : o.guard = some (j, want)) (hj : (predsOf o).contains j = true) (hjd : ((l[j]?).bind (·.dst)).isSome = true) (hb : ∀ val, valOf Vs val j = .bool want) (hR : ∀ v w w', R v w → Chg [] w w' → R v w')
    (h : ∀ (val : Nat → Value) (w1 : World), Chg [] w w1 → (∀ j, (predsOf o).contains j = true → ∀ oj d, l[j]? = some oj → oj.dst = some d → (vsAt Vs j).holds (valOf Vs val j) w1) → OpW P N o (opEnv l Vs e i o val) w1 (fun u w' => (∃ S : List Nat, (∀ k ∈ S, w.heap.size ≤ k) ∧ Chg S w1 w') ∧ R u w' ∧ A0 (valOf Vs val j0) w'))
    (hr : Walk P N q j0 A0 l e w fin (i + 1) r (Vs ++ [.r R])) : Walk P N q j0 A0 l e w fin i (o :: r) Vs := by
  refine ⟨.r R, hR, fun val w1 hc hp => ?_, hr⟩
  rw [hg]
  have hp' : ∀ j, (predsOf o).contains j = true → ∀ oj d, l[j]? = some oj → oj.dst = some d → (vsAt Vs j).holds (valOf Vs val j) w1 := fun j h1 oj d h2 h3 => by
    have h4 := hp j h1 oj d h2 h3
    have hb : bq l q i = true := by rw [hi]; exact bq_self l q
    revert h4
    cases vsAt Vs j with
    | c u => exact fun h => h
    | r R => exact fun h => h.1 hb
  exact ⟨want, hj, hjd, .inl (hb val), (fun _ => OpW_mono' (h val w1 hc hp') (fun u w' ⟨⟨S, h1, h2⟩, h3, h4⟩ => ⟨⟨S, fun k hk => ⟨h1 k hk, hi⟩, h2⟩, h3, fun _ => h4⟩)), (fun hn => by cases want <;> cases hn)⟩
/-- The one that turns what the region has made. -/
theorem Walk.turnQ {fin : List VS → Prop} {i : Nat} {r : List Oper} {Vs : List VS} {o : Oper} (hi : i = q) (R : Value → World → Prop) (hg : o.guard = none) (hR : ∀ v w w', R v w → Chg [] w w' → R v w')
    (h : ∀ (val : Nat → Value) (w1 : World), Chg [] w w1 → (∀ j, (predsOf o).contains j = true → ∀ oj d, l[j]? = some oj → oj.dst = some d → (vsAt Vs j).holds (valOf Vs val j) w1) → OpW P N o (opEnv l Vs e i o val) w1 (fun u w' => (∃ S : List Nat, (∀ k ∈ S, w.heap.size ≤ k) ∧ Chg S w1 w') ∧ R u w' ∧ A0 (valOf Vs val j0) w'))
    (hr : Walk P N q j0 A0 l e w fin (i + 1) r (Vs ++ [.r R])) : Walk P N q j0 A0 l e w fin i (o :: r) Vs := by
  refine ⟨.r R, hR, fun val w1 hc hp => ?_, hr⟩
  rw [hg]
  have hp' : ∀ j, (predsOf o).contains j = true → ∀ oj d, l[j]? = some oj → oj.dst = some d → (vsAt Vs j).holds (valOf Vs val j) w1 := fun j h1 oj d h2 h3 => by
    have h4 := hp j h1 oj d h2 h3
    have hb : bq l q i = true := by rw [hi]; exact bq_self l q
    revert h4
    cases vsAt Vs j with
    | c u => exact fun h => h
    | r R => exact fun h => h.1 hb
  exact OpW_mono' (h val w1 hc hp') (fun u w' ⟨⟨S, h1, h2⟩, h3, h4⟩ => ⟨⟨S, fun k hk => ⟨h1 k hk, hi⟩, h2⟩, h3, fun _ => h4⟩)
theorem Walk.rel {fin : List VS → Prop} {i : Nat} {r : List Oper} {Vs : List VS} {o : Oper} (R : Value → World → Prop) (hiq : i ≠ q) (hg : o.guard = none) (hR : ∀ v w w', R v w → Chg [] w w' → R v w')
    (h : ∀ (val : Nat → Value) (w1 : World), Chg [] w w1 → (∀ j, (predsOf o).contains j = true → ∀ oj d, l[j]? = some oj → oj.dst = some d → Tells (bq l q i) (vsAt Vs j) (valOf Vs val j) w1) → OpW P N o (opEnv l Vs e i o val) w1 (fun u w' => Chg [] w1 w' ∧ R u w'))
    (hr : Walk P N q j0 A0 l e w fin (i + 1) r (Vs ++ [.r R])) : Walk P N q j0 A0 l e w fin i (o :: r) Vs := by
  refine ⟨.r R, hR, fun val w1 hc hp => ?_, hr⟩
  rw [hg]
  exact OpW_mono' (h val w1 hc hp) (fun u w' ⟨h1, h2⟩ => ⟨Turns.none _ _ _ h1, h2, fun h => absurd h hiq⟩)
theorem Walk.fin {fin : List VS → Prop} {i : Nat} {Vs : List VS} (h : fin Vs) : Walk P N q j0 A0 l e w fin i [] Vs := h
attribute [irreducible] Walk
end
end Go.Vc.G
