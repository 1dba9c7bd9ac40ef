import Derived.Test.YtbhnplghnhafiaaDoorDsk3
import Derived.Test.YtbhnplghnhafiaaDoorClone
/-! Files: how many bytes; names; Create, Rename, Remove; the scalars. -/
set_option linter.unusedVariables false
set_option linter.unusedSimpArgs false
namespace Go.Vc
open Go
def lenAt (s : FsM) (k : Nm) : Nat := match looks s.dir k with
  | some i => lenOf s i
  | none => 0
theorem usedM_eq {s : FsM} (h : FsOk s) : usedM s = ((s.dir.map (·.1)).map (lenAt s)).sum := by
  unfold usedM
  rw [List.map_map]
  congr 1
  refine List.map_congr_left fun p hp => ?_
  simp only [Function.comp, lenAt, looks_of_mem h.dir.up (k := p.1) (i := p.2) hp]
theorem lenAt_le {s : FsM} (h : FsOk s) (k : Nm) : lenAt s k ≤ 4194304 := by
  unfold lenAt
  split
  · exact lenOf_le h _
  · omega
theorem at2_isSome {fb : List (Nat × Value)} {d : Dir} (hd : DirOk fb.length d) (k : Nm) : (at2 fb d k).isSome = true ↔ k ∈ d.map (·.1) := by
  rw [← looks_isSome]
  unfold at2
  cases hl : looks d k with
  | none => simp
  | some i =>
    have := (hd.name _ (looks_mem hl)).2
    simp [List.getElem?_eq_getElem this]
theorem at2_inv {fb : List (Nat × Value)} {d : Dir} {k : Nm} {b : Nat} (h : at2 fb d k = some b) : ∃ (i : Nat) (q : Nat × Value), looks d k = some i ∧ fb[i]? = some q ∧ b = q.1 := by
  unfold at2 at h
  cases hl : looks d k with
  | none => rw [hl] at h; cases h
  | some i =>
    rw [hl] at h
    cases hq : fb[i]? with
    | none => simp [hq] at h
    | some q => simp [hq] at h; exact ⟨i, q, rfl, hq, h.symm⟩
end Go.Vc
namespace Go.Proofs.YtbhnplghnhafiaaDoor.Tryd
open Go Go.Vc
theorem FsAt.dirOk {w : World} {g : Nat} {s : FsM} {p : FsP} (x : FsAt w g s p) : DirOk p.fb.length s.dir := by rw [x.len]; exact x.ok.dir
theorem FsAt.get {w : World} {g : Nat} {s : FsM} {p : FsP} (x : FsAt w g s p) {k : Nm} {i : Nat} (hl : looks s.dir k = some i) : ∃ (q : Nat × Value) (f : FileM), p.fb[i]? = some q ∧ s.files[i]? = some f := by
  have h := (x.dirOk.name _ (looks_mem hl)).2
  have h2 := h
  rw [x.len] at h2
  exact ⟨_, _, List.getElem?_eq_getElem h, List.getElem?_eq_getElem h2⟩

set_option maxHeartbeats 1000000 in
theorem used_has (g : Nat) (s : FsM) (p : FsP) (w : World) (x : FsAt w g s p) : Has Go.Proofs.Tryd.prog 12 #[ptrV g] w (fun v w' => Chg [] w w' ∧ v = .int .i64 (usedM s)) := by
  refine enter Go.Proofs.Tryd.func12 rfl rfl (by decide) rfl (e := [(0, ptrV g)]) ⟨rfl, trivial⟩ ?_
  unfold ptrV
  have hb := x.blk
  have hd := x.dirOk
  have hnd := hd.up.nodup
  repeat (first | refine W_seq ?_ | refine W_region ?_ | refine Then_n ?_ | refine WL_nil ?_ | refine W_condT rfl ?_ | refine WL_some rfl rfl rfl ?_ | refine op_move rfl rfl ?_ | refine op_assign rfl rfl ?_ | refine op_nilCheck rfl rfl ?_ | refine op_fieldAddr T rfl rfl rfl rfl rfl rfl rfl rfl ?_ | refine op_neq_nilptr T rfl rfl rfl rfl rfl ?_ | refine op_loadB T rfl rfl rfl rfl (by assumption) (by exact rfl) ?_)
  refine op_range T strKey rfl rfl rfl x.dirM (fun it w1 hsi hc1 hI1 => ?_)
  repeat (first | refine W_block ?_ | refine Then_n ?_ | refine WL_nil ?_)
  refine W_loop (σ := List Nm) (fun ks => [(0, .pointer (some ⟨g, 0, none⟩)), (3, .int .i64 ((ks.map (lenAt s)).sum : Nat)), (12, .pointer (some ⟨it, 0, none⟩))])
    (fun (ks : List Nm) w' => Chg [] w w' ∧ IterAt keyV ptrV w' it p.md (at2 p.fb s.dir) ks) (fun ks => 151 - ks.length) [] ⟨rfl, rfl, rfl, trivial⟩ ⟨hc1, hI1⟩ ?_
  rintro ks w2 ⟨hc2, hI2⟩
  have hin : ∀ k ∈ ks, k ∈ s.dir.map (·.1) := fun k hk => by
    obtain ⟨b, hb⟩ := hI2.mem k hk
    exact (at2_isSome hd k).1 (by rw [hb]; rfl)
  have hkl := nodup_length ks _ hI2.nodup hin
  have hfew := hd.few
  rw [List.length_map] at hkl
  have hsum := sum_le (lenAt s) 4194304 (lenAt_le x.ok) ks
  repeat (first | refine W_seq ?_ | refine W_region ?_ | refine WL_some rfl rfl rfl ?_)
  refine op_next strKey rfl rfl hI2 (fun hall => ?_) (fun k b w3 hf hkn hc3 hs3 hI3 => ?_)
  · have hp : ks.Perm (s.dir.map (·.1)) := (List.perm_ext_iff_of_nodup hI2.nodup hnd).2 fun k => ⟨hin k, fun hk => by
      obtain ⟨b, hb⟩ := Option.isSome_iff_exists.1 ((at2_isSome hd k).2 hk)
      exact hall k b hb⟩
    have hu : (ks.map (lenAt s)).sum = usedM s := by rw [usedM_eq x.ok]; exact (hp.map (lenAt s)).sum_nat
    rw [hu]
    repeat (first | refine W_seq ?_ | refine W_region ?_ | refine W_exit ?_ | refine W_ret ?_ | refine Then_n ?_ | refine Then_x ?_ | refine InBlock_hit ?_ | refine Round_x ?_ | refine WL_nil ?_ | refine W_condF rfl ?_ | refine WL_some rfl rfl rfl ?_ | refine op_move rfl rfl ?_ | refine op_assign rfl rfl ?_ | refine op_extract rfl rfl rfl ?_)
    exact post1 (.inl rfl) rfl rfl ⟨hc2, rfl⟩
  · obtain ⟨i, q, hl, hq, rfl⟩ := at2_inv hf
    obtain ⟨q', f, hq', hfi⟩ := x.get hl
    rw [hq] at hq'; injection hq' with hq'; subst hq'
    have hc03 : Chg [] w w3 := hc2.trans hc3 (fun j hj hlt => by simp at hj; omega)
    have hbf := (x.fblk i q f hq hfi).keep0 hc03
    obtain ⟨A, c, hv, hv1, hv2⟩ := (x.fown i q f hq hfi).form
    rw [hv] at hbf
    have hla : lenAt s k = f.b.length := by unfold lenAt lenOf; rw [hl]; simp [hfi]
    have hfl := (x.ok.files f (List.mem_of_getElem? hfi)).2
    repeat (first | refine W_seq ?_ | refine W_block ?_ | refine W_region ?_ | refine W_skip ?_ | refine Then_n ?_ | refine WL_nil ?_ | refine W_condT rfl ?_ | refine WL_some rfl rfl rfl ?_ | refine op_extract rfl rfl rfl ?_)
    refine op_entry strKey rfl rfl hI3 hf ?_
    unfold ptrV
    repeat (first | refine W_region ?_ | refine Then_n ?_ | refine InBlock_n ?_ | refine WL_nil ?_ | refine WL_some rfl rfl rfl ?_ | refine op_move rfl rfl ?_ | refine op_assign rfl rfl ?_ | refine op_len_slice T rfl rfl rfl rfl ?_ | refine op_add rfl rfl rfl (wrap_i64_in (by omega) (by omega)) ?_ | refine op_extract rfl rfl rfl ?_ | refine op_nilCheck rfl rfl ?_ | refine op_fieldAddr T rfl rfl rfl rfl rfl rfl rfl rfl ?_ | refine op_loadB T rfl rfl rfl rfl (by assumption) (by exact rfl) ?_)
    have hin3 : ∀ k' ∈ ks ++ [k], k' ∈ s.dir.map (·.1) := fun k' hk' => by
      obtain ⟨b, hb⟩ := hI3.mem k' hk'
      exact (at2_isSome hd k').1 (by rw [hb]; rfl)
    have hkl3 := nodup_length (ks ++ [k]) _ hI3.nodup hin3
    rw [List.length_map, List.length_append] at hkl3
    simp at hkl3
    refine Round_n (ks ++ [k]) ⟨rfl, ?_, rfl, trivial⟩ ⟨hc03, hI3⟩ (by simp; omega)
    rw [List.map_append, List.sum_append]
    simp only [List.map_cons, List.map_nil, List.sum_cons, List.sum_nil, hla]
    exact some_int (by omega)

theorem roomF_has (g : Nat) (s : FsM) (p : FsP) (n : Int) (w : World) (x : FsAt w g s p) : Has Go.Proofs.Tryd.prog 13 #[ptrV g, .int .i64 n] w (fun v w' => Chg [g] w w' ∧ FsAt w' g { s with room := roomM n } p) := by
  refine enter Go.Proofs.Tryd.func13 rfl rfl (by decide) rfl (e := [(0, ptrV g), (1, .int .i64 n)]) ⟨rfl, rfl, trivial⟩ ?_
  unfold ptrV
  have hb := x.blk
  repeat (first | refine W_seq ?_ | refine W_region ?_ | refine Then_n ?_ | refine WL_nil ?_ | refine W_condT rfl ?_ | refine WL_some rfl rfl rfl ?_ | refine op_move rfl rfl ?_ | refine op_neq_nilptr T rfl rfl rfl rfl rfl ?_)
  refine op_call rfl rfl rfl (room_has n w) ?_
  rintro _ w1 ⟨rfl, rfl⟩
  repeat (first | refine WL_some rfl rfl rfl ?_ | refine WL_none rfl rfl ?_ | refine op_nilCheck rfl rfl ?_ | refine op_fieldAddr T rfl rfl rfl rfl rfl rfl rfl rfl ?_)
  refine op_store T rfl rfl rfl rfl rfl rfl hb (Nat.le_of_ble_eq_true rfl) (fun w2 hc1 hb1 _ => ?_)
  repeat (refine WL_nil ?_)
  exact post0 (.inr rfl) rfl ⟨hc1, x.scalars hc1 hb1 (roomM_ok x.ok n)⟩
theorem newFs_has (n : Int) (w : World) : Has Go.Proofs.Tryd.prog 8 #[.int .i64 n] w (fun v w' => Chg [] w w' ∧ ∃ g p, v = ptrV g ∧ FsAt w' g (newM n) p ∧ ∀ k ∈ p.fp g, w.heap.size ≤ k) := by
  refine enter Go.Proofs.Tryd.func8 rfl rfl (by decide) rfl (e := [(0, .int .i64 n)]) ⟨rfl, trivial⟩ ?_
  repeat (first | refine W_seq ?_ | refine W_region ?_ | refine Then_n ?_ | refine WL_nil ?_ | refine WL_some rfl rfl rfl ?_ | refine op_move rfl rfl ?_ | refine op_assign rfl rfl ?_)
  refine op_call rfl rfl rfl (room_has n w) ?_
  rintro _ w1 ⟨rfl, rfl⟩
  repeat (refine WL_some rfl rfl rfl ?_)
  refine op_makeMap keyV ptrV rfl (fun md w2 hs2 hc2 hm2 => ?_)
  repeat (refine WL_some rfl rfl rfl ?_)
  refine op_makeMap keyV ptrV rfl (fun ml w3 hs3 hc3 hm3 => ?_)
  repeat (first | refine WL_some rfl rfl rfl ?_ | refine op_build T rfl rfl rfl rfl rfl rfl ?_)
  refine op_box rfl rfl (fun g w4 hs4 hc4 hg4 => ?_)
  repeat (first | refine W_ret ?_ | refine Then_n ?_ | refine WL_nil ?_ | refine WL_some rfl rfl rfl ?_ | refine op_assign rfl rfl ?_)
  have hml := hm2.lt
  have h2 := hc2.size
  have h3 := hc3.size
  refine post1 (.inl rfl) rfl rfl ⟨(hc2.trans' hc3).trans' hc4, g, ⟨md, ml, .slice none 0 0, []⟩, rfl, ⟨newM_ok n, hg4, (hm2.keep0 (hc3.trans' hc4)).congr (fun k => rfl), (hm3.keep0 hc4).congr (fun k => rfl), Own.nil _ _ _, rfl, fun i q f h => by simp at h, fun i q f h => by simp at h, (show md ≠ ml by omega), List.nodup_nil, fun i j q q' h h1 => by simp at h1⟩, fun k hk => ?_⟩
  rcases FsP.mem_fp.1 hk with h | h | h | h | ⟨q, hq, h⟩
  · omega
  · have h : k = md := h
    omega
  · have h : k = ml := h
    omega
  · cases h
  · cases hq

/-- What a call leaves. -/
def FsDone (w : World) (g : Nat) (p : FsP) (r : FsM × Int) (v : Value) (w' : World) : Prop := Chg (p.fp g) w w' ∧ v = .int .i64 r.2 ∧ ∃ p', FsAt w' g r.1 p' ∧ Grows w g p p'
theorem mem_fp_self (p : FsP) (g : Nat) : g ∈ p.fp g := FsP.mem_fp.2 (.inl rfl)
theorem chg_self {w w' : World} {p : FsP} {g : Nat} (h : Chg [g] w w') : Chg (p.fp g) w w' := h.mono (fun k hk _ => by simp at hk; subst hk; exact mem_fp_self p k)

end Go.Proofs.YtbhnplghnhafiaaDoor.Tryd
