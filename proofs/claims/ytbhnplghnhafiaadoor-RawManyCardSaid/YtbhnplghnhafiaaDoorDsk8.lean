import Derived.Test.YtbhnplghnhafiaaDoorDsk7
/-! Files: Rot. -/
set_option linter.unusedVariables false
set_option linter.unusedSimpArgs false
namespace Go.Vc
open Go
def rotC (x : UInt8) (i : Nat) (c : UInt8) : UInt8 := c ^^^ (x + UInt8.ofNat (i % 64))
def rotTo (b : List UInt8) (sec : Nat) (x : UInt8) (j : Nat) : List UInt8 := b.mapIdx fun i c => if sec * 64 ≤ i ∧ i < j then rotC x i c else c
theorem rotTo_length (b : List UInt8) (sec : Nat) (x : UInt8) (j : Nat) : (rotTo b sec x j).length = b.length := by simp [rotTo]
theorem rotTo_get {b : List UInt8} {sec : Nat} {x : UInt8} {j i : Nat} {c : UInt8} (h : b[i]? = some c) : (rotTo b sec x j)[i]? = some (if sec * 64 ≤ i ∧ i < j then rotC x i c else c) := by
  simp [rotTo, List.getElem?_mapIdx, h]
theorem rotTo_start (b : List UInt8) (sec : Nat) (x : UInt8) : rotTo b sec x (sec * 64) = b := by
  apply List.ext_getElem?
  intro i
  cases h : b[i]? with
  | none => rw [List.getElem?_eq_none_iff] at h ⊢; rw [rotTo_length]; exact h
  | some c => rw [rotTo_get h, if_neg (by omega)]
theorem rotTo_step {b : List UInt8} {sec : Nat} {x : UInt8} {j : Nat} {c : UInt8} (h : b[j]? = some c) (hj : sec * 64 ≤ j) : (rotTo b sec x j).set j (rotC x j c) = rotTo b sec x (j + 1) := by
  apply List.ext_getElem?
  intro i
  rw [List.getElem?_set]
  by_cases e : j = i
  · subst e
    rw [if_pos rfl, rotTo_length, if_pos (List.getElem?_eq_some_iff.1 h).1, rotTo_get h, if_pos ⟨hj, by omega⟩]
  · rw [if_neg e]
    cases hi : b[i]? with
    | none =>
      have h1 := List.getElem?_eq_none_iff.1 hi
      rw [List.getElem?_eq_none_iff.2 (by rw [rotTo_length]; exact h1), List.getElem?_eq_none_iff.2 (by rw [rotTo_length]; exact h1)]
    | some d =>
      rw [rotTo_get hi, rotTo_get hi]
      by_cases h2 : sec * 64 ≤ i ∧ i < j
      · rw [if_pos h2, if_pos ⟨h2.1, by omega⟩]
      · rw [if_neg h2, if_neg (by omega)]
theorem rotTo_end (b : List UInt8) (sec : Nat) (x : UInt8) (j : Nat) (hj : j = min b.length ((sec + 1) * 64)) : rotTo b sec x j = rotB b sec x := by
  unfold rotTo rotB
  apply List.ext_getElem?
  intro i
  rw [List.getElem?_mapIdx, List.getElem?_mapIdx]
  cases h : b[i]? with
  | none => rfl
  | some c =>
    have := (List.getElem?_eq_some_iff.1 h).1
    simp only [Option.map_some]
    by_cases h2 : sec * 64 ≤ i ∧ i < j
    · rw [if_pos h2, if_pos ⟨h2.1, by omega⟩]; rfl
    · rw [if_neg h2, if_neg (by omega)]
theorem add_u8 (x y : UInt8) : IntKind.u8.wrap ((x.toNat : Int) + (y.toNat : Int)) = ((x + y).toNat : Int) := by
  rw [IntKind.wrap_u8, UInt8.toNat_add]; omega
end Go.Vc
namespace Go.Proofs.YtbhnplghnhafiaaDoor.Tryd
open Go Go.Vc

set_option maxHeartbeats 4000000 in
theorem rot_has (g : Nat) (s : FsM) (p : FsP) (k : Nm) (sec : Int) (xx : UInt8) (w : World) (x : FsAt w g s p) :
    Has Go.Proofs.Tryd.prog 20 #[ptrV g, .string (str k), .int .i64 sec, .int .u8 (xx.toNat : Int)] w (FsDone w g p (rotM s k sec xx)) := by
  refine enter Go.Proofs.Tryd.func20 rfl rfl (by decide) rfl (e := [(0, ptrV g), (1, .string (str k)), (2, .int .i64 sec), (3, .int .u8 (xx.toNat : Int))]) ⟨rfl, rfl, rfl, rfl, trivial⟩ ?_
  unfold ptrV
  have hb := x.blk
  cases hl : looks s.dir k with
  | none =>
    have hr : rotM s k sec xx = (s, 3) := by unfold rotM; rw [hl]
    repeat (first | refine W_seq ?_ | refine W_region ?_ | refine Then_n ?_ | refine WL_nil ?_ | refine WL_some rfl rfl rfl ?_ | refine WL_guardT rfl rfl rfl rfl ?_ | refine op_move rfl rfl ?_ | refine op_assign rfl rfl ?_ | refine op_nilCheck rfl rfl ?_ | refine op_fieldAddr T rfl rfl rfl rfl rfl rfl rfl rfl ?_ | refine op_eql_nilptr T rfl rfl rfl rfl rfl ?_ | refine op_loadB T rfl rfl rfl rfl (by assumption) (by exact rfl) ?_)
    refine op_lookup_v T strKey rfl rfl rfl rfl rfl rfl x.dirM (v := .pointer none) (fun b hb => by rw [at2_none hl] at hb; cases hb) (fun _ => rfl) ?_
    repeat (first | refine W_seq ?_ | refine W_region ?_ | refine W_ret ?_ | refine Then_n ?_ | refine Then_r ?_ | refine WL_nil ?_ | refine W_condT rfl ?_ | refine WL_some rfl rfl rfl ?_ | refine WL_guardT rfl rfl rfl rfl ?_ | refine op_assign rfl rfl ?_ | refine op_pick rfl rfl rfl rfl ?_ | refine op_eql_nilptr T rfl rfl rfl rfl rfl ?_)
    refine post1 (.inl rfl) rfl rfl ?_
    rw [hr]; exact ⟨Chg.refl _ _, rfl, p, x, Grows.refl _ _ _⟩
  | some i =>
  obtain ⟨q, f, hq, hfi⟩ := x.get hl
  have hlen : lenOf s i = f.b.length := by unfold lenOf; simp [hfi]
  have hbf := x.fblk i q f hq hfi
  have hof := x.fown i q f hq hfi
  have hfl := (x.ok.files f (List.mem_of_getElem? hfi)).2
  obtain ⟨A, c, hv, hv1, hv2⟩ := hof.form
  rw [hv] at hbf hof
  repeat (first | refine W_seq ?_ | refine W_region ?_ | refine Then_n ?_ | refine WL_nil ?_ | refine WL_some rfl rfl rfl ?_ | refine WL_guardT rfl rfl rfl rfl ?_ | refine op_move rfl rfl ?_ | refine op_assign rfl rfl ?_ | refine op_nilCheck rfl rfl ?_ | refine op_fieldAddr T rfl rfl rfl rfl rfl rfl rfl rfl ?_ | refine op_eql_nilptr T rfl rfl rfl rfl rfl ?_ | refine op_loadB T rfl rfl rfl rfl (by assumption) (by exact rfl) ?_)
  refine op_lookup_v T strKey rfl rfl rfl rfl rfl rfl x.dirM (v := ptrV q.1) (fun b hb => by rw [at2_some hl hq] at hb; injection hb with hb; rw [hb]) (fun hn => by rw [at2_some hl hq] at hn; cases hn) ?_
  unfold ptrV
  repeat (first | refine W_seq ?_ | refine W_region ?_ | refine W_skip ?_ | refine Then_n ?_ | refine WL_nil ?_ | refine W_condF rfl ?_ | refine WL_some rfl rfl rfl ?_ | refine WL_guardT rfl rfl rfl rfl ?_ | refine op_move rfl rfl ?_ | refine op_pick rfl rfl rfl rfl ?_ | refine op_nilCheck rfl rfl ?_ | refine op_fieldAddr T rfl rfl rfl rfl rfl rfl rfl rfl ?_ | refine op_eql_nilptr T rfl rfl rfl rfl rfl ?_ | refine op_loadB T rfl rfl rfl rfl (by assumption) (by exact rfl) ?_)
  refine op_lookup_v T strKey rfl rfl rfl rfl rfl rfl x.dirM (v := ptrV q.1) (fun b hb => by rw [at2_some hl hq] at hb; injection hb with hb; rw [hb]) (fun hn => by rw [at2_some hl hq] at hn; cases hn) ?_
  unfold ptrV
  repeat (first | refine W_seq ?_ | refine W_region ?_ | refine Then_n ?_ | refine WL_nil ?_ | refine WL_some rfl rfl rfl ?_ | refine op_move rfl rfl ?_ | refine op_assign rfl rfl ?_ | refine op_nilCheck rfl rfl ?_ | refine op_fieldAddr T rfl rfl rfl rfl rfl rfl rfl rfl ?_ | refine op_loadB T rfl rfl rfl rfl (by assumption) (by exact rfl) ?_)
  by_cases hneg : sec < 0
  · have hr : rotM s k sec xx = (s, 7) := by unfold rotM; rw [hl]; simp [hneg]
    repeat (first | refine W_seq ?_ | refine W_region ?_ | refine W_ret ?_ | refine Then_n ?_ | refine Then_r ?_ | refine WL_nil ?_ | refine W_condT rfl ?_ | refine WL_some rfl rfl rfl ?_ | refine WL_guardF rfl rfl rfl rfl rfl ?_ | refine op_move rfl rfl ?_ | refine op_assign rfl rfl ?_ | refine op_pick rfl rfl rfl rfl ?_ | refine op_lss rfl rfl rfl (fun hc => ?_) (fun hc => False.elim (by omega)))
    refine post1 (.inl rfl) rfl rfl ?_
    rw [hr]; exact ⟨Chg.refl _ _, rfl, p, x, Grows.refl _ _ _⟩
  obtain ⟨n, rfl⟩ := Int.eq_ofNat_of_zero_le (show 0 ≤ sec by omega)
  repeat (first | refine WL_some rfl rfl rfl ?_ | refine WL_guardT rfl rfl rfl rfl ?_ | refine op_move rfl rfl ?_ | refine op_len_slice T rfl rfl rfl rfl ?_ | refine op_add rfl rfl rfl (wrap_i64_in (by omega) (by omega)) ?_ | refine op_subt rfl rfl rfl (wrap_i64_in (by omega) (by omega)) ?_ | refine op_lss rfl rfl rfl (fun hc => False.elim (by omega)) (fun hc => ?_))
  refine op_quo (r := (((f.b.length + 63) / 64 : Nat) : Int)) rfl rfl rfl (by decide) (by
    rw [show (f.b.length : Int) + 64 - 1 = ((f.b.length + 63 : Nat) : Int) by omega]
    show IntKind.i64.wrap (((f.b.length + 63) / 64 : Nat) : Int) = _
    exact wrap_i64_in (by omega) (by omega)) ?_
  by_cases hbig : (f.b.length + 63) / 64 ≤ n
  · have hr : rotM s k n xx = (s, 7) := by
      unfold rotM
      rw [hl]
      simp only
      rw [if_pos (.inr (by rw [hlen]; omega))]
    repeat (first | refine W_seq ?_ | refine W_region ?_ | refine W_ret ?_ | refine Then_n ?_ | refine Then_r ?_ | refine WL_nil ?_ | refine W_condT rfl ?_ | refine WL_some rfl rfl rfl ?_ | refine WL_guardT rfl rfl rfl rfl ?_ | refine op_assign rfl rfl ?_ | refine op_pick rfl rfl rfl rfl ?_ | refine op_geq rfl rfl rfl (fun hc => ?_) (fun hc => False.elim (by omega)))
    refine post1 (.inl rfl) rfl rfl ?_
    rw [hr]; exact ⟨Chg.refl _ _, rfl, p, x, Grows.refl _ _ _⟩
  have hn : n * 64 < f.b.length := by omega
  have hr : rotM s k n xx = ({ s with files := s.files.modify i fun f => { f with b := rotB f.b n xx } }, 0) := by
    unfold rotM
    rw [hl]
    simp only
    rw [if_neg (by rw [hlen]; omega)]
    rfl
  have hok := rotM_ok x.ok k n xx
  rw [hr] at hok
  obtain ⟨gq, cap, cur, hv', hq1, hq2, hbq, hcl, hct⟩ := hof.blk (by omega)
  injection hv' with e1 e2 e3
  subst e1; subst e3
  rw [Nat.mul_one] at hcl hct
  repeat (first | refine W_seq ?_ | refine W_block ?_ | refine W_region ?_ | refine W_skip ?_ | refine Then_n ?_ | refine WL_nil ?_ | refine W_condF rfl ?_ | refine WL_some rfl rfl rfl ?_ | refine WL_guardT rfl rfl rfl rfl ?_ | refine op_move rfl rfl ?_ | refine op_assign rfl rfl ?_ | refine op_pick rfl rfl rfl rfl ?_ | refine op_mul rfl rfl rfl (wrap_i64_in (by omega) (by omega)) ?_ | refine op_geq rfl rfl rfl (fun hc => False.elim (by omega)) (fun hc => ?_))
  refine W_loop (σ := Nat × List Value) (fun (j, cur) => [(2, .int .i64 n), (3, .int .u8 (xx.toNat : Int)), (9, .slice (some ⟨gq, 0, none⟩) f.b.length c), (10, .int .i64 j)])
    (fun ((j : Nat), (cur : List Value)) w' => n * 64 ≤ j ∧ j ≤ f.b.length ∧ j ≤ (n + 1) * 64 ∧ Chg [gq] w w' ∧ Blk w' gq 5 cur ∧ cur.length = c ∧ cur.take f.b.length = u8s (rotTo f.b n xx j)) (fun (j, _) => f.b.length - j) (n * 64, cur) ⟨rfl, rfl, rfl, ?_, trivial⟩ ⟨by omega, by omega, by omega, Chg.refl _ _, hbq, hcl, by rw [rotTo_start]; exact hct⟩ ?_
  · exact some_int (by omega)
  rintro ⟨j, cur⟩ w1 ⟨hj1, hj2, hj3, hc1, hb1, hl1, ht1⟩
  dsimp only at hj1 hj2 hj3 hc1 hb1 hl1 ht1 ⊢
  repeat (first | refine W_seq ?_ | refine W_region ?_ | refine WL_some rfl rfl rfl ?_ | refine op_move rfl rfl ?_ | refine op_len_slice T rfl rfl rfl rfl ?_ | refine op_add rfl rfl rfl (wrap_i64_in (by omega) (by omega)) ?_ | refine op_mul rfl rfl rfl (wrap_i64_in (by omega) (by omega)) ?_ | refine op_min rfl rfl rfl ?_)
  by_cases hlt : j < min f.b.length ((n + 1) * 64)
  · have hjb : j < f.b.length := by omega
    have hbj : f.b[j]? = some f.b[j] := List.getElem?_eq_getElem hjb
    generalize f.b[j] = cc at hbj
    have hcj : cur[j]? = some (.int .u8 (cc.toNat : Int)) := by
      have h1 : (cur.take f.b.length)[j]? = cur[j]? := by rw [List.getElem?_take, if_pos hjb]
      rw [← h1, ht1, u8s_get (rotTo_get hbj), if_neg (by omega)]
    have hcell : w1.cell? ⟨gq, j, none⟩ = some (.int .u8 (cc.toNat : Int)) := hb1.cell hcj
    refine op_lss rfl rfl rfl (fun _ => ?_) (fun hc => False.elim (hc (by omega)))
    repeat (first | refine W_seq ?_ | refine W_block ?_ | refine W_region ?_ | refine W_skip ?_ | refine Then_n ?_ | refine WL_nil ?_ | refine W_condT rfl ?_ | refine WL_some rfl rfl rfl ?_ | refine op_move rfl rfl ?_ | refine op_rem rfl rfl rfl (by omega) rfl ?_ | refine op_index_own T rfl rfl rfl rfl rfl rfl (by omega) ?_ | refine op_load T rfl rfl rfl rfl (by assumption) ?_)
    rw [show ((j : Nat) : Int).tmod 64 = ((j % 64 : Nat) : Int) from rfl]
    have hj64 : j % 64 < 64 := Nat.mod_lt _ (by decide)
    have e8 : ((UInt8.ofNat (j % 64)).toNat : Int) = ((j % 64 : Nat) : Int) := by rw [UInt8.toNat_ofNat']; omega
    refine op_convert_int T (r := ((UInt8.ofNat (j % 64)).toNat : Int)) rfl rfl rfl rfl (by rw [e8]; exact wrap_u8_in (by omega) (by omega)) ?_
    repeat (refine WL_some rfl rfl rfl ?_)
    refine op_add (r := ((xx + UInt8.ofNat (j % 64)).toNat : Int)) rfl rfl rfl (add_u8 _ _) ?_
    repeat (refine WL_some rfl rfl rfl ?_)
    refine op_xor_u8 rfl rfl rfl ?_
    repeat (first | refine WL_some rfl rfl rfl ?_ | refine WL_none rfl rfl ?_ | refine op_index_own T rfl rfl rfl rfl rfl rfl (by omega) ?_)
    refine op_store T rfl rfl rfl rfl rfl rfl hb1 (by omega) (fun w2 hc2 hb2 _ => ?_)
    repeat (first | refine W_region ?_ | refine Then_n ?_ | refine InBlock_n ?_ | refine WL_nil ?_ | refine WL_some rfl rfl rfl ?_ | refine op_move rfl rfl ?_ | refine op_assign rfl rfl ?_ | refine op_add rfl rfl rfl (wrap_i64_in (by omega) (by omega)) ?_)
    refine Round_n (j + 1, cur.set j (.int .u8 ((rotC xx j cc).toNat : Int))) ⟨rfl, rfl, rfl, rfl, trivial⟩ ⟨by omega, by omega, by omega, hc1.trans hc2 (fun _ h _ => h), hb2, by rw [List.length_set]; exact hl1, ?_⟩ (by simp only; omega)
    rw [List.take_set, ht1, u8s_set, rotTo_step hbj hj1]
  · refine op_lss rfl rfl rfl (fun hc => False.elim (hlt (by omega))) (fun _ => ?_)
    repeat (first | refine W_seq ?_ | refine W_region ?_ | refine W_exit ?_ | refine W_ret ?_ | refine Then_n ?_ | refine Then_x ?_ | refine InBlock_hit ?_ | refine Round_x ?_ | refine WL_nil ?_ | refine W_condF rfl ?_ | refine WL_some rfl rfl rfl ?_ | refine op_assign rfl rfl ?_)
    have hend : rotTo f.b n xx j = rotB f.b n xx := rotTo_end _ _ _ _ (by omega)
    rw [hend] at ht1
    have hqne : q.1 ∉ [gq] := fun hm => by
      simp at hm
      rw [hm] at hbf
      exact hbf.ne_ hbq (by decide) rfl
    obtain ⟨x2, hg2⟩ := x.setFile hq hfi (fun f => { f with b := rotB f.b n xx }) (v' := q.2) hc1 (fun j hj _ => by simp at hj; subst hj; right; rw [hv]; rfl) (by rw [hv]; exact hbf.keep hc1 hqne) (by
      show Own w1 _ 1 _ (rotB f.b n xx).length _
      rw [rotB_length, hv]
      exact Own.mk hb1 (by omega) hq2 (by omega) (by rw [Nat.mul_one]; exact ht1)) (.inl rfl) hok
    refine post1 (.inl rfl) rfl rfl ?_
    rw [hr]
    exact ⟨hc1.mono (fun j hj _ => by simp at hj; subst hj; exact (x.mem_file hq).2 _ (by rw [hv]; rfl)), rfl, _, x2, hg2⟩
end Go.Proofs.YtbhnplghnhafiaaDoor.Tryd
