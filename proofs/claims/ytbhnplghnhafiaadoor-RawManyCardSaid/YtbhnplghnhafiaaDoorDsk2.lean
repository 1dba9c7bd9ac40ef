import Derived.Test.YtbhnplghnhafiaaDoorDsk1
/-! Files: names; changes of a directory. -/
set_option linter.unusedVariables false
set_option linter.unusedSimpArgs false
namespace Go.Vc
open Go
def goodC (c : UInt8) : Bool := (decide (97 ≤ c.toNat) && decide (c.toNat ≤ 122)) || (decide (65 ≤ c.toNat) && decide (c.toNat ≤ 90)) || (decide (48 ≤ c.toNat) && decide (c.toNat ≤ 57)) || decide (c.toNat = 46)
theorem mayM_eq (k : Nm) : mayM k = (k.all goodC && decide (1 ≤ k.length) && decide (k.length ≤ 20)) := rfl
theorem goodC_of {c : UInt8} (h : (97 ≤ c.toNat ∧ c.toNat ≤ 122) ∨ (65 ≤ c.toNat ∧ c.toNat ≤ 90) ∨ (48 ≤ c.toNat ∧ c.toNat ≤ 57) ∨ c.toNat = 46) : goodC c = true := by
  unfold goodC
  simp only [Bool.or_eq_true, Bool.and_eq_true, decide_eq_true_eq]
  omega
theorem goodC_not {c : UInt8} (h : ¬ (97 ≤ c.toNat ∧ c.toNat ≤ 122) ∧ ¬ (65 ≤ c.toNat ∧ c.toNat ≤ 90) ∧ ¬ (48 ≤ c.toNat ∧ c.toNat ≤ 57) ∧ ¬ c.toNat = 46) : goodC c = false := by
  rw [← Bool.not_eq_true]
  unfold goodC
  simp only [Bool.or_eq_true, Bool.and_eq_true, decide_eq_true_eq]
  omega
theorem at2_ins {fb : List (Nat × Value)} {d : Dir} (hr : Rising d) {k : Nm} {i : Nat} {q : Nat × Value} (hq : fb[i]? = some q) (k' : Nm) : at2 fb (ins d k i) k' = upd (at2 fb d) k q.1 k' := by
  unfold at2 upd
  rw [looks_ins hr]
  by_cases h : k' = k
  · rw [if_pos h, if_pos h]; simp [hq]
  · rw [if_neg h, if_neg h]
theorem at2_del (fb : List (Nat × Value)) (d : Dir) (k k' : Nm) : at2 fb (del d k) k' = rid (at2 fb d) k k' := by
  unfold at2 rid
  rw [looks_del]
  by_cases h : k' = k
  · rw [if_pos h, if_pos h]; rfl
  · rw [if_neg h, if_neg h]
theorem at2_some {fb : List (Nat × Value)} {d : Dir} {k : Nm} {i : Nat} {q : Nat × Value} (hl : looks d k = some i) (hq : fb[i]? = some q) : at2 fb d k = some q.1 := by
  unfold at2; rw [hl]; simp [hq]
theorem at2_none {fb : List (Nat × Value)} {d : Dir} {k : Nm} (hl : looks d k = none) : at2 fb d k = none := by
  unfold at2; rw [hl]; rfl
theorem idV_some {fb : List (Nat × Value)} {o : Option Nat} {i : Nat} {q : Nat × Value} (ho : o = some i) (hq : fb[i]? = some q) : idV fb o = ptrV q.1 := by
  unfold idV; rw [ho]; simp [hq]
theorem idV_form (fb : List (Nat × Value)) (o : Option Nat) : ∃ p, idV fb o = .pointer p := by
  unfold idV ptrV
  split <;> exact ⟨_, rfl⟩
end Go.Vc
namespace Go.Proofs.YtbhnplghnhafiaaDoor.Tryd
open Go Go.Vc

set_option maxHeartbeats 1000000 in
theorem may_has (k : Nm) (w : World) (hk : k.length ≤ maxLen) : Has Go.Proofs.Tryd.prog 48 #[.string (str k)] w (fun v w' => w' = w ∧ v = .bool (mayM k)) := by
  unfold maxLen at hk
  refine enter Go.Proofs.Tryd.func48 rfl rfl (by decide) rfl (e := [(0, .string (str k))]) ⟨rfl, trivial⟩ ?_
  repeat (first | refine W_seq ?_ | refine W_block ?_ | refine W_region ?_ | refine Then_n ?_ | refine WL_nil ?_ | refine WL_some rfl rfl rfl ?_ | refine op_len_str T rfl rfl rfl rfl ?_ | refine op_move rfl rfl ?_ | refine op_assign rfl rfl ?_)
  refine W_loop (σ := Nat) (fun i => [(0, .string (str k)), (2, .bool false), (6, .int .i64 k.length), (7, .int .i64 i)])
    (fun (i : Nat) w' => i ≤ k.length ∧ w' = w ∧ ∀ (j : Nat) c, j < i → k[j]? = some c → goodC c = true) (fun i => k.length - i) 0 ⟨rfl, rfl, rfl, rfl, trivial⟩ ⟨by omega, rfl, fun j c h => by omega⟩ ?_
  rintro i w1 ⟨hi, rfl, hgood⟩
  by_cases hil : i < k.length
  · have hkc : k[i]? = some k[i] := List.getElem?_eq_getElem hil
    generalize k[i] = c at hkc
    have hgo : goodC c = true → ∀ (j : Nat) d, j < i + 1 → k[j]? = some d → goodC d = true := fun hg j d hj hd => by
      by_cases e : j = i
      · subst e; rw [hkc] at hd; injection hd with hd; subst hd; exact hg
      · exact hgood j d (by omega) hd
    have hbad : goodC c = false → mayM k = false := fun hg => by
      rw [mayM_eq]
      have : k.all goodC = false := by
        rw [← Bool.not_eq_true, List.all_eq_true]
        intro h
        have := h c (List.mem_of_getElem? hkc)
        rw [hg] at this; cases this
      rw [this]; rfl
    have hways : (97 ≤ c.toNat ∧ c.toNat ≤ 122) ∨ (122 < c.toNat) ∨ (90 < c.toNat ∧ c.toNat < 97) ∨ (65 ≤ c.toNat ∧ c.toNat ≤ 90) ∨ (57 < c.toNat ∧ c.toNat < 65) ∨ (48 ≤ c.toNat ∧ c.toNat ≤ 57) ∨ (c.toNat = 46) ∨ (c.toNat < 48 ∧ c.toNat ≠ 46) := by omega
    repeat (first | refine W_seq ?_ | refine W_block ?_ | refine W_region ?_ | refine W_skip ?_ | refine Then_n ?_ | refine WL_nil ?_ | refine W_condT rfl ?_ | refine WL_some rfl rfl rfl ?_ | refine op_move rfl rfl ?_ | refine op_assign rfl rfl ?_ | refine op_lss rfl rfl rfl (fun hc => ?_) (fun hc => False.elim (by omega)))
    refine op_index_str T rfl rfl rfl rfl hkc ?_
    rcases hways with h | h | h | h | h | h | h | h
    · repeat (first | refine W_seq ?_ | refine W_region ?_ | refine W_skip ?_ | refine Then_n ?_ | refine InBlock_n ?_ | refine WL_nil ?_ | refine W_condF rfl ?_ | refine WL_some rfl rfl rfl ?_ | refine WL_guardT rfl rfl rfl rfl ?_ | refine WL_guardF rfl rfl rfl rfl rfl ?_ | refine WL_guardU rfl rfl rfl rfl ?_ | refine op_move rfl rfl ?_ | refine op_assign rfl rfl ?_ | refine op_pick rfl rfl rfl rfl ?_ | refine op_add rfl rfl rfl (wrap_i64_in (by omega) (by omega)) ?_ | refine op_lss rfl rfl rfl (fun hc => False.elim (by omega)) (fun hc => ?_) | refine op_gtr rfl rfl rfl (fun hc => False.elim (by omega)) (fun hc => ?_))
      exact Round_n (i + 1) ⟨rfl, rfl, rfl, rfl, trivial⟩ ⟨by omega, rfl, hgo (goodC_of (by omega))⟩ (by omega)
    · repeat (first | refine W_seq ?_ | refine W_region ?_ | refine W_ret ?_ | refine Then_n ?_ | refine Then_r ?_ | refine InBlock_r ?_ | refine Round_r ?_ | refine WL_nil ?_ | refine W_condT rfl ?_ | refine WL_some rfl rfl rfl ?_ | refine WL_guardT rfl rfl rfl rfl ?_ | refine op_move rfl rfl ?_ | refine op_assign rfl rfl ?_ | refine op_pick rfl rfl rfl rfl ?_ | refine op_lss rfl rfl rfl (fun hc => False.elim (by omega)) (fun hc => ?_) | refine op_gtr rfl rfl rfl (fun hc => ?_) (fun hc => False.elim (by omega)) | refine op_neq rfl rfl rfl (fun hc => ?_) (fun hc => False.elim (by omega)))
      exact post1 (.inl rfl) rfl rfl ⟨rfl, by rw [hbad (goodC_not (by omega))]⟩
    · repeat (first | refine W_seq ?_ | refine W_region ?_ | refine W_ret ?_ | refine Then_n ?_ | refine Then_r ?_ | refine InBlock_r ?_ | refine Round_r ?_ | refine WL_nil ?_ | refine W_condT rfl ?_ | refine WL_some rfl rfl rfl ?_ | refine WL_guardT rfl rfl rfl rfl ?_ | refine WL_guardF rfl rfl rfl rfl rfl ?_ | refine op_move rfl rfl ?_ | refine op_assign rfl rfl ?_ | refine op_pick rfl rfl rfl rfl ?_ | refine op_lss rfl rfl rfl (fun hc => ?_) (fun hc => False.elim (by omega)) | refine op_lss rfl rfl rfl (fun hc => False.elim (by omega)) (fun hc => ?_) | refine op_gtr rfl rfl rfl (fun hc => ?_) (fun hc => False.elim (by omega)) | refine op_neq rfl rfl rfl (fun hc => ?_) (fun hc => False.elim (by omega)))
      exact post1 (.inl rfl) rfl rfl ⟨rfl, by rw [hbad (goodC_not (by omega))]⟩
    · repeat (first | refine W_seq ?_ | refine W_region ?_ | refine W_skip ?_ | refine Then_n ?_ | refine InBlock_n ?_ | refine WL_nil ?_ | refine W_condF rfl ?_ | refine WL_some rfl rfl rfl ?_ | refine WL_guardT rfl rfl rfl rfl ?_ | refine WL_guardF rfl rfl rfl rfl rfl ?_ | refine WL_guardU rfl rfl rfl rfl ?_ | refine op_move rfl rfl ?_ | refine op_assign rfl rfl ?_ | refine op_pick rfl rfl rfl rfl ?_ | refine op_add rfl rfl rfl (wrap_i64_in (by omega) (by omega)) ?_ | refine op_lss rfl rfl rfl (fun hc => ?_) (fun hc => False.elim (by omega)) | refine op_lss rfl rfl rfl (fun hc => False.elim (by omega)) (fun hc => ?_) | refine op_gtr rfl rfl rfl (fun hc => False.elim (by omega)) (fun hc => ?_))
      exact Round_n (i + 1) ⟨rfl, rfl, rfl, rfl, trivial⟩ ⟨by omega, rfl, hgo (goodC_of (by omega))⟩ (by omega)
    · repeat (first | refine W_seq ?_ | refine W_region ?_ | refine W_ret ?_ | refine Then_n ?_ | refine Then_r ?_ | refine InBlock_r ?_ | refine Round_r ?_ | refine WL_nil ?_ | refine W_condT rfl ?_ | refine WL_some rfl rfl rfl ?_ | refine WL_guardT rfl rfl rfl rfl ?_ | refine WL_guardF rfl rfl rfl rfl rfl ?_ | refine op_move rfl rfl ?_ | refine op_assign rfl rfl ?_ | refine op_pick rfl rfl rfl rfl ?_ | refine op_lss rfl rfl rfl (fun hc => ?_) (fun hc => False.elim (by omega)) | refine op_lss rfl rfl rfl (fun hc => False.elim (by omega)) (fun hc => ?_) | refine op_gtr rfl rfl rfl (fun hc => ?_) (fun hc => False.elim (by omega)) | refine op_neq rfl rfl rfl (fun hc => ?_) (fun hc => False.elim (by omega)))
      exact post1 (.inl rfl) rfl rfl ⟨rfl, by rw [hbad (goodC_not (by omega))]⟩
    · repeat (first | refine W_seq ?_ | refine W_region ?_ | refine W_skip ?_ | refine Then_n ?_ | refine InBlock_n ?_ | refine WL_nil ?_ | refine W_condF rfl ?_ | refine WL_some rfl rfl rfl ?_ | refine WL_guardT rfl rfl rfl rfl ?_ | refine WL_guardF rfl rfl rfl rfl rfl ?_ | refine op_move rfl rfl ?_ | refine op_assign rfl rfl ?_ | refine op_pick rfl rfl rfl rfl ?_ | refine op_add rfl rfl rfl (wrap_i64_in (by omega) (by omega)) ?_ | refine op_lss rfl rfl rfl (fun hc => ?_) (fun hc => False.elim (by omega)) | refine op_lss rfl rfl rfl (fun hc => False.elim (by omega)) (fun hc => ?_) | refine op_gtr rfl rfl rfl (fun hc => False.elim (by omega)) (fun hc => ?_))
      exact Round_n (i + 1) ⟨rfl, rfl, rfl, rfl, trivial⟩ ⟨by omega, rfl, hgo (goodC_of (by omega))⟩ (by omega)
    · repeat (first | refine W_seq ?_ | refine W_region ?_ | refine W_skip ?_ | refine Then_n ?_ | refine InBlock_n ?_ | refine WL_nil ?_ | refine W_condF rfl ?_ | refine WL_some rfl rfl rfl ?_ | refine WL_guardT rfl rfl rfl rfl ?_ | refine WL_guardF rfl rfl rfl rfl rfl ?_ | refine op_move rfl rfl ?_ | refine op_assign rfl rfl ?_ | refine op_pick rfl rfl rfl rfl ?_ | refine op_add rfl rfl rfl (wrap_i64_in (by omega) (by omega)) ?_ | refine op_lss rfl rfl rfl (fun hc => ?_) (fun hc => False.elim (by omega)) | refine op_neq rfl rfl rfl (fun hc => False.elim (by omega)) (fun hc => ?_))
      exact Round_n (i + 1) ⟨rfl, rfl, rfl, rfl, trivial⟩ ⟨by omega, rfl, hgo (goodC_of (by omega))⟩ (by omega)
    · repeat (first | refine W_seq ?_ | refine W_region ?_ | refine W_ret ?_ | refine Then_n ?_ | refine Then_r ?_ | refine InBlock_r ?_ | refine Round_r ?_ | refine WL_nil ?_ | refine W_condT rfl ?_ | refine WL_some rfl rfl rfl ?_ | refine WL_guardT rfl rfl rfl rfl ?_ | refine WL_guardF rfl rfl rfl rfl rfl ?_ | refine op_move rfl rfl ?_ | refine op_assign rfl rfl ?_ | refine op_pick rfl rfl rfl rfl ?_ | refine op_lss rfl rfl rfl (fun hc => ?_) (fun hc => False.elim (by omega)) | refine op_neq rfl rfl rfl (fun hc => ?_) (fun hc => False.elim (by omega)))
      exact post1 (.inl rfl) rfl rfl ⟨rfl, by rw [hbad (goodC_not (by omega))]⟩
  · obtain rfl : i = k.length := by omega
    have hall : k.all goodC = true := List.all_eq_true.2 fun c hc => by
      obtain ⟨j, hj⟩ := List.getElem?_of_mem hc
      exact hgood j c (List.getElem?_eq_some_iff.1 hj).1 hj
    have hm : mayM k = (decide (1 ≤ k.length) && decide (k.length ≤ 20)) := by rw [mayM_eq, hall]; rfl
    repeat (first | refine W_seq ?_ | refine W_region ?_ | refine W_exit ?_ | refine Then_n ?_ | refine Then_x ?_ | refine InBlock_hit ?_ | refine Round_x ?_ | refine WL_nil ?_ | refine W_condF rfl ?_ | refine WL_some rfl rfl rfl ?_ | refine op_move rfl rfl ?_ | refine op_lss rfl rfl rfl (fun hc => False.elim (by omega)) (fun hc => ?_))
    refine op_str_neq (b := []) rfl rfl rfl (fun hne => ?_) (fun he => ?_)
    · have h1 : 1 ≤ k.length := List.length_pos_iff.2 hne
      by_cases h20 : k.length ≤ 20
      · repeat (first | refine W_ret ?_ | refine Then_n ?_ | refine WL_nil ?_ | refine WL_some rfl rfl rfl ?_ | refine WL_guardT rfl rfl rfl rfl ?_ | refine op_len_str T rfl rfl rfl rfl ?_ | refine op_move rfl rfl ?_ | refine op_assign rfl rfl ?_ | refine op_pick rfl rfl rfl rfl ?_ | refine op_leq rfl rfl rfl (fun hc => ?_) (fun hc => False.elim (by omega)))
        exact post1 (.inl rfl) rfl rfl ⟨rfl, by rw [hm]; simp [h1, h20]⟩
      · repeat (first | refine W_ret ?_ | refine Then_n ?_ | refine WL_nil ?_ | refine WL_some rfl rfl rfl ?_ | refine WL_guardT rfl rfl rfl rfl ?_ | refine op_len_str T rfl rfl rfl rfl ?_ | refine op_move rfl rfl ?_ | refine op_assign rfl rfl ?_ | refine op_pick rfl rfl rfl rfl ?_ | refine op_leq rfl rfl rfl (fun hc => False.elim (by omega)) (fun hc => ?_))
        exact post1 (.inl rfl) rfl rfl ⟨rfl, by rw [hm]; simp [h20]⟩
    · subst he
      repeat (first | refine W_ret ?_ | refine Then_n ?_ | refine WL_nil ?_ | refine WL_some rfl rfl rfl ?_ | refine WL_guardF rfl rfl rfl rfl rfl ?_ | refine op_move rfl rfl ?_ | refine op_assign rfl rfl ?_ | refine op_pick rfl rfl rfl rfl ?_)
      exact post1 (.inl rfl) rfl rfl ⟨rfl, rfl⟩

set_option maxHeartbeats 1000000 in
theorem do_has (r : Nat) (fb : List (Nat × Value)) (d : Dir) (c : ChM) (w : World) (hm : MapAt keyV ptrV w r (at2 fb d)) (hd : DirOk fb.length d) (hf : Fit1 d c) (hi : ∀ i, c.id = some i → i < fb.length) :
    Has Go.Proofs.Tryd.prog 45 #[.map (some r), .agg (chV fb c).toArray] w (fun v w' => Chg [r] w w' ∧ MapAt keyV ptrV w' r (at2 fb (doM d c))) := by
  have hr := hd.up
  refine enter Go.Proofs.Tryd.func45 rfl rfl (by decide) rfl (e := [(0, .map (some r)), (1, .agg (chV fb c).toArray)]) ⟨rfl, rfl, trivial⟩ ?_
  repeat (first | refine W_seq ?_ | refine W_region ?_ | refine WL_some rfl rfl rfl ?_)
  refine op_box rfl rfl (fun g1 w1 hs1 hc1 hg1 => ?_)
  have hg1 : Blk w1 g1 81 [.int .i64 c.kind, .string (str c.name), .string (str c.to), idV fb c.id] := hg1
  have hm1 := hm.keep0 hc1
  by_cases h0 : c.kind = 0
  · obtain ⟨i, hci⟩ := Option.ne_none_iff_exists'.1 (hf.1 h0)
    have hil := hi i hci
    have hq : fb[i]? = some fb[i] := List.getElem?_eq_getElem hil
    rw [idV_some hci hq] at hg1
    generalize fb[i] = q at hq hg1
    have hdo : doM d c = ins d c.name i := by unfold doM; rw [if_pos h0, hci]
    repeat (first | refine W_seq ?_ | refine W_block ?_ | refine W_region ?_ | refine Then_n ?_ | refine WL_nil ?_ | refine W_condT rfl ?_ | refine WL_some rfl rfl rfl ?_ | refine WL_none rfl rfl ?_ | refine op_move rfl rfl ?_ | refine op_assign rfl rfl ?_ | refine op_eql rfl rfl rfl (fun hc => ?_) (fun hc => False.elim (by omega)) | refine op_fieldAddr T rfl rfl rfl rfl rfl rfl rfl rfl ?_ | refine op_loadB T rfl rfl rfl rfl (by assumption) (by exact rfl) ?_)
    refine op_mapUpdate T strKey (bv := ptrV) (b := q.1) rfl rfl rfl rfl rfl rfl hm1 (fun w2 hc2 hm2 _ => ?_)
    repeat (first | refine InBlock_n ?_ | refine WL_nil ?_)
    refine post0 (.inr rfl) rfl ⟨((hc1.mono (fun k hk _ => by cases hk)).trans hc2 (fun _ h _ => h)), ?_⟩
    rw [hdo]
    exact hm2.congr (fun k => (at2_ins hr hq k).symm)
  by_cases h1 : c.kind = 1
  · obtain ⟨i, hli⟩ := Option.ne_none_iff_exists'.1 (hf.2 h1)
    have hil := (hd.name _ (looks_mem hli)).2
    have hq : fb[i]? = some fb[i] := List.getElem?_eq_getElem hil
    generalize fb[i] = q at hq
    have hat := at2_some hli hq
    have hdo : doM d c = ins (del d c.name) c.to i := by unfold doM; rw [if_neg h0, if_pos h1, hli]
    repeat (first | refine W_seq ?_ | refine W_block ?_ | refine W_region ?_ | refine Then_n ?_ | refine WL_nil ?_ | refine W_condT rfl ?_ | refine W_condF rfl ?_ | refine WL_some rfl rfl rfl ?_ | refine op_move rfl rfl ?_ | refine op_assign rfl rfl ?_ | refine op_eql rfl rfl rfl (fun hc => ?_) (fun hc => False.elim (by omega)) | refine op_eql rfl rfl rfl (fun hc => False.elim (by omega)) (fun hc => ?_) | refine op_fieldAddr T rfl rfl rfl rfl rfl rfl rfl rfl ?_ | refine op_loadB T rfl rfl rfl rfl (by assumption) (by exact rfl) ?_)
    refine op_lookup_v T strKey rfl rfl rfl rfl rfl rfl hm1 (v := ptrV q.1) (fun b hb => by rw [hat] at hb; injection hb with hb; rw [hb]) (fun hn => by rw [hat] at hn; cases hn) ?_
    repeat (first | refine W_seq ?_ | refine W_region ?_ | refine Then_n ?_ | refine WL_nil ?_ | refine WL_some rfl rfl rfl ?_ | refine WL_none rfl rfl ?_ | refine op_move rfl rfl ?_ | refine op_assign rfl rfl ?_ | refine op_fieldAddr T rfl rfl rfl rfl rfl rfl rfl rfl ?_ | refine op_loadB T rfl rfl rfl rfl (by assumption) (by exact rfl) ?_)
    refine op_delete T strKey rfl rfl rfl rfl rfl rfl hm1 (fun w2 hc2 hm2 _ => ?_)
    have hg2 := hg1.keep hc2 (by simpa using fun e => hm1.ne_blk hg1 e.symm)
    repeat (first | refine W_region ?_ | refine Then_n ?_ | refine WL_nil ?_ | refine WL_some rfl rfl rfl ?_ | refine WL_none rfl rfl ?_ | refine op_move rfl rfl ?_ | refine op_fieldAddr T rfl rfl rfl rfl rfl rfl rfl rfl ?_ | refine op_loadB T rfl rfl rfl rfl (by assumption) (by exact rfl) ?_)
    refine op_mapUpdate T strKey (bv := ptrV) (b := q.1) rfl rfl rfl rfl rfl rfl hm2 (fun w3 hc3 hm3 _ => ?_)
    repeat (first | refine InBlock_n ?_ | refine WL_nil ?_)
    refine post0 (.inr rfl) rfl ⟨((hc1.mono (fun k hk _ => by cases hk)).trans (hc2.trans hc3 (fun _ h _ => h)) (fun _ h _ => h)), ?_⟩
    rw [hdo]
    refine hm3.congr (fun k => ?_)
    rw [at2_ins (del_rising hr c.name) hq k]
    unfold upd
    rw [at2_del]
  · have hdo : doM d c = del d c.name := by unfold doM; rw [if_neg h0, if_neg h1]
    have h0' : ¬ (c.kind : Int) = 0 := by omega
    repeat (first | refine W_seq ?_ | refine W_block ?_ | refine W_region ?_ | refine Then_n ?_ | refine WL_nil ?_ | refine W_condF rfl ?_ | refine WL_some rfl rfl rfl ?_ | refine WL_none rfl rfl ?_ | refine op_move rfl rfl ?_ | refine op_assign rfl rfl ?_ | refine op_eql rfl rfl rfl (fun hc => False.elim (by omega)) (fun hc => ?_) | refine op_fieldAddr T rfl rfl rfl rfl rfl rfl rfl rfl ?_ | refine op_loadB T rfl rfl rfl rfl (by assumption) (by exact rfl) ?_)
    refine op_delete T strKey rfl rfl rfl rfl rfl rfl hm1 (fun w2 hc2 hm2 _ => ?_)
    repeat (first | refine InBlock_n ?_ | refine WL_nil ?_)
    refine post0 (.inr rfl) rfl ⟨((hc1.mono (fun k hk _ => by cases hk)).trans hc2 (fun _ h _ => h)), ?_⟩
    rw [hdo]
    exact hm2.congr (fun k => (at2_del fb d c.name k).symm)
end Go.Proofs.YtbhnplghnhafiaaDoor.Tryd
