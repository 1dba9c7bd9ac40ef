/- Part 4 of the texts that the law of the last one leans on: steps of the walk and contracts of functions. Its conditions stand in each theorem. -/
import Derived.Test.YtbhnplghnhafiaaDoorRawRotK3
import Derived.Test.YtbhnplghnhafiaaDoorRawRotK2
import Derived.Test.YtbhnplghnhafiaaDoorRawRotK1
import Derived.Test.YtbhnplghnhafiaaDoorRows
import Derived.ProofKit
import Derived.OpenShut
import Derived.ChangeOld
import Derived.ChangeCalls
import Derived.Deep.Slices
/-! Files: names; changes of a directory. -/
set_option linter.unusedVariables false
set_option linter.unusedSimpArgs false
namespace Go.Vc
open Go
def goodC (c : UInt8) : Bool := (decide (97 ≤ c.toNat) && decide (c.toNat ≤ 122)) || (decide (65 ≤ c.toNat) && decide (c.toNat ≤ 90)) || (decide (48 ≤ c.toNat) && decide (c.toNat ≤ 57)) || decide (c.toNat = 46)
theorem mayM_eq (k : Nm) : mayM k = (k.all goodC && decide (1 ≤ k.length) && decide (k.length ≤ 20)) := rfl
theorem goodC_of {c : UInt8} (h : (97 ≤ c.toNat ∧ c.toNat ≤ 122) ∨ (65 ≤ c.toNat ∧ c.toNat ≤ 90) ∨ (48 ≤ c.toNat ∧ c.toNat ≤ 57) ∨ c.toNat = 46) : goodC c = true := by
  unfold goodC
  simp only [Bool.or_eq_true, Bool.and_eq_true, decide_eq_true_eq]
  omega
theorem goodC_not {c : UInt8} (h : ¬ (97 ≤ c.toNat ∧ c.toNat ≤ 122) ∧ ¬ (65 ≤ c.toNat ∧ c.toNat ≤ 90) ∧ ¬ (48 ≤ c.toNat ∧ c.toNat ≤ 57) ∧ ¬ c.toNat = 46) : goodC c = false := by
  rw [← Bool.not_eq_true]
  unfold goodC
  simp only [Bool.or_eq_true, Bool.and_eq_true, decide_eq_true_eq]
  omega
theorem at2_ins {fb : List (Nat × Value)} {d : Dir} (hr : Rising d) {k : Nm} {i : Nat} {q : Nat × Value} (hq : fb[i]? = some q) (k' : Nm) : at2 fb (ins d k i) k' = upd (at2 fb d) k q.1 k' := by
  unfold at2 upd
  rw [looks_ins hr]
  by_cases h : k' = k
  · rw [if_pos h, if_pos h]; simp [hq]
  · rw [if_neg h, if_neg h]
theorem at2_del (fb : List (Nat × Value)) (d : Dir) (k k' : Nm) : at2 fb (del d k) k' = rid (at2 fb d) k k' := by
  unfold at2 rid
  rw [looks_del]
  by_cases h : k' = k
  · rw [if_pos h, if_pos h]; rfl
  · rw [if_neg h, if_neg h]
theorem at2_some {fb : List (Nat × Value)} {d : Dir} {k : Nm} {i : Nat} {q : Nat × Value} (hl : looks d k = some i) (hq : fb[i]? = some q) : at2 fb d k = some q.1 := by
  unfold at2; rw [hl]; simp [hq]
theorem at2_none {fb : List (Nat × Value)} {d : Dir} {k : Nm} (hl : looks d k = none) : at2 fb d k = none := by
  unfold at2; rw [hl]; rfl
theorem idV_some {fb : List (Nat × Value)} {o : Option Nat} {i : Nat} {q : Nat × Value} (ho : o = some i) (hq : fb[i]? = some q) : idV fb o = ptrV q.1 := by
  unfold idV; rw [ho]; simp [hq]
theorem idV_form (fb : List (Nat × Value)) (o : Option Nat) : ∃ p, idV fb o = .pointer p := by
  unfold idV ptrV
  split <;> exact ⟨_, rfl⟩
end Go.Vc
namespace Go.Proofs.YtbhnplghnhafiaaDoor.Tryd
open Go Go.Vc

set_option maxHeartbeats 1000000 in
theorem may_has (k : Nm) (w : World) (hk : k.length ≤ maxLen) : Has Go.Proofs.Tryd.prog 48 #[.string (str k)] w (fun v w' => w' = w ∧ v = .bool (mayM k)) := by
  unfold maxLen at hk
  refine enter Go.Proofs.Tryd.func48 rfl rfl (by decide) rfl (e := [(0, .string (str k))]) ⟨rfl, trivial⟩ ?_
  repeat (first | refine W_seq ?_ | refine W_block ?_ | refine W_region ?_ | refine Then_n ?_ | refine WL_nil ?_ | refine WL_some rfl rfl rfl ?_ | refine op_len_str T rfl rfl rfl rfl ?_ | refine op_move rfl rfl ?_ | refine op_assign rfl rfl ?_)
  refine W_loop (σ := Nat) (fun i => [(0, .string (str k)), (2, .bool false), (6, .int .i64 k.length), (7, .int .i64 i)])
    (fun (i : Nat) w' => i ≤ k.length ∧ w' = w ∧ ∀ (j : Nat) c, j < i → k[j]? = some c → goodC c = true) (fun i => k.length - i) 0 ⟨rfl, rfl, rfl, rfl, trivial⟩ ⟨by omega, rfl, fun j c h => by omega⟩ ?_
  rintro i w1 ⟨hi, rfl, hgood⟩
  by_cases hil : i < k.length
  · have hkc : k[i]? = some k[i] := List.getElem?_eq_getElem hil
    generalize k[i] = c at hkc
    have hgo : goodC c = true → ∀ (j : Nat) d, j < i + 1 → k[j]? = some d → goodC d = true := fun hg j d hj hd => by
      by_cases e : j = i
      · subst e; rw [hkc] at hd; injection hd with hd; subst hd; exact hg
      · exact hgood j d (by omega) hd
    have hbad : goodC c = false → mayM k = false := fun hg => by
      rw [mayM_eq]
      have : k.all goodC = false := by
        rw [← Bool.not_eq_true, List.all_eq_true]
        intro h
        have := h c (List.mem_of_getElem? hkc)
        rw [hg] at this; cases this
      rw [this]; rfl
    have hways : (97 ≤ c.toNat ∧ c.toNat ≤ 122) ∨ (122 < c.toNat) ∨ (90 < c.toNat ∧ c.toNat < 97) ∨ (65 ≤ c.toNat ∧ c.toNat ≤ 90) ∨ (57 < c.toNat ∧ c.toNat < 65) ∨ (48 ≤ c.toNat ∧ c.toNat ≤ 57) ∨ (c.toNat = 46) ∨ (c.toNat < 48 ∧ c.toNat ≠ 46) := by omega
    repeat (first | refine W_seq ?_ | refine W_block ?_ | refine W_region ?_ | refine W_skip ?_ | refine Then_n ?_ | refine WL_nil ?_ | refine W_condT rfl ?_ | refine WL_some rfl rfl rfl ?_ | refine op_move rfl rfl ?_ | refine op_assign rfl rfl ?_ | refine op_lss rfl rfl rfl (fun hc => ?_) (fun hc => False.elim (by omega)))
    refine op_index_str T rfl rfl rfl rfl hkc ?_
    rcases hways with h | h | h | h | h | h | h | h
    · repeat (first | refine W_seq ?_ | refine W_region ?_ | refine W_skip ?_ | refine Then_n ?_ | refine InBlock_n ?_ | refine WL_nil ?_ | refine W_condF rfl ?_ | refine WL_some rfl rfl rfl ?_ | refine WL_guardT rfl rfl rfl rfl ?_ | refine WL_guardF rfl rfl rfl rfl rfl ?_ | refine WL_guardU rfl rfl rfl rfl ?_ | refine op_move rfl rfl ?_ | refine op_assign rfl rfl ?_ | refine op_pick rfl rfl rfl rfl ?_ | refine op_add rfl rfl rfl (wrap_i64_in (by omega) (by omega)) ?_ | refine op_lss rfl rfl rfl (fun hc => False.elim (by omega)) (fun hc => ?_) | refine op_gtr rfl rfl rfl (fun hc => False.elim (by omega)) (fun hc => ?_))
      exact Round_n (i + 1) ⟨rfl, rfl, rfl, rfl, trivial⟩ ⟨by omega, rfl, hgo (goodC_of (by omega))⟩ (by omega)
    · repeat (first | refine W_seq ?_ | refine W_region ?_ | refine W_ret ?_ | refine Then_n ?_ | refine Then_r ?_ | refine InBlock_r ?_ | refine Round_r ?_ | refine WL_nil ?_ | refine W_condT rfl ?_ | refine WL_some rfl rfl rfl ?_ | refine WL_guardT rfl rfl rfl rfl ?_ | refine op_move rfl rfl ?_ | refine op_assign rfl rfl ?_ | refine op_pick rfl rfl rfl rfl ?_ | refine op_lss rfl rfl rfl (fun hc => False.elim (by omega)) (fun hc => ?_) | refine op_gtr rfl rfl rfl (fun hc => ?_) (fun hc => False.elim (by omega)) | refine op_neq rfl rfl rfl (fun hc => ?_) (fun hc => False.elim (by omega)))
      exact post1 (.inl rfl) rfl rfl ⟨rfl, by rw [hbad (goodC_not (by omega))]⟩
    · repeat (first | refine W_seq ?_ | refine W_region ?_ | refine W_ret ?_ | refine Then_n ?_ | refine Then_r ?_ | refine InBlock_r ?_ | refine Round_r ?_ | refine WL_nil ?_ | refine W_condT rfl ?_ | refine WL_some rfl rfl rfl ?_ | refine WL_guardT rfl rfl rfl rfl ?_ | refine WL_guardF rfl rfl rfl rfl rfl ?_ | refine op_move rfl rfl ?_ | refine op_assign rfl rfl ?_ | refine op_pick rfl rfl rfl rfl ?_ | refine op_lss rfl rfl rfl (fun hc => ?_) (fun hc => False.elim (by omega)) | refine op_lss rfl rfl rfl (fun hc => False.elim (by omega)) (fun hc => ?_) | refine op_gtr rfl rfl rfl (fun hc => ?_) (fun hc => False.elim (by omega)) | refine op_neq rfl rfl rfl (fun hc => ?_) (fun hc => False.elim (by omega)))
      exact post1 (.inl rfl) rfl rfl ⟨rfl, by rw [hbad (goodC_not (by omega))]⟩
    · repeat (first | refine W_seq ?_ | refine W_region ?_ | refine W_skip ?_ | refine Then_n ?_ | refine InBlock_n ?_ | refine WL_nil ?_ | refine W_condF rfl ?_ | refine WL_some rfl rfl rfl ?_ | refine WL_guardT rfl rfl rfl rfl ?_ | refine WL_guardF rfl rfl rfl rfl rfl ?_ | refine WL_guardU rfl rfl rfl rfl ?_ | refine op_move rfl rfl ?_ | refine op_assign rfl rfl ?_ | refine op_pick rfl rfl rfl rfl ?_ | refine op_add rfl rfl rfl (wrap_i64_in (by omega) (by omega)) ?_ | refine op_lss rfl rfl rfl (fun hc => ?_) (fun hc => False.elim (by omega)) | refine op_lss rfl rfl rfl (fun hc => False.elim (by omega)) (fun hc => ?_) | refine op_gtr rfl rfl rfl (fun hc => False.elim (by omega)) (fun hc => ?_))
      exact Round_n (i + 1) ⟨rfl, rfl, rfl, rfl, trivial⟩ ⟨by omega, rfl, hgo (goodC_of (by omega))⟩ (by omega)
    · repeat (first | refine W_seq ?_ | refine W_region ?_ | refine W_ret ?_ | refine Then_n ?_ | refine Then_r ?_ | refine InBlock_r ?_ | refine Round_r ?_ | refine WL_nil ?_ | refine W_condT rfl ?_ | refine WL_some rfl rfl rfl ?_ | refine WL_guardT rfl rfl rfl rfl ?_ | refine WL_guardF rfl rfl rfl rfl rfl ?_ | refine op_move rfl rfl ?_ | refine op_assign rfl rfl ?_ | refine op_pick rfl rfl rfl rfl ?_ | refine op_lss rfl rfl rfl (fun hc => ?_) (fun hc => False.elim (by omega)) | refine op_lss rfl rfl rfl (fun hc => False.elim (by omega)) (fun hc => ?_) | refine op_gtr rfl rfl rfl (fun hc => ?_) (fun hc => False.elim (by omega)) | refine op_neq rfl rfl rfl (fun hc => ?_) (fun hc => False.elim (by omega)))
      exact post1 (.inl rfl) rfl rfl ⟨rfl, by rw [hbad (goodC_not (by omega))]⟩
    · repeat (first | refine W_seq ?_ | refine W_region ?_ | refine W_skip ?_ | refine Then_n ?_ | refine InBlock_n ?_ | refine WL_nil ?_ | refine W_condF rfl ?_ | refine WL_some rfl rfl rfl ?_ | refine WL_guardT rfl rfl rfl rfl ?_ | refine WL_guardF rfl rfl rfl rfl rfl ?_ | refine op_move rfl rfl ?_ | refine op_assign rfl rfl ?_ | refine op_pick rfl rfl rfl rfl ?_ | refine op_add rfl rfl rfl (wrap_i64_in (by omega) (by omega)) ?_ | refine op_lss rfl rfl rfl (fun hc => ?_) (fun hc => False.elim (by omega)) | refine op_lss rfl rfl rfl (fun hc => False.elim (by omega)) (fun hc => ?_) | refine op_gtr rfl rfl rfl (fun hc => False.elim (by omega)) (fun hc => ?_))
      exact Round_n (i + 1) ⟨rfl, rfl, rfl, rfl, trivial⟩ ⟨by omega, rfl, hgo (goodC_of (by omega))⟩ (by omega)
    · repeat (first | refine W_seq ?_ | refine W_region ?_ | refine W_skip ?_ | refine Then_n ?_ | refine InBlock_n ?_ | refine WL_nil ?_ | refine W_condF rfl ?_ | refine WL_some rfl rfl rfl ?_ | refine WL_guardT rfl rfl rfl rfl ?_ | refine WL_guardF rfl rfl rfl rfl rfl ?_ | refine op_move rfl rfl ?_ | refine op_assign rfl rfl ?_ | refine op_pick rfl rfl rfl rfl ?_ | refine op_add rfl rfl rfl (wrap_i64_in (by omega) (by omega)) ?_ | refine op_lss rfl rfl rfl (fun hc => ?_) (fun hc => False.elim (by omega)) | refine op_neq rfl rfl rfl (fun hc => False.elim (by omega)) (fun hc => ?_))
      exact Round_n (i + 1) ⟨rfl, rfl, rfl, rfl, trivial⟩ ⟨by omega, rfl, hgo (goodC_of (by omega))⟩ (by omega)
    · repeat (first | refine W_seq ?_ | refine W_region ?_ | refine W_ret ?_ | refine Then_n ?_ | refine Then_r ?_ | refine InBlock_r ?_ | refine Round_r ?_ | refine WL_nil ?_ | refine W_condT rfl ?_ | refine WL_some rfl rfl rfl ?_ | refine WL_guardT rfl rfl rfl rfl ?_ | refine WL_guardF rfl rfl rfl rfl rfl ?_ | refine op_move rfl rfl ?_ | refine op_assign rfl rfl ?_ | refine op_pick rfl rfl rfl rfl ?_ | refine op_lss rfl rfl rfl (fun hc => ?_) (fun hc => False.elim (by omega)) | refine op_neq rfl rfl rfl (fun hc => ?_) (fun hc => False.elim (by omega)))
      exact post1 (.inl rfl) rfl rfl ⟨rfl, by rw [hbad (goodC_not (by omega))]⟩
  · obtain rfl : i = k.length := by omega
    have hall : k.all goodC = true := List.all_eq_true.2 fun c hc => by
      obtain ⟨j, hj⟩ := List.getElem?_of_mem hc
      exact hgood j c (List.getElem?_eq_some_iff.1 hj).1 hj
    have hm : mayM k = (decide (1 ≤ k.length) && decide (k.length ≤ 20)) := by rw [mayM_eq, hall]; rfl
    repeat (first | refine W_seq ?_ | refine W_region ?_ | refine W_exit ?_ | refine Then_n ?_ | refine Then_x ?_ | refine InBlock_hit ?_ | refine Round_x ?_ | refine WL_nil ?_ | refine W_condF rfl ?_ | refine WL_some rfl rfl rfl ?_ | refine op_move rfl rfl ?_ | refine op_lss rfl rfl rfl (fun hc => False.elim (by omega)) (fun hc => ?_))
    refine op_str_neq (b := []) rfl rfl rfl (fun hne => ?_) (fun he => ?_)
    · have h1 : 1 ≤ k.length := List.length_pos_iff.2 hne
      by_cases h20 : k.length ≤ 20
      · repeat (first | refine W_ret ?_ | refine Then_n ?_ | refine WL_nil ?_ | refine WL_some rfl rfl rfl ?_ | refine WL_guardT rfl rfl rfl rfl ?_ | refine op_len_str T rfl rfl rfl rfl ?_ | refine op_move rfl rfl ?_ | refine op_assign rfl rfl ?_ | refine op_pick rfl rfl rfl rfl ?_ | refine op_leq rfl rfl rfl (fun hc => ?_) (fun hc => False.elim (by omega)))
        exact post1 (.inl rfl) rfl rfl ⟨rfl, by rw [hm]; simp [h1, h20]⟩
      · repeat (first | refine W_ret ?_ | refine Then_n ?_ | refine WL_nil ?_ | refine WL_some rfl rfl rfl ?_ | refine WL_guardT rfl rfl rfl rfl ?_ | refine op_len_str T rfl rfl rfl rfl ?_ | refine op_move rfl rfl ?_ | refine op_assign rfl rfl ?_ | refine op_pick rfl rfl rfl rfl ?_ | refine op_leq rfl rfl rfl (fun hc => False.elim (by omega)) (fun hc => ?_))
        exact post1 (.inl rfl) rfl rfl ⟨rfl, by rw [hm]; simp [h20]⟩
    · subst he
      repeat (first | refine W_ret ?_ | refine Then_n ?_ | refine WL_nil ?_ | refine WL_some rfl rfl rfl ?_ | refine WL_guardF rfl rfl rfl rfl rfl ?_ | refine op_move rfl rfl ?_ | refine op_assign rfl rfl ?_ | refine op_pick rfl rfl rfl rfl ?_)
      exact post1 (.inl rfl) rfl rfl ⟨rfl, rfl⟩

set_option maxHeartbeats 1000000 in
theorem do_has (r : Nat) (fb : List (Nat × Value)) (d : Dir) (c : ChM) (w : World) (hm : MapAt keyV ptrV w r (at2 fb d)) (hd : DirOk fb.length d) (hf : Fit1 d c) (hi : ∀ i, c.id = some i → i < fb.length) :
    Has Go.Proofs.Tryd.prog 45 #[.map (some r), .agg (chV fb c).toArray] w (fun v w' => Chg [r] w w' ∧ MapAt keyV ptrV w' r (at2 fb (doM d c))) := by
  have hr := hd.up
  refine enter Go.Proofs.Tryd.func45 rfl rfl (by decide) rfl (e := [(0, .map (some r)), (1, .agg (chV fb c).toArray)]) ⟨rfl, rfl, trivial⟩ ?_
  repeat (first | refine W_seq ?_ | refine W_region ?_ | refine WL_some rfl rfl rfl ?_)
  refine op_box rfl rfl (fun g1 w1 hs1 hc1 hg1 => ?_)
  have hg1 : Blk w1 g1 81 [.int .i64 c.kind, .string (str c.name), .string (str c.to), idV fb c.id] := hg1
  have hm1 := hm.keep0 hc1
  by_cases h0 : c.kind = 0
  · obtain ⟨i, hci⟩ := Option.ne_none_iff_exists'.1 (hf.1 h0)
    have hil := hi i hci
    have hq : fb[i]? = some fb[i] := List.getElem?_eq_getElem hil
    rw [idV_some hci hq] at hg1
    generalize fb[i] = q at hq hg1
    have hdo : doM d c = ins d c.name i := by unfold doM; rw [if_pos h0, hci]
    repeat (first | refine W_seq ?_ | refine W_block ?_ | refine W_region ?_ | refine Then_n ?_ | refine WL_nil ?_ | refine W_condT rfl ?_ | refine WL_some rfl rfl rfl ?_ | refine WL_none rfl rfl ?_ | refine op_move rfl rfl ?_ | refine op_assign rfl rfl ?_ | refine op_eql rfl rfl rfl (fun hc => ?_) (fun hc => False.elim (by omega)) | refine op_fieldAddr T rfl rfl rfl rfl rfl rfl rfl rfl ?_ | refine op_loadB T rfl rfl rfl rfl (by assumption) (by exact rfl) ?_)
    refine op_mapUpdate T strKey (bv := ptrV) (b := q.1) rfl rfl rfl rfl rfl rfl hm1 (fun w2 hc2 hm2 _ => ?_)
    repeat (first | refine InBlock_n ?_ | refine WL_nil ?_)
    refine post0 (.inr rfl) rfl ⟨((hc1.mono (fun k hk _ => by cases hk)).trans hc2 (fun _ h _ => h)), ?_⟩
    rw [hdo]
    exact hm2.congr (fun k => (at2_ins hr hq k).symm)
  by_cases h1 : c.kind = 1
  · obtain ⟨i, hli⟩ := Option.ne_none_iff_exists'.1 (hf.2 h1)
    have hil := (hd.name _ (looks_mem hli)).2
    have hq : fb[i]? = some fb[i] := List.getElem?_eq_getElem hil
    generalize fb[i] = q at hq
    have hat := at2_some hli hq
    have hdo : doM d c = ins (del d c.name) c.to i := by unfold doM; rw [if_neg h0, if_pos h1, hli]
    repeat (first | refine W_seq ?_ | refine W_block ?_ | refine W_region ?_ | refine Then_n ?_ | refine WL_nil ?_ | refine W_condT rfl ?_ | refine W_condF rfl ?_ | refine WL_some rfl rfl rfl ?_ | refine op_move rfl rfl ?_ | refine op_assign rfl rfl ?_ | refine op_eql rfl rfl rfl (fun hc => ?_) (fun hc => False.elim (by omega)) | refine op_eql rfl rfl rfl (fun hc => False.elim (by omega)) (fun hc => ?_) | refine op_fieldAddr T rfl rfl rfl rfl rfl rfl rfl rfl ?_ | refine op_loadB T rfl rfl rfl rfl (by assumption) (by exact rfl) ?_)
    refine op_lookup_v T strKey rfl rfl rfl rfl rfl rfl hm1 (v := ptrV q.1) (fun b hb => by rw [hat] at hb; injection hb with hb; rw [hb]) (fun hn => by rw [hat] at hn; cases hn) ?_
    repeat (first | refine W_seq ?_ | refine W_region ?_ | refine Then_n ?_ | refine WL_nil ?_ | refine WL_some rfl rfl rfl ?_ | refine WL_none rfl rfl ?_ | refine op_move rfl rfl ?_ | refine op_assign rfl rfl ?_ | refine op_fieldAddr T rfl rfl rfl rfl rfl rfl rfl rfl ?_ | refine op_loadB T rfl rfl rfl rfl (by assumption) (by exact rfl) ?_)
    refine op_delete T strKey rfl rfl rfl rfl rfl rfl hm1 (fun w2 hc2 hm2 _ => ?_)
    have hg2 := hg1.keep hc2 (by simpa using fun e => hm1.ne_blk hg1 e.symm)
    repeat (first | refine W_region ?_ | refine Then_n ?_ | refine WL_nil ?_ | refine WL_some rfl rfl rfl ?_ | refine WL_none rfl rfl ?_ | refine op_move rfl rfl ?_ | refine op_fieldAddr T rfl rfl rfl rfl rfl rfl rfl rfl ?_ | refine op_loadB T rfl rfl rfl rfl (by assumption) (by exact rfl) ?_)
    refine op_mapUpdate T strKey (bv := ptrV) (b := q.1) rfl rfl rfl rfl rfl rfl hm2 (fun w3 hc3 hm3 _ => ?_)
    repeat (first | refine InBlock_n ?_ | refine WL_nil ?_)
    refine post0 (.inr rfl) rfl ⟨((hc1.mono (fun k hk _ => by cases hk)).trans (hc2.trans hc3 (fun _ h _ => h)) (fun _ h _ => h)), ?_⟩
    rw [hdo]
    refine hm3.congr (fun k => ?_)
    rw [at2_ins (del_rising hr c.name) hq k]
    unfold upd
    rw [at2_del]
  · have hdo : doM d c = del d c.name := by unfold doM; rw [if_neg h0, if_neg h1]
    have h0' : ¬ (c.kind : Int) = 0 := by omega
    repeat (first | refine W_seq ?_ | refine W_block ?_ | refine W_region ?_ | refine Then_n ?_ | refine WL_nil ?_ | refine W_condF rfl ?_ | refine WL_some rfl rfl rfl ?_ | refine WL_none rfl rfl ?_ | refine op_move rfl rfl ?_ | refine op_assign rfl rfl ?_ | refine op_eql rfl rfl rfl (fun hc => False.elim (by omega)) (fun hc => ?_) | refine op_fieldAddr T rfl rfl rfl rfl rfl rfl rfl rfl ?_ | refine op_loadB T rfl rfl rfl rfl (by assumption) (by exact rfl) ?_)
    refine op_delete T strKey rfl rfl rfl rfl rfl rfl hm1 (fun w2 hc2 hm2 _ => ?_)
    repeat (first | refine InBlock_n ?_ | refine WL_nil ?_)
    refine post0 (.inr rfl) rfl ⟨((hc1.mono (fun k hk _ => by cases hk)).trans hc2 (fun _ h _ => h)), ?_⟩
    rw [hdo]
    exact hm2.congr (fun k => (at2_del fb d c.name k).symm)
end Go.Proofs.YtbhnplghnhafiaaDoor.Tryd
/-! Files: a change of the directory; new ones. -/
set_option linter.unusedVariables false
set_option linter.unusedSimpArgs false
namespace Go.Vc
open Go
theorem Replay.ids {n : Nat} : ∀ {cs : List ChM} {d d' : Dir}, Replay n d cs d' → ∀ c ∈ cs, ∀ i, c.id = some i → i < n
  | [], d, d', h, c, hc => by cases hc
  | c' :: cs, d, d', h, c, hc => by
    rcases List.mem_cons.1 hc with rfl | hc
    · exact h.2.2.1
    · exact Replay.ids h.2.2.2.2.2 c hc
theorem at2_more {fb : List (Nat × Value)} (q : Nat × Value) {d : Dir} (hd : DirOk fb.length d) (k : Nm) : at2 (fb ++ [q]) d k = at2 fb d k := by
  unfold at2
  cases hl : looks d k with
  | none => rfl
  | some i =>
    have := (hd.name _ (looks_mem hl)).2
    show ((fb ++ [q])[i]?).map _ = (fb[i]?).map _
    rw [List.getElem?_append_left this]
theorem idV_more {fb : List (Nat × Value)} (q : Nat × Value) {o : Option Nat} (h : ∀ i, o = some i → i < fb.length) : idV (fb ++ [q]) o = idV fb o := by
  unfold idV
  cases o with
  | none => rfl
  | some i =>
    simp only [Option.bind_some]
    rw [List.getElem?_append_left (h i rfl)]
theorem chV_more {fb : List (Nat × Value)} (q : Nat × Value) {c : ChM} (h : ∀ i, c.id = some i → i < fb.length) : chV (fb ++ [q]) c = chV fb c := by
  unfold chV; rw [idV_more q h]
theorem flatMap_congr' {α β : Type} {f g : α → List β} : ∀ {l : List α}, (∀ x ∈ l, f x = g x) → l.flatMap f = l.flatMap g
  | [], _ => rfl
  | a :: l, h => by rw [List.flatMap_cons, List.flatMap_cons, h a (by simp), flatMap_congr' (fun x hx => h x (by simp [hx]))]
theorem chV_length (fb : List (Nat × Value)) (l : List ChM) : (l.flatMap (chV fb)).length = l.length * 4 := by
  induction l with
  | nil => rfl
  | cons a l ih => rw [List.flatMap_cons, List.length_append, ih]; simp [chV]; omega
/-- From a world to the next a file system's blocks are the old ones, or new. -/
def Grows (w : World) (g : Nat) (p p' : FsP) : Prop := ∀ k ∈ p'.fp g, k ∈ p.fp g ∨ w.heap.size ≤ k
theorem Grows.refl (w : World) (g : Nat) (p : FsP) : Grows w g p p := fun _ h => .inl h
theorem Grows.trans {w w' : World} {g : Nat} {p p' p'' : FsP} (h : Grows w g p p') (k : Grows w' g p' p'') (hs : w.heap.size ≤ w'.heap.size) : Grows w g p p'' := fun i hi => by
  rcases k i hi with h1 | h1
  · exact h i h1
  · exact .inr (Nat.le_trans hs h1)
theorem Chg.fps {w w1 w2 : World} {g : Nat} {p p' : FsP} (h1 : Chg (p.fp g) w w1) (hg : Grows w g p p') (h2 : Chg (p'.fp g) w1 w2) : Chg (p.fp g) w w2 :=
  h1.trans h2 (fun k hk hlt => by rcases hg k hk with h | h; exact h; omega)
end Go.Vc
namespace Go.Proofs.YtbhnplghnhafiaaDoor.Tryd
open Go Go.Vc
section
variable {w w' : World} {g : Nat} {s : FsM} {p : FsP} {S : List Nat}
/-- A new file's block is taken in. -/
theorem FsAt.addFile (x : FsAt w g s p) {gf : Nat} (hb : Blk w gf 65 [.slice none 0 0, .int .i64 0]) (hf : gf ∉ p.fp g) (hok : FsOk { s with files := s.files ++ [⟨[], 0⟩] }) :
    FsAt w g { s with files := s.files ++ [⟨[], 0⟩] } { p with fb := p.fb ++ [(gf, .slice none 0 0)] } := by
  have hd : DirOk p.fb.length s.dir := by rw [x.len]; exact x.ok.dir
  have hl : DirOk p.fb.length s.lasts := by rw [x.len]; exact x.ok.lasts
  have hget : ∀ (i : Nat) q, (p.fb ++ [(gf, Value.slice none 0 0)])[i]? = some q → (i < p.fb.length ∧ p.fb[i]? = some q) ∨ (i = p.fb.length ∧ q = (gf, .slice none 0 0)) := fun i q hq => by
    by_cases hi : i < p.fb.length
    · rw [List.getElem?_append_left hi] at hq; exact .inl ⟨hi, hq⟩
    · rw [List.getElem?_append_right (by omega)] at hq
      have := (List.getElem?_eq_some_iff.1 hq).1
      simp at this
      obtain rfl : i = p.fb.length := by omega
      simp at hq
      exact .inr ⟨rfl, hq.symm⟩
  have hgf : ∀ (i : Nat) f, (s.files ++ [(⟨[], 0⟩ : FileM)])[i]? = some f → i < p.fb.length → s.files[i]? = some f := fun i f hf hi => by
    rw [List.getElem?_append_left (by rw [← x.len]; exact hi)] at hf; exact hf
  have hgl : ∀ f, (s.files ++ [(⟨[], 0⟩ : FileM)])[p.fb.length]? = some f → f = ⟨[], 0⟩ := fun f hf => by
    rw [x.len, List.getElem?_append_right (Nat.le_refl _)] at hf
    simp at hf; exact hf.symm
  refine ⟨hok, x.blk, x.dirM.congr (fun k => (at2_more _ hd k).symm), x.lastsM.congr (fun k => (at2_more _ hl k).symm), ?_, by simp [x.len], fun i q f hq hf' => ?_, fun i q f hq hf' => ?_, x.apart1, ?_, fun i j q q' h hq hq' h1 h2 => ?_⟩
  · show Own w _ 4 p.wv s.waits.length (s.waits.flatMap (chV (p.fb ++ [_])))
    rw [flatMap_congr' (g := chV p.fb) (fun c hc => chV_more _ (by rw [x.len]; exact x.ok.replay.ids c hc))]
    exact x.waitsM
  · rcases hget i q hq with ⟨hi, hq⟩ | ⟨rfl, rfl⟩
    · exact x.fblk i q f hq (hgf i f hf' hi)
    · obtain rfl := hgl f hf'; exact hb
  · rcases hget i q hq with ⟨hi, hq⟩ | ⟨rfl, rfl⟩
    · exact x.fown i q f hq (hgf i f hf' hi)
    · obtain rfl := hgl f hf'; exact Own.nil _ _ _
  · rw [List.map_append]
    refine List.nodup_append.2 ⟨x.apart2, by simp, fun a ha b hb e => ?_⟩
    obtain ⟨q, hq, rfl⟩ := List.mem_map.1 ha
    simp at hb
    subst hb
    exact hf (FsP.mem_fp.2 (.inr (.inr (.inr (.inr ⟨q, hq, .inl e.symm⟩)))))
  · rcases hget i q hq with ⟨hi, hq⟩ | ⟨rfl, rfl⟩
    · rcases hget j q' hq' with ⟨hj, hq'⟩ | ⟨rfl, rfl⟩
      · exact x.apart3 i j q q' h hq hq' h1 h2
      · cases h2
    · cases h1
/-- Its directory and the row of what waits have turned. -/
theorem FsAt.rest (x : FsAt w g s p) (hc : Chg S w w') (hS : ∀ k ∈ S, k < w.heap.size → k = g ∨ k = p.md ∨ p.wv.ownBlock = some k) {s' : FsM} {wv' : Value} (hfiles : s'.files = s.files) (hl : s'.lasts = s.lasts)
    (hb : Blk w' g 56 [.int .i64 s'.room, .map (some p.md), .map (some p.ml), wv', .int .i64 s'.calls, .int .i64 s'.fail]) (hdir : MapAt keyV ptrV w' p.md (at2 p.fb s'.dir))
    (hw : Own w' 81 4 wv' s'.waits.length (s'.waits.flatMap (chV p.fb))) (hok : FsOk s') : FsAt w' g s' { p with wv := wv' } := by
  have hc := hc.mono (S' := g :: p.md :: p.wv.ownBlock.toList) (fun k hk hlt => by
    rcases hS k hk hlt with h | h | h
    · simp [h]
    · simp [h]
    · simp [h])
  have hrow : ∀ k t cs, Blk w k t cs → t ≠ 56 → t ≠ 81 → k ∉ g :: p.md :: p.wv.ownBlock.toList := fun k t cs hk h1 h2 hm => by
    rcases List.mem_cons.1 hm with rfl | hm
    · exact hk.ne_ x.blk h1 rfl
    · rcases List.mem_cons.1 hm with rfl | hm
      · exact x.dirM.ne_blk hk rfl
      · obtain ⟨cur, hr⟩ := x.waitsM.row (by simpa using hm)
        exact hk.ne_ hr h2 rfl
  refine ⟨hok, hb, hdir, ?_, hw, by rw [hfiles]; exact x.len, fun i q f hq hf => ?_, fun i q f hq hf => ?_, x.apart1, x.apart2, x.apart3⟩
  · rw [hl]
    refine x.lastsM.keep hc (fun hm => ?_)
    rcases List.mem_cons.1 hm with h | hm
    · exact x.lastsM.ne_blk x.blk h
    · rcases List.mem_cons.1 hm with h | hm
      · exact x.apart1 h.symm
      · obtain ⟨cur, hr⟩ := x.waitsM.row (show p.wv.ownBlock = some p.ml by simpa using hm)
        exact x.lastsM.ne_blk hr rfl
  · rw [hfiles] at hf
    have h1 := x.fblk i q f hq hf
    exact h1.keep hc (hrow _ _ _ h1 (by decide) (by decide))
  · rw [hfiles] at hf
    refine (x.fown i q f hq hf).keep hc (fun h hh => ?_)
    obtain ⟨cur, hr⟩ := (x.fown i q f hq hf).row hh
    exact hrow _ _ _ hr (by decide) (by decide)
end

set_option maxHeartbeats 4000000 in
theorem change_has (g : Nat) (s : FsM) (p : FsP) (c : ChM) (w : World) (x : FsAt w g s p) (hf : Fit1 s.dir c) (hi : ∀ i, c.id = some i → i < s.files.length) (hok : FsOk (changeM s c)) (hcalls : s.calls < 1000000000) :
    Has Go.Proofs.Tryd.prog 49 #[ptrV g, .agg (chV p.fb c).toArray] w
    (fun v w' => Chg (p.fp g) w w' ∧ v = .int .i64 0 ∧ ∃ wv', FsAt w' g (changeM s c) { p with wv := wv' } ∧ Grows w g p { p with wv := wv' }) := by
  refine enter Go.Proofs.Tryd.func49 rfl rfl (by decide) rfl (e := [(0, ptrV g), (1, .agg (chV p.fb c).toArray)]) ⟨rfl, rfl, trivial⟩ ?_
  unfold ptrV
  have hwl := x.ok.waits
  have hwl2 : s.waits.length < 1000000000 := by omega
  repeat (first | refine W_seq ?_ | refine W_region ?_ | refine WL_some rfl rfl rfl ?_)
  refine op_box rfl rfl (fun g1 w1 hs1 hc1 hg1 => ?_)
  have hg1 : Blk w1 g1 81 [.int .i64 c.kind, .string (str c.name), .string (str c.to), idV p.fb c.id] := hg1
  have x1 := x.keep0 hc1
  have hb1 := x1.blk
  repeat (first | refine W_seq ?_ | refine Then_n ?_ | refine WL_nil ?_ | refine WL_some rfl rfl rfl ?_ | refine op_assign rfl rfl ?_)
  refine W_walk 5 [] fol (by kernel_rfl) (by kernel_rfl) ?_
  refine Walk.plain rfl (by intro val w_ hR hp; exact op_move rfl rfl ⟨Chg.refl _ _, rfl⟩) ?_; dsimp only [List.nil_append, List.cons_append]
  refine Walk.plain rfl (by intro val w_ hR hp; exact op_nilCheck rfl rfl ⟨Chg.refl _ _, rfl⟩) ?_; dsimp only [List.nil_append, List.cons_append]
  refine Walk.plain rfl (by intro val w_ hR hp; exact op_fieldAddr T rfl rfl rfl rfl rfl rfl rfl rfl ⟨Chg.refl _ _, rfl⟩) ?_; dsimp only [List.nil_append, List.cons_append]
  refine Walk.plain rfl (by intro val w_ hR hp; exact op_load T rfl rfl rfl rfl ((Blk.keep0 hb1 hR).cell rfl) ⟨Chg.refl _ _, rfl⟩) ?_; dsimp only [List.nil_append, List.cons_append]
  refine Walk.plain rfl (by intro val w_ hR hp; exact op_load_agg T rfl rfl rfl rfl (Blk.keep0 hg1 hR) (Nat.le_of_ble_eq_true rfl) rfl ⟨Chg.refl _ _, rfl⟩) ?_; dsimp only [List.nil_append, List.cons_append]
  refine Walk.fin ?_
  intro val w2 hc2 _
  have x2 := x1.keep0 hc2
  have hg2 := hg1.keep0 hc2
  refine WL_sub (e' := [(0, .pointer (some ⟨g, 0, none⟩)), (3, .pointer (some ⟨g1, 0, none⟩)), (8, .map (some p.md)), (9, .agg (chV p.fb c).toArray)]) ⟨rfl, rfl, rfl, rfl, trivial⟩ ?_
  repeat (refine WL_some rfl rfl rfl ?_)
  refine op_call rfl rfl rfl (do_has p.md p.fb s.dir c w2 x2.dirM (by rw [x2.len]; exact x2.ok.dir) hf (by rw [x2.len]; exact hi)) ?_
  rintro v w3 ⟨hc3, hm3⟩
  have hmdb : ∀ k t cs, Blk w2 k t cs → k ∉ [p.md] := fun k t cs hk hm => by
    simp at hm; subst hm; exact x2.dirM.ne_blk hk rfl
  have hb3 := x2.blk.keep hc3 (hmdb _ _ _ x2.blk)
  have hg3 := hg2.keep hc3 (hmdb _ _ _ hg2)
  have hw3 : Own w3 81 4 p.wv s.waits.length (s.waits.flatMap (chV p.fb)) := x2.waitsM.keep hc3 (fun h hh => by
    obtain ⟨cur, hr⟩ := x2.waitsM.row hh
    exact hmdb _ _ _ hr)
  obtain ⟨Aw, cw, hwf, _, _⟩ := hw3.form
  have hS : ∀ k ∈ p.wv.ownBlock.toList, k < w3.heap.size ∧ k ∈ p.fp g := fun k hk => ⟨hw3.lt (by simpa using hk), FsP.mem_fp.2 (.inr (.inr (.inr (.inl (by simpa using hk)))))⟩
  have hne1 : g ∉ p.wv.ownBlock.toList := fun hm => by
    obtain ⟨cur, hr⟩ := hw3.row (show p.wv.ownBlock = some g by simpa using hm)
    exact hb3.ne_ hr (by decide) rfl
  have hsz1 : w.heap.size ≤ g1 := hs1
  have hne2 : g1 ∉ p.wv.ownBlock.toList := fun hm => by
    have := x.waitsM.lt (show p.wv.ownBlock = some g1 by simpa using hm)
    omega
  repeat (first | refine W_seq ?_ | refine Then_n ?_ | refine WL_nil ?_)
  refine Q.W_walkq 8 7 p.wv.ownBlock.toList fol (by kernel_rfl) (by kernel_rfl) ?_
  refine Q.Walk.plain rfl rfl (by intro val w_ hR hp; exact op_move rfl rfl ⟨Chg.refl _ _, rfl⟩) ?_; dsimp only [List.nil_append, List.cons_append]
  refine Q.Walk.plain rfl rfl (by intro val w_ hR hp; exact op_move rfl rfl ⟨Chg.refl _ _, rfl⟩) ?_; dsimp only [List.nil_append, List.cons_append]
  refine Q.Walk.plain rfl rfl (by intro val w_ hR hp; exact op_nilCheck rfl rfl ⟨Chg.refl _ _, rfl⟩) ?_; dsimp only [List.nil_append, List.cons_append]
  refine Q.Walk.plain rfl rfl (by intro val w_ hR hp; exact op_fieldAddr T rfl rfl rfl rfl rfl rfl rfl rfl ⟨Chg.refl _ _, rfl⟩) ?_; dsimp only [List.nil_append, List.cons_append]
  refine Q.Walk.plain (v := p.wv) rfl rfl (by intro val w_ hR hp; exact op_load T rfl rfl rfl rfl ((hb3.keep hR hne1).cell rfl) ⟨Chg.refl _ _, rfl⟩) ?_; dsimp only [List.nil_append, List.cons_append]
  refine Q.Walk.plain (v := .agg (chV p.fb c).toArray) rfl rfl (by intro val w_ hR hp; exact op_load_agg T rfl rfl rfl rfl (hg3.keep hR hne2) (Nat.le_of_ble_eq_true rfl) rfl ⟨Chg.refl _ _, rfl⟩) ?_; dsimp only [List.nil_append, List.cons_append]
  refine Q.Walk.rel rfl (fun u w => ∃ g5, u = .slice (some ⟨g5, 0, none⟩) 1 1 ∧ Blk w g5 81 (chV p.fb c) ∧ w3.heap.size ≤ g5) rfl (fun u a b ⟨g5, h1, h2, h3⟩ hab => ⟨g5, h1, h2.keep hab (fun hm => by have := (hS _ hm).1; omega), h3⟩) ?_ ?_
  · intro val w_ hR hp
    refine op_buildSlice T rfl rfl rfl rfl rfl rfl rfl (fun g5 w5 hs5 hc5 hg5 => ⟨hc5, g5, rfl, hg5, by have := hR.size; omega⟩)
  dsimp only [List.nil_append, List.cons_append]
  refine Q.Walk.turn rfl (fun u w => Own w 81 4 u (s.waits.length + 1) ((s.waits ++ [c]).flatMap (chV p.fb)) ∧ (u.ownBlock = p.wv.ownBlock ∨ ∃ h, u.ownBlock = some h ∧ w3.heap.size ≤ h)) rfl (fun u a b h hab => ⟨h.1.keep0 hab, h.2⟩) ?_ ?_
  · intro val w_ hR hp
    obtain ⟨g5, he, hg5, hs5⟩ : ∃ g5, val 6 = .slice (some ⟨g5, 0, none⟩) 1 1 ∧ Blk w_ g5 81 (chV p.fb c) ∧ w3.heap.size ≤ g5 := hp 6 rfl _ _ rfl rfl
    have hw_ := hw3.keep0 hR
    refine op_append T (n := s.waits.length) (xs := s.waits.flatMap (chV p.fb)) (m := 1) (news := chV p.fb c) rfl rfl rfl (congrArg some he) rfl rfl rfl rfl hw_ rfl ?_ (by unfold maxLen; omega) (by show (s.waits.length + 1) * _ ≤ _; exact Nat.le_trans (Nat.mul_le_mul_right _ (show s.waits.length + 1 ≤ 1000000000 by omega)) (by decide)) ?_
    · intro j u hj
      refine ⟨⟨_, rfl, by rw [add_plain]; exact hg5.cell hj⟩, ?_⟩
      obtain ⟨ip, hip⟩ := idV_form p.fb c.id
      unfold chV at hj
      rw [hip] at hj
      match j, hj with
      | 0, hj => cases hj; rfl
      | 1, hj => cases hj; rfl
      | 2, hj => cases hj; rfl
      | 3, hj => cases hj; rfl
    · intro u w6 hu hc6 hb6 _
      refine ⟨hc6, ?_, hb6.imp id (fun ⟨h, h1, h2⟩ => ⟨h, h1, by have := hR.size; omega⟩)⟩
      rw [List.flatMap_append]
      simpa using hu
  dsimp only [List.nil_append, List.cons_append]
  refine Q.Walk.fin ?_
  intro val w6 hc6 hp
  obtain ⟨hw6, hwb6⟩ : Own w6 81 4 (val 7) (s.waits.length + 1) ((s.waits ++ [c]).flatMap (chV p.fb)) ∧ ((val 7).ownBlock = p.wv.ownBlock ∨ ∃ h, (val 7).ownBlock = some h ∧ w3.heap.size ≤ h) := hp 7 (by omega) _ _ rfl rfl
  clear hp
  refine WL_sub (e' := [(0, .pointer (some ⟨g, 0, none⟩)), (11, .pointer (some ⟨g, 0, none⟩)), (18, val 7)]) ⟨rfl, rfl, rfl, trivial⟩ ?_
  generalize val 7 = wv6 at hw6 hwb6
  obtain ⟨A6, c6, rfl, _, _⟩ := hw6.form
  have hb6 := hb3.keep hc6 hne1
  have hm6 := hm3.keep hc6 (fun hm => by
    obtain ⟨cur, hr⟩ := hw3.row (show p.wv.ownBlock = some p.md by simpa using hm)
    exact hm3.ne_blk hr rfl)
  repeat (first | refine WL_some rfl rfl rfl ?_ | refine WL_none rfl rfl ?_ | refine op_nilCheck rfl rfl ?_ | refine op_fieldAddr T rfl rfl rfl rfl rfl rfl rfl rfl ?_)
  refine op_store T rfl rfl rfl rfl rfl rfl hb6 (Nat.le_of_ble_eq_true rfl) (fun w7 hc7 hb7 _ => ?_)
  repeat (first | refine W_seq ?_ | refine W_region ?_ | refine W_ret ?_ | refine Then_n ?_ | refine WL_nil ?_ | refine WL_some rfl rfl rfl ?_ | refine op_assign rfl rfl ?_)
  have hc02 : Chg [] w w2 := hc1.trans' hc2
  have hc07 : Chg (g :: p.md :: p.wv.ownBlock.toList) w w7 := (((hc02.mono (fun k hk _ => by cases hk)).trans hc3 (fun k hk _ => by simp at hk; simp [hk])).trans hc6 (fun k hk _ => by simp at hk; simp [hk])).trans hc7 (fun k hk _ => by simp at hk; simp [hk])
  have hsz : w.heap.size ≤ w3.heap.size := Nat.le_trans hc02.size hc3.size
  refine post1 (.inl rfl) rfl rfl ⟨hc07.mono (fun k hk _ => ?_), rfl, _, x.rest hc07 (fun k hk _ => by simpa using hk) rfl rfl hb7 (hm6.keep hc7 (by simpa using hm6.ne_blk hb6)) ?_ hok, ?_⟩
  · simp at hk
    rcases hk with h | h | h
    · exact FsP.mem_fp.2 (.inl h)
    · exact FsP.mem_fp.2 (.inr (.inl h))
    · exact FsP.mem_fp.2 (.inr (.inr (.inr (.inl h))))
  · show Own w7 _ 4 _ (s.waits ++ [c]).length _
    rw [List.length_append]
    refine hw6.keep hc7 (fun h hh hm => ?_)
    simp at hm
    obtain ⟨cur, hr⟩ := hw6.row hh
    rw [hm] at hr
    exact hb6.ne_ hr (by decide) rfl
  · intro k hk
    rcases FsP.mem_fp.1 hk with h | h | h | h | h
    · exact .inl (FsP.mem_fp.2 (.inl h))
    · exact .inl (FsP.mem_fp.2 (.inr (.inl h)))
    · exact .inl (FsP.mem_fp.2 (.inr (.inr (.inl h))))
    · rcases hwb6 with h1 | ⟨i, h1, h2⟩
      · exact .inl (FsP.mem_fp.2 (.inr (.inr (.inr (.inl (h1.symm.trans h))))))
      · have h : Value.ownBlock _ = some k := h
        rw [h1] at h; injection h with h; exact .inr (by omega)
    · exact .inl (FsP.mem_fp.2 (.inr (.inr (.inr (.inr h)))))
end Go.Proofs.YtbhnplghnhafiaaDoor.Tryd
/-! Files: how many bytes; names; Create, Rename, Remove; the scalars. -/
set_option linter.unusedVariables false
set_option linter.unusedSimpArgs false
namespace Go.Vc
open Go
def lenAt (s : FsM) (k : Nm) : Nat := match looks s.dir k with
  | some i => lenOf s i
  | none => 0
theorem usedM_eq {s : FsM} (h : FsOk s) : usedM s = ((s.dir.map (·.1)).map (lenAt s)).sum := by
  unfold usedM
  rw [List.map_map]
  congr 1
  refine List.map_congr_left fun p hp => ?_
  simp only [Function.comp, lenAt, looks_of_mem h.dir.up (k := p.1) (i := p.2) hp]
theorem lenAt_le {s : FsM} (h : FsOk s) (k : Nm) : lenAt s k ≤ 4194304 := by
  unfold lenAt
  split
  · exact lenOf_le h _
  · omega
theorem at2_isSome {fb : List (Nat × Value)} {d : Dir} (hd : DirOk fb.length d) (k : Nm) : (at2 fb d k).isSome = true ↔ k ∈ d.map (·.1) := by
  rw [← looks_isSome]
  unfold at2
  cases hl : looks d k with
  | none => simp
  | some i =>
    have := (hd.name _ (looks_mem hl)).2
    simp [List.getElem?_eq_getElem this]
theorem at2_inv {fb : List (Nat × Value)} {d : Dir} {k : Nm} {b : Nat} (h : at2 fb d k = some b) : ∃ (i : Nat) (q : Nat × Value), looks d k = some i ∧ fb[i]? = some q ∧ b = q.1 := by
  unfold at2 at h
  cases hl : looks d k with
  | none => rw [hl] at h; cases h
  | some i =>
    rw [hl] at h
    cases hq : fb[i]? with
    | none => simp [hq] at h
    | some q => simp [hq] at h; exact ⟨i, q, rfl, hq, h.symm⟩
end Go.Vc
namespace Go.Proofs.YtbhnplghnhafiaaDoor.Tryd
open Go Go.Vc
theorem FsAt.dirOk {w : World} {g : Nat} {s : FsM} {p : FsP} (x : FsAt w g s p) : DirOk p.fb.length s.dir := by rw [x.len]; exact x.ok.dir
theorem FsAt.get {w : World} {g : Nat} {s : FsM} {p : FsP} (x : FsAt w g s p) {k : Nm} {i : Nat} (hl : looks s.dir k = some i) : ∃ (q : Nat × Value) (f : FileM), p.fb[i]? = some q ∧ s.files[i]? = some f := by
  have h := (x.dirOk.name _ (looks_mem hl)).2
  have h2 := h
  rw [x.len] at h2
  exact ⟨_, _, List.getElem?_eq_getElem h, List.getElem?_eq_getElem h2⟩

set_option maxHeartbeats 1000000 in
theorem used_has (g : Nat) (s : FsM) (p : FsP) (w : World) (x : FsAt w g s p) : Has Go.Proofs.Tryd.prog 12 #[ptrV g] w (fun v w' => Chg [] w w' ∧ v = .int .i64 (usedM s)) := by
  refine enter Go.Proofs.Tryd.func12 rfl rfl (by decide) rfl (e := [(0, ptrV g)]) ⟨rfl, trivial⟩ ?_
  unfold ptrV
  have hb := x.blk
  have hd := x.dirOk
  have hnd := hd.up.nodup
  repeat (first | refine W_seq ?_ | refine W_region ?_ | refine Then_n ?_ | refine WL_nil ?_ | refine W_condT rfl ?_ | refine WL_some rfl rfl rfl ?_ | refine op_move rfl rfl ?_ | refine op_assign rfl rfl ?_ | refine op_nilCheck rfl rfl ?_ | refine op_fieldAddr T rfl rfl rfl rfl rfl rfl rfl rfl ?_ | refine op_neq_nilptr T rfl rfl rfl rfl rfl ?_ | refine op_loadB T rfl rfl rfl rfl (by assumption) (by exact rfl) ?_)
  refine op_range T strKey rfl rfl rfl x.dirM (fun it w1 hsi hc1 hI1 => ?_)
  repeat (first | refine W_block ?_ | refine Then_n ?_ | refine WL_nil ?_)
  refine W_loop (σ := List Nm) (fun ks => [(0, .pointer (some ⟨g, 0, none⟩)), (3, .int .i64 ((ks.map (lenAt s)).sum : Nat)), (12, .pointer (some ⟨it, 0, none⟩))])
    (fun (ks : List Nm) w' => Chg [] w w' ∧ IterAt keyV ptrV w' it p.md (at2 p.fb s.dir) ks) (fun ks => 151 - ks.length) [] ⟨rfl, rfl, rfl, trivial⟩ ⟨hc1, hI1⟩ ?_
  rintro ks w2 ⟨hc2, hI2⟩
  have hin : ∀ k ∈ ks, k ∈ s.dir.map (·.1) := fun k hk => by
    obtain ⟨b, hb⟩ := hI2.mem k hk
    exact (at2_isSome hd k).1 (by rw [hb]; rfl)
  have hkl := nodup_length ks _ hI2.nodup hin
  have hfew := hd.few
  rw [List.length_map] at hkl
  have hsum := sum_le (lenAt s) 4194304 (lenAt_le x.ok) ks
  repeat (first | refine W_seq ?_ | refine W_region ?_ | refine WL_some rfl rfl rfl ?_)
  refine op_next strKey rfl rfl hI2 (fun hall => ?_) (fun k b w3 hf hkn hc3 hs3 hI3 => ?_)
  · have hp : ks.Perm (s.dir.map (·.1)) := (List.perm_ext_iff_of_nodup hI2.nodup hnd).2 fun k => ⟨hin k, fun hk => by
      obtain ⟨b, hb⟩ := Option.isSome_iff_exists.1 ((at2_isSome hd k).2 hk)
      exact hall k b hb⟩
    have hu : (ks.map (lenAt s)).sum = usedM s := by rw [usedM_eq x.ok]; exact (hp.map (lenAt s)).sum_nat
    rw [hu]
    repeat (first | refine W_seq ?_ | refine W_region ?_ | refine W_exit ?_ | refine W_ret ?_ | refine Then_n ?_ | refine Then_x ?_ | refine InBlock_hit ?_ | refine Round_x ?_ | refine WL_nil ?_ | refine W_condF rfl ?_ | refine WL_some rfl rfl rfl ?_ | refine op_move rfl rfl ?_ | refine op_assign rfl rfl ?_ | refine op_extract rfl rfl rfl ?_)
    exact post1 (.inl rfl) rfl rfl ⟨hc2, rfl⟩
  · obtain ⟨i, q, hl, hq, rfl⟩ := at2_inv hf
    obtain ⟨q', f, hq', hfi⟩ := x.get hl
    rw [hq] at hq'; injection hq' with hq'; subst hq'
    have hc03 : Chg [] w w3 := hc2.trans hc3 (fun j hj hlt => by simp at hj; omega)
    have hbf := (x.fblk i q f hq hfi).keep0 hc03
    obtain ⟨A, c, hv, hv1, hv2⟩ := (x.fown i q f hq hfi).form
    rw [hv] at hbf
    have hla : lenAt s k = f.b.length := by unfold lenAt lenOf; rw [hl]; simp [hfi]
    have hfl := (x.ok.files f (List.mem_of_getElem? hfi)).2
    repeat (first | refine W_seq ?_ | refine W_block ?_ | refine W_region ?_ | refine W_skip ?_ | refine Then_n ?_ | refine WL_nil ?_ | refine W_condT rfl ?_ | refine WL_some rfl rfl rfl ?_ | refine op_extract rfl rfl rfl ?_)
    refine op_entry strKey rfl rfl hI3 hf ?_
    unfold ptrV
    repeat (first | refine W_region ?_ | refine Then_n ?_ | refine InBlock_n ?_ | refine WL_nil ?_ | refine WL_some rfl rfl rfl ?_ | refine op_move rfl rfl ?_ | refine op_assign rfl rfl ?_ | refine op_len_slice T rfl rfl rfl rfl ?_ | refine op_add rfl rfl rfl (wrap_i64_in (by omega) (by omega)) ?_ | refine op_extract rfl rfl rfl ?_ | refine op_nilCheck rfl rfl ?_ | refine op_fieldAddr T rfl rfl rfl rfl rfl rfl rfl rfl ?_ | refine op_loadB T rfl rfl rfl rfl (by assumption) (by exact rfl) ?_)
    have hin3 : ∀ k' ∈ ks ++ [k], k' ∈ s.dir.map (·.1) := fun k' hk' => by
      obtain ⟨b, hb⟩ := hI3.mem k' hk'
      exact (at2_isSome hd k').1 (by rw [hb]; rfl)
    have hkl3 := nodup_length (ks ++ [k]) _ hI3.nodup hin3
    rw [List.length_map, List.length_append] at hkl3
    simp at hkl3
    refine Round_n (ks ++ [k]) ⟨rfl, ?_, rfl, trivial⟩ ⟨hc03, hI3⟩ (by simp; omega)
    rw [List.map_append, List.sum_append]
    simp only [List.map_cons, List.map_nil, List.sum_cons, List.sum_nil, hla]
    exact some_int (by omega)

theorem roomF_has (g : Nat) (s : FsM) (p : FsP) (n : Int) (w : World) (x : FsAt w g s p) : Has Go.Proofs.Tryd.prog 13 #[ptrV g, .int .i64 n] w (fun v w' => Chg [g] w w' ∧ FsAt w' g { s with room := roomM n } p) := by
  refine enter Go.Proofs.Tryd.func13 rfl rfl (by decide) rfl (e := [(0, ptrV g), (1, .int .i64 n)]) ⟨rfl, rfl, trivial⟩ ?_
  unfold ptrV
  have hb := x.blk
  repeat (first | refine W_seq ?_ | refine W_region ?_ | refine Then_n ?_ | refine WL_nil ?_ | refine W_condT rfl ?_ | refine WL_some rfl rfl rfl ?_ | refine op_move rfl rfl ?_ | refine op_neq_nilptr T rfl rfl rfl rfl rfl ?_)
  refine op_call rfl rfl rfl (room_has n w) ?_
  rintro _ w1 ⟨rfl, rfl⟩
  repeat (first | refine WL_some rfl rfl rfl ?_ | refine WL_none rfl rfl ?_ | refine op_nilCheck rfl rfl ?_ | refine op_fieldAddr T rfl rfl rfl rfl rfl rfl rfl rfl ?_)
  refine op_store T rfl rfl rfl rfl rfl rfl hb (Nat.le_of_ble_eq_true rfl) (fun w2 hc1 hb1 _ => ?_)
  repeat (refine WL_nil ?_)
  exact post0 (.inr rfl) rfl ⟨hc1, x.scalars hc1 hb1 (roomM_ok x.ok n)⟩
theorem newFs_has (n : Int) (w : World) : Has Go.Proofs.Tryd.prog 8 #[.int .i64 n] w (fun v w' => Chg [] w w' ∧ ∃ g p, v = ptrV g ∧ FsAt w' g (newM n) p ∧ ∀ k ∈ p.fp g, w.heap.size ≤ k) := by
  refine enter Go.Proofs.Tryd.func8 rfl rfl (by decide) rfl (e := [(0, .int .i64 n)]) ⟨rfl, trivial⟩ ?_
  repeat (first | refine W_seq ?_ | refine W_region ?_ | refine Then_n ?_ | refine WL_nil ?_ | refine WL_some rfl rfl rfl ?_ | refine op_move rfl rfl ?_ | refine op_assign rfl rfl ?_)
  refine op_call rfl rfl rfl (room_has n w) ?_
  rintro _ w1 ⟨rfl, rfl⟩
  repeat (refine WL_some rfl rfl rfl ?_)
  refine op_makeMap keyV ptrV rfl (fun md w2 hs2 hc2 hm2 => ?_)
  repeat (refine WL_some rfl rfl rfl ?_)
  refine op_makeMap keyV ptrV rfl (fun ml w3 hs3 hc3 hm3 => ?_)
  repeat (first | refine WL_some rfl rfl rfl ?_ | refine op_build T rfl rfl rfl rfl rfl rfl ?_)
  refine op_box rfl rfl (fun g w4 hs4 hc4 hg4 => ?_)
  repeat (first | refine W_ret ?_ | refine Then_n ?_ | refine WL_nil ?_ | refine WL_some rfl rfl rfl ?_ | refine op_assign rfl rfl ?_)
  have hml := hm2.lt
  have h2 := hc2.size
  have h3 := hc3.size
  refine post1 (.inl rfl) rfl rfl ⟨(hc2.trans' hc3).trans' hc4, g, ⟨md, ml, .slice none 0 0, []⟩, rfl, ⟨newM_ok n, hg4, (hm2.keep0 (hc3.trans' hc4)).congr (fun k => rfl), (hm3.keep0 hc4).congr (fun k => rfl), Own.nil _ _ _, rfl, fun i q f h => by simp at h, fun i q f h => by simp at h, (show md ≠ ml by omega), List.nodup_nil, fun i j q q' h h1 => by simp at h1⟩, fun k hk => ?_⟩
  rcases FsP.mem_fp.1 hk with h | h | h | h | ⟨q, hq, h⟩
  · omega
  · have h : k = md := h
    omega
  · have h : k = ml := h
    omega
  · cases h
  · cases hq

/-- What a call leaves. -/
def FsDone (w : World) (g : Nat) (p : FsP) (r : FsM × Int) (v : Value) (w' : World) : Prop := Chg (p.fp g) w w' ∧ v = .int .i64 r.2 ∧ ∃ p', FsAt w' g r.1 p' ∧ Grows w g p p'
theorem mem_fp_self (p : FsP) (g : Nat) : g ∈ p.fp g := FsP.mem_fp.2 (.inl rfl)
theorem chg_self {w w' : World} {p : FsP} {g : Nat} (h : Chg [g] w w') : Chg (p.fp g) w w' := h.mono (fun k hk _ => by simp at hk; subst hk; exact mem_fp_self p k)

end Go.Proofs.YtbhnplghnhafiaaDoor.Tryd
/-! Files: Create. -/
set_option linter.unusedVariables false
set_option linter.unusedSimpArgs false
namespace Go.Proofs.YtbhnplghnhafiaaDoor.Tryd
open Go Go.Vc

set_option maxHeartbeats 8000000 in
theorem create_has (g : Nat) (s : FsM) (p : FsP) (k : Nm) (w : World) (x : FsAt w g s p) (hk : k.length ≤ maxLen) (hcalls : s.calls < 1000000000 - 1) :
    Has Go.Proofs.Tryd.prog 28 #[ptrV g, .string (str k)] w (FsDone w g p (createM s k)) := by
  refine enter Go.Proofs.Tryd.func28 rfl rfl (by decide) rfl (e := [(0, ptrV g), (1, .string (str k))]) ⟨rfl, rfl, trivial⟩ ?_
  unfold ptrV
  repeat (first | refine W_seq ?_ | refine W_region ?_ | refine Then_n ?_ | refine WL_nil ?_ | refine WL_some rfl rfl rfl ?_ | refine op_move rfl rfl ?_ | refine op_assign rfl rfl ?_)
  refine op_call rfl rfl rfl (call_has g s p w x (by omega)) ?_
  rintro _ w1 ⟨hc1, rfl, x1⟩
  have hcc : (callM s).calls < 1000000000 := by show s.calls + 1 < _; omega
  cases hfm : failsM s with
  | true =>
    have hr : createM s k = (callM s, 5) := by unfold createM; simp [hfm]
    rw [if_pos rfl]
    repeat (first | refine W_seq ?_ | refine W_region ?_ | refine W_ret ?_ | refine Then_n ?_ | refine Then_r ?_ | refine WL_nil ?_ | refine W_condT rfl ?_ | refine WL_some rfl rfl rfl ?_ | refine op_move rfl rfl ?_ | refine op_assign rfl rfl ?_ | refine op_neq rfl rfl rfl (fun hc => ?_) (fun hc => False.elim (by omega)))
    refine post1 (.inl rfl) rfl rfl ?_
    rw [hr]; exact ⟨chg_self hc1, rfl, p, x1, Grows.refl _ _ _⟩
  | false =>
  rw [if_neg (by simp)]
  repeat (first | refine W_seq ?_ | refine W_block ?_ | refine W_region ?_ | refine W_skip ?_ | refine Then_n ?_ | refine WL_nil ?_ | refine W_condF rfl ?_ | refine WL_some rfl rfl rfl ?_ | refine op_move rfl rfl ?_ | refine op_assign rfl rfl ?_ | refine op_neq rfl rfl rfl (fun hc => False.elim (by omega)) (fun hc => ?_))
  refine op_call rfl rfl rfl (may_has k w1 hk) ?_
  rintro _ w1 ⟨rfl, rfl⟩
  cases hmay : mayM k with
  | false =>
    have hr : createM s k = (callM s, 10) := by unfold createM; simp [hfm, hmay]
    repeat (first | refine W_seq ?_ | refine W_region ?_ | refine W_ret ?_ | refine Then_n ?_ | refine Then_r ?_ | refine InBlock_r ?_ | refine WL_nil ?_ | refine W_condT rfl ?_ | refine WL_some rfl rfl rfl ?_ | refine op_assign rfl rfl ?_ | refine op_notF rfl rfl ?_)
    refine post1 (.inl rfl) rfl rfl ?_
    rw [hr]; exact ⟨chg_self hc1, rfl, p, x1, Grows.refl _ _ _⟩
  | true =>
  have hb1 := x1.blk
  have hd1 := x1.dirOk
  have hend : ∀ w2, Chg [] w1 w2 → ((looks (callM s).dir k).isNone && decide (150 ≤ (callM s).dir.length)) = false →
      createM s k = (changeM { callM s with files := (callM s).files ++ [⟨[], 0⟩] } ⟨0, k, [], some (callM s).files.length⟩, 0) := fun w2 hc2 hn => by
    unfold createM
    simp only [hfm, hmay]
    rw [hn]
    simp
  have hok : ((looks (callM s).dir k).isNone && decide (150 ≤ (callM s).dir.length)) = false → FsOk (changeM { callM s with files := (callM s).files ++ [⟨[], 0⟩] } ⟨0, k, [], some (callM s).files.length⟩) := fun hn => by
    have := createM_ok x.ok k
    rw [hend w1 (Chg.refl _ _) hn] at this; exact this
  have hfile : FsOk { callM s with files := (callM s).files ++ [⟨[], 0⟩] } := by
    have h1 := x1.ok
    exact ⟨h1.room0, h1.room1, h1.calls0, h1.fail0, h1.fail1, fun f hf => by
      rcases List.mem_append.1 hf with hf | hf
      · exact h1.files f hf
      · simp at hf; subst hf; simp, h1.replay.more (by simp), h1.waits⟩
  cases hl : looks (callM s).dir k with
  | none =>
    repeat (first | refine W_seq ?_ | refine W_region ?_ | refine Then_n ?_ | refine WL_nil ?_ | refine W_condF rfl ?_ | refine WL_some rfl rfl rfl ?_ | refine op_move rfl rfl ?_ | refine op_assign rfl rfl ?_ | refine op_notT rfl rfl ?_ | refine op_nilCheck rfl rfl ?_ | refine op_fieldAddr T rfl rfl rfl rfl rfl rfl rfl rfl ?_ | refine op_loadB T rfl rfl rfl rfl (by assumption) (by exact rfl) ?_)
    refine op_lookup_v T strKey rfl rfl rfl rfl rfl rfl x1.dirM (v := .pointer none) (fun b hb => by rw [at2_none hl] at hb; cases hb) (fun _ => rfl) ?_
    repeat (first | refine WL_some rfl rfl rfl ?_ | refine WL_guardT rfl rfl rfl rfl ?_ | refine op_move rfl rfl ?_ | refine op_nilCheck rfl rfl ?_ | refine op_fieldAddr T rfl rfl rfl rfl rfl rfl rfl rfl ?_ | refine op_eql_nilptr T rfl rfl rfl rfl rfl ?_ | refine op_loadB T rfl rfl rfl rfl (by assumption) (by exact rfl) ?_)
    refine op_len_map T strKey (ks := (callM s).dir.map (·.1)) rfl rfl rfl rfl x1.dirM hd1.up.nodup (fun k' => (at2_isSome hd1 k').symm) ?_
    rw [List.length_map]
    by_cases hfull : 150 ≤ (callM s).dir.length
    · have hr : createM s k = (callM s, 4) := by unfold createM; simp [hfm, hmay, hl, hfull]
      repeat (first | refine W_seq ?_ | refine W_region ?_ | refine W_ret ?_ | refine Then_n ?_ | refine Then_r ?_ | refine InBlock_r ?_ | refine WL_nil ?_ | refine W_condT rfl ?_ | refine WL_some rfl rfl rfl ?_ | refine WL_guardT rfl rfl rfl rfl ?_ | refine op_assign rfl rfl ?_ | refine op_pick rfl rfl rfl rfl ?_ | refine op_geq rfl rfl rfl (fun hc => ?_) (fun hc => False.elim (by omega)))
      refine post1 (.inl rfl) rfl rfl ?_
      rw [hr]; exact ⟨chg_self hc1, rfl, p, x1, Grows.refl _ _ _⟩
    have hn : ((looks (callM s).dir k).isNone && decide (150 ≤ (callM s).dir.length)) = false := by simp [hfull]
    rw [hend w1 (Chg.refl _ _) hn]
    have hok := hok hn
    repeat (first | refine W_seq ?_ | refine W_region ?_ | refine W_skip ?_ | refine Then_n ?_ | refine InBlock_n ?_ | refine WL_nil ?_ | refine W_condF rfl ?_ | refine WL_some rfl rfl rfl ?_ | refine WL_guardT rfl rfl rfl rfl ?_ | refine op_move rfl rfl ?_ | refine op_assign rfl rfl ?_ | refine op_pick rfl rfl rfl rfl ?_ | refine op_geq rfl rfl rfl (fun hc => False.elim (by omega)) (fun hc => ?_) | refine op_build T rfl rfl rfl rfl rfl rfl ?_)
    refine op_box rfl rfl (fun gf w2 hs2 hc2 hg2 => ?_)
    have x2 := (x1.keep0 hc2).addFile hg2 (fun hm => by have := x1.lt gf hm; omega) hfile
    have hid : idV (p.fb ++ [(gf, Value.slice none 0 0)]) (some (callM s).files.length) = ptrV gf := idV_some (i := (callM s).files.length) (q := (gf, .slice none 0 0)) rfl (by rw [← x1.len]; simp)
    have hcv : chV (p.fb ++ [(gf, Value.slice none 0 0)]) ⟨0, k, [], some (callM s).files.length⟩ = [.int .i64 ((0 : Nat) : Int), .string (str k), .string (str []), .pointer (some ⟨gf, 0, none⟩)] := by unfold chV; rw [hid]; rfl
    repeat (first | refine WL_some rfl rfl rfl ?_ | refine op_build T rfl rfl rfl rfl rfl rfl ?_)
    have hcall := change_has g _ _ ⟨0, k, [], some (callM s).files.length⟩ w2 x2 ⟨fun _ => by simp, fun e => by simp at e⟩ (fun i hi => by simp at hi; subst hi; simp) hok hcc
    rw [hcv] at hcall
    refine op_call rfl rfl rfl hcall ?_
    rintro _ w3 ⟨hc3, rfl, wv', x3, hgr⟩
    repeat (first | refine W_ret ?_ | refine Then_n ?_ | refine WL_nil ?_ | refine WL_some rfl rfl rfl ?_ | refine op_assign rfl rfl ?_)
    have hg2 : Grows w g p { p with fb := p.fb ++ [(gf, Value.slice none 0 0)] } := fun j hj => by
      rcases FsP.mem_fp.1 hj with h | h | h | h | ⟨q, hq, h⟩
      · exact .inl (FsP.mem_fp.2 (.inl h))
      · exact .inl (FsP.mem_fp.2 (.inr (.inl h)))
      · exact .inl (FsP.mem_fp.2 (.inr (.inr (.inl h))))
      · exact .inl (FsP.mem_fp.2 (.inr (.inr (.inr (.inl h)))))
      · rcases List.mem_append.1 hq with hq | hq
        · exact .inl (FsP.mem_fp.2 (.inr (.inr (.inr (.inr ⟨q, hq, h⟩)))))
        · simp at hq
          subst hq
          rcases h with rfl | h
          · exact .inr (by have := hc1.size; omega)
          · cases h
    have hc02 := (chg_self (p := p) hc1).trans' hc2
    exact post1 (.inl rfl) rfl rfl ⟨hc02.fps hg2 hc3, rfl, _, x3, hg2.trans hgr hc02.size⟩
  | some i =>
    obtain ⟨q, f, hq, hfi⟩ := x1.get hl
    repeat (first | refine W_seq ?_ | refine W_region ?_ | refine Then_n ?_ | refine WL_nil ?_ | refine W_condF rfl ?_ | refine WL_some rfl rfl rfl ?_ | refine op_move rfl rfl ?_ | refine op_assign rfl rfl ?_ | refine op_notT rfl rfl ?_ | refine op_nilCheck rfl rfl ?_ | refine op_fieldAddr T rfl rfl rfl rfl rfl rfl rfl rfl ?_ | refine op_loadB T rfl rfl rfl rfl (by assumption) (by exact rfl) ?_)
    refine op_lookup_v T strKey rfl rfl rfl rfl rfl rfl x1.dirM (v := ptrV q.1) (fun b hb => by rw [at2_some hl hq] at hb; injection hb with hb; rw [hb]) (fun hn => by rw [at2_some hl hq] at hn; cases hn) ?_
    unfold ptrV
    have hn : ((looks (callM s).dir k).isNone && decide (150 ≤ (callM s).dir.length)) = false := by simp [hl]
    rw [hend w1 (Chg.refl _ _) hn]
    have hok := hok hn
    repeat (first | refine W_seq ?_ | refine W_region ?_ | refine W_skip ?_ | refine Then_n ?_ | refine InBlock_n ?_ | refine WL_nil ?_ | refine W_condF rfl ?_ | refine WL_some rfl rfl rfl ?_ | refine WL_guardF rfl rfl rfl rfl rfl ?_ | refine op_move rfl rfl ?_ | refine op_assign rfl rfl ?_ | refine op_pick rfl rfl rfl rfl ?_ | refine op_eql_nilptr T rfl rfl rfl rfl rfl ?_ | refine op_build T rfl rfl rfl rfl rfl rfl ?_)
    refine op_box rfl rfl (fun gf w2 hs2 hc2 hg2 => ?_)
    have x2 := (x1.keep0 hc2).addFile hg2 (fun hm => by have := x1.lt gf hm; omega) hfile
    have hid : idV (p.fb ++ [(gf, Value.slice none 0 0)]) (some (callM s).files.length) = ptrV gf := idV_some (i := (callM s).files.length) (q := (gf, .slice none 0 0)) rfl (by rw [← x1.len]; simp)
    have hcv : chV (p.fb ++ [(gf, Value.slice none 0 0)]) ⟨0, k, [], some (callM s).files.length⟩ = [.int .i64 ((0 : Nat) : Int), .string (str k), .string (str []), .pointer (some ⟨gf, 0, none⟩)] := by unfold chV; rw [hid]; rfl
    repeat (first | refine WL_some rfl rfl rfl ?_ | refine op_build T rfl rfl rfl rfl rfl rfl ?_)
    have hcall := change_has g _ _ ⟨0, k, [], some (callM s).files.length⟩ w2 x2 ⟨fun _ => by simp, fun e => by simp at e⟩ (fun i hi => by simp at hi; subst hi; simp) hok hcc
    rw [hcv] at hcall
    refine op_call rfl rfl rfl hcall ?_
    rintro _ w3 ⟨hc3, rfl, wv', x3, hgr⟩
    repeat (first | refine W_ret ?_ | refine Then_n ?_ | refine WL_nil ?_ | refine WL_some rfl rfl rfl ?_ | refine op_assign rfl rfl ?_)
    have hg2 : Grows w g p { p with fb := p.fb ++ [(gf, Value.slice none 0 0)] } := fun j hj => by
      rcases FsP.mem_fp.1 hj with h | h | h | h | ⟨q, hq, h⟩
      · exact .inl (FsP.mem_fp.2 (.inl h))
      · exact .inl (FsP.mem_fp.2 (.inr (.inl h)))
      · exact .inl (FsP.mem_fp.2 (.inr (.inr (.inl h))))
      · exact .inl (FsP.mem_fp.2 (.inr (.inr (.inr (.inl h)))))
      · rcases List.mem_append.1 hq with hq | hq
        · exact .inl (FsP.mem_fp.2 (.inr (.inr (.inr (.inr ⟨q, hq, h⟩)))))
        · simp at hq
          subst hq
          rcases h with rfl | h
          · exact .inr (by have := hc1.size; omega)
          · cases h
    have hc02 := (chg_self (p := p) hc1).trans' hc2
    exact post1 (.inl rfl) rfl rfl ⟨hc02.fps hg2 hc3, rfl, _, x3, hg2.trans hgr hc02.size⟩
end Go.Proofs.YtbhnplghnhafiaaDoor.Tryd
/-! Files: Rename, Remove, SyncDir. -/
set_option linter.unusedVariables false
set_option linter.unusedSimpArgs false
namespace Go.Proofs.YtbhnplghnhafiaaDoor.Tryd
open Go Go.Vc

set_option maxHeartbeats 4000000 in
theorem rename_has (g : Nat) (s : FsM) (p : FsP) (k k' : Nm) (w : World) (x : FsAt w g s p) (hk : k'.length ≤ maxLen) (hcalls : s.calls < 1000000000 - 1) :
    Has Go.Proofs.Tryd.prog 60 #[ptrV g, .string (str k), .string (str k')] w (FsDone w g p (renameM s k k')) := by
  refine enter Go.Proofs.Tryd.func60 rfl rfl (by decide) rfl (e := [(0, ptrV g), (1, .string (str k)), (2, .string (str k'))]) ⟨rfl, rfl, rfl, trivial⟩ ?_
  unfold ptrV
  repeat (first | refine W_seq ?_ | refine W_region ?_ | refine Then_n ?_ | refine WL_nil ?_ | refine WL_some rfl rfl rfl ?_ | refine op_move rfl rfl ?_ | refine op_assign rfl rfl ?_)
  refine op_call rfl rfl rfl (call_has g s p w x (by omega)) ?_
  rintro _ w1 ⟨hc1, rfl, x1⟩
  have hcc : (callM s).calls < 1000000000 := by show s.calls + 1 < _; omega
  cases hfm : failsM s with
  | true =>
    have hr : renameM s k k' = (callM s, 5) := by unfold renameM; simp [hfm]
    rw [if_pos rfl]
    repeat (first | refine W_seq ?_ | refine W_region ?_ | refine W_ret ?_ | refine Then_n ?_ | refine Then_r ?_ | refine WL_nil ?_ | refine W_condT rfl ?_ | refine WL_some rfl rfl rfl ?_ | refine op_move rfl rfl ?_ | refine op_assign rfl rfl ?_ | refine op_neq rfl rfl rfl (fun hc => ?_) (fun hc => False.elim (by omega)))
    refine post1 (.inl rfl) rfl rfl ?_
    rw [hr]; exact ⟨chg_self hc1, rfl, p, x1, Grows.refl _ _ _⟩
  | false =>
  rw [if_neg (by simp)]
  have hb1 := x1.blk
  cases hl : looks (callM s).dir k with
  | none =>
    have hr : renameM s k k' = (callM s, 3) := by unfold renameM; simp [hfm, hl]
    repeat (first | refine W_seq ?_ | refine W_block ?_ | refine W_region ?_ | refine W_skip ?_ | refine Then_n ?_ | refine WL_nil ?_ | refine W_condF rfl ?_ | refine WL_some rfl rfl rfl ?_ | refine op_move rfl rfl ?_ | refine op_assign rfl rfl ?_ | refine op_nilCheck rfl rfl ?_ | refine op_neq rfl rfl rfl (fun hc => False.elim (by omega)) (fun hc => ?_) | refine op_fieldAddr T rfl rfl rfl rfl rfl rfl rfl rfl ?_ | refine op_loadB T rfl rfl rfl rfl (by assumption) (by exact rfl) ?_)
    refine op_lookup_v T strKey rfl rfl rfl rfl rfl rfl x1.dirM (v := .pointer none) (fun b hb => by rw [at2_none hl] at hb; cases hb) (fun _ => rfl) ?_
    repeat (first | refine W_seq ?_ | refine W_region ?_ | refine W_ret ?_ | refine Then_n ?_ | refine Then_r ?_ | refine InBlock_r ?_ | refine WL_nil ?_ | refine W_condT rfl ?_ | refine WL_some rfl rfl rfl ?_ | refine op_assign rfl rfl ?_ | refine op_eql_nilptr T rfl rfl rfl rfl rfl ?_)
    refine post1 (.inl rfl) rfl rfl ?_
    rw [hr]; exact ⟨chg_self hc1, rfl, p, x1, Grows.refl _ _ _⟩
  | some i =>
  obtain ⟨q, f, hq, hfi⟩ := x1.get hl
  repeat (first | refine W_seq ?_ | refine W_block ?_ | refine W_region ?_ | refine W_skip ?_ | refine Then_n ?_ | refine WL_nil ?_ | refine W_condF rfl ?_ | refine WL_some rfl rfl rfl ?_ | refine op_move rfl rfl ?_ | refine op_assign rfl rfl ?_ | refine op_nilCheck rfl rfl ?_ | refine op_neq rfl rfl rfl (fun hc => False.elim (by omega)) (fun hc => ?_) | refine op_fieldAddr T rfl rfl rfl rfl rfl rfl rfl rfl ?_ | refine op_loadB T rfl rfl rfl rfl (by assumption) (by exact rfl) ?_)
  refine op_lookup_v T strKey rfl rfl rfl rfl rfl rfl x1.dirM (v := ptrV q.1) (fun b hb => by rw [at2_some hl hq] at hb; injection hb with hb; rw [hb]) (fun hn => by rw [at2_some hl hq] at hn; cases hn) ?_
  unfold ptrV
  repeat (first | refine W_seq ?_ | refine W_region ?_ | refine Then_n ?_ | refine WL_nil ?_ | refine W_condF rfl ?_ | refine WL_some rfl rfl rfl ?_ | refine op_move rfl rfl ?_ | refine op_assign rfl rfl ?_ | refine op_eql_nilptr T rfl rfl rfl rfl rfl ?_)
  refine op_call rfl rfl rfl (may_has k' w1 hk) ?_
  rintro _ w1 ⟨rfl, rfl⟩
  cases hmay : mayM k' with
  | false =>
    have hr : renameM s k k' = (callM s, 10) := by unfold renameM; simp [hfm, hl, hmay]
    repeat (first | refine W_seq ?_ | refine W_region ?_ | refine W_ret ?_ | refine Then_n ?_ | refine Then_r ?_ | refine InBlock_r ?_ | refine WL_nil ?_ | refine W_condT rfl ?_ | refine WL_some rfl rfl rfl ?_ | refine op_assign rfl rfl ?_ | refine op_notF rfl rfl ?_)
    refine post1 (.inl rfl) rfl rfl ?_
    rw [hr]; exact ⟨chg_self hc1, rfl, p, x1, Grows.refl _ _ _⟩
  | true =>
  have hr : renameM s k k' = (changeM (callM s) ⟨1, k, k', none⟩, 0) := by unfold renameM; simp [hfm, hl, hmay]
  have hok := renameM_ok x.ok k k'
  rw [hr] at hok
  have hcv : chV p.fb ⟨1, k, k', none⟩ = [.int .i64 ((1 : Nat) : Int), .string (str k), .string (str k'), .pointer none] := rfl
  have hcall := change_has g _ _ ⟨1, k, k', none⟩ w1 x1 ⟨fun e => by simp at e, fun _ => by simp [hl]⟩ (fun i hi => by cases hi) hok hcc
  rw [hcv] at hcall
  repeat (first | refine W_seq ?_ | refine W_region ?_ | refine W_skip ?_ | refine Then_n ?_ | refine InBlock_n ?_ | refine WL_nil ?_ | refine W_condF rfl ?_ | refine WL_some rfl rfl rfl ?_ | refine op_move rfl rfl ?_ | refine op_assign rfl rfl ?_ | refine op_notT rfl rfl ?_ | refine op_build T rfl rfl rfl rfl rfl rfl ?_)
  refine op_call rfl rfl rfl hcall ?_
  rintro _ w2 ⟨hc2, rfl, wv', x2, hgr⟩
  repeat (first | refine W_ret ?_ | refine Then_n ?_ | refine WL_nil ?_ | refine WL_some rfl rfl rfl ?_ | refine op_assign rfl rfl ?_)
  refine post1 (.inl rfl) rfl rfl ?_
  rw [hr]
  exact ⟨(chg_self hc1).fps (Grows.refl _ _ _) hc2, rfl, _, x2, (Grows.refl _ _ _).trans hgr hc1.size⟩

/-- The lasting directory is now a copy of the one that is. -/
theorem FsAt.syncD {w w' : World} {g : Nat} {s : FsM} {p : FsP} (x : FsAt w g s p) (hc : Chg [g] w w') {ml : Nat} (hb : Blk w' g 56 [.int .i64 s.room, .map (some p.md), .map (some ml), .slice none 0 0, .int .i64 s.calls, .int .i64 s.fail])
    (hm : MapAt keyV ptrV w' ml (at2 p.fb s.dir)) (hne : p.md ≠ ml) (hok : FsOk { s with lasts := s.dir, waits := [] }) : FsAt w' g { s with lasts := s.dir, waits := [] } { p with ml := ml, wv := .slice none 0 0 } := by
  have hrow : ∀ k t cs, Blk w k t cs → t ≠ 56 → k ∉ [g] := fun k t cs hk h1 hm => by
    simp at hm; subst hm
    exact hk.ne_ x.blk h1 rfl
  refine ⟨hok, hb, x.dirM.keep hc (by simpa using x.dirM.ne_blk x.blk), hm, Own.nil _ _ _, x.len, fun i q f hq hf => ?_, fun i q f hq hf => ?_, hne, x.apart2, x.apart3⟩
  · have h1 := x.fblk i q f hq hf
    exact h1.keep hc (hrow _ _ _ h1 (by decide))
  · refine (x.fown i q f hq hf).keep hc (fun h hh => ?_)
    obtain ⟨cur, hr⟩ := (x.fown i q f hq hf).row hh
    exact hrow _ _ _ hr (by decide)

set_option maxHeartbeats 2000000 in
theorem syncDir_has (g : Nat) (s : FsM) (p : FsP) (w : World) (x : FsAt w g s p) (hcalls : s.calls < 1000000000 - 1) :
    Has Go.Proofs.Tryd.prog 24 #[ptrV g] w (FsDone w g p (syncDirM s)) := by
  refine enter Go.Proofs.Tryd.func24 rfl rfl (by decide) rfl (e := [(0, ptrV g)]) ⟨rfl, trivial⟩ ?_
  unfold ptrV
  repeat (first | refine W_seq ?_ | refine W_region ?_ | refine Then_n ?_ | refine WL_nil ?_ | refine WL_some rfl rfl rfl ?_ | refine op_move rfl rfl ?_ | refine op_assign rfl rfl ?_)
  refine op_call rfl rfl rfl (call_has g s p w x (by omega)) ?_
  rintro _ w1 ⟨hc1, rfl, x1⟩
  cases hfm : failsM s with
  | true =>
    have hr : syncDirM s = (callM s, 5) := by unfold syncDirM; simp [hfm]
    rw [if_pos rfl]
    repeat (first | refine W_seq ?_ | refine W_region ?_ | refine W_ret ?_ | refine Then_n ?_ | refine Then_r ?_ | refine WL_nil ?_ | refine W_condT rfl ?_ | refine WL_some rfl rfl rfl ?_ | refine op_move rfl rfl ?_ | refine op_assign rfl rfl ?_ | refine op_neq rfl rfl rfl (fun hc => ?_) (fun hc => False.elim (by omega)))
    refine post1 (.inl rfl) rfl rfl ?_
    rw [hr]; exact ⟨chg_self hc1, rfl, p, x1, Grows.refl _ _ _⟩
  | false =>
  rw [if_neg (by simp)]
  have hb1 := x1.blk
  have hr : syncDirM s = ({ callM s with lasts := (callM s).dir, waits := [] }, 0) := by unfold syncDirM; simp [hfm]
  have hok := syncDirM_ok x.ok
  rw [hr] at hok
  repeat (first | refine W_seq ?_ | refine W_region ?_ | refine W_skip ?_ | refine Then_n ?_ | refine WL_nil ?_ | refine W_condF rfl ?_ | refine WL_some rfl rfl rfl ?_ | refine op_move rfl rfl ?_ | refine op_assign rfl rfl ?_ | refine op_nilCheck rfl rfl ?_ | refine op_neq rfl rfl rfl (fun hc => False.elim (by omega)) (fun hc => ?_) | refine op_fieldAddr T rfl rfl rfl rfl rfl rfl rfl rfl ?_ | refine op_loadB T rfl rfl rfl rfl (by assumption) (by exact rfl) ?_)
  refine op_call rfl rfl rfl (cloneD_has x1.dirM) ?_
  rintro _ w2 ⟨ml, rfl, hml, hc2, hm2⟩
  have x2 := x1.keep0 hc2
  have hb2 := x2.blk
  repeat (first | refine WL_some rfl rfl rfl ?_ | refine WL_none rfl rfl ?_ | refine op_nilCheck rfl rfl ?_ | refine op_fieldAddr T rfl rfl rfl rfl rfl rfl rfl rfl ?_)
  refine op_store T rfl rfl rfl rfl rfl rfl hb2 (Nat.le_of_ble_eq_true rfl) (fun w3 hc3 hb3 _ => ?_)
  have hb3 : Blk w3 g 56 [.int .i64 (callM s).room, .map (some p.md), .map (some ml), p.wv, .int .i64 (callM s).calls, .int .i64 (callM s).fail] := hb3
  repeat (first | refine WL_some rfl rfl rfl ?_ | refine WL_none rfl rfl ?_ | refine op_nilCheck rfl rfl ?_ | refine op_fieldAddr T rfl rfl rfl rfl rfl rfl rfl rfl ?_)
  refine op_store T rfl rfl rfl rfl rfl rfl hb3 (Nat.le_of_ble_eq_true rfl) (fun w4 hc4 hb4 _ => ?_)
  have hb4 : Blk w4 g 56 [.int .i64 (callM s).room, .map (some p.md), .map (some ml), .slice none 0 0, .int .i64 (callM s).calls, .int .i64 (callM s).fail] := hb4
  repeat (first | refine W_seq ?_ | refine W_region ?_ | refine W_ret ?_ | refine Then_n ?_ | refine WL_nil ?_ | refine WL_some rfl rfl rfl ?_ | refine op_assign rfl rfl ?_)
  have hc24 : Chg [g] w2 w4 := hc3.trans hc4 (fun _ h _ => h)
  have hmd := x1.dirM.lt
  have x4 := x2.syncD hc24 hb4 (hm2.keep hc24 (by simpa using hm2.ne_blk hb2)) (by omega) hok
  refine post1 (.inl rfl) rfl rfl ?_
  rw [hr]
  refine ⟨chg_self ((hc1.trans' hc2).trans hc24 (fun _ h _ => h)), rfl, _, x4, fun k hk => ?_⟩
  rcases FsP.mem_fp.1 hk with h | h | h | h | h
  · exact .inl (FsP.mem_fp.2 (.inl h))
  · exact .inl (FsP.mem_fp.2 (.inr (.inl h)))
  · have h : k = ml := h
    exact .inr (by have := hc1.size; omega)
  · cases h
  · exact .inl (FsP.mem_fp.2 (.inr (.inr (.inr (.inr h)))))
end Go.Proofs.YtbhnplghnhafiaaDoor.Tryd
/-! Files: Sync, Append, Read. -/
set_option linter.unusedVariables false
set_option linter.unusedSimpArgs false
namespace Go.Vc
open Go
theorem at2_fst {fb fb' : List (Nat × Value)} (h : ∀ i : Nat, (fb'[i]?).map (·.1) = (fb[i]?).map (·.1)) (d : Dir) (k : Nm) : at2 fb' d k = at2 fb d k := by
  unfold at2; simp only [h]
theorem chV_fst {fb fb' : List (Nat × Value)} (h : ∀ i : Nat, (fb'[i]?).map (·.1) = (fb[i]?).map (·.1)) (c : ChM) : chV fb' c = chV fb c := by
  unfold chV idV; simp only [h]
theorem set_fst {fb : List (Nat × Value)} {i : Nat} {q : Nat × Value} (hq : fb[i]? = some q) (v : Value) (j : Nat) : ((fb.set i (q.1, v))[j]?).map (·.1) = (fb[j]?).map (·.1) := by
  rw [List.getElem?_set]
  by_cases h : i = j
  · subst h
    obtain ⟨h1, h2⟩ := List.getElem?_eq_some_iff.1 hq
    rw [if_pos rfl, if_pos h1, hq]; rfl
  · rw [if_neg h]
end Go.Vc
namespace Go.Proofs.YtbhnplghnhafiaaDoor.Tryd
open Go Go.Vc

/-- One file's bytes, and how many of them are synced, have turned. -/
theorem FsAt.setFile {w w' : World} {g : Nat} {s : FsM} {p : FsP} {S : List Nat} (x : FsAt w g s p) {i : Nat} {q : Nat × Value} {f : FileM} (hq : p.fb[i]? = some q) (hf : s.files[i]? = some f) (gg : FileM → FileM) {v' : Value} (hc : Chg S w w')
    (hS : ∀ k ∈ S, k < w.heap.size → k = q.1 ∨ q.2.ownBlock = some k) (hb : Blk w' q.1 65 [v', .int .i64 (gg f).synced]) (ho : Own w' 5 1 v' (gg f).b.length (u8s (gg f).b))
    (hv : v'.ownBlock = q.2.ownBlock ∨ ∃ h, v'.ownBlock = some h ∧ w.heap.size ≤ h) (hok : FsOk { s with files := s.files.modify i gg }) :
    FsAt w' g { s with files := s.files.modify i gg } { p with fb := p.fb.set i (q.1, v') } ∧ Grows w g p { p with fb := p.fb.set i (q.1, v') } := by
  have hqb := x.fblk i q f hq hf
  have hc := hc.mono (S' := q.1 :: q.2.ownBlock.toList) (fun k hk hlt => by
    rcases hS k hk hlt with h | h
    · simp [h]
    · simp [h])
  have hil := (List.getElem?_eq_some_iff.1 hq).1
  have hnot : ∀ k, k < w.heap.size → k ≠ q.1 → q.2.ownBlock ≠ some k → k ∉ q.1 :: q.2.ownBlock.toList := fun k _ h1 h2 hm => by
    rcases List.mem_cons.1 hm with h | h
    · exact h1 h
    · exact h2 (by simpa using h)
  have hrow : ∀ k t cs, Blk w k t cs → t ≠ 65 → t ≠ 5 → k ∉ q.1 :: q.2.ownBlock.toList := fun k t cs hk h1 h2 => hnot k hk.lt (fun e => by subst e; exact hk.ne_ hqb h1 rfl) (fun e => by
    obtain ⟨cur, hr⟩ := (x.fown i q f hq hf).row e
    exact hk.ne_ hr h2 rfl)
  have hmap : ∀ (bv : Nat → Value) r ff, MapAt keyV bv w r ff → r ∉ q.1 :: q.2.ownBlock.toList := fun bv r ff hm => hnot r hm.lt (fun e => hm.ne_blk hqb e) (fun e => by
    obtain ⟨cur, hr⟩ := (x.fown i q f hq hf).row e
    exact hm.ne_blk hr rfl)
  have hfst := set_fst hq v'
  have hget : ∀ (j : Nat) q', (p.fb.set i (q.1, v'))[j]? = some q' → (j = i ∧ q' = (q.1, v')) ∨ (j ≠ i ∧ p.fb[j]? = some q') := fun j q' h => by
    rw [List.getElem?_set] at h
    by_cases e : i = j
    · subst e; rw [if_pos rfl, if_pos hil] at h; injection h with h; exact .inl ⟨rfl, h.symm⟩
    · rw [if_neg e] at h; exact .inr ⟨fun e' => e e'.symm, h⟩
  have hfile : ∀ (j : Nat) f', (s.files.modify i gg)[j]? = some f' → (j = i ∧ f' = gg f) ∨ (j ≠ i ∧ s.files[j]? = some f') := fun j f' h => by
    rw [List.getElem?_modify] at h
    by_cases e : i = j
    · subst e; simp [hf] at h; exact .inl ⟨rfl, h.symm⟩
    · simp [e] at h; exact .inr ⟨fun e' => e e'.symm, h⟩
  refine ⟨⟨hok, x.blk.keep hc (hrow _ _ _ x.blk (by decide) (by decide)), (x.dirM.keep hc (hmap _ _ _ x.dirM)).congr (fun k => (at2_fst hfst _ k).symm), (x.lastsM.keep hc (hmap _ _ _ x.lastsM)).congr (fun k => (at2_fst hfst _ k).symm), ?_, by simp [x.len], fun j q' f' h1 h2 => ?_, fun j q' f' h1 h2 => ?_, x.apart1, ?_, fun j j' q1 q2 h h1 h2 h3 h4 => ?_⟩, fun k hk => ?_⟩
  · show Own w' _ 4 p.wv s.waits.length (s.waits.flatMap (chV (p.fb.set i (q.1, v'))))
    rw [flatMap_congr' (g := chV p.fb) (fun c _ => chV_fst hfst c)]
    refine x.waitsM.keep hc (fun h hh => ?_)
    obtain ⟨cur, hr⟩ := x.waitsM.row hh
    exact hrow _ _ _ hr (by decide) (by decide)
  · rcases hget j q' h1 with ⟨rfl, rfl⟩ | ⟨hj, h1⟩
    · rcases hfile j f' h2 with ⟨_, rfl⟩ | ⟨h, _⟩
      · exact hb
      · exact absurd rfl h
    · rcases hfile j f' h2 with ⟨h, _⟩ | ⟨_, h2⟩
      · exact absurd h hj
      · have h5 := x.fblk j q' f' h1 h2
        refine h5.keep hc (hnot _ h5.lt (fun e => hj ?_) (fun e => ?_))
        · have hjl := (List.getElem?_eq_some_iff.1 h1).1
          refine (List.getElem?_inj (l := p.fb.map (·.1)) (by simpa using hjl) x.apart2).1 ?_
          rw [List.getElem?_map, List.getElem?_map, h1, hq]; simp [e]
        · obtain ⟨cur, hr⟩ := (x.fown i q f hq hf).row e
          exact h5.ne_ hr (by decide) rfl
  · rcases hget j q' h1 with ⟨rfl, rfl⟩ | ⟨hj, h1⟩
    · rcases hfile j f' h2 with ⟨_, rfl⟩ | ⟨h, _⟩
      · exact ho
      · exact absurd rfl h
    · rcases hfile j f' h2 with ⟨h, _⟩ | ⟨_, h2⟩
      · exact absurd h hj
      · have h5 := x.fown j q' f' h1 h2
        refine h5.keep hc (fun h hh => hnot _ (h5.lt hh) (fun e => ?_) (fun e => hj (x.apart3 j i q' q h h1 hq hh e)))
        obtain ⟨cur, hr⟩ := h5.row hh
        rw [e] at hr
        exact hqb.ne_ hr (by decide) rfl
  · have : (p.fb.set i (q.1, v')).map (·.1) = p.fb.map (·.1) := by
      apply List.ext_getElem?
      intro j
      rw [List.getElem?_map, List.getElem?_map]; exact hfst j
    show (List.map _ _).Nodup
    rw [this]; exact x.apart2
  · rcases hget j q1 h1 with ⟨rfl, rfl⟩ | ⟨hj, g1⟩
    · rcases hget j' q2 h2 with ⟨rfl, rfl⟩ | ⟨hj', g2⟩
      · rfl
      · have h3 : v'.ownBlock = some h := h3
        rcases hv with hv | ⟨h', hv, hge⟩
        · exact x.apart3 j j' q q2 h hq g2 (hv.symm.trans h3) h4
        · obtain ⟨f2, hf2⟩ : ∃ f2, s.files[j']? = some f2 := ⟨_, List.getElem?_eq_getElem (by rw [← x.len]; exact (List.getElem?_eq_some_iff.1 g2).1)⟩
          have := (x.fown j' q2 f2 g2 hf2).lt h4
          rw [h3] at hv; injection hv with hv; omega
    · rcases hget j' q2 h2 with ⟨rfl, rfl⟩ | ⟨hj', g2⟩
      · have h4 : v'.ownBlock = some h := h4
        rcases hv with hv | ⟨h', hv, hge⟩
        · exact x.apart3 j j' q1 q h g1 hq h3 (hv.symm.trans h4)
        · obtain ⟨f2, hf2⟩ : ∃ f2, s.files[j]? = some f2 := ⟨_, List.getElem?_eq_getElem (by rw [← x.len]; exact (List.getElem?_eq_some_iff.1 g1).1)⟩
          have := (x.fown j q1 f2 g1 hf2).lt h3
          rw [h4] at hv; injection hv with hv; omega
      · exact x.apart3 j j' q1 q2 h g1 g2 h3 h4
  · rcases FsP.mem_fp.1 hk with h | h | h | h | ⟨q', hq', h⟩
    · exact .inl (FsP.mem_fp.2 (.inl h))
    · exact .inl (FsP.mem_fp.2 (.inr (.inl h)))
    · exact .inl (FsP.mem_fp.2 (.inr (.inr (.inl h))))
    · exact .inl (FsP.mem_fp.2 (.inr (.inr (.inr (.inl h)))))
    · rcases List.mem_or_eq_of_mem_set hq' with hq' | rfl
      · exact .inl (FsP.mem_fp.2 (.inr (.inr (.inr (.inr ⟨q', hq', h⟩)))))
      · have hqm := List.mem_of_getElem? hq
        rcases h with h | h
        · exact .inl (FsP.mem_fp.2 (.inr (.inr (.inr (.inr ⟨q, hqm, .inl h⟩)))))
        · have h : v'.ownBlock = some k := h
          rcases hv with hv | ⟨h', hv, hge⟩
          · exact .inl (FsP.mem_fp.2 (.inr (.inr (.inr (.inr ⟨q, hqm, .inr (hv.symm.trans h)⟩)))))
          · rw [h] at hv; injection hv with hv; exact .inr (by omega)

theorem FsAt.mem_file {w : World} {g : Nat} {s : FsM} {p : FsP} (x : FsAt w g s p) {i : Nat} {q : Nat × Value} (hq : p.fb[i]? = some q) : q.1 ∈ p.fp g ∧ ∀ h, q.2.ownBlock = some h → h ∈ p.fp g :=
  ⟨FsP.mem_fp.2 (.inr (.inr (.inr (.inr ⟨q, List.mem_of_getElem? hq, .inl rfl⟩)))), fun h hh => FsP.mem_fp.2 (.inr (.inr (.inr (.inr ⟨q, List.mem_of_getElem? hq, .inr hh⟩))))⟩

set_option maxHeartbeats 2000000 in
theorem sync_has (g : Nat) (s : FsM) (p : FsP) (k : Nm) (w : World) (x : FsAt w g s p) (hcalls : s.calls < 1000000000 - 1) :
    Has Go.Proofs.Tryd.prog 35 #[ptrV g, .string (str k)] w (FsDone w g p (syncM s k)) := by
  refine enter Go.Proofs.Tryd.func35 rfl rfl (by decide) rfl (e := [(0, ptrV g), (1, .string (str k))]) ⟨rfl, rfl, trivial⟩ ?_
  unfold ptrV
  repeat (first | refine W_seq ?_ | refine W_region ?_ | refine Then_n ?_ | refine WL_nil ?_ | refine WL_some rfl rfl rfl ?_ | refine op_move rfl rfl ?_ | refine op_assign rfl rfl ?_)
  refine op_call rfl rfl rfl (call_has g s p w x (by omega)) ?_
  rintro _ w1 ⟨hc1, rfl, x1⟩
  cases hfm : failsM s with
  | true =>
    have hr : syncM s k = (callM s, 5) := by unfold syncM; simp [hfm]
    rw [if_pos rfl]
    repeat (first | refine W_seq ?_ | refine W_region ?_ | refine W_ret ?_ | refine Then_n ?_ | refine Then_r ?_ | refine WL_nil ?_ | refine W_condT rfl ?_ | refine WL_some rfl rfl rfl ?_ | refine op_move rfl rfl ?_ | refine op_assign rfl rfl ?_ | refine op_neq rfl rfl rfl (fun hc => ?_) (fun hc => False.elim (by omega)))
    refine post1 (.inl rfl) rfl rfl ?_
    rw [hr]; exact ⟨chg_self hc1, rfl, p, x1, Grows.refl _ _ _⟩
  | false =>
  rw [if_neg (by simp)]
  have hb1 := x1.blk
  cases hl : looks (callM s).dir k with
  | none =>
    have hr : syncM s k = (callM s, 3) := by unfold syncM; simp [hfm, hl]
    repeat (first | refine W_seq ?_ | refine W_region ?_ | refine W_skip ?_ | refine Then_n ?_ | refine WL_nil ?_ | refine W_condF rfl ?_ | refine WL_some rfl rfl rfl ?_ | refine op_move rfl rfl ?_ | refine op_assign rfl rfl ?_ | refine op_nilCheck rfl rfl ?_ | refine op_neq rfl rfl rfl (fun hc => False.elim (by omega)) (fun hc => ?_) | refine op_fieldAddr T rfl rfl rfl rfl rfl rfl rfl rfl ?_ | refine op_loadB T rfl rfl rfl rfl (by assumption) (by exact rfl) ?_)
    refine op_lookup_v T strKey rfl rfl rfl rfl rfl rfl x1.dirM (v := .pointer none) (fun b hb => by rw [at2_none hl] at hb; cases hb) (fun _ => rfl) ?_
    repeat (first | refine W_seq ?_ | refine W_region ?_ | refine W_ret ?_ | refine Then_n ?_ | refine Then_r ?_ | refine WL_nil ?_ | refine W_condT rfl ?_ | refine WL_some rfl rfl rfl ?_ | refine op_move rfl rfl ?_ | refine op_assign rfl rfl ?_ | refine op_eql_nilptr T rfl rfl rfl rfl rfl ?_)
    refine post1 (.inl rfl) rfl rfl ?_
    rw [hr]; exact ⟨chg_self hc1, rfl, p, x1, Grows.refl _ _ _⟩
  | some i =>
  obtain ⟨q, f, hq, hfi⟩ := x1.get hl
  have hr : syncM s k = ({ callM s with files := (callM s).files.modify i fun f => { f with synced := f.b.length } }, 0) := by unfold syncM; simp [hfm, hl]
  have hok := syncM_ok x.ok k
  rw [hr] at hok
  have hbf := x1.fblk i q f hq hfi
  have hof := x1.fown i q f hq hfi
  obtain ⟨A, c, hv, hv1, hv2⟩ := hof.form
  rw [hv] at hbf
  repeat (first | refine W_seq ?_ | refine W_region ?_ | refine W_skip ?_ | refine Then_n ?_ | refine WL_nil ?_ | refine W_condF rfl ?_ | refine WL_some rfl rfl rfl ?_ | refine op_move rfl rfl ?_ | refine op_assign rfl rfl ?_ | refine op_nilCheck rfl rfl ?_ | refine op_neq rfl rfl rfl (fun hc => False.elim (by omega)) (fun hc => ?_) | refine op_fieldAddr T rfl rfl rfl rfl rfl rfl rfl rfl ?_ | refine op_loadB T rfl rfl rfl rfl (by assumption) (by exact rfl) ?_)
  refine op_lookup_v T strKey rfl rfl rfl rfl rfl rfl x1.dirM (v := ptrV q.1) (fun b hb => by rw [at2_some hl hq] at hb; injection hb with hb; rw [hb]) (fun hn => by rw [at2_some hl hq] at hn; cases hn) ?_
  unfold ptrV
  repeat (first | refine W_seq ?_ | refine W_region ?_ | refine W_skip ?_ | refine Then_n ?_ | refine WL_nil ?_ | refine W_condF rfl ?_ | refine WL_some rfl rfl rfl ?_ | refine WL_none rfl rfl ?_ | refine op_move rfl rfl ?_ | refine op_assign rfl rfl ?_ | refine op_len_slice T rfl rfl rfl rfl ?_ | refine op_nilCheck rfl rfl ?_ | refine op_fieldAddr T rfl rfl rfl rfl rfl rfl rfl rfl ?_ | refine op_eql_nilptr T rfl rfl rfl rfl rfl ?_ | refine op_loadB T rfl rfl rfl rfl (by assumption) (by exact rfl) ?_)
  refine op_store T rfl rfl rfl rfl rfl rfl hbf (Nat.le_of_ble_eq_true rfl) (fun w2 hc2 hb2 _ => ?_)
  repeat (first | refine W_seq ?_ | refine W_region ?_ | refine W_ret ?_ | refine Then_n ?_ | refine WL_nil ?_ | refine WL_some rfl rfl rfl ?_ | refine op_assign rfl rfl ?_)
  have hb2 : Blk w2 q.1 65 [q.2, .int .i64 (f.b.length : Nat)] := by rw [hv]; exact hb2
  obtain ⟨x2, hg2⟩ := x1.setFile hq hfi (fun f => { f with synced := f.b.length }) (v' := q.2) hc2 (fun j hj _ => by simp at hj; exact .inl hj) hb2 (hof.keep hc2 (fun h hh hm => by
    simp at hm
    obtain ⟨cur, hr⟩ := hof.row hh
    rw [hm] at hr
    exact hbf.ne_ hr (by decide) rfl)) (.inl rfl) hok
  refine post1 (.inl rfl) rfl rfl ?_
  rw [hr]
  exact ⟨(chg_self hc1).trans hc2 (fun j hj _ => by simp at hj; subst hj; exact (x1.mem_file hq).1), rfl, _, x2, (Grows.refl _ _ _).trans hg2 hc1.size⟩

set_option maxHeartbeats 4000000 in
theorem append_has (g : Nat) (s : FsM) (p : FsP) (k : Nm) (A : Option Addr) (n c : Nat) (b : List UInt8) (w : World) (x : FsAt w g s p) (hb : Firm (p.fp g) w (fun w => SliceOf Ru8 w (.slice A n c) b)) (hbl : b.length ≤ 1000000000) (hcalls : s.calls < 1000000000 - 1) :
    Has Go.Proofs.Tryd.prog 30 #[ptrV g, .string (str k), .slice A n c] w (FsDone w g p (appendM s k b)) := by
  obtain ⟨rfl, hb1, hb2⟩ := hb.now.len
  refine enter Go.Proofs.Tryd.func30 rfl rfl (by decide) rfl (e := [(0, ptrV g), (1, .string (str k)), (2, .slice A b.length c)]) ⟨rfl, rfl, rfl, trivial⟩ ?_
  unfold ptrV
  repeat (first | refine W_seq ?_ | refine W_region ?_ | refine Then_n ?_ | refine WL_nil ?_ | refine WL_some rfl rfl rfl ?_ | refine op_move rfl rfl ?_ | refine op_assign rfl rfl ?_)
  refine op_call rfl rfl rfl (call_has g s p w x (by omega)) ?_
  rintro _ w1 ⟨hc1, rfl, x1⟩
  have hs1 := hb w1 (chg_self hc1)
  cases hfm : failsM s with
  | true =>
    have hr : appendM s k b = (callM s, 5) := by unfold appendM; simp [hfm]
    rw [if_pos rfl]
    repeat (first | refine W_seq ?_ | refine W_region ?_ | refine W_ret ?_ | refine Then_n ?_ | refine Then_r ?_ | refine WL_nil ?_ | refine W_condT rfl ?_ | refine WL_some rfl rfl rfl ?_ | refine op_move rfl rfl ?_ | refine op_assign rfl rfl ?_ | refine op_neq rfl rfl rfl (fun hc => ?_) (fun hc => False.elim (by omega)))
    refine post1 (.inl rfl) rfl rfl ?_
    rw [hr]; exact ⟨chg_self hc1, rfl, p, x1, Grows.refl _ _ _⟩
  | false =>
  rw [if_neg (by simp)]
  have hbk1 := x1.blk
  cases hl : looks (callM s).dir k with
  | none =>
    have hr : appendM s k b = (callM s, 3) := by unfold appendM; simp [hfm, hl]
    repeat (first | refine W_seq ?_ | refine W_region ?_ | refine W_skip ?_ | refine Then_n ?_ | refine WL_nil ?_ | refine W_condF rfl ?_ | refine WL_some rfl rfl rfl ?_ | refine op_move rfl rfl ?_ | refine op_assign rfl rfl ?_ | refine op_nilCheck rfl rfl ?_ | refine op_neq rfl rfl rfl (fun hc => False.elim (by omega)) (fun hc => ?_) | refine op_fieldAddr T rfl rfl rfl rfl rfl rfl rfl rfl ?_ | refine op_loadB T rfl rfl rfl rfl (by assumption) (by exact rfl) ?_)
    refine op_lookup_v T strKey rfl rfl rfl rfl rfl rfl x1.dirM (v := .pointer none) (fun b hb => by rw [at2_none hl] at hb; cases hb) (fun _ => rfl) ?_
    repeat (first | refine W_seq ?_ | refine W_block ?_ | refine W_region ?_ | refine W_ret ?_ | refine Then_n ?_ | refine Then_r ?_ | refine InBlock_r ?_ | refine WL_nil ?_ | refine W_condT rfl ?_ | refine WL_some rfl rfl rfl ?_ | refine op_move rfl rfl ?_ | refine op_assign rfl rfl ?_ | refine op_eql_nilptr T rfl rfl rfl rfl rfl ?_)
    refine post1 (.inl rfl) rfl rfl ?_
    rw [hr]; exact ⟨chg_self hc1, rfl, p, x1, Grows.refl _ _ _⟩
  | some i =>
  obtain ⟨q, f, hq, hfi⟩ := x1.get hl
  have hul := usedM_le x1.ok
  have hr0 := x1.ok.room0
  have hr1 := x1.ok.room1
  repeat (first | refine W_seq ?_ | refine W_region ?_ | refine W_skip ?_ | refine Then_n ?_ | refine WL_nil ?_ | refine W_condF rfl ?_ | refine WL_some rfl rfl rfl ?_ | refine op_move rfl rfl ?_ | refine op_assign rfl rfl ?_ | refine op_nilCheck rfl rfl ?_ | refine op_neq rfl rfl rfl (fun hc => False.elim (by omega)) (fun hc => ?_) | refine op_fieldAddr T rfl rfl rfl rfl rfl rfl rfl rfl ?_ | refine op_loadB T rfl rfl rfl rfl (by assumption) (by exact rfl) ?_)
  refine op_lookup_v T strKey rfl rfl rfl rfl rfl rfl x1.dirM (v := ptrV q.1) (fun b hb => by rw [at2_some hl hq] at hb; injection hb with hb; rw [hb]) (fun hn => by rw [at2_some hl hq] at hn; cases hn) ?_
  unfold ptrV
  repeat (first | refine W_seq ?_ | refine W_block ?_ | refine W_region ?_ | refine Then_n ?_ | refine WL_nil ?_ | refine W_condF rfl ?_ | refine WL_some rfl rfl rfl ?_ | refine op_move rfl rfl ?_ | refine op_assign rfl rfl ?_ | refine op_eql_nilptr T rfl rfl rfl rfl rfl ?_)
  refine W_walk 10 [] fol (by kernel_rfl) (by kernel_rfl) ?_
  refine Walk.plain rfl (by intro val w_ hR hp; exact op_move rfl rfl ⟨Chg.refl _ _, rfl⟩) ?_; dsimp only [List.nil_append, List.cons_append]
  refine Walk.plain rfl (by intro val w_ hR hp; exact op_len_slice T rfl rfl rfl rfl ⟨Chg.refl _ _, rfl⟩) ?_; dsimp only [List.nil_append, List.cons_append]
  refine Walk.plain rfl (by intro val w_ hR hp; exact op_move rfl rfl ⟨Chg.refl _ _, rfl⟩) ?_; dsimp only [List.nil_append, List.cons_append]
  refine Walk.plain rfl (by intro val w_ hR hp; exact op_nilCheck rfl rfl ⟨Chg.refl _ _, rfl⟩) ?_; dsimp only [List.nil_append, List.cons_append]
  refine Walk.plain rfl (by intro val w_ hR hp; exact op_fieldAddr T rfl rfl rfl rfl rfl rfl rfl rfl ⟨Chg.refl _ _, rfl⟩) ?_; dsimp only [List.nil_append, List.cons_append]
  refine Walk.plain rfl (by intro val w_ hR hp; exact op_load T rfl rfl rfl rfl ((Blk.keep0 hbk1 hR).cell rfl) ⟨Chg.refl _ _, rfl⟩) ?_; dsimp only [List.nil_append, List.cons_append]
  refine Walk.plain rfl (by intro val w_ hR hp; exact op_move rfl rfl ⟨Chg.refl _ _, rfl⟩) ?_; dsimp only [List.nil_append, List.cons_append]
  refine Walk.plain (v := .int .i64 (usedM (callM s))) rfl (by intro val w_ hR hp; exact op_call rfl rfl rfl (used_has g _ p w_ (x1.keep0 hR)) (fun v w' ⟨hc, hv⟩ => ⟨hc, hv⟩)) ?_; dsimp only [List.nil_append, List.cons_append]
  refine Walk.plain rfl (by intro val w_ hR hp; exact op_subt rfl rfl rfl (wrap_i64_in (by omega) (by omega)) ⟨Chg.refl _ _, rfl⟩) ?_; dsimp only [List.nil_append, List.cons_append]
  by_cases hfull : (callM s).room - usedM (callM s) < b.length
  case pos =>
    refine Walk.plain rfl (by intro val w_ hR hp; exact op_gtr rfl rfl rfl (fun hc => ⟨Chg.refl _ _, rfl⟩) (fun hc => False.elim (by omega))) ?_; dsimp only [List.nil_append, List.cons_append]
    refine Walk.fin ?_
    intro val w2 hc2 _
    have x2 := x1.keep0 hc2
    have hr : appendM s k b = (callM s, 4) := by unfold appendM; simp [hfm, hl, hfull]
    refine WL_sub (e' := [(6, .int .i64 0), (33, .bool true)]) ⟨rfl, rfl, trivial⟩ ?_
    repeat (first | refine W_seq ?_ | refine W_region ?_ | refine W_ret ?_ | refine Then_n ?_ | refine Then_r ?_ | refine InBlock_r ?_ | refine WL_nil ?_ | refine W_condT rfl ?_ | refine WL_some rfl rfl rfl ?_ | refine op_assign rfl rfl ?_)
    refine post1 (.inl rfl) rfl rfl ?_
    rw [hr]; exact ⟨(chg_self hc1).trans' hc2, rfl, p, x2, Grows.refl _ _ _⟩
  case neg =>
    refine Walk.plain rfl (by intro val w_ hR hp; exact op_gtr rfl rfl rfl (fun hc => False.elim (by omega)) (fun hc => ⟨Chg.refl _ _, rfl⟩)) ?_; dsimp only [List.nil_append, List.cons_append]
    refine Walk.fin ?_
    intro val w2 hc2 _
    have x2 := x1.keep0 hc2
    have hr : appendM s k b = ({ callM s with files := (callM s).files.modify i fun f => { f with b := f.b ++ b } }, 0) := by unfold appendM; simp [hfm, hl, hfull]
    have hok := appendM_ok x.ok k b
    rw [hr] at hok
    refine WL_sub (e' := [(0, .pointer (some ⟨g, 0, none⟩)), (2, .slice A b.length c), (6, .int .i64 0), (8, .pointer (some ⟨q.1, 0, none⟩)), (33, .bool false)]) ⟨rfl, rfl, rfl, rfl, rfl, trivial⟩ ?_
    have hbf := x2.fblk i q f hq hfi
    have hof := x2.fown i q f hq hfi
    have hs2 := SliceOf.kept Ru8.kept _ _ _ _ hc2 hs1
    have hfl := (x1.ok.files f (List.mem_of_getElem? hfi)).2
    obtain ⟨A2, c2, hv, hv1, hv2⟩ := hof.form
    repeat (first | refine W_seq ?_ | refine W_region ?_ | refine W_skip ?_ | refine Then_n ?_ | refine InBlock_n ?_ | refine WL_nil ?_ | refine W_condF rfl ?_ | refine WL_some rfl rfl rfl ?_ | refine op_move rfl rfl ?_ | refine op_assign rfl rfl ?_ | refine op_nilCheck rfl rfl ?_ | refine op_fieldAddr T rfl rfl rfl rfl rfl rfl rfl rfl ?_ | refine op_loadB T rfl rfl rfl rfl (by assumption) (by exact rfl) ?_)
    refine op_append T (n := f.b.length) (xs := u8s f.b) (m := b.length) (news := u8s b) rfl rfl rfl rfl rfl rfl rfl rfl hof (by rw [u8s_length]; exact (Nat.mul_one _).symm) ?_ (by unfold maxLen; omega) (by show (f.b.length + b.length) * 1 ≤ _; omega) ?_
    · intro j u hj
      obtain ⟨cc, hcc, rfl⟩ := u8s_inv hj
      obtain ⟨ad, u', he, hu, rfl⟩ := hs2.get hcc
      exact ⟨⟨ad, he, hu⟩, rfl⟩
    intro v3 w3 ho3 hc3 hb3 _
    have hq1 : q.1 ∉ q.2.ownBlock.toList := fun hm => by
      obtain ⟨cur, hr⟩ := hof.row (show q.2.ownBlock = some q.1 by simpa using hm)
      exact hbf.ne_ hr (by decide) rfl
    have hbf3 := hbf.keep hc3 hq1
    obtain ⟨A3, c3, rfl, _, _⟩ := ho3.form
    repeat (first | refine WL_some rfl rfl rfl ?_ | refine WL_none rfl rfl ?_ | refine op_nilCheck rfl rfl ?_ | refine op_fieldAddr T rfl rfl rfl rfl rfl rfl rfl rfl ?_)
    refine op_store T rfl rfl rfl rfl rfl rfl hbf3 (Nat.le_of_ble_eq_true rfl) (fun w4 hc4 hb4 _ => ?_)
    repeat (first | refine W_seq ?_ | refine W_region ?_ | refine W_ret ?_ | refine Then_n ?_ | refine WL_nil ?_ | refine WL_some rfl rfl rfl ?_ | refine op_assign rfl rfl ?_)
    have hc24 : Chg (q.1 :: q.2.ownBlock.toList) w2 w4 := (hc3.mono (fun j hj _ => by simp at hj; simp [hj])).trans hc4 (fun j hj _ => by simp at hj; simp [hj])
    obtain ⟨x4, hg4⟩ := x2.setFile hq hfi (fun f => { f with b := f.b ++ b }) hc24 (fun j hj _ => by simpa using hj) hb4 (by
      show Own w4 _ 1 _ (f.b ++ b).length (u8s (f.b ++ b))
      rw [List.length_append, u8s_append]
      refine ho3.keep hc4 (fun h hh hm => ?_)
      simp at hm
      obtain ⟨cur, hr⟩ := ho3.row hh
      rw [hm] at hr
      exact hbf3.ne_ hr (by decide) rfl) hb3 hok
    refine post1 (.inl rfl) rfl rfl ?_
    rw [hr]
    obtain ⟨hm1, hm2⟩ := x2.mem_file hq
    have hc02 := (chg_self (p := p) hc1).trans' hc2
    exact ⟨hc02.trans hc24 (fun j hj _ => by
      rcases List.mem_cons.1 hj with h | h
      · subst h; exact hm1
      · exact hm2 j (by simpa using h)), rfl, _, x4, (Grows.refl _ _ _).trans hg4 hc02.size⟩

/-- What Read leaves: the bytes of a file, in a row of the call's own. -/
def readV (o : Option (List UInt8)) (w0 : World) (v : Value) (w' : World) : Prop := match o with
  | none => v = .tuple #[.slice none 0 0, .int .i64 3]
  | some b => ∃ u, v = .tuple #[u, .int .i64 0] ∧ Own w' 5 1 u b.length (u8s b) ∧ ∀ h, u.ownBlock = some h → w0.heap.size ≤ h
theorem read_has (g : Nat) (s : FsM) (p : FsP) (k : Nm) (w : World) (x : FsAt w g s p) :
    Has Go.Proofs.Tryd.prog 19 #[ptrV g, .string (str k)] w (fun v w' => Chg [] w w' ∧ readV (readM s k) w v w') := by
  refine enter Go.Proofs.Tryd.func19 rfl rfl (by decide) rfl (e := [(0, ptrV g), (1, .string (str k))]) ⟨rfl, rfl, trivial⟩ ?_
  unfold ptrV
  have hb := x.blk
  cases hl : looks s.dir k with
  | none =>
    have hr : readM s k = none := by unfold readM; rw [hl]; rfl
    repeat (first | refine W_seq ?_ | refine W_region ?_ | refine Then_n ?_ | refine WL_nil ?_ | refine WL_some rfl rfl rfl ?_ | refine WL_guardT rfl rfl rfl rfl ?_ | refine op_move rfl rfl ?_ | refine op_assign rfl rfl ?_ | refine op_nilCheck rfl rfl ?_ | refine op_fieldAddr T rfl rfl rfl rfl rfl rfl rfl rfl ?_ | refine op_eql_nilptr T rfl rfl rfl rfl rfl ?_ | refine op_loadB T rfl rfl rfl rfl (by assumption) (by exact rfl) ?_)
    refine op_lookup_v T strKey rfl rfl rfl rfl rfl rfl x.dirM (v := .pointer none) (fun b hb => by rw [at2_none hl] at hb; cases hb) (fun _ => rfl) ?_
    repeat (first | refine W_seq ?_ | refine W_region ?_ | refine W_ret ?_ | refine Then_n ?_ | refine Then_r ?_ | refine WL_nil ?_ | refine W_condT rfl ?_ | refine WL_some rfl rfl rfl ?_ | refine WL_guardT rfl rfl rfl rfl ?_ | refine op_assign rfl rfl ?_ | refine op_pick rfl rfl rfl rfl ?_ | refine op_eql_nilptr T rfl rfl rfl rfl rfl ?_)
    refine post2 (.inl rfl) rfl rfl rfl ⟨Chg.refl _ _, ?_⟩
    rw [hr]; rfl
  | some i =>
    obtain ⟨q, f, hq, hfi⟩ := x.get hl
    have hr : readM s k = some f.b := by unfold readM; rw [hl]; simp [hfi]
    have hbf := x.fblk i q f hq hfi
    have hof := x.fown i q f hq hfi
    have hfl := (x.ok.files f (List.mem_of_getElem? hfi)).2
    obtain ⟨A, c, hv, hv1, hv2⟩ := hof.form
    rw [hv] at hbf hof
    repeat (first | refine W_seq ?_ | refine W_region ?_ | refine Then_n ?_ | refine WL_nil ?_ | refine WL_some rfl rfl rfl ?_ | refine WL_guardT rfl rfl rfl rfl ?_ | refine op_move rfl rfl ?_ | refine op_assign rfl rfl ?_ | refine op_nilCheck rfl rfl ?_ | refine op_fieldAddr T rfl rfl rfl rfl rfl rfl rfl rfl ?_ | refine op_eql_nilptr T rfl rfl rfl rfl rfl ?_ | refine op_loadB T rfl rfl rfl rfl (by assumption) (by exact rfl) ?_)
    refine op_lookup_v T strKey rfl rfl rfl rfl rfl rfl x.dirM (v := ptrV q.1) (fun b hb => by rw [at2_some hl hq] at hb; injection hb with hb; rw [hb]) (fun hn => by rw [at2_some hl hq] at hn; cases hn) ?_
    unfold ptrV
    repeat (first | refine W_seq ?_ | refine W_region ?_ | refine W_skip ?_ | refine Then_n ?_ | refine WL_nil ?_ | refine W_condF rfl ?_ | refine WL_some rfl rfl rfl ?_ | refine WL_guardT rfl rfl rfl rfl ?_ | refine op_move rfl rfl ?_ | refine op_pick rfl rfl rfl rfl ?_ | refine op_nilCheck rfl rfl ?_ | refine op_fieldAddr T rfl rfl rfl rfl rfl rfl rfl rfl ?_ | refine op_eql_nilptr T rfl rfl rfl rfl rfl ?_ | refine op_loadB T rfl rfl rfl rfl (by assumption) (by exact rfl) ?_)
    refine op_lookup_v T strKey rfl rfl rfl rfl rfl rfl x.dirM (v := ptrV q.1) (fun b hb => by rw [at2_some hl hq] at hb; injection hb with hb; rw [hb]) (fun hn => by rw [at2_some hl hq] at hn; cases hn) ?_
    unfold ptrV
    repeat (first | refine WL_some rfl rfl rfl ?_ | refine op_nilCheck rfl rfl ?_ | refine op_fieldAddr T rfl rfl rfl rfl rfl rfl rfl rfl ?_ | refine op_loadB T rfl rfl rfl rfl (by assumption) (by exact rfl) ?_)
    refine op_call rfl rfl rfl (clone_has A _ c f.b w hof.bytes (by omega)) ?_
    rintro v w1 ⟨hc1, ho1, hf1⟩
    repeat (first | refine W_ret ?_ | refine Then_n ?_ | refine WL_nil ?_ | refine WL_some rfl rfl rfl ?_ | refine op_assign rfl rfl ?_)
    refine post2 (.inl rfl) rfl rfl rfl ⟨hc1, ?_⟩
    rw [hr]; exact ⟨v, rfl, ho1, hf1⟩
end Go.Proofs.YtbhnplghnhafiaaDoor.Tryd
/-! Files: Rot. -/
set_option linter.unusedVariables false
set_option linter.unusedSimpArgs false
namespace Go.Vc
open Go
def rotC (x : UInt8) (i : Nat) (c : UInt8) : UInt8 := c ^^^ (x + UInt8.ofNat (i % 64))
def rotTo (b : List UInt8) (sec : Nat) (x : UInt8) (j : Nat) : List UInt8 := b.mapIdx fun i c => if sec * 64 ≤ i ∧ i < j then rotC x i c else c
theorem rotTo_length (b : List UInt8) (sec : Nat) (x : UInt8) (j : Nat) : (rotTo b sec x j).length = b.length := by simp [rotTo]
theorem rotTo_get {b : List UInt8} {sec : Nat} {x : UInt8} {j i : Nat} {c : UInt8} (h : b[i]? = some c) : (rotTo b sec x j)[i]? = some (if sec * 64 ≤ i ∧ i < j then rotC x i c else c) := by
  simp [rotTo, List.getElem?_mapIdx, h]
theorem rotTo_start (b : List UInt8) (sec : Nat) (x : UInt8) : rotTo b sec x (sec * 64) = b := by
  apply List.ext_getElem?
  intro i
  cases h : b[i]? with
  | none => rw [List.getElem?_eq_none_iff] at h ⊢; rw [rotTo_length]; exact h
  | some c => rw [rotTo_get h, if_neg (by omega)]
theorem rotTo_step {b : List UInt8} {sec : Nat} {x : UInt8} {j : Nat} {c : UInt8} (h : b[j]? = some c) (hj : sec * 64 ≤ j) : (rotTo b sec x j).set j (rotC x j c) = rotTo b sec x (j + 1) := by
  apply List.ext_getElem?
  intro i
  rw [List.getElem?_set]
  by_cases e : j = i
  · subst e
    rw [if_pos rfl, rotTo_length, if_pos (List.getElem?_eq_some_iff.1 h).1, rotTo_get h, if_pos ⟨hj, by omega⟩]
  · rw [if_neg e]
    cases hi : b[i]? with
    | none =>
      have h1 := List.getElem?_eq_none_iff.1 hi
      rw [List.getElem?_eq_none_iff.2 (by rw [rotTo_length]; exact h1), List.getElem?_eq_none_iff.2 (by rw [rotTo_length]; exact h1)]
    | some d =>
      rw [rotTo_get hi, rotTo_get hi]
      by_cases h2 : sec * 64 ≤ i ∧ i < j
      · rw [if_pos h2, if_pos ⟨h2.1, by omega⟩]
      · rw [if_neg h2, if_neg (by omega)]
theorem rotTo_end (b : List UInt8) (sec : Nat) (x : UInt8) (j : Nat) (hj : j = min b.length ((sec + 1) * 64)) : rotTo b sec x j = rotB b sec x := by
  unfold rotTo rotB
  apply List.ext_getElem?
  intro i
  rw [List.getElem?_mapIdx, List.getElem?_mapIdx]
  cases h : b[i]? with
  | none => rfl
  | some c =>
    have := (List.getElem?_eq_some_iff.1 h).1
    simp only [Option.map_some]
    by_cases h2 : sec * 64 ≤ i ∧ i < j
    · rw [if_pos h2, if_pos ⟨h2.1, by omega⟩]; rfl
    · rw [if_neg h2, if_neg (by omega)]
theorem add_u8 (x y : UInt8) : IntKind.u8.wrap ((x.toNat : Int) + (y.toNat : Int)) = ((x + y).toNat : Int) := by
  rw [IntKind.wrap_u8, UInt8.toNat_add]; omega
end Go.Vc
namespace Go.Proofs.YtbhnplghnhafiaaDoor.Tryd
open Go Go.Vc

set_option maxHeartbeats 4000000 in
theorem rot_has (g : Nat) (s : FsM) (p : FsP) (k : Nm) (sec : Int) (xx : UInt8) (w : World) (x : FsAt w g s p) :
    Has Go.Proofs.Tryd.prog 20 #[ptrV g, .string (str k), .int .i64 sec, .int .u8 (xx.toNat : Int)] w (FsDone w g p (rotM s k sec xx)) := by
  refine enter Go.Proofs.Tryd.func20 rfl rfl (by decide) rfl (e := [(0, ptrV g), (1, .string (str k)), (2, .int .i64 sec), (3, .int .u8 (xx.toNat : Int))]) ⟨rfl, rfl, rfl, rfl, trivial⟩ ?_
  unfold ptrV
  have hb := x.blk
  cases hl : looks s.dir k with
  | none =>
    have hr : rotM s k sec xx = (s, 3) := by unfold rotM; rw [hl]
    repeat (first | refine W_seq ?_ | refine W_region ?_ | refine Then_n ?_ | refine WL_nil ?_ | refine WL_some rfl rfl rfl ?_ | refine WL_guardT rfl rfl rfl rfl ?_ | refine op_move rfl rfl ?_ | refine op_assign rfl rfl ?_ | refine op_nilCheck rfl rfl ?_ | refine op_fieldAddr T rfl rfl rfl rfl rfl rfl rfl rfl ?_ | refine op_eql_nilptr T rfl rfl rfl rfl rfl ?_ | refine op_loadB T rfl rfl rfl rfl (by assumption) (by exact rfl) ?_)
    refine op_lookup_v T strKey rfl rfl rfl rfl rfl rfl x.dirM (v := .pointer none) (fun b hb => by rw [at2_none hl] at hb; cases hb) (fun _ => rfl) ?_
    repeat (first | refine W_seq ?_ | refine W_region ?_ | refine W_ret ?_ | refine Then_n ?_ | refine Then_r ?_ | refine WL_nil ?_ | refine W_condT rfl ?_ | refine WL_some rfl rfl rfl ?_ | refine WL_guardT rfl rfl rfl rfl ?_ | refine op_assign rfl rfl ?_ | refine op_pick rfl rfl rfl rfl ?_ | refine op_eql_nilptr T rfl rfl rfl rfl rfl ?_)
    refine post1 (.inl rfl) rfl rfl ?_
    rw [hr]; exact ⟨Chg.refl _ _, rfl, p, x, Grows.refl _ _ _⟩
  | some i =>
  obtain ⟨q, f, hq, hfi⟩ := x.get hl
  have hlen : lenOf s i = f.b.length := by unfold lenOf; simp [hfi]
  have hbf := x.fblk i q f hq hfi
  have hof := x.fown i q f hq hfi
  have hfl := (x.ok.files f (List.mem_of_getElem? hfi)).2
  obtain ⟨A, c, hv, hv1, hv2⟩ := hof.form
  rw [hv] at hbf hof
  repeat (first | refine W_seq ?_ | refine W_region ?_ | refine Then_n ?_ | refine WL_nil ?_ | refine WL_some rfl rfl rfl ?_ | refine WL_guardT rfl rfl rfl rfl ?_ | refine op_move rfl rfl ?_ | refine op_assign rfl rfl ?_ | refine op_nilCheck rfl rfl ?_ | refine op_fieldAddr T rfl rfl rfl rfl rfl rfl rfl rfl ?_ | refine op_eql_nilptr T rfl rfl rfl rfl rfl ?_ | refine op_loadB T rfl rfl rfl rfl (by assumption) (by exact rfl) ?_)
  refine op_lookup_v T strKey rfl rfl rfl rfl rfl rfl x.dirM (v := ptrV q.1) (fun b hb => by rw [at2_some hl hq] at hb; injection hb with hb; rw [hb]) (fun hn => by rw [at2_some hl hq] at hn; cases hn) ?_
  unfold ptrV
  repeat (first | refine W_seq ?_ | refine W_region ?_ | refine W_skip ?_ | refine Then_n ?_ | refine WL_nil ?_ | refine W_condF rfl ?_ | refine WL_some rfl rfl rfl ?_ | refine WL_guardT rfl rfl rfl rfl ?_ | refine op_move rfl rfl ?_ | refine op_pick rfl rfl rfl rfl ?_ | refine op_nilCheck rfl rfl ?_ | refine op_fieldAddr T rfl rfl rfl rfl rfl rfl rfl rfl ?_ | refine op_eql_nilptr T rfl rfl rfl rfl rfl ?_ | refine op_loadB T rfl rfl rfl rfl (by assumption) (by exact rfl) ?_)
  refine op_lookup_v T strKey rfl rfl rfl rfl rfl rfl x.dirM (v := ptrV q.1) (fun b hb => by rw [at2_some hl hq] at hb; injection hb with hb; rw [hb]) (fun hn => by rw [at2_some hl hq] at hn; cases hn) ?_
  unfold ptrV
  repeat (first | refine W_seq ?_ | refine W_region ?_ | refine Then_n ?_ | refine WL_nil ?_ | refine WL_some rfl rfl rfl ?_ | refine op_move rfl rfl ?_ | refine op_assign rfl rfl ?_ | refine op_nilCheck rfl rfl ?_ | refine op_fieldAddr T rfl rfl rfl rfl rfl rfl rfl rfl ?_ | refine op_loadB T rfl rfl rfl rfl (by assumption) (by exact rfl) ?_)
  by_cases hneg : sec < 0
  · have hr : rotM s k sec xx = (s, 7) := by unfold rotM; rw [hl]; simp [hneg]
    repeat (first | refine W_seq ?_ | refine W_region ?_ | refine W_ret ?_ | refine Then_n ?_ | refine Then_r ?_ | refine WL_nil ?_ | refine W_condT rfl ?_ | refine WL_some rfl rfl rfl ?_ | refine WL_guardF rfl rfl rfl rfl rfl ?_ | refine op_move rfl rfl ?_ | refine op_assign rfl rfl ?_ | refine op_pick rfl rfl rfl rfl ?_ | refine op_lss rfl rfl rfl (fun hc => ?_) (fun hc => False.elim (by omega)))
    refine post1 (.inl rfl) rfl rfl ?_
    rw [hr]; exact ⟨Chg.refl _ _, rfl, p, x, Grows.refl _ _ _⟩
  obtain ⟨n, rfl⟩ := Int.eq_ofNat_of_zero_le (show 0 ≤ sec by omega)
  repeat (first | refine WL_some rfl rfl rfl ?_ | refine WL_guardT rfl rfl rfl rfl ?_ | refine op_move rfl rfl ?_ | refine op_len_slice T rfl rfl rfl rfl ?_ | refine op_add rfl rfl rfl (wrap_i64_in (by omega) (by omega)) ?_ | refine op_subt rfl rfl rfl (wrap_i64_in (by omega) (by omega)) ?_ | refine op_lss rfl rfl rfl (fun hc => False.elim (by omega)) (fun hc => ?_))
  refine op_quo (r := (((f.b.length + 63) / 64 : Nat) : Int)) rfl rfl rfl (by decide) (by
    rw [show (f.b.length : Int) + 64 - 1 = ((f.b.length + 63 : Nat) : Int) by omega]
    show IntKind.i64.wrap (((f.b.length + 63) / 64 : Nat) : Int) = _
    exact wrap_i64_in (by omega) (by omega)) ?_
  by_cases hbig : (f.b.length + 63) / 64 ≤ n
  · have hr : rotM s k n xx = (s, 7) := by
      unfold rotM
      rw [hl]
      simp only
      rw [if_pos (.inr (by rw [hlen]; omega))]
    repeat (first | refine W_seq ?_ | refine W_region ?_ | refine W_ret ?_ | refine Then_n ?_ | refine Then_r ?_ | refine WL_nil ?_ | refine W_condT rfl ?_ | refine WL_some rfl rfl rfl ?_ | refine WL_guardT rfl rfl rfl rfl ?_ | refine op_assign rfl rfl ?_ | refine op_pick rfl rfl rfl rfl ?_ | refine op_geq rfl rfl rfl (fun hc => ?_) (fun hc => False.elim (by omega)))
    refine post1 (.inl rfl) rfl rfl ?_
    rw [hr]; exact ⟨Chg.refl _ _, rfl, p, x, Grows.refl _ _ _⟩
  have hn : n * 64 < f.b.length := by omega
  have hr : rotM s k n xx = ({ s with files := s.files.modify i fun f => { f with b := rotB f.b n xx } }, 0) := by
    unfold rotM
    rw [hl]
    simp only
    rw [if_neg (by rw [hlen]; omega)]
    rfl
  have hok := rotM_ok x.ok k n xx
  rw [hr] at hok
  obtain ⟨gq, cap, cur, hv', hq1, hq2, hbq, hcl, hct⟩ := hof.blk (by omega)
  injection hv' with e1 e2 e3
  subst e1; subst e3
  rw [Nat.mul_one] at hcl hct
  repeat (first | refine W_seq ?_ | refine W_block ?_ | refine W_region ?_ | refine W_skip ?_ | refine Then_n ?_ | refine WL_nil ?_ | refine W_condF rfl ?_ | refine WL_some rfl rfl rfl ?_ | refine WL_guardT rfl rfl rfl rfl ?_ | refine op_move rfl rfl ?_ | refine op_assign rfl rfl ?_ | refine op_pick rfl rfl rfl rfl ?_ | refine op_mul rfl rfl rfl (wrap_i64_in (by omega) (by omega)) ?_ | refine op_geq rfl rfl rfl (fun hc => False.elim (by omega)) (fun hc => ?_))
  refine W_loop (σ := Nat × List Value) (fun (j, cur) => [(2, .int .i64 n), (3, .int .u8 (xx.toNat : Int)), (9, .slice (some ⟨gq, 0, none⟩) f.b.length c), (10, .int .i64 j)])
    (fun ((j : Nat), (cur : List Value)) w' => n * 64 ≤ j ∧ j ≤ f.b.length ∧ j ≤ (n + 1) * 64 ∧ Chg [gq] w w' ∧ Blk w' gq 5 cur ∧ cur.length = c ∧ cur.take f.b.length = u8s (rotTo f.b n xx j)) (fun (j, _) => f.b.length - j) (n * 64, cur) ⟨rfl, rfl, rfl, ?_, trivial⟩ ⟨by omega, by omega, by omega, Chg.refl _ _, hbq, hcl, by rw [rotTo_start]; exact hct⟩ ?_
  · exact some_int (by omega)
  rintro ⟨j, cur⟩ w1 ⟨hj1, hj2, hj3, hc1, hb1, hl1, ht1⟩
  dsimp only at hj1 hj2 hj3 hc1 hb1 hl1 ht1 ⊢
  repeat (first | refine W_seq ?_ | refine W_region ?_ | refine WL_some rfl rfl rfl ?_ | refine op_move rfl rfl ?_ | refine op_len_slice T rfl rfl rfl rfl ?_ | refine op_add rfl rfl rfl (wrap_i64_in (by omega) (by omega)) ?_ | refine op_mul rfl rfl rfl (wrap_i64_in (by omega) (by omega)) ?_ | refine op_min rfl rfl rfl ?_)
  by_cases hlt : j < min f.b.length ((n + 1) * 64)
  · have hjb : j < f.b.length := by omega
    have hbj : f.b[j]? = some f.b[j] := List.getElem?_eq_getElem hjb
    generalize f.b[j] = cc at hbj
    have hcj : cur[j]? = some (.int .u8 (cc.toNat : Int)) := by
      have h1 : (cur.take f.b.length)[j]? = cur[j]? := by rw [List.getElem?_take, if_pos hjb]
      rw [← h1, ht1, u8s_get (rotTo_get hbj), if_neg (by omega)]
    have hcell : w1.cell? ⟨gq, j, none⟩ = some (.int .u8 (cc.toNat : Int)) := hb1.cell hcj
    refine op_lss rfl rfl rfl (fun _ => ?_) (fun hc => False.elim (hc (by omega)))
    repeat (first | refine W_seq ?_ | refine W_block ?_ | refine W_region ?_ | refine W_skip ?_ | refine Then_n ?_ | refine WL_nil ?_ | refine W_condT rfl ?_ | refine WL_some rfl rfl rfl ?_ | refine op_move rfl rfl ?_ | refine op_rem rfl rfl rfl (by omega) rfl ?_ | refine op_index_own T rfl rfl rfl rfl rfl rfl (by omega) ?_ | refine op_load T rfl rfl rfl rfl (by assumption) ?_)
    rw [show ((j : Nat) : Int).tmod 64 = ((j % 64 : Nat) : Int) from rfl]
    have hj64 : j % 64 < 64 := Nat.mod_lt _ (by decide)
    have e8 : ((UInt8.ofNat (j % 64)).toNat : Int) = ((j % 64 : Nat) : Int) := by rw [UInt8.toNat_ofNat']; omega
    refine op_convert_int T (r := ((UInt8.ofNat (j % 64)).toNat : Int)) rfl rfl rfl rfl (by rw [e8]; exact wrap_u8_in (by omega) (by omega)) ?_
    repeat (refine WL_some rfl rfl rfl ?_)
    refine op_add (r := ((xx + UInt8.ofNat (j % 64)).toNat : Int)) rfl rfl rfl (add_u8 _ _) ?_
    repeat (refine WL_some rfl rfl rfl ?_)
    refine op_xor_u8 rfl rfl rfl ?_
    repeat (first | refine WL_some rfl rfl rfl ?_ | refine WL_none rfl rfl ?_ | refine op_index_own T rfl rfl rfl rfl rfl rfl (by omega) ?_)
    refine op_store T rfl rfl rfl rfl rfl rfl hb1 (by omega) (fun w2 hc2 hb2 _ => ?_)
    repeat (first | refine W_region ?_ | refine Then_n ?_ | refine InBlock_n ?_ | refine WL_nil ?_ | refine WL_some rfl rfl rfl ?_ | refine op_move rfl rfl ?_ | refine op_assign rfl rfl ?_ | refine op_add rfl rfl rfl (wrap_i64_in (by omega) (by omega)) ?_)
    refine Round_n (j + 1, cur.set j (.int .u8 ((rotC xx j cc).toNat : Int))) ⟨rfl, rfl, rfl, rfl, trivial⟩ ⟨by omega, by omega, by omega, hc1.trans hc2 (fun _ h _ => h), hb2, by rw [List.length_set]; exact hl1, ?_⟩ (by simp only; omega)
    rw [List.take_set, ht1, u8s_set, rotTo_step hbj hj1]
  · refine op_lss rfl rfl rfl (fun hc => False.elim (hlt (by omega))) (fun _ => ?_)
    repeat (first | refine W_seq ?_ | refine W_region ?_ | refine W_exit ?_ | refine W_ret ?_ | refine Then_n ?_ | refine Then_x ?_ | refine InBlock_hit ?_ | refine Round_x ?_ | refine WL_nil ?_ | refine W_condF rfl ?_ | refine WL_some rfl rfl rfl ?_ | refine op_assign rfl rfl ?_)
    have hend : rotTo f.b n xx j = rotB f.b n xx := rotTo_end _ _ _ _ (by omega)
    rw [hend] at ht1
    have hqne : q.1 ∉ [gq] := fun hm => by
      simp at hm
      rw [hm] at hbf
      exact hbf.ne_ hbq (by decide) rfl
    obtain ⟨x2, hg2⟩ := x.setFile hq hfi (fun f => { f with b := rotB f.b n xx }) (v' := q.2) hc1 (fun j hj _ => by simp at hj; subst hj; right; rw [hv]; rfl) (by rw [hv]; exact hbf.keep hc1 hqne) (by
      show Own w1 _ 1 _ (rotB f.b n xx).length _
      rw [rotB_length, hv]
      exact Own.mk hb1 (by omega) hq2 (by omega) (by rw [Nat.mul_one]; exact ht1)) (.inl rfl) hok
    refine post1 (.inl rfl) rfl rfl ?_
    rw [hr]
    exact ⟨hc1.mono (fun j hj _ => by simp at hj; subst hj; exact (x.mem_file hq).2 _ (by rw [hv]; rfl)), rfl, _, x2, hg2⟩
end Go.Proofs.YtbhnplghnhafiaaDoor.Tryd
/-! Files: a crash. Plain laws. -/
set_option linter.unusedVariables false
set_option linter.unusedSimpArgs false
namespace Go.Vc
open Go
def crashTo (s : FsM) (n : Int) (k : Nat) : Dir := (s.waits.take (min k n.toNat)).foldl doM s.lasts
theorem crashTo_zero (s : FsM) (n : Int) : crashTo s n 0 = s.lasts := by unfold crashTo; simp
theorem crashTo_step {s : FsM} {n : Int} {k : Nat} {c : ChM} (hc : s.waits[k]? = some c) (hk : (k : Int) < n) : crashTo s n (k + 1) = doM (crashTo s n k) c := by
  unfold crashTo
  rw [show min (k + 1) n.toNat = k + 1 by omega, show min k n.toNat = k by omega, List.take_add_one, hc, List.foldl_append]
  rfl
theorem crashTo_stop {s : FsM} {n : Int} {k : Nat} (hk : ¬ (k : Int) < n) : crashTo s n (k + 1) = crashTo s n k := by
  unfold crashTo
  rw [show min (k + 1) n.toNat = min k n.toNat by omega]
theorem crashTo_end (s : FsM) (n : Int) : crashTo s n s.waits.length = crashDir s n := by
  unfold crashTo crashDir
  by_cases h : s.waits.length ≤ n.toNat
  · rw [show min s.waits.length n.toNat = s.waits.length by omega, List.take_of_length_le (Nat.le_refl _), List.take_of_length_le h]
  · rw [show min s.waits.length n.toNat = n.toNat by omega]
theorem crashTo_fit {s : FsM} (h : FsOk s) {n : Int} {k : Nat} {c : ChM} (hc : s.waits[k]? = some c) (hk : (k : Int) < n) : DirOk s.files.length (crashTo s n k) ∧ Fit1 (crashTo s n k) c := by
  have hl := (List.getElem?_eq_some_iff.1 hc).1
  have h1 := h.replay.at k (by omega)
  have hd : s.waits.drop k = c :: s.waits.drop (k + 1) := by rw [List.drop_eq_getElem_cons hl, (List.getElem?_eq_some_iff.1 hc).2]
  rw [hd] at h1
  have e : crashTo s n k = (s.waits.take k).foldl doM s.lasts := by unfold crashTo; rw [show min k n.toNat = k by omega]
  rw [e]
  exact ⟨h1.1, h1.2.1⟩
theorem chunk (fb : List (Nat × Value)) : ∀ (l : List ChM) (k : Nat) (c : ChM), l[k]? = some c → ((l.flatMap (chV fb)).drop (k * 4)).take 4 = chV fb c
  | [], k, c, h => by simp at h
  | a :: l, 0, c, h => by simp at h; subst h; rw [List.flatMap_cons]; simp [chV]
  | a :: l, k + 1, c, h => by
    rw [List.flatMap_cons, show (k + 1) * 4 = (chV fb a).length + k * 4 by simp [chV]; omega, List.drop_length_add_append]
    exact chunk fb l k c (by simpa using h)
def idxOf : Dir → Nm → Option Nat
  | [], _ => none
  | p :: d, k => if p.1 = k then some 0 else (idxOf d k).map (· + 1)
theorem idxOf_get {d : Dir} {k : Nm} {j : Nat} (h : idxOf d k = some j) : ∃ p, d[j]? = some p ∧ p.1 = k := by
  induction d generalizing j with
  | nil => cases h
  | cons p d ih =>
    unfold idxOf at h
    split at h
    · injection h with h; subst h; exact ⟨p, rfl, by assumption⟩
    · cases hi : idxOf d k with
      | none => rw [hi] at h; cases h
      | some i =>
        rw [hi] at h
        injection h with h
        subst h
        exact ih hi
theorem idxOf_of {d : Dir} (hr : (d.map (·.1)).Nodup) {j : Nat} {p : Nm × Nat} (h : d[j]? = some p) : idxOf d p.1 = some j := by
  induction d generalizing j with
  | nil => cases h
  | cons q d ih =>
    unfold idxOf
    rw [List.map_cons, List.nodup_cons] at hr
    cases j with
    | zero => simp at h; subst h; rw [if_pos rfl]
    | succ j =>
      have h' : d[j]? = some p := by simpa using h
      rw [if_neg (fun e => hr.1 (by rw [e]; exact List.mem_map.2 ⟨p, List.mem_of_getElem? h', rfl⟩)), ih hr.2 h']
      rfl
theorem looks_idx (d : Dir) (k : Nm) : looks d k = (idxOf d k).bind fun j => (d[j]?).map (·.2) := by
  induction d with
  | nil => rfl
  | cons p d ih =>
    obtain ⟨k', i⟩ := p
    unfold looks idxOf
    by_cases h : k' = k
    · rw [if_pos h, if_pos h]; rfl
    · rw [if_neg h, if_neg h, ih]
      cases idxOf d k <;> rfl
theorem idxOf_map (f : Nat → Nm × Nat → Nat) : ∀ (d : Dir) (k : Nm), idxOf (d.mapIdx fun j p => (p.1, f j p)) k = idxOf d k := by
  intro d
  induction d generalizing f with
  | nil => intro k; rfl
  | cons p d ih =>
    intro k
    rw [List.mapIdx_cons]
    unfold idxOf
    rw [ih (fun j p => f (j + 1) p)]
/-- Where the first files have been laid anew. -/
def hAt (fb nb : List (Nat × Value)) (d : Dir) (k : Nm) : Option Nat := (idxOf d k).bind fun j => if j < nb.length then (nb[j]?).map (·.1) else (d[j]?).bind fun p => (fb[p.2]?).map (·.1)
theorem hAt_start (fb : List (Nat × Value)) (d : Dir) (k : Nm) : hAt fb [] d k = at2 fb d k := by
  unfold hAt at2
  rw [looks_idx]
  cases idxOf d k with
  | none => rfl
  | some j =>
    simp only [Option.bind_some, List.length_nil, Nat.not_lt_zero, if_false]
    cases d[j]? <;> rfl
theorem hAt_step {fb nb : List (Nat × Value)} {d : Dir} (hr : (d.map (·.1)).Nodup) {p : Nm × Nat} (hp : d[nb.length]? = some p) (q : Nat × Value) (k : Nm) : hAt fb (nb ++ [q]) d k = upd (hAt fb nb d) p.1 q.1 k := by
  unfold upd
  by_cases h : k = p.1
  · subst h
    rw [if_pos rfl]
    unfold hAt
    rw [idxOf_of hr hp]
    simp
  · rw [if_neg h]
    unfold hAt
    cases hi : idxOf d k with
    | none => rfl
    | some j =>
      have hj : j ≠ nb.length := fun e => by
        subst e
        obtain ⟨p', h1, h2⟩ := idxOf_get hi
        rw [hp] at h1; injection h1 with h1; subst h1
        exact h h2.symm
      simp only [Option.bind_some, List.length_append, List.length_singleton]
      by_cases hlt : j < nb.length
      · rw [if_pos hlt, if_pos (by omega), List.getElem?_append_left hlt]
      · rw [if_neg hlt, if_neg (by omega)]
theorem hAt_end {fb nb : List (Nat × Value)} {d : Dir} (hl : nb.length = d.length) (k : Nm) : hAt fb nb d k = at2 nb (d.mapIdx fun j p => (p.1, j)) k := by
  unfold hAt at2
  rw [looks_idx, idxOf_map (fun j _ => j)]
  cases hi : idxOf d k with
  | none => rfl
  | some j =>
    obtain ⟨p, h1, _⟩ := idxOf_get hi
    have hj := (List.getElem?_eq_some_iff.1 h1).1
    simp only [Option.bind_some]
    rw [if_pos (by omega)]
    simp [h1]
theorem hAt_at {fb nb : List (Nat × Value)} {d : Dir} (hr : (d.map (·.1)).Nodup) {p : Nm × Nat} (hp : d[nb.length]? = some p) {q : Nat × Value} (hq : fb[p.2]? = some q) : hAt fb nb d p.1 = some q.1 := by
  unfold hAt
  rw [idxOf_of hr hp]
  simp [hp, hq]
end Go.Vc
/-! Files: a crash. -/
set_option linter.unusedVariables false
set_option linter.unusedSimpArgs false
namespace Go.Proofs.YtbhnplghnhafiaaDoor.Tryd
open Go Go.Vc

/-- The file system that a crash leaves, under way: files laid anew so far. -/
structure NewFiles (w0 w : World) (s : FsM) (d : Dir) (tails : List Int) (nb : List (Nat × Value)) : Prop where
  blk : ∀ (j : Nat) q r, nb[j]? = some q → d[j]? = some r → Blk w q.1 65 [q.2, .int .i64 (cutM ((s.files[r.2]?).getD ⟨[], 0⟩) tails j).synced]
  own : ∀ (j : Nat) q r, nb[j]? = some q → d[j]? = some r → Own w 5 1 q.2 (cutM ((s.files[r.2]?).getD ⟨[], 0⟩) tails j).b.length (u8s (cutM ((s.files[r.2]?).getD ⟨[], 0⟩) tails j).b)
  fresh : ∀ q ∈ nb, w0.heap.size ≤ q.1 ∧ q.1 < w.heap.size ∧ ∀ h, q.2.ownBlock = some h → w0.heap.size ≤ h ∧ h < w.heap.size
  apart2 : (nb.map (·.1)).Nodup
  apart3 : ∀ (i j : Nat) q q' h, nb[i]? = some q → nb[j]? = some q' → q.2.ownBlock = some h → q'.2.ownBlock = some h → i = j
theorem NewFiles.keep {w0 w w' : World} {s : FsM} {d : Dir} {tails : List Int} {nb : List (Nat × Value)} {S : List Nat} (x : NewFiles w0 w s d tails nb) (hl : nb.length ≤ d.length) (hc : Chg S w w') (hS : ∀ k ∈ S, ∀ t cs, ¬ Blk w k t cs) : NewFiles w0 w' s d tails nb :=
  ⟨fun j q r h1 h2 => (x.blk j q r h1 h2).keep hc (fun hm => hS _ hm _ _ (x.blk j q r h1 h2)), fun j q r h1 h2 => (x.own j q r h1 h2).keep hc (fun h hh hm => by
    obtain ⟨cur, hr⟩ := (x.own j q r h1 h2).row hh
    exact hS _ hm _ _ hr), fun q hq => by
      obtain ⟨a1, a2, a3⟩ := x.fresh q hq
      have := hc.size
      exact ⟨a1, by omega, fun h hh => ⟨(a3 h hh).1, by have := (a3 h hh).2; omega⟩⟩, x.apart2, x.apart3⟩
theorem NewFiles.snoc {w0 w : World} {s : FsM} {d : Dir} {tails : List Int} {nb : List (Nat × Value)} (x : NewFiles w0 w s d tails nb) {r : Nm × Nat} (hr : d[nb.length]? = some r) {b : Nat} {v : Value}
    (hb : Blk w b 65 [v, .int .i64 (cutM ((s.files[r.2]?).getD ⟨[], 0⟩) tails nb.length).synced]) (ho : Own w 5 1 v (cutM ((s.files[r.2]?).getD ⟨[], 0⟩) tails nb.length).b.length (u8s (cutM ((s.files[r.2]?).getD ⟨[], 0⟩) tails nb.length).b))
    (hb0 : w0.heap.size ≤ b) (hv0 : ∀ h, v.ownBlock = some h → w0.heap.size ≤ h) (hbn : ∀ q ∈ nb, q.1 ≠ b) (hvn : ∀ q ∈ nb, ∀ h, q.2.ownBlock = some h → v.ownBlock ≠ some h) : NewFiles w0 w s d tails (nb ++ [(b, v)]) := by
  have hget : ∀ (j : Nat) q, (nb ++ [(b, v)])[j]? = some q → (j < nb.length ∧ nb[j]? = some q) ∨ (j = nb.length ∧ q = (b, v)) := fun j q h => by
    by_cases hj : j < nb.length
    · rw [List.getElem?_append_left hj] at h; exact .inl ⟨hj, h⟩
    · rw [List.getElem?_append_right (by omega)] at h
      have := (List.getElem?_eq_some_iff.1 h).1
      simp at this
      obtain rfl : j = nb.length := by omega
      simp at h; exact .inr ⟨rfl, h.symm⟩
  refine ⟨fun j q r' h1 h2 => ?_, fun j q r' h1 h2 => ?_, fun q hq => ?_, ?_, fun i j q q' h h1 h2 h3 h4 => ?_⟩
  · rcases hget j q h1 with ⟨_, h1⟩ | ⟨rfl, rfl⟩
    · exact x.blk j q r' h1 h2
    · rw [hr] at h2; injection h2 with h2; subst h2; exact hb
  · rcases hget j q h1 with ⟨_, h1⟩ | ⟨rfl, rfl⟩
    · exact x.own j q r' h1 h2
    · rw [hr] at h2; injection h2 with h2; subst h2; exact ho
  · rcases List.mem_append.1 hq with hq | hq
    · exact x.fresh q hq
    · simp at hq; subst hq; exact ⟨hb0, hb.lt, fun h hh => ⟨hv0 h hh, ho.lt hh⟩⟩
  · rw [List.map_append]
    refine List.nodup_append.2 ⟨x.apart2, by simp, fun a ha c hc e => ?_⟩
    obtain ⟨q, hq, rfl⟩ := List.mem_map.1 ha
    simp at hc
    exact hbn q hq (e.trans hc)
  · rcases hget i q h1 with ⟨_, h1⟩ | ⟨rfl, rfl⟩
    · rcases hget j q' h2 with ⟨_, h2⟩ | ⟨rfl, rfl⟩
      · exact x.apart3 i j q q' h h1 h2 h3 h4
      · exact absurd h4 (hvn q (List.mem_of_getElem? h1) h h3)
    · rcases hget j q' h2 with ⟨_, h2⟩ | ⟨rfl, rfl⟩
      · exact absurd h3 (hvn q' (List.mem_of_getElem? h2) h h4)
      · rfl

set_option maxHeartbeats 8000000 in
theorem crash_has (g : Nat) (s : FsM) (p : FsP) (n : Int) (At : Option Addr) (nt ct : Nat) (tails : List Int) (w : World) (x : FsAt w g s p) (ht : SliceOf Ri64 w (.slice At nt ct) tails) (hcalls : s.calls < 1000000000) :
    Has Go.Proofs.Tryd.prog 25 #[ptrV g, .int .i64 n, .slice At nt ct] w
    (fun v w' => Chg [] w w' ∧ ∃ gc pc, v = ptrV gc ∧ FsAt w' gc (crashM s n tails) pc ∧ ∀ k ∈ pc.fp gc, w.heap.size ≤ k) := by
  obtain ⟨rfl, ht1, ht2⟩ := ht.len
  unfold maxLen at ht2
  have hwl := x.ok.waits
  have hwl2 : s.waits.length < 1000000000 := by omega
  refine enter Go.Proofs.Tryd.func25 rfl rfl (by decide) rfl (e := [(0, ptrV g), (1, .int .i64 n), (2, .slice At tails.length ct)]) ⟨rfl, rfl, rfl, trivial⟩ ?_
  unfold ptrV
  have hb := x.blk
  obtain ⟨Aw, cw, hwv, hw1, hw2⟩ := x.waitsM.form
  repeat (first | refine W_seq ?_ | refine W_region ?_ | refine W_skip ?_ | refine Then_n ?_ | refine WL_nil ?_ | refine W_condF rfl ?_ | refine WL_some rfl rfl rfl ?_ | refine op_move rfl rfl ?_ | refine op_assign rfl rfl ?_ | refine op_eql_nilptr T rfl rfl rfl rfl rfl ?_)
  refine W_walk 11 [] fol (by kernel_rfl) (by kernel_rfl) ?_
  refine Walk.plain rfl (by intro val w_ hR hp; exact op_move rfl rfl ⟨Chg.refl _ _, rfl⟩) ?_; dsimp only [List.nil_append, List.cons_append]
  refine Walk.plain rfl (by intro val w_ hR hp; exact op_nilCheck rfl rfl ⟨Chg.refl _ _, rfl⟩) ?_; dsimp only [List.nil_append, List.cons_append]
  refine Walk.plain rfl (by intro val w_ hR hp; exact op_fieldAddr T rfl rfl rfl rfl rfl rfl rfl rfl ⟨Chg.refl _ _, rfl⟩) ?_; dsimp only [List.nil_append, List.cons_append]
  refine Walk.plain rfl (by intro val w_ hR hp; exact op_load T rfl rfl rfl rfl ((Blk.keep0 hb hR).cell rfl) ⟨Chg.refl _ _, rfl⟩) ?_; dsimp only [List.nil_append, List.cons_append]
  refine Walk.plain rfl (by intro val w_ hR hp; exact op_move rfl rfl ⟨Chg.refl _ _, rfl⟩) ?_; dsimp only [List.nil_append, List.cons_append]
  refine Walk.plain rfl (by intro val w_ hR hp; exact op_nilCheck rfl rfl ⟨Chg.refl _ _, rfl⟩) ?_; dsimp only [List.nil_append, List.cons_append]
  refine Walk.plain rfl (by intro val w_ hR hp; exact op_fieldAddr T rfl rfl rfl rfl rfl rfl rfl rfl ⟨Chg.refl _ _, rfl⟩) ?_; dsimp only [List.nil_append, List.cons_append]
  refine Walk.plain rfl (by intro val w_ hR hp; exact op_load T rfl rfl rfl rfl ((Blk.keep0 hb hR).cell rfl) ⟨Chg.refl _ _, rfl⟩) ?_; dsimp only [List.nil_append, List.cons_append]
  refine Walk.rel (fun u w_ => ∃ m, u = .map (some m) ∧ w.heap.size ≤ m ∧ MapAt keyV ptrV w_ m (at2 p.fb s.lasts)) rfl (fun u a b ⟨m, h1, h2, h3⟩ hab => ⟨m, h1, h2, h3.keep0 hab⟩) ?_ ?_
  · intro val w_ hR hp
    refine op_call rfl rfl rfl (cloneD_has (x.lastsM.keep0 hR)) ?_
    rintro v w' ⟨m, rfl, hs, hc, hm⟩
    exact ⟨hc, m, rfl, by have := hR.size; omega, hm⟩
  dsimp only [List.nil_append, List.cons_append]
  refine Walk.rel (fun u w_ => ∃ m, u = .agg #[.int .i64 s.room, .map none, .map (some m), .slice none 0 0, .int .i64 0, .int .i64 (-1)] ∧ w.heap.size ≤ m ∧ MapAt keyV ptrV w_ m (at2 p.fb s.lasts)) rfl (fun u a b ⟨m, h1, h2, h3⟩ hab => ⟨m, h1, h2, h3.keep0 hab⟩) ?_ ?_
  · intro val w_ hR hp
    obtain ⟨m, he, hs, hm⟩ : ∃ m, val 8 = .map (some m) ∧ w.heap.size ≤ m ∧ MapAt keyV ptrV w_ m (at2 p.fb s.lasts) := hp 8 rfl _ _ rfl rfl
    refine OpW_sub (e' := [(20, .int .i64 s.room), (25, .map (some m))]) ⟨rfl, congrArg some he, trivial⟩ ?_
    refine op_build T rfl rfl rfl rfl rfl rfl ?_
    exact ⟨Chg.refl _ _, m, rfl, hs, hm⟩
  dsimp only [List.nil_append, List.cons_append]
  refine Walk.rel (fun u w_ => ∃ gc m, u = .pointer (some ⟨gc, 0, none⟩) ∧ w.heap.size ≤ gc ∧ Blk w_ gc 56 [.int .i64 s.room, .map none, .map (some m), .slice none 0 0, .int .i64 0, .int .i64 (-1)] ∧ w.heap.size ≤ m ∧ MapAt keyV ptrV w_ m (at2 p.fb s.lasts)) rfl
    (fun u a b ⟨gc, m, h1, h2, h3, h4, h5⟩ hab => ⟨gc, m, h1, h2, h3.keep0 hab, h4, h5.keep0 hab⟩) ?_ ?_
  · intro val w_ hR hp
    obtain ⟨m, he, hs, hm⟩ : ∃ m, val 9 = .agg #[.int .i64 s.room, .map none, .map (some m), .slice none 0 0, .int .i64 0, .int .i64 (-1)] ∧ w.heap.size ≤ m ∧ MapAt keyV ptrV w_ m (at2 p.fb s.lasts) := hp 9 rfl _ _ rfl rfl
    refine OpW_sub (e' := [(26, .agg #[.int .i64 s.room, .map none, .map (some m), .slice none 0 0, .int .i64 0, .int .i64 (-1)])]) ⟨congrArg some he, trivial⟩ ?_
    exact op_box rfl rfl (fun gc w' hs' hc' hg' => ⟨hc', gc, m, rfl, by have := hR.size; omega, hg', hs, hm.keep0 hc'⟩)
  dsimp only [List.nil_append, List.cons_append]
  refine Walk.fin ?_
  intro val w1 hc1 hp
  obtain ⟨gc, m, he, hgc, hb1, hmf, hm1⟩ : ∃ gc m, val 10 = .pointer (some ⟨gc, 0, none⟩) ∧ w.heap.size ≤ gc ∧ Blk w1 gc 56 [.int .i64 s.room, .map none, .map (some m), .slice none 0 0, .int .i64 0, .int .i64 (-1)] ∧ w.heap.size ≤ m ∧ MapAt keyV ptrV w1 m (at2 p.fb s.lasts) := hp 10 (by omega) _ _ rfl rfl
  clear hp
  refine WL_sub (e' := [(0, .pointer (some ⟨g, 0, none⟩)), (1, .int .i64 n), (2, .slice At tails.length ct), (27, .pointer (some ⟨gc, 0, none⟩))]) ⟨rfl, rfl, rfl, congrArg some he, trivial⟩ ?_
  clear he
  have hgb1 : Blk w1 g 56 [.int .i64 s.room, .map (some p.md), .map (some p.ml), .slice Aw s.waits.length cw, .int .i64 s.calls, .int .i64 s.fail] := by rw [← hwv]; exact hb.keep0 hc1
  repeat (first | refine W_seq ?_ | refine W_block ?_ | refine W_region ?_ | refine Then_n ?_ | refine WL_nil ?_ | refine WL_some rfl rfl rfl ?_ | refine op_move rfl rfl ?_ | refine op_assign rfl rfl ?_ | refine op_len_slice T rfl rfl rfl rfl ?_ | refine op_nilCheck rfl rfl ?_ | refine op_fieldAddr T rfl rfl rfl rfl rfl rfl rfl rfl ?_ | refine op_loadB T rfl rfl rfl rfl (by assumption) (by exact rfl) ?_)
  refine W_loop (σ := Nat) (fun k => [(1, .int .i64 n), (2, .slice At tails.length ct), (7, .pointer (some ⟨gc, 0, none⟩)), (31, .slice Aw s.waits.length cw), (32, .int .i64 s.waits.length), (33, .int .i64 k)])
    (fun (k : Nat) w' => k ≤ s.waits.length ∧ Chg [] w w' ∧ Blk w' gc 56 [.int .i64 s.room, .map none, .map (some m), .slice none 0 0, .int .i64 0, .int .i64 (-1)] ∧ MapAt keyV ptrV w' m (at2 p.fb (crashTo s n k))) (fun k => s.waits.length - k) 0
    ⟨rfl, rfl, rfl, rfl, rfl, rfl, trivial⟩ ⟨by omega, hc1, hb1, by rw [crashTo_zero]; exact hm1⟩ ?_
  clear hb1 hm1 hgb1 hc1
  rintro k w2 ⟨hk, hc2, hb2, hm2⟩
  by_cases hkl : k < s.waits.length
  · have hck : s.waits[k]? = some s.waits[k] := List.getElem?_eq_getElem hkl
    generalize s.waits[k] = c at hck
    have x2 := x.keep0 hc2
    obtain ⟨gw, cap, cur, hv', hq1, hq2, hbw, hcl, hct⟩ := x2.waitsM.blk (by omega)
    rw [hwv] at hv'
    injection hv' with e1 e2 e3
    subst e1; subst e3
    obtain ⟨ip, hip⟩ := idV_form p.fb c.id
    have hcv : chV p.fb c = [.int .i64 c.kind, .string (str c.name), .string (str c.to), .pointer ip] := by unfold chV; rw [hip]; rfl
    have hchunk : (cur.drop (k * 4)).take 4 = [.int .i64 c.kind, .string (str c.name), .string (str c.to), .pointer ip] := by
      rw [← hcv, ← chunk p.fb s.waits k c hck, ← hct, List.drop_take, List.take_take]
      congr 1
      omega
    repeat (first | refine W_seq ?_ | refine W_block ?_ | refine W_region ?_ | refine W_skip ?_ | refine Then_n ?_ | refine WL_nil ?_ | refine W_condT rfl ?_ | refine WL_some rfl rfl rfl ?_ | refine op_move rfl rfl ?_ | refine op_lss rfl rfl rfl (fun hc => ?_) (fun hc => False.elim (by omega)))
    refine op_index_slice T rfl rfl rfl rfl rfl (by omega) (by omega) (p := ⟨gw, k * 4, none⟩) (by rw [Int.toNat_natCast]; exact add_plain _ _) ?_
    repeat (refine WL_some rfl rfl rfl ?_)
    refine op_load_agg (c' := #[.int .i64 c.kind, .string (str c.name), .string (str c.to), .pointer ip]) T rfl rfl rfl rfl hbw (by show k * 4 + 4 ≤ cur.length; omega) (by show ((cur.drop (k * 4)).take 4).toArray = _; rw [hchunk]) ?_
    repeat (refine WL_some rfl rfl rfl ?_)
    refine op_alloc T rfl rfl (fun g9 w3 hs3 hc3 hg3 => ?_)
    repeat (first | refine WL_some rfl rfl rfl ?_ | refine WL_none rfl rfl ?_ | refine op_assign rfl rfl ?_)
    refine op_store_agg T rfl rfl rfl rfl rfl rfl hg3 (Nat.le_of_ble_eq_true rfl) (fun w4 hc4 hg4 _ => ?_)
    have hg4 : Blk w4 g9 81 [.int .i64 c.kind, .string (str c.name), .string (str c.to), .pointer ip] := hg4
    have hc24 : Chg [] w2 w4 := hc3.trans hc4 (fun j hj hlt => by simp at hj; omega)
    have hb4 := hb2.keep0 hc24
    have hm4 := hm2.keep0 hc24
    by_cases hkn : (k : Int) < n
    · obtain ⟨hd, hf⟩ := crashTo_fit x.ok hck hkn
      have hids := x.ok.replay.ids c (List.mem_of_getElem? hck)
      repeat (first | refine W_seq ?_ | refine W_region ?_ | refine Then_n ?_ | refine WL_nil ?_ | refine W_condT rfl ?_ | refine WL_some rfl rfl rfl ?_ | refine op_move rfl rfl ?_ | refine op_lss rfl rfl rfl (fun hc => ?_) (fun hc => False.elim (by omega)))
      refine W_walk 5 [] fol (by kernel_rfl) (by kernel_rfl) ?_
      refine Walk.plain rfl (by intro val w_ hR hp; exact op_move rfl rfl ⟨Chg.refl _ _, rfl⟩) ?_; dsimp only [List.nil_append, List.cons_append]
      refine Walk.plain rfl (by intro val w_ hR hp; exact op_nilCheck rfl rfl ⟨Chg.refl _ _, rfl⟩) ?_; dsimp only [List.nil_append, List.cons_append]
      refine Walk.plain rfl (by intro val w_ hR hp; exact op_fieldAddr T rfl rfl rfl rfl rfl rfl rfl rfl ⟨Chg.refl _ _, rfl⟩) ?_; dsimp only [List.nil_append, List.cons_append]
      refine Walk.plain rfl (by intro val w_ hR hp; exact op_load T rfl rfl rfl rfl ((Blk.keep0 hb4 hR).cell rfl) ⟨Chg.refl _ _, rfl⟩) ?_; dsimp only [List.nil_append, List.cons_append]
      refine Walk.plain rfl (by intro val w_ hR hp; exact op_load_agg T rfl rfl rfl rfl (Blk.keep0 hg4 hR) (Nat.le_of_ble_eq_true rfl) rfl ⟨Chg.refl _ _, rfl⟩) ?_; dsimp only [List.nil_append, List.cons_append]
      refine Walk.fin ?_
      intro val w5 hc5 _
      have hm5 := hm4.keep0 hc5
      have hdo := do_has m p.fb (crashTo s n k) c w5 hm5 (by rw [x.len]; exact hd) hf (by rw [x.len]; exact hids)
      rw [hcv] at hdo
      refine WL_sub (e' := [(1, .int .i64 n), (2, .slice (At) tails.length ct), (7, .pointer (some ⟨gc, 0, none⟩)), (31, .slice (some ⟨gw, 0, none⟩) s.waits.length cw), (32, .int .i64 s.waits.length), (33, .int .i64 k), (44, .map (some m)), (45, .agg #[.int .i64 c.kind, .string (str c.name), .string (str c.to), .pointer ip])]) ⟨rfl, rfl, rfl, rfl, rfl, rfl, rfl, rfl, trivial⟩ ?_
      repeat (refine WL_some rfl rfl rfl ?_)
      refine op_call rfl rfl rfl hdo ?_
      rintro v w6 ⟨hc6, hm6⟩
      rw [← crashTo_step hck hkn] at hm6
      repeat (first | refine W_region ?_ | refine Then_n ?_ | refine InBlock_n ?_ | refine WL_nil ?_ | refine WL_some rfl rfl rfl ?_ | refine op_move rfl rfl ?_ | refine op_add rfl rfl rfl (wrap_i64_in (by omega) (by omega)) ?_)
      exact Round_n (k + 1) ⟨rfl, rfl, rfl, rfl, rfl, rfl, trivial⟩ ⟨by omega, ((hc2.trans' hc24).trans' hc5).trans hc6 (fun j hj hlt => by simp at hj; omega), (hb4.keep0 hc5).keep hc6 (by simpa using fun e => hm5.ne_blk (hb4.keep0 hc5) e.symm), hm6⟩ (by omega)
    · repeat (first | refine W_seq ?_ | refine W_region ?_ | refine W_skip ?_ | refine Then_n ?_ | refine InBlock_n ?_ | refine WL_nil ?_ | refine W_condF rfl ?_ | refine WL_some rfl rfl rfl ?_ | refine op_move rfl rfl ?_ | refine op_add rfl rfl rfl (wrap_i64_in (by omega) (by omega)) ?_ | refine op_lss rfl rfl rfl (fun hc => False.elim (by omega)) (fun hc => ?_))
      exact Round_n (k + 1) ⟨rfl, rfl, rfl, rfl, rfl, rfl, trivial⟩ ⟨by omega, hc2.trans' hc24, hb4, by rw [crashTo_stop hkn]; exact hm4⟩ (by omega)
  obtain rfl : k = s.waits.length := by omega
  rw [crashTo_end] at hm2
  have hd := crashDir_ok x.ok n
  have hfew := hd.few
  have hnd := hd.up.nodup
  have hcr : crashM s n tails = ⟨s.room, 0, -1, crashFiles s (crashDir s n) tails, (crashDir s n).mapIdx fun j p => (p.1, j), (crashDir s n).mapIdx fun j p => (p.1, j), []⟩ := rfl
  have hok := crashM_ok x.ok n tails
  rw [hcr] at hok ⊢
  clear hcr
  have hdl : DirOk p.fb.length (crashDir s n) := by rw [x.len]; exact hd
  generalize crashDir s n = d at hm2 hd hfew hnd hok hdl ⊢
  repeat (first | refine W_seq ?_ | refine W_region ?_ | refine W_exit ?_ | refine Then_n ?_ | refine Then_x ?_ | refine InBlock_hit ?_ | refine Round_x ?_ | refine WL_nil ?_ | refine W_condF rfl ?_ | refine WL_some rfl rfl rfl ?_ | refine op_move rfl rfl ?_ | refine op_nilCheck rfl rfl ?_ | refine op_lss rfl rfl rfl (fun hc => False.elim (by omega)) (fun hc => ?_) | refine op_fieldAddr T rfl rfl rfl rfl rfl rfl rfl rfl ?_ | refine op_loadB T rfl rfl rfl rfl (by assumption) (by exact rfl) ?_)
  refine op_call rfl rfl rfl (keysD_has m w2) ?_
  rintro _ _ ⟨rfl, rfl⟩
  repeat (refine WL_some rfl rfl rfl ?_)
  refine op_call rfl rfl rfl (sortedD_has hm2 (d.map (·.1)) (fun k hk => ?_) (by simp; omega)) ?_
  · have hmem := (at2_isSome hdl k).1 hk
    refine ⟨hmem, ?_⟩
    obtain ⟨q, hq, rfl⟩ := List.mem_map.1 hmem
    have := (hd.name q hq).1
    unfold maxLen; omega
  rintro nv w3 ⟨hc3, ss, hn, hs, ho, hfr⟩
  have hp : ss.Perm (d.map (·.1)) := (List.perm_ext_iff_of_nodup hn hnd).2 fun k => by rw [hs, at2_isSome hdl]
  rw [sorted_eq hp hd.up] at ho
  have hlen : ss.length = d.length := by rw [hp.length_eq, List.length_map]
  rw [hlen] at ho
  clear hp hlen hn hs ss
  have hfr' : ∀ h, nv.ownBlock = some h → w.heap.size ≤ h := fun h hh => by have := hfr h hh; have := hc2.size; omega
  obtain ⟨An, cn, rfl, hn1, hn2⟩ := ho.form
  have hm3 : MapAt keyV ptrV w3 m (hAt p.fb [] d) := (hm2.keep0 hc3).congr (fun k => (hAt_start _ _ _).symm)
  have hb3 := hb2.keep0 hc3
  have hc03 := hc2.trans' hc3
  repeat (first | refine W_block ?_ | refine Then_n ?_ | refine WL_nil ?_ | refine WL_some rfl rfl rfl ?_ | refine op_move rfl rfl ?_ | refine op_len_slice T rfl rfl rfl rfl ?_)
  refine W_loop (σ := List (Nat × Value)) (fun nb => [(2, .slice At tails.length ct), (7, .pointer (some ⟨gc, 0, none⟩)), (53, .slice An d.length cn), (54, .int .i64 d.length), (55, .int .i64 nb.length)])
    (fun (nb : List (Nat × Value)) w' => nb.length ≤ d.length ∧ Chg [] w w' ∧ Blk w' gc 56 [.int .i64 s.room, .map none, .map (some m), .slice none 0 0, .int .i64 0, .int .i64 (-1)] ∧ MapAt keyV ptrV w' m (hAt p.fb nb d) ∧ NewFiles w w' s d tails nb ∧ Own w' 9 1 (.slice An d.length cn) d.length ((d.map (·.1)).map keyV)) (fun nb => d.length - nb.length) []
    ⟨rfl, rfl, rfl, rfl, rfl, trivial⟩ ⟨by simp, hc03, hb3, hm3, ⟨(fun j q r h => by simp at h), (fun j q r h => by simp at h), (fun q hq => by cases hq), List.nodup_nil, (fun i j q q' h h1 => by simp at h1)⟩, ho⟩ ?_
  clear hb2 hm2 hb3 hm3 hc3 hc03 ho hfr hk hkl hc2
  rintro nb w4 ⟨hnl, hc4, hb4, hm4, hnf, ho4⟩
  by_cases hj : nb.length < d.length
  · have hr : d[nb.length]? = some d[nb.length] := List.getElem?_eq_getElem hj
    generalize d[nb.length] = r at hr
    have x4 := x.keep0 hc4
    have hri := (hdl.name r (List.mem_of_getElem? hr)).2
    have hq : p.fb[r.2]? = some p.fb[r.2] := List.getElem?_eq_getElem hri
    generalize p.fb[r.2] = q at hq
    obtain ⟨f, hfi⟩ : ∃ f, s.files[r.2]? = some f := ⟨_, List.getElem?_eq_getElem (by rw [← x.len]; exact hri)⟩
    have hfo := x.ok.files f (List.mem_of_getElem? hfi)
    obtain ⟨gn, hgn, ⟨cn', hvn⟩, hcell⟩ := ho4.cell (j := nb.length) (u := keyV r.1) (by rw [List.getElem?_map, List.getElem?_map, hr]; rfl)
    injection hvn with e1 _ e3
    subst e1
    have hcell : w4.cell? ⟨gn, nb.length, none⟩ = some (.string (str r.1)) := hcell
    have hbf := x4.fblk r.2 q f hq hfi
    have hof := x4.fown r.2 q f hq hfi
    obtain ⟨Aq, cq, hqv, hq1, hq2⟩ := hof.form
    rw [hqv] at hbf hof
    have htl := tailOf_le f tails nb.length hfo.1
    have htl0 : f.synced ≤ tailOf f tails nb.length := by unfold tailOf; omega
    have hat := hAt_at hnd hr hq
    repeat (first | refine W_seq ?_ | refine W_block ?_ | refine W_region ?_ | refine W_skip ?_ | refine Then_n ?_ | refine WL_nil ?_ | refine W_condT rfl ?_ | refine WL_some rfl rfl rfl ?_ | refine op_move rfl rfl ?_ | refine op_assign rfl rfl ?_ | refine op_nilCheck rfl rfl ?_ | refine op_index_own T rfl rfl rfl rfl rfl rfl (by omega) ?_ | refine op_load T rfl rfl rfl rfl (by assumption) ?_ | refine op_lss rfl rfl rfl (fun hc => ?_) (fun hc => False.elim (by omega)) | refine op_fieldAddr T rfl rfl rfl rfl rfl rfl rfl rfl ?_ | refine op_loadB T rfl rfl rfl rfl (by assumption) (by exact rfl) ?_)
    refine op_lookup_v T strKey rfl rfl rfl rfl rfl rfl hm4 (v := ptrV q.1) (fun b hb => by rw [hat] at hb; injection hb with hb; rw [hb]) (fun hn => by rw [hat] at hn; cases hn) ?_
    unfold ptrV
    repeat (first | refine W_seq ?_ | refine W_region ?_ | refine Then_n ?_ | refine WL_nil ?_ | refine WL_some rfl rfl rfl ?_ | refine op_move rfl rfl ?_ | refine op_assign rfl rfl ?_ | refine op_len_slice T rfl rfl rfl rfl ?_)
    refine op_lss_b rfl rfl rfl ?_
    repeat (first | refine Then_n ?_ | refine WL_nil ?_)
    refine W_meet (σ := Unit) (fun _ => [(2, .slice At tails.length ct), (7, .pointer (some ⟨gc, 0, none⟩)), (53, .slice (some ⟨gn, 0, none⟩) d.length cn), (54, .int .i64 d.length), (55, .int .i64 nb.length), (11, .string (str r.1)), (12, .pointer (some ⟨q.1, 0, none⟩)), (13, .int .i64 ((tailOf f tails nb.length - f.synced : Nat) : Int))]) (fun _ w' => Chg [] w4 w') ?_ ?_
    · refine W_cond rfl (fun h => ?_) (fun h => ?_)
      · have hjt : nb.length < tails.length := by have := of_decide_eq_true h; omega
        have htj : tails[nb.length]? = some tails[nb.length] := List.getElem?_eq_getElem hjt
        generalize tails[nb.length] = tj at htj
        obtain ⟨ad, u, rfl, hu, rfl, hu1, hu2⟩ := (SliceOf.kept Ri64.kept _ _ _ _ hc4 ht).get htj
        have hsyn := hfo.1
        have hfl := hfo.2
        skip
        refine W_walk 16 [] fol (by kernel_rfl) (by kernel_rfl) ?_
        refine Walk.plain rfl (by intro val w_ hR hp; exact op_move rfl rfl ⟨Chg.refl _ _, rfl⟩) ?_; dsimp only [List.nil_append, List.cons_append]
        refine Walk.plain rfl (by intro val w_ hR hp; exact op_move rfl rfl ⟨Chg.refl _ _, rfl⟩) ?_; dsimp only [List.nil_append, List.cons_append]
        refine Walk.plain rfl (by intro val w_ hR hp; exact op_index_nat T rfl rfl rfl rfl rfl rfl (by omega) ⟨Chg.refl _ _, rfl⟩) ?_; dsimp only [List.nil_append, List.cons_append]
        refine Walk.plain rfl (by intro val w_ hR hp; exact op_load T rfl rfl rfl rfl (hR.cell0 (by assumption)) ⟨Chg.refl _ _, rfl⟩) ?_; dsimp only [List.nil_append, List.cons_append]
        refine Walk.plain rfl (by intro val w_ hR hp; exact op_max rfl rfl rfl ⟨Chg.refl _ _, rfl⟩) ?_; dsimp only [List.nil_append, List.cons_append]
        refine Walk.plain rfl (by intro val w_ hR hp; exact op_move rfl rfl ⟨Chg.refl _ _, rfl⟩) ?_; dsimp only [List.nil_append, List.cons_append]
        refine Walk.plain rfl (by intro val w_ hR hp; exact op_nilCheck rfl rfl ⟨Chg.refl _ _, rfl⟩) ?_; dsimp only [List.nil_append, List.cons_append]
        refine Walk.plain rfl (by intro val w_ hR hp; exact op_fieldAddr T rfl rfl rfl rfl rfl rfl rfl rfl ⟨Chg.refl _ _, rfl⟩) ?_; dsimp only [List.nil_append, List.cons_append]
        refine Walk.plain rfl (by intro val w_ hR hp; exact op_load T rfl rfl rfl rfl ((Blk.keep0 hbf hR).cell rfl) ⟨Chg.refl _ _, rfl⟩) ?_; dsimp only [List.nil_append, List.cons_append]
        refine Walk.plain rfl (by intro val w_ hR hp; exact op_len_slice T rfl rfl rfl rfl ⟨Chg.refl _ _, rfl⟩) ?_; dsimp only [List.nil_append, List.cons_append]
        refine Walk.plain rfl (by intro val w_ hR hp; exact op_move rfl rfl ⟨Chg.refl _ _, rfl⟩) ?_; dsimp only [List.nil_append, List.cons_append]
        refine Walk.plain rfl (by intro val w_ hR hp; exact op_nilCheck rfl rfl ⟨Chg.refl _ _, rfl⟩) ?_; dsimp only [List.nil_append, List.cons_append]
        refine Walk.plain rfl (by intro val w_ hR hp; exact op_fieldAddr T rfl rfl rfl rfl rfl rfl rfl rfl ⟨Chg.refl _ _, rfl⟩) ?_; dsimp only [List.nil_append, List.cons_append]
        refine Walk.plain rfl (by intro val w_ hR hp; exact op_load T rfl rfl rfl rfl ((Blk.keep0 hbf hR).cell rfl) ⟨Chg.refl _ _, rfl⟩) ?_; dsimp only [List.nil_append, List.cons_append]
        refine Walk.plain rfl (by intro val w_ hR hp; exact op_subt rfl rfl rfl (wrap_i64_in (by omega) (by omega)) ⟨Chg.refl _ _, rfl⟩) ?_; dsimp only [List.nil_append, List.cons_append]
        refine Walk.plain rfl (by intro val w_ hR hp; exact op_min rfl rfl rfl ⟨Chg.refl _ _, rfl⟩) ?_; dsimp only [List.nil_append, List.cons_append]
        refine Walk.fin ?_
        intro val w5 hc5 _
        have hval : min (max tj 0) ((f.b.length : Int) - (f.synced : Int)) = ((tailOf f tails nb.length - f.synced : Nat) : Int) := by
          unfold tailOf
          rw [htj]
          simp only
          have hmm : ((min (max tj 0).toNat (f.b.length - f.synced) : Nat) : Int) = min (max tj 0) ((f.b.length : Int) - (f.synced : Int)) := by
            by_cases h1 : (max tj 0).toNat ≤ f.b.length - f.synced
            · rw [Nat.min_eq_left h1]; omega
            · rw [Nat.min_eq_right (by omega)]; omega
          rw [Nat.add_sub_cancel_left, hmm]
        refine WL_sub (e' := [(2, .slice (some ad) tails.length ct), (7, .pointer (some ⟨gc, 0, none⟩)), (53, .slice (some ⟨gn, 0, none⟩) d.length cn), (54, .int .i64 d.length), (55, .int .i64 nb.length), (11, .string (str r.1)), (12, .pointer (some ⟨q.1, 0, none⟩)), (85, .int .i64 ((tailOf f tails nb.length - f.synced : Nat) : Int))]) ⟨rfl, rfl, rfl, rfl, rfl, rfl, rfl, some_int hval, trivial⟩ ?_
        repeat (first | refine WL_nil ?_ | refine WL_some rfl rfl rfl ?_ | refine op_assign rfl rfl ?_)
        exact Meet_n () ⟨rfl, rfl, rfl, rfl, rfl, rfl, rfl, rfl, trivial⟩ hc5
      · have hjt : tails[nb.length]? = none := List.getElem?_eq_none_iff.2 (by have := of_decide_eq_false h; omega)
        have hz : tailOf f tails nb.length - f.synced = 0 := by unfold tailOf; rw [hjt]; simp
        rw [hz]
        repeat (refine W_skip ?_)
        exact Meet_n () ⟨rfl, rfl, rfl, rfl, rfl, rfl, rfl, rfl, trivial⟩ (Chg.refl _ _)
    intro _ w5 hc5
    have hbf5 := hbf.keep0 hc5
    have hof5 := hof.keep0 hc5
    have hm5 := hm4.keep0 hc5
    have hb5 := hb4.keep0 hc5
    have hnf5 := hnf.keep hnl hc5 (fun k hk => by cases hk)
    have ho5 := ho4.keep0 hc5
    have hfl := hfo.2
    repeat (first | refine W_seq ?_ | refine Then_n ?_)
    refine W_walk 12 [] fol (by kernel_rfl) (by kernel_rfl) ?_
    refine Walk.plain rfl (by intro val w_ hR hp; exact op_move rfl rfl ⟨Chg.refl _ _, rfl⟩) ?_; dsimp only [List.nil_append, List.cons_append]
    refine Walk.plain rfl (by intro val w_ hR hp; exact op_nilCheck rfl rfl ⟨Chg.refl _ _, rfl⟩) ?_; dsimp only [List.nil_append, List.cons_append]
    refine Walk.plain rfl (by intro val w_ hR hp; exact op_fieldAddr T rfl rfl rfl rfl rfl rfl rfl rfl ⟨Chg.refl _ _, rfl⟩) ?_; dsimp only [List.nil_append, List.cons_append]
    refine Walk.plain rfl (by intro val w_ hR hp; exact op_load T rfl rfl rfl rfl ((Blk.keep0 hbf5 hR).cell rfl) ⟨Chg.refl _ _, rfl⟩) ?_; dsimp only [List.nil_append, List.cons_append]
    refine Walk.plain rfl (by intro val w_ hR hp; exact op_move rfl rfl ⟨Chg.refl _ _, rfl⟩) ?_; dsimp only [List.nil_append, List.cons_append]
    refine Walk.plain rfl (by intro val w_ hR hp; exact op_nilCheck rfl rfl ⟨Chg.refl _ _, rfl⟩) ?_; dsimp only [List.nil_append, List.cons_append]
    refine Walk.plain rfl (by intro val w_ hR hp; exact op_fieldAddr T rfl rfl rfl rfl rfl rfl rfl rfl ⟨Chg.refl _ _, rfl⟩) ?_; dsimp only [List.nil_append, List.cons_append]
    refine Walk.plain rfl (by intro val w_ hR hp; exact op_load T rfl rfl rfl rfl ((Blk.keep0 hbf5 hR).cell rfl) ⟨Chg.refl _ _, rfl⟩) ?_; dsimp only [List.nil_append, List.cons_append]
    refine Walk.plain rfl (by intro val w_ hR hp; exact op_move rfl rfl ⟨Chg.refl _ _, rfl⟩) ?_; dsimp only [List.nil_append, List.cons_append]
    refine Walk.plain rfl (by intro val w_ hR hp; exact op_add rfl rfl rfl (wrap_i64_in (by omega) (by omega)) ⟨Chg.refl _ _, rfl⟩) ?_; dsimp only [List.nil_append, List.cons_append]
    refine Walk.plain (v := .slice Aq (tailOf f tails nb.length) cq) rfl (by intro val w_ hR hp; exact op_slice_to T (h' := tailOf f tails nb.length) (k := .i64) rfl rfl (some_int (by omega)) rfl rfl (by omega) ⟨Chg.refl _ _, rfl⟩) ?_; dsimp only [List.nil_append, List.cons_append]
    have hcut : SliceOf Ru8 w5 (.slice Aq (tailOf f tails nb.length) cq) (f.b.take (tailOf f tails nb.length)) := hof5.bytes.take (by omega)
    have hclen : (f.b.take (tailOf f tails nb.length)).length = tailOf f tails nb.length := by rw [List.length_take]; omega
    refine Walk.rel (fun u w_ => Own w_ 5 1 u (tailOf f tails nb.length) (u8s (f.b.take (tailOf f tails nb.length))) ∧ ∀ h, u.ownBlock = some h → w5.heap.size ≤ h) rfl (fun u a b h hab => ⟨h.1.keep0 hab, h.2⟩) ?_ ?_
    · intro val w_ hR hp
      refine op_call rfl rfl rfl (clone_has Aq _ cq (f.b.take (tailOf f tails nb.length)) w_ (SliceOf.kept Ru8.kept _ _ _ _ hR hcut) (by rw [hclen]; omega)) ?_
      rintro v w' ⟨hc, ho, hf⟩
      rw [hclen] at ho
      exact ⟨hc, ho, fun h hh => by have := hf h hh; have := hR.size; omega⟩
    dsimp only [List.nil_append, List.cons_append]
    refine Walk.fin ?_
    intro val w6 hc6 hp
    obtain ⟨hu6, huf6⟩ : Own w6 5 1 (val 11) (tailOf f tails nb.length) (u8s (f.b.take (tailOf f tails nb.length))) ∧ ∀ h, (val 11).ownBlock = some h → w5.heap.size ≤ h := hp 11 (by omega) _ _ rfl rfl
    clear hp
    refine WL_sub (e' := [(2, .slice At tails.length ct), (7, .pointer (some ⟨gc, 0, none⟩)), (53, .slice (some ⟨gn, 0, none⟩) d.length cn), (54, .int .i64 d.length), (55, .int .i64 nb.length), (11, .string (str r.1)), (97, val 11)]) ⟨rfl, rfl, rfl, rfl, rfl, rfl, rfl, trivial⟩ ?_
    generalize val 11 = uv at hu6 huf6
    obtain ⟨Au, cu, rfl, _, _⟩ := hu6.form
    have hb6 := hb5.keep0 hc6
    have hm6 := hm5.keep0 hc6
    have hnf6 := hnf5.keep hnl hc6 (fun k hk => by cases hk)
    have ho6 := ho5.keep0 hc6
    repeat (first | refine W_region ?_ | refine Then_n ?_ | refine WL_nil ?_ | refine WL_some rfl rfl rfl ?_ | refine op_move rfl rfl ?_ | refine op_assign rfl rfl ?_ | refine op_len_slice T rfl rfl rfl rfl ?_ | refine op_nilCheck rfl rfl ?_ | refine op_fieldAddr T rfl rfl rfl rfl rfl rfl rfl rfl ?_ | refine op_build T rfl rfl rfl rfl rfl rfl ?_ | refine op_loadB T rfl rfl rfl rfl (by assumption) (by exact rfl) ?_)
    refine op_box rfl rfl (fun gf w7 hs7 hc7 hg7 => ?_)
    have hg7 : Blk w7 gf 65 [.slice Au (tailOf f tails nb.length) cu, .int .i64 (tailOf f tails nb.length : Nat)] := hg7
    have hb7 := hb6.keep0 hc7
    have hm7 := hm6.keep0 hc7
    have hnf7 := hnf6.keep hnl hc7 (fun k hk => by cases hk)
    have ho7 := ho6.keep0 hc7
    have hu7 := hu6.keep0 hc7
    repeat (refine WL_none rfl rfl ?_)
    refine op_mapUpdate T strKey (bv := ptrV) (b := gf) rfl rfl rfl rfl rfl rfl hm7 (fun w8 hc8 hm8 _ => ?_)
    have hmb : ∀ k ∈ [m], ∀ t cs, ¬ Blk w7 k t cs := fun k hk t cs hbk => by simp at hk; subst hk; exact hm7.ne_blk hbk rfl
    have hcf : cutM ((s.files[r.2]?).getD ⟨[], 0⟩) tails nb.length = ⟨f.b.take (tailOf f tails nb.length), tailOf f tails nb.length⟩ := by rw [hfi]; rfl
    have hs45 := hc5.size
    have hs56 := hc6.size
    have hs67 := hc7.size
    have hs04 := hc4.size
    have hnf8 : NewFiles w w8 s d tails (nb ++ [(gf, .slice Au (tailOf f tails nb.length) cu)]) := by
      refine (hnf7.keep hnl hc8 hmb).snoc hr ?_ ?_ (by omega) (fun h hh => by have := huf6 h hh; omega) (fun q hq e => ?_) (fun q hq h hh e => ?_)
      · rw [hcf]; exact hg7.keep hc8 (fun hm => hmb _ hm _ _ hg7)
      · rw [hcf, hclen]
        exact hu7.keep hc8 (fun h hh hm => by
          obtain ⟨cur, hr⟩ := hu7.row hh
          exact hmb _ hm _ _ hr)
      · have := (hnf6.fresh q hq).2.1; omega
      · have h1 := huf6 h e
        have h2 := ((hnf.fresh q hq).2.2 h hh).2
        omega
    repeat (first | refine W_region ?_ | refine Then_n ?_ | refine InBlock_n ?_ | refine WL_nil ?_ | refine WL_some rfl rfl rfl ?_ | refine op_move rfl rfl ?_ | refine op_add rfl rfl rfl (wrap_i64_in (by omega) (by omega)) ?_)
    refine Round_n (nb ++ [(gf, .slice Au (tailOf f tails nb.length) cu)]) ⟨rfl, rfl, rfl, rfl, ?_, trivial⟩ ⟨by rw [List.length_append]; simp; omega, ((((hc4.trans' hc5).trans' hc6).trans' hc7).trans hc8 (fun j hj hlt => by simp at hj; omega)), hb7.keep hc8 (fun hm => hmb _ hm _ _ hb7), hm8.congr (fun k => (hAt_step hnd hr (gf, .slice Au (tailOf f tails nb.length) cu) k).symm), hnf8, ho7.keep hc8 (fun h hh hm => by
      obtain ⟨cur, hr⟩ := ho7.row hh
      exact hmb _ hm _ _ hr)⟩ (by rw [List.length_append]; simp; omega)
    rw [List.length_append]
    exact some_int (by simp)
  have hnl' : nb.length = d.length := by omega
  repeat (first | refine W_seq ?_ | refine W_region ?_ | refine W_exit ?_ | refine Then_n ?_ | refine Then_x ?_ | refine InBlock_hit ?_ | refine Round_x ?_ | refine WL_nil ?_ | refine W_condF rfl ?_ | refine WL_some rfl rfl rfl ?_ | refine op_move rfl rfl ?_ | refine op_nilCheck rfl rfl ?_ | refine op_lss rfl rfl rfl (fun hc => False.elim (by omega)) (fun hc => ?_) | refine op_fieldAddr T rfl rfl rfl rfl rfl rfl rfl rfl ?_ | refine op_loadB T rfl rfl rfl rfl (by assumption) (by exact rfl) ?_)
  refine op_call rfl rfl rfl (cloneD_has hm4) ?_
  rintro _ w5 ⟨md, rfl, hmd, hc5, hm5⟩
  have hb5 := hb4.keep0 hc5
  have hml5 := hm4.keep0 hc5
  have hnf5 := hnf.keep hnl hc5 (fun k hk => by cases hk)
  repeat (first | refine WL_some rfl rfl rfl ?_ | refine WL_none rfl rfl ?_ | refine op_nilCheck rfl rfl ?_ | refine op_fieldAddr T rfl rfl rfl rfl rfl rfl rfl rfl ?_)
  refine op_store T rfl rfl rfl rfl rfl rfl hb5 (Nat.le_of_ble_eq_true rfl) (fun w6 hc6 hb6 _ => ?_)
  have hgrow : ∀ k ∈ [gc], ∀ t cs, Blk w5 k t cs → t = 56 := fun k hk t cs hbk => by
    simp at hk; subst hk
    exact Classical.byContradiction fun hne => hbk.ne_ hb5 hne rfl
  repeat (first | refine W_seq ?_ | refine W_region ?_ | refine W_ret ?_ | refine Then_n ?_ | refine WL_nil ?_ | refine WL_some rfl rfl rfl ?_ | refine op_move rfl rfl ?_ | refine op_assign rfl rfl ?_)
  have hs4 := hc4.size
  have hs5 := hc5.size
  have hml := hm4.lt
  refine post1 (.inl rfl) rfl rfl ⟨(hc4.trans' hc5).trans hc6 (fun j hj hlt => by simp at hj; omega), gc, ⟨md, m, .slice none 0 0, nb⟩, rfl, ⟨hok, hb6, ?_, ?_, Own.nil _ _ _, ?_, fun j q f hq hf => ?_, fun j q f hq hf => ?_, (show md ≠ m by omega), hnf.apart2, hnf.apart3⟩, fun k hk => ?_⟩
  · exact (hm5.keep hc6 (by simpa using hm5.ne_blk hb5)).congr (fun k => hAt_end hnl' k)
  · exact (hml5.keep hc6 (by simpa using hml5.ne_blk hb5)).congr (fun k => hAt_end hnl' k)
  · show nb.length = (crashFiles s d tails).length
    unfold crashFiles
    simpa using hnl'
  · have hjl : j < d.length := by rw [← hnl']; exact (List.getElem?_eq_some_iff.1 hq).1
    have hr : d[j]? = some d[j] := List.getElem?_eq_getElem hjl
    have hf' : f = cutM ((s.files[d[j].2]?).getD ⟨[], 0⟩) tails j := by
      have hf : (crashFiles s d tails)[j]? = some f := hf
      unfold crashFiles at hf
      rw [List.getElem?_mapIdx, hr] at hf
      injection hf with hf; exact hf.symm
    rw [hf']
    have h1 := hnf5.blk j q _ hq hr
    exact h1.keep hc6 (fun hm => by have := hgrow _ hm _ _ h1; exact absurd this (by decide))
  · have hjl : j < d.length := by rw [← hnl']; exact (List.getElem?_eq_some_iff.1 hq).1
    have hr : d[j]? = some d[j] := List.getElem?_eq_getElem hjl
    have hf' : f = cutM ((s.files[d[j].2]?).getD ⟨[], 0⟩) tails j := by
      have hf : (crashFiles s d tails)[j]? = some f := hf
      unfold crashFiles at hf
      rw [List.getElem?_mapIdx, hr] at hf
      injection hf with hf; exact hf.symm
    rw [hf']
    have h1 := hnf5.own j q _ hq hr
    exact h1.keep hc6 (fun h hh hm => by
      obtain ⟨cur, hrr⟩ := h1.row hh
      have := hgrow _ hm _ _ hrr; exact absurd this (by decide))
  · rcases FsP.mem_fp.1 hk with h | h | h | h | ⟨q, hq, h⟩
    · omega
    · have h : k = md := h
      omega
    · have h : k = m := h
      omega
    · cases h
    · have h5 := hnf.fresh q hq
      rcases h with rfl | h
      · exact h5.1
      · exact (h5.2.2 k h).1
end Go.Proofs.YtbhnplghnhafiaaDoor.Tryd
/-! Files: of the call's own; one file. -/
set_option linter.unusedVariables false
set_option linter.unusedSimpArgs false
namespace Go.Proofs.YtbhnplghnhafiaaDoor.Tryd
open Go Go.Vc

/-- A file system that was made since w0; of what lay there nothing has turned. -/
structure FsO (w0 w : World) (g : Nat) (s : FsM) (p : FsP) : Prop where
  chg : Chg [] w0 w
  at_ : FsAt w g s p
  fresh : ∀ k ∈ p.fp g, w0.heap.size ≤ k
section
variable {w0 w w' : World} {g : Nat} {s : FsM} {p : FsP}
theorem FsO.keep0 (x : FsO w0 w g s p) (hc : Chg [] w w') : FsO w0 w' g s p := ⟨x.chg.trans' hc, x.at_.keep0 hc, x.fresh⟩
theorem FsO.base {w1 : World} (x : FsO w1 w g s p) (hc : Chg [] w0 w1) : FsO w0 w g s p := ⟨hc.trans' x.chg, x.at_, fun k hk => by have := x.fresh k hk; have := hc.size; omega⟩
theorem FsO.chgFp (x : FsO w0 w g s p) (hc : Chg (p.fp g) w w') : Chg [] w0 w' := x.chg.trans hc (fun k hk hlt => by have := x.fresh k hk; omega)
/-- A row made behind it, whatever becomes of it. -/
theorem FsO.row (x : FsO w0 w g s p) {w1 : World} (hc : Chg [] w w1) {gb : Nat} (hs : w.heap.size ≤ gb) {vs : List Value} {t : TypeId} {fr : Nat × Nat} (hg : w1.heap[gb]? = some (.cells vs.toArray t fr)) {n c : Nat} {L : List UInt8} (hn : n = L.length) (hnc : n ≤ c) (hcm : c ≤ maxLen)
    (h : ∀ (i : Nat) (y : UInt8), L[i]? = some y → ∃ u, vs[i]? = some u ∧ Ru8 w u y) : Firm (p.fp g) w1 (fun w => SliceOf Ru8 w (.slice (some ⟨gb, 0, none⟩) n c) L) := fun w2 h2 =>
  SliceOf.of_heap ((h2.keep gb (Array.getElem?_eq_some_iff.1 hg).1 (fun hm => by have := x.at_.lt gb hm; omega)).trans hg) hn hnc hcm (fun i y hy => by
    obtain ⟨u, h1, h2⟩ := h i y hy
    exact ⟨u, h1, h2⟩)
theorem FsO.done (x : FsO w0 w g s p) {r : FsM × Int} {v : Value} (h : FsDone w g p r v w') : v = .int .i64 r.2 ∧ ∃ p', FsO w0 w' g r.1 p' := by
  obtain ⟨h1, h2, p', h3, h4⟩ := h
  exact ⟨h2, p', x.chgFp h1, h3, fun k hk => by
    rcases h4 k hk with h | h
    · exact x.fresh k h
    · have := x.chg.size; omega⟩
end
theorem newO_has (n : Int) (w : World) : Has Go.Proofs.Tryd.prog 8 #[.int .i64 n] w (fun v w' => ∃ g p, v = ptrV g ∧ FsO w w' g (newM n) p) :=
  (newFs_has n w).mono fun v w' ⟨hc, g, p, hv, hx, hf⟩ => ⟨g, p, hv, hc, hx, hf⟩
theorem createO_has {w0 w : World} {g : Nat} {s : FsM} {p : FsP} (x : FsO w0 w g s p) (k : Nm) (hk : k.length ≤ maxLen) (hcalls : s.calls < 1000000000 - 1) :
    Has Go.Proofs.Tryd.prog 28 #[ptrV g, .string (str k)] w (fun v w' => v = .int .i64 (createM s k).2 ∧ ∃ p', FsO w0 w' g (createM s k).1 p') := (create_has g s p k w x.at_ hk hcalls).mono fun _ _ h => x.done h
theorem appendO_has {w0 w : World} {g : Nat} {s : FsM} {p : FsP} (x : FsO w0 w g s p) (k : Nm) {A : Option Addr} {n c : Nat} {b : List UInt8} (hb : Firm (p.fp g) w (fun w => SliceOf Ru8 w (.slice A n c) b)) (hbl : b.length ≤ 1000000000) (hcalls : s.calls < 1000000000 - 1) :
    Has Go.Proofs.Tryd.prog 30 #[ptrV g, .string (str k), .slice A n c] w (fun v w' => v = .int .i64 (appendM s k b).2 ∧ ∃ p', FsO w0 w' g (appendM s k b).1 p') := (append_has g s p k A n c b w x.at_ hb hbl hcalls).mono fun _ _ h => x.done h
theorem syncO_has {w0 w : World} {g : Nat} {s : FsM} {p : FsP} (x : FsO w0 w g s p) (k : Nm) (hcalls : s.calls < 1000000000 - 1) :
    Has Go.Proofs.Tryd.prog 35 #[ptrV g, .string (str k)] w (fun v w' => v = .int .i64 (syncM s k).2 ∧ ∃ p', FsO w0 w' g (syncM s k).1 p') := (sync_has g s p k w x.at_ hcalls).mono fun _ _ h => x.done h
theorem syncDirO_has {w0 w : World} {g : Nat} {s : FsM} {p : FsP} (x : FsO w0 w g s p) (hcalls : s.calls < 1000000000 - 1) :
    Has Go.Proofs.Tryd.prog 24 #[ptrV g] w (fun v w' => v = .int .i64 (syncDirM s).2 ∧ ∃ p', FsO w0 w' g (syncDirM s).1 p') := (syncDir_has g s p w x.at_ hcalls).mono fun _ _ h => x.done h
theorem renameO_has {w0 w : World} {g : Nat} {s : FsM} {p : FsP} (x : FsO w0 w g s p) (k k' : Nm) (hk : k'.length ≤ maxLen) (hcalls : s.calls < 1000000000 - 1) :
    Has Go.Proofs.Tryd.prog 60 #[ptrV g, .string (str k), .string (str k')] w (fun v w' => v = .int .i64 (renameM s k k').2 ∧ ∃ p', FsO w0 w' g (renameM s k k').1 p') := (rename_has g s p k k' w x.at_ hk hcalls).mono fun _ _ h => x.done h
theorem rotO_has {w0 w : World} {g : Nat} {s : FsM} {p : FsP} (x : FsO w0 w g s p) (k : Nm) (sec : Int) (xx : UInt8) :
    Has Go.Proofs.Tryd.prog 20 #[ptrV g, .string (str k), .int .i64 sec, .int .u8 (xx.toNat : Int)] w (fun v w' => v = .int .i64 (rotM s k sec xx).2 ∧ ∃ p', FsO w0 w' g (rotM s k sec xx).1 p') := (rot_has g s p k sec xx w x.at_).mono fun _ _ h => x.done h
theorem readO_has {w0 w : World} {g : Nat} {s : FsM} {p : FsP} (x : FsO w0 w g s p) (k : Nm) :
    Has Go.Proofs.Tryd.prog 19 #[ptrV g, .string (str k)] w (fun v w' => FsO w0 w' g s p ∧ Chg [] w w' ∧ readV (readM s k) w v w') := (read_has g s p k w x.at_).mono fun _ _ ⟨h1, h2⟩ => ⟨x.keep0 h1, h1, h2⟩
theorem crashO_has {w0 w : World} {g : Nat} {s : FsM} {p : FsP} (x : FsO w0 w g s p) (n : Int) {At : Option Addr} {nt ct : Nat} {tails : List Int} (ht : SliceOf Ri64 w (.slice At nt ct) tails) (hcalls : s.calls < 1000000000) :
    Has Go.Proofs.Tryd.prog 25 #[ptrV g, .int .i64 n, .slice At nt ct] w (fun v w' => FsO w0 w' g s p ∧ Chg [] w w' ∧ ∃ gc pc, v = ptrV gc ∧ FsO w w' gc (crashM s n tails) pc) :=
  (crash_has g s p n At nt ct tails w x.at_ ht hcalls).mono fun _ _ ⟨hc, gc, pc, hv, hx, hf⟩ => ⟨x.keep0 hc, hc, gc, pc, hv, hc, hx, hf⟩
theorem roomO_has {w0 w : World} {g : Nat} {s : FsM} {p : FsP} (x : FsO w0 w g s p) (n : Int) : Has Go.Proofs.Tryd.prog 13 #[ptrV g, .int .i64 n] w (fun v w' => FsO w0 w' g { s with room := roomM n } p) :=
  (roomF_has g s p n w x.at_).mono fun _ _ ⟨hc, hx⟩ => ⟨x.chgFp (chg_self hc), hx, x.fresh⟩

theorem fs_eq1 : createM (newM 100) [97] = (⟨100, 1, -1, [⟨[], 0⟩], [([97], 0)], [], [⟨0, [97], [], some 0⟩]⟩, 0) := by rfl
theorem fs_eq2 : appendM ⟨100, 1, -1, [⟨[], 0⟩], [([97], 0)], [], [⟨0, [97], [], some 0⟩]⟩ [97] [120, 121, 122] = (⟨100, 2, -1, [⟨[120, 121, 122], 0⟩], [([97], 0)], [], [⟨0, [97], [], some 0⟩]⟩, 0) := by rfl
end Go.Proofs.YtbhnplghnhafiaaDoor.Tryd
/-! Segments that grow: where one lies; Name, Create, Len, Size, add. -/
set_option linter.unusedVariables false
namespace Go.Vc
open Go
theorem grows_out {w : World} {g k : Nat} {p p' : FsP} (h : Grows w g p p') (hk : k < w.heap.size) (hn : k ∉ p.fp g) : k ∉ p'.fp g := fun hm => by
  rcases h k hm with h | h
  · exact hn h
  · omega
def natV (n : Nat) : Value := .int .i64 (n : Int)
def rawNm (n : Nat) : Nm := [UInt8.ofNat (48 + n), 46, 114, 97, 119]
end Go.Vc
namespace Go.Proofs.YtbhnplghnhafiaaDoor.Tryd
open Go Go.Vc

theorem fsStep {w0 w w' : World} {g : Nat} {s : FsM} {p : FsP} (x : FsO w0 w g s p) {r : FsM × Int} {v : Value} (h : FsDone w g p r v w') : v = .int .i64 r.2 ∧ Chg (p.fp g) w w' ∧ ∃ p', FsO w0 w' g r.1 p' ∧ Grows w g p p' := by
  obtain ⟨h1, h2, p', h3, h4⟩ := h
  exact ⟨h2, h1, p', ⟨x.chgFp h1, h3, fun k hk => by
    rcases h4 k hk with h | h
    · exact x.fresh k h
    · have := x.chg.size; omega⟩, h4⟩
/-- A segment in memory. -/
structure SegB (w : World) (gs g : Nat) (nm : Nm) (ats : List Nat) (en : Nat) (u : Value) : Prop where
  blk : Blk w gs 60 [ptrV g, .string (str nm), u, .int .i64 (en : Int)]
  own : Own w 3 1 u ats.length (ats.map natV)
section
variable {w0 w w' : World} {gs g : Nat} {nm : Nm} {ats : List Nat} {en : Nat} {u : Value}
theorem SegB.ne (h : SegB w gs g nm ats en u) : ∀ k, u.ownBlock = some k → k ≠ gs := fun k hk e => by
  obtain ⟨cur, hr⟩ := h.own.row hk
  subst e
  exact h.blk.ne_ hr (by decide) rfl
theorem SegB.keep {S : List Nat} (h : SegB w gs g nm ats en u) (hc : Chg S w w') (h1 : gs ∉ S) (h2 : ∀ k, u.ownBlock = some k → k ∉ S) : SegB w' gs g nm ats en u := ⟨h.blk.keep hc h1, h.own.keep hc h2⟩
theorem SegB.keep0 (h : SegB w gs g nm ats en u) (hc : Chg [] w w') : SegB w' gs g nm ats en u := h.keep hc (by simp) (by simp)
end
/-- A segment and its files, made since w0. -/
structure SegO (w0 w : World) (gs g : Nat) (s : FsM) (p : FsP) (nm : Nm) (ats : List Nat) (en : Nat) (u : Value) : Prop where
  fs : FsO w0 w g s p
  seg : SegB w gs g nm ats en u
  out1 : gs ∉ p.fp g
  out2 : ∀ k, u.ownBlock = some k → k ∉ p.fp g
  fr1 : w0.heap.size ≤ gs
  fr2 : ∀ k, u.ownBlock = some k → w0.heap.size ≤ k
section
variable {w0 w w' : World} {gs g : Nat} {s : FsM} {p : FsP} {nm : Nm} {ats : List Nat} {en : Nat} {u : Value}
theorem SegO.keep0 (x : SegO w0 w gs g s p nm ats en u) (hc : Chg [] w w') : SegO w0 w' gs g s p nm ats en u := ⟨x.fs.keep0 hc, x.seg.keep0 hc, x.out1, x.out2, x.fr1, x.fr2⟩
theorem SegO.chg (x : SegO w0 w gs g s p nm ats en u) : Chg [] w0 w := x.fs.chg
theorem SegO.base {w1 : World} (x : SegO w1 w gs g s p nm ats en u) (hc : Chg [] w0 w1) : SegO w0 w gs g s p nm ats en u := ⟨x.fs.base hc, x.seg, x.out1, x.out2, by have := x.fr1; have := hc.size; omega, fun k hk => by have := x.fr2 k hk; have := hc.size; omega⟩
/-- The files went on. -/
theorem SegO.step (x : SegO w0 w gs g s p nm ats en u) {r : FsM × Int} {v : Value} (h : FsDone w g p r v w') : v = .int .i64 r.2 ∧ Chg (p.fp g) w w' ∧ ∃ p', SegO w0 w' gs g r.1 p' nm ats en u := by
  obtain ⟨h1, h2, p', h3, h4⟩ := fsStep x.fs h
  exact ⟨h1, h2, p', h3, x.seg.keep h2 x.out1 x.out2, grows_out h4 x.seg.blk.lt x.out1, fun k hk => grows_out h4 (x.seg.own.lt hk) (x.out2 k hk), x.fr1, x.fr2⟩
/-- The segment went on. -/
theorem SegO.turn (x : SegO w0 w gs g s p nm ats en u) (hc : Chg (gs :: u.ownBlock.toList) w w') {ats' : List Nat} {en' : Nat} {u' : Value} (hs : SegB w' gs g nm ats' en' u') (hb : u'.ownBlock = u.ownBlock ∨ ∃ h, u'.ownBlock = some h ∧ w.heap.size ≤ h) : SegO w0 w' gs g s p nm ats' en' u' := by
  have hdis : ∀ k ∈ p.fp g, k ∉ gs :: u.ownBlock.toList := fun k hk hm => by
    rcases List.mem_cons.1 hm with rfl | hm
    · exact x.out1 hk
    · exact x.out2 k (by simpa using hm) hk
  refine ⟨⟨x.fs.chg.trans hc (fun k hk hlt => ?_), x.fs.at_.keep hc hdis, x.fs.fresh⟩, hs, x.out1, fun k hk hm => ?_, x.fr1, fun k hk => ?_⟩
  · rcases List.mem_cons.1 hk with rfl | hk
    · have := x.fr1; omega
    · have := x.fr2 k (by simpa using hk); omega
  · rcases hb with hb | ⟨h, hb, hge⟩
    · exact x.out2 k (by rw [← hb]; exact hk) hm
    · rw [hb] at hk; injection hk with hk; subst hk
      have := x.fs.at_.lt h hm; omega
  · rcases hb with hb | ⟨h, hb, hge⟩
    · exact x.fr2 k (by rw [← hb]; exact hk)
    · rw [hb] at hk; injection hk with hk; subst hk
      have := x.fs.chg.size; omega
end
theorem name_has (n : Nat) (w : World) (hn : n < 10) : Has Go.Proofs.Tryd.prog 26 #[.int .i64 (n : Int)] w (fun v w' => w' = w ∧ v = .string (str (rawNm n))) := by
  refine enter Go.Proofs.Tryd.func26 rfl rfl (by decide) rfl (e := [(0, .int .i64 (n : Int))]) ⟨rfl, trivial⟩ ?_
  repeat (first | refine W_seq ?_ | refine W_region ?_ | refine Then_n ?_ | refine WL_nil ?_ | refine WL_some rfl rfl rfl ?_ | refine op_move rfl rfl ?_ | refine op_assign rfl rfl ?_)
  refine op_call rfl rfl rfl (formatInt_has n w hn) ?_
  rintro _ _ ⟨rfl, rfl⟩
  repeat (refine WL_some rfl rfl rfl ?_)
  refine op_str_add (a := [UInt8.ofNat (48 + n)]) (b := [46, 114, 97, 119]) rfl rfl rfl (by simp) ?_
  repeat (first | refine W_ret ?_ | refine Then_n ?_ | refine WL_nil ?_ | refine WL_some rfl rfl rfl ?_ | refine op_assign rfl rfl ?_)
  exact post1 (.inl rfl) rfl rfl ⟨rfl, rfl⟩
theorem rawNm_len (n : Nat) : (rawNm n).length = 5 := rfl
/-- An empty segment of a number from 1 to 9. -/
theorem createS_has {w0 w : World} {g : Nat} {s : FsM} {p : FsP} (x : FsO w0 w g s p) (n : Nat) (h1 : 1 ≤ n) (hn : n < 10) (hcalls : s.calls < 1000000000 - 1) (hok : (createM s (rawNm n)).2 = 0) :
    Has Go.Proofs.Tryd.prog 9 #[ptrV g, .int .i64 (n : Int)] w (fun v w' => ∃ gs p' u, v = .tuple #[ptrV gs, .int .i64 0] ∧ SegO w0 w' gs g (createM s (rawNm n)).1 p' (rawNm n) [] 0 u) := by
  refine enter Go.Proofs.Tryd.func9 rfl rfl (by decide) rfl (e := [(0, ptrV g), (1, .int .i64 (n : Int))]) ⟨rfl, rfl, trivial⟩ ?_
  unfold ptrV
  repeat (first | refine W_seq ?_ | refine W_region ?_ | refine W_skip ?_ | refine Then_n ?_ | refine WL_nil ?_ | refine W_condF rfl ?_ | refine WL_some rfl rfl rfl ?_ | refine WL_guardT rfl rfl rfl rfl ?_ | refine op_move rfl rfl ?_ | refine op_assign rfl rfl ?_ | refine op_pick rfl rfl rfl rfl ?_ | refine op_lss rfl rfl rfl (fun hc => False.elim (by omega)) (fun hc => ?_) | refine op_gtr rfl rfl rfl (fun hc => False.elim (by omega)) (fun hc => ?_))
  refine op_call rfl rfl rfl (name_has n w hn) ?_
  rintro _ _ ⟨rfl, rfl⟩
  repeat (refine WL_some rfl rfl rfl ?_)
  refine op_call rfl rfl rfl (createO_has x (rawNm n) (by rw [rawNm_len]; decide) hcalls) ?_
  rintro v1 w1 ⟨hv1, p1, x1⟩
  rw [hok] at hv1
  subst hv1
  repeat (first | refine W_seq ?_ | refine W_region ?_ | refine W_skip ?_ | refine Then_n ?_ | refine WL_nil ?_ | refine W_condF rfl ?_ | refine WL_some rfl rfl rfl ?_ | refine op_move rfl rfl ?_ | refine op_assign rfl rfl ?_ | refine op_neq rfl rfl rfl (fun hc => False.elim (by omega)) (fun hc => ?_))
  refine op_call rfl rfl rfl (name_has n w1 hn) ?_
  rintro _ _ ⟨rfl, rfl⟩
  repeat (first | refine WL_some rfl rfl rfl ?_ | refine op_build T rfl rfl rfl rfl rfl rfl ?_)
  refine op_box rfl rfl (fun gs w2 hs2 hc2 hg2 => ?_)
  have hg2 : Blk w2 gs 60 [ptrV g, .string (str (rawNm n)), .slice none 0 0, .int .i64 0] := hg2
  have hge : _ ≤ gs := hs2
  have x2 := x1.keep0 hc2
  repeat (first | refine W_ret ?_ | refine Then_n ?_ | refine WL_nil ?_ | refine WL_some rfl rfl rfl ?_ | refine op_assign rfl rfl ?_)
  refine post2 (.inl rfl) rfl rfl rfl ⟨gs, p1, .slice none 0 0, rfl, x2, ⟨hg2, Own.nil _ _ _⟩, fun hm => ?_, fun k hk => by simp [Value.ownBlock] at hk, ?_, fun k hk => by simp [Value.ownBlock] at hk⟩
  · have := x1.at_.lt gs hm; omega
  · have := x1.chg.size; omega
section
variable {w : World} {gs g : Nat} {nm : Nm} {ats : List Nat} {en : Nat} {u : Value}
theorem lenS_has (x : SegB w gs g nm ats en u) : Has Go.Proofs.Tryd.prog 11 #[.pointer (some ⟨gs, 0, none⟩)] w (fun v w' => w' = w ∧ v = .int .i64 (ats.length : Nat)) := by
  refine enter Go.Proofs.Tryd.func11 rfl rfl (by decide) rfl (e := [(0, .pointer (some ⟨gs, 0, none⟩))]) ⟨rfl, trivial⟩ ?_
  have hb := x.blk
  obtain ⟨A, c, rfl, _, _⟩ := x.own.form
  repeat (first | refine W_seq ?_ | refine W_region ?_ | refine W_skip ?_ | refine W_ret ?_ | refine Then_n ?_ | refine WL_nil ?_ | refine W_condF rfl ?_ | refine WL_some rfl rfl rfl ?_ | refine op_move rfl rfl ?_ | refine op_assign rfl rfl ?_ | refine op_len_slice T rfl rfl rfl rfl ?_ | refine op_nilCheck rfl rfl ?_ | refine op_fieldAddr T rfl rfl rfl rfl rfl rfl rfl rfl ?_ | refine op_eql_nilptr T rfl rfl rfl rfl rfl ?_ | refine op_loadB T rfl rfl rfl rfl (by assumption) (by exact rfl) ?_)
  exact post1 (.inl rfl) rfl rfl ⟨rfl, rfl⟩
theorem sizeS_has (x : SegB w gs g nm ats en u) : Has Go.Proofs.Tryd.prog 17 #[.pointer (some ⟨gs, 0, none⟩)] w (fun v w' => w' = w ∧ v = .int .i64 (en : Int)) := by
  refine enter Go.Proofs.Tryd.func17 rfl rfl (by decide) rfl (e := [(0, .pointer (some ⟨gs, 0, none⟩))]) ⟨rfl, trivial⟩ ?_
  have hb := x.blk
  repeat (first | refine W_seq ?_ | refine W_region ?_ | refine W_skip ?_ | refine W_ret ?_ | refine Then_n ?_ | refine WL_nil ?_ | refine W_condF rfl ?_ | refine WL_some rfl rfl rfl ?_ | refine op_move rfl rfl ?_ | refine op_assign rfl rfl ?_ | refine op_nilCheck rfl rfl ?_ | refine op_fieldAddr T rfl rfl rfl rfl rfl rfl rfl rfl ?_ | refine op_eql_nilptr T rfl rfl rfl rfl rfl ?_ | refine op_loadB T rfl rfl rfl rfl (by assumption) (by exact rfl) ?_)
  exact post1 (.inl rfl) rfl rfl ⟨rfl, rfl⟩
set_option maxHeartbeats 1000000 in
theorem addS_has (x : SegB w gs g nm ats en u) (n : Nat) (hl : ats.length < 1000000000) (he : en + n < 1000000000000) :
    Has Go.Proofs.Tryd.prog 31 #[.pointer (some ⟨gs, 0, none⟩), .int .i64 (n : Int)] w (fun v w' => Chg (gs :: u.ownBlock.toList) w w' ∧ ∃ u', SegB w' gs g nm (ats ++ [en]) (en + n) u' ∧ (u'.ownBlock = u.ownBlock ∨ ∃ h, u'.ownBlock = some h ∧ w.heap.size ≤ h)) := by
  refine enter Go.Proofs.Tryd.func31 rfl rfl (by decide) rfl (e := [(0, .pointer (some ⟨gs, 0, none⟩)), (1, .int .i64 (n : Int))]) ⟨rfl, rfl, trivial⟩ ?_
  have hb := x.blk
  have ho := x.own
  have hne := x.ne
  obtain ⟨A, c, rfl, _, _⟩ := x.own.form
  generalize hu : Value.slice A ats.length c = u at *
  have hgo : gs ∉ u.ownBlock.toList := fun hm => hne gs (by simpa using hm) rfl
  repeat (refine W_seq ?_)
  refine Q.W_walkq 11 10 u.ownBlock.toList fol (by kernel_rfl) (by kernel_rfl) ?_
  refine Q.Walk.plain rfl rfl (by intro val w_ hR hp; exact op_move rfl rfl ⟨Chg.refl _ _, rfl⟩) ?_; dsimp only [List.nil_append, List.cons_append]
  refine Q.Walk.plain rfl rfl (by intro val w_ hR hp; exact op_move rfl rfl ⟨Chg.refl _ _, rfl⟩) ?_; dsimp only [List.nil_append, List.cons_append]
  refine Q.Walk.plain rfl rfl (by intro val w_ hR hp; exact op_nilCheck rfl rfl ⟨Chg.refl _ _, rfl⟩) ?_; dsimp only [List.nil_append, List.cons_append]
  refine Q.Walk.plain rfl rfl (by intro val w_ hR hp; exact op_fieldAddr T rfl rfl rfl rfl rfl rfl rfl rfl ⟨Chg.refl _ _, rfl⟩) ?_; dsimp only [List.nil_append, List.cons_append]
  refine Q.Walk.plain (v := u) rfl rfl (by intro val w_ hR hp; exact op_load T rfl rfl rfl rfl ((hb.keep hR hgo).cell rfl) ⟨Chg.refl _ _, rfl⟩) ?_; dsimp only [List.nil_append, List.cons_append]
  refine Q.Walk.plain rfl rfl (by intro val w_ hR hp; exact op_move rfl rfl ⟨Chg.refl _ _, rfl⟩) ?_; dsimp only [List.nil_append, List.cons_append]
  refine Q.Walk.plain rfl rfl (by intro val w_ hR hp; exact op_nilCheck rfl rfl ⟨Chg.refl _ _, rfl⟩) ?_; dsimp only [List.nil_append, List.cons_append]
  refine Q.Walk.plain rfl rfl (by intro val w_ hR hp; exact op_fieldAddr T rfl rfl rfl rfl rfl rfl rfl rfl ⟨Chg.refl _ _, rfl⟩) ?_; dsimp only [List.nil_append, List.cons_append]
  refine Q.Walk.plain (v := .int .i64 (en : Int)) rfl rfl (by intro val w_ hR hp; exact op_load T rfl rfl rfl rfl ((hb.keep hR hgo).cell rfl) ⟨Chg.refl _ _, rfl⟩) ?_; dsimp only [List.nil_append, List.cons_append]
  refine Q.Walk.rel rfl (fun v w' => ∃ g5, v = .slice (some ⟨g5, 0, none⟩) 1 1 ∧ Blk w' g5 3 [.int .i64 (en : Int)] ∧ w.heap.size ≤ g5) rfl (fun v a b ⟨g5, h1, h2, h3⟩ hab => ⟨g5, h1, h2.keep hab (fun hm => by have := ho.lt (show u.ownBlock = some g5 by simpa using hm); omega), h3⟩) ?_ ?_
  · intro val w_ hR hp
    exact op_buildSlice T rfl rfl rfl rfl rfl rfl rfl (fun g5 w5 hs5 hc5 hg5 => ⟨hc5, g5, rfl, hg5, by have := hR.size; omega⟩)
  dsimp only [List.nil_append, List.cons_append]
  refine Q.Walk.turn rfl (fun v w' => Own w' 3 1 v (ats.length + 1) ((ats ++ [en]).map natV) ∧ (v.ownBlock = u.ownBlock ∨ ∃ h, v.ownBlock = some h ∧ w.heap.size ≤ h)) rfl (fun v a b h hab => ⟨h.1.keep0 hab, h.2⟩) ?_ ?_
  · intro val w_ hR hp
    obtain ⟨g5, he5, hg5, hs5⟩ : ∃ g5, val 9 = .slice (some ⟨g5, 0, none⟩) 1 1 ∧ Blk w_ g5 3 [.int .i64 (en : Int)] ∧ w.heap.size ≤ g5 := hp 9 rfl _ _ rfl rfl
    refine op_append T (n := ats.length) (xs := ats.map natV) (m := 1) (news := [.int .i64 (en : Int)]) rfl rfl rfl (congrArg some he5) rfl rfl rfl rfl (ho.keep0 hR) rfl ?_ (by unfold maxLen; omega) (by show (ats.length + 1) * 8 ≤ _; omega) ?_
    · intro j v hj
      match j, hj with
      | 0, hj => cases hj; exact ⟨⟨_, rfl, by rw [add_plain]; exact hg5.cell rfl⟩, rfl⟩
    · intro v w6 hu6 hc6 hb6 _
      refine ⟨hc6, ?_, hb6.imp id (fun ⟨h, h1, h2⟩ => ⟨h, h1, by have := hR.size; omega⟩)⟩
      rw [List.map_append]
      exact hu6
  dsimp only [List.nil_append, List.cons_append]
  refine Q.Walk.fin ?_
  intro val w6 hc6 hp
  obtain ⟨ho6, hb6⟩ : Own w6 3 1 (val 10) (ats.length + 1) ((ats ++ [en]).map natV) ∧ ((val 10).ownBlock = u.ownBlock ∨ ∃ h, (val 10).ownBlock = some h ∧ w.heap.size ≤ h) := hp 10 (by omega) _ _ rfl rfl
  clear hp
  refine WL_sub (e' := [(0, .pointer (some ⟨gs, 0, none⟩)), (1, .int .i64 (n : Int)), (4, .pointer (some ⟨gs, 0, none⟩)), (14, val 10)]) ⟨rfl, rfl, rfl, rfl, trivial⟩ ?_
  generalize val 10 = u6 at ho6 hb6
  obtain ⟨A6, c6, rfl, _, _⟩ := ho6.form
  have hbk := hb.keep hc6 hgo
  repeat (first | refine WL_some rfl rfl rfl ?_ | refine WL_none rfl rfl ?_ | refine op_nilCheck rfl rfl ?_ | refine op_fieldAddr T rfl rfl rfl rfl rfl rfl rfl rfl ?_)
  refine op_store T rfl rfl rfl rfl rfl rfl hbk (by simp) (fun w7 hc7 hb7 _ => ?_)
  have hb7 : Blk w7 gs 60 [ptrV g, .string (str nm), .slice A6 (ats.length + 1) c6, .int .i64 (en : Int)] := hb7
  have hn6 : ∀ k, (Value.slice A6 (ats.length + 1) c6).ownBlock = some k → k ∉ [gs] := fun k hk hm => by
    simp at hm; subst hm
    obtain ⟨cur, hr⟩ := ho6.row hk
    exact hbk.ne_ hr (by decide) rfl
  have ho7 := ho6.keep hc7 hn6
  repeat (first | refine W_region ?_ | refine Then_n ?_ | refine WL_nil ?_ | refine WL_some rfl rfl rfl ?_ | refine WL_none rfl rfl ?_ | refine op_move rfl rfl ?_ | refine op_add rfl rfl rfl (wrap_i64_in (by omega) (by omega)) ?_ | refine op_nilCheck rfl rfl ?_ | refine op_fieldAddr T rfl rfl rfl rfl rfl rfl rfl rfl ?_ | refine op_loadB T rfl rfl rfl rfl (by assumption) (by exact rfl) ?_)
  refine op_store T rfl rfl rfl rfl rfl rfl hb7 (by simp) (fun w8 hc8 hb8 _ => ?_)
  have ho8 := ho7.keep hc8 hn6
  repeat (refine WL_nil ?_)
  refine post0 (.inr rfl) rfl ⟨(hc6.mono (fun k hk _ => List.mem_cons_of_mem _ hk)).trans (hc7.trans hc8 (fun k hk _ => hk)) (fun k hk _ => by simp at hk; simp [hk]), .slice A6 (ats.length + 1) c6, ⟨?_, by rw [List.length_append]; exact ho8⟩, hb6⟩
  rw [show ((en + n : Nat) : Int) = (en : Int) + n from by omega]
  exact hb8
end
end Go.Proofs.YtbhnplghnhafiaaDoor.Tryd
/-! Segments: Append, Get, Sync. -/
set_option linter.unusedVariables false
namespace Go.Vc
open Go
def zeroR : RecM := ⟨0, 0, [], []⟩
/-- What Get tells of a file's bytes from a to e. -/
def cellM (b : List UInt8) (a e : Nat) : RecM × Int :=
  if b.length < e then (zeroR, 6)
  else if (rscanM ((b.take e).drop a)).1.length = 1 ∧ (rscanM ((b.take e).drop a)).2.1 = e - a then ((rscanM ((b.take e).drop a)).1.headD zeroR, 0)
  else (zeroR, 6)
end Go.Vc
namespace Go.Proofs.YtbhnplghnhafiaaDoor.Tryd
open Go Go.Vc
section
variable {w0 w : World} {gs g : Nat} {s : FsM} {p : FsP} {nm : Nm} {ats : List Nat} {en : Nat} {u : Value}
set_option maxHeartbeats 1000000 in
/-- Append of a record that may be. -/
theorem appendS_has (x : SegO w0 w gs g s p nm ats en u) (r : RecM) (hr : RecOk r) (hcalls : s.calls < 1000000000 - 1) (hl : ats.length < 1000000) (he : en < 1000000000) :
    Has Go.Proofs.Tryd.prog 10 #[.pointer (some ⟨gs, 0, none⟩), .agg (recL r).toArray] w (fun v w' =>
      ((appendM s nm (sealM (bodyM r))).2 ≠ 0 → v = .tuple #[.int .i64 (-1), .int .i64 (appendM s nm (sealM (bodyM r))).2] ∧ ∃ p', SegO w0 w' gs g (appendM s nm (sealM (bodyM r))).1 p' nm ats en u) ∧
      ((appendM s nm (sealM (bodyM r))).2 = 0 → v = .tuple #[.int .i64 (ats.length : Nat), .int .i64 0] ∧ ∃ p' u', SegO w0 w' gs g (appendM s nm (sealM (bodyM r))).1 p' nm (ats ++ [en]) (en + (sealM (bodyM r)).length) u')) := by
  refine enter Go.Proofs.Tryd.func10 rfl rfl (by decide) rfl (e := [(0, .pointer (some ⟨gs, 0, none⟩)), (1, .agg (recL r).toArray)]) ⟨rfl, rfl, trivial⟩ ?_
  have hbl := bodyM_len hr
  have hsl := sealM_length (bodyM r)
  have henc : encM r = (sealM (bodyM r), 0) := by unfold encM; rw [if_neg (by simp [checkM_ok.2 hr])]
  repeat (first | refine W_seq ?_ | refine W_region ?_ | refine WL_some rfl rfl rfl ?_)
  refine op_box rfl rfl (fun gr w1 hs1 hc1 hg1 => ?_)
  have hg1 : Blk w1 gr 33 (recL r) := hg1
  repeat (first | refine W_seq ?_ | refine W_region ?_ | refine W_skip ?_ | refine Then_n ?_ | refine WL_nil ?_ | refine W_condF rfl ?_ | refine WL_some rfl rfl rfl ?_ | refine op_move rfl rfl ?_ | refine op_assign rfl rfl ?_ | refine op_eql_nilptr T rfl rfl rfl rfl rfl ?_ | refine op_load_agg T rfl rfl rfl rfl (by assumption) (by exact Nat.le_of_ble_eq_true rfl) (by exact rfl) ?_)
  refine op_call rfl rfl rfl (encode_has r w1) ?_
  rintro _ w2 ⟨ub, rfl, mb⟩
  rw [henc] at mb
  rw [henc]
  dsimp only at mb
  have x2 := x.keep0 (hc1.trans' mb.chg)
  have hb := x2.seg.blk
  obtain ⟨Ab, cb, rfl, _, _⟩ := mb.form
  have hfp : ∀ k ∈ p.fp g, k < w1.heap.size := fun k hk => by have := x.fs.at_.lt k hk; have := hc1.size; omega
  have hgs : gs < w.heap.size := x.seg.blk.lt
  repeat (first | refine W_seq ?_ | refine W_region ?_ | refine W_skip ?_ | refine Then_n ?_ | refine WL_nil ?_ | refine W_condF rfl ?_ | refine WL_some rfl rfl rfl ?_ | refine op_move rfl rfl ?_ | refine op_assign rfl rfl ?_ | refine op_extract rfl rfl rfl ?_ | refine op_neq rfl rfl rfl (fun hc => False.elim (by omega)) (fun hc => ?_))
  refine Q.W_walkq 10 9 (p.fp g) fol (by kernel_rfl) (by kernel_rfl) ?_
  refine Q.Walk.plain rfl rfl (by intro val w_ hR hp; exact op_move rfl rfl ⟨Chg.refl _ _, rfl⟩) ?_; dsimp only [List.nil_append, List.cons_append]
  refine Q.Walk.plain rfl rfl (by intro val w_ hR hp; exact op_nilCheck rfl rfl ⟨Chg.refl _ _, rfl⟩) ?_; dsimp only [List.nil_append, List.cons_append]
  refine Q.Walk.plain rfl rfl (by intro val w_ hR hp; exact op_fieldAddr T rfl rfl rfl rfl rfl rfl rfl rfl ⟨Chg.refl _ _, rfl⟩) ?_; dsimp only [List.nil_append, List.cons_append]
  refine Q.Walk.plain (v := ptrV g) rfl rfl (by intro val w_ hR hp; exact op_load T rfl rfl rfl rfl ((hb.keep hR x2.out1).cell rfl) ⟨Chg.refl _ _, rfl⟩) ?_; dsimp only [List.nil_append, List.cons_append]
  refine Q.Walk.plain rfl rfl (by intro val w_ hR hp; exact op_move rfl rfl ⟨Chg.refl _ _, rfl⟩) ?_; dsimp only [List.nil_append, List.cons_append]
  refine Q.Walk.plain rfl rfl (by intro val w_ hR hp; exact op_nilCheck rfl rfl ⟨Chg.refl _ _, rfl⟩) ?_; dsimp only [List.nil_append, List.cons_append]
  refine Q.Walk.plain rfl rfl (by intro val w_ hR hp; exact op_fieldAddr T rfl rfl rfl rfl rfl rfl rfl rfl ⟨Chg.refl _ _, rfl⟩) ?_; dsimp only [List.nil_append, List.cons_append]
  refine Q.Walk.plain (v := .string (str nm)) rfl rfl (by intro val w_ hR hp; exact op_load T rfl rfl rfl rfl ((hb.keep hR x2.out1).cell rfl) ⟨Chg.refl _ _, rfl⟩) ?_; dsimp only [List.nil_append, List.cons_append]
  refine Q.Walk.plain rfl rfl (by intro val w_ hR hp; exact op_move rfl rfl ⟨Chg.refl _ _, rfl⟩) ?_; dsimp only [List.nil_append, List.cons_append]
  refine Q.Walk.turn rfl (fun v w' => FsDone w2 g p (appendM s nm (sealM (bodyM r))) v w') rfl (fun v a b h hab => ⟨h.1.trans' hab, h.2.1, let ⟨p', h3, h4⟩ := h.2.2; ⟨p', h3.keep0 hab, h4⟩⟩) ?_ ?_
  · intro val w_ hR hp
    have hfirm : Firm (p.fp g) w_ (fun w => SliceOf Ru8 w (.slice Ab (sealM (bodyM r)).length cb) (sealM (bodyM r))) := (mb.firm hfp).step0 hR
    refine op_call rfl rfl rfl (append_has g s p nm Ab _ cb _ w_ (x2.fs.at_.keep0 hR) hfirm (by omega) hcalls) (fun v w' h => ?_)
    have hfull : FsDone w2 g p (appendM s nm (sealM (bodyM r))) v w' := ⟨(hR.mono (fun k hk _ => by cases hk)).trans h.1 (fun k hk _ => hk), h.2.1, let ⟨p', h3, h4⟩ := h.2.2; ⟨p', h3, fun k hk => (h4 k hk).imp id (fun h => by have := hR.size; omega)⟩⟩
    exact ⟨h.1, hfull⟩
  dsimp only [List.nil_append, List.cons_append]
  refine Q.Walk.fin ?_
  intro val w3 hc3 hp
  have hdone : FsDone w2 g p (appendM s nm (sealM (bodyM r))) (val 9) w3 := hp 9 (by omega) _ _ rfl rfl
  clear hp
  obtain ⟨hv9, hcf, p3, x3⟩ := x2.step hdone
  have hlen : ats.length < 1000000000 := by omega
  refine WL_sub (e' := [(0, .pointer (some ⟨gs, 0, none⟩)), (6, .slice Ab (sealM (bodyM r)).length cb), (28, .int .i64 (appendM s nm (sealM (bodyM r))).2)]) ⟨rfl, rfl, congrArg some hv9, trivial⟩ ?_
  generalize appendM s nm (sealM (bodyM r)) = q at *
  obtain ⟨s', er⟩ := q
  dsimp only at *
  by_cases hz : er = 0
  · subst hz
    repeat (first | refine W_seq ?_ | refine W_region ?_ | refine W_skip ?_ | refine Then_n ?_ | refine WL_nil ?_ | refine W_condF rfl ?_ | refine WL_some rfl rfl rfl ?_ | refine op_move rfl rfl ?_ | refine op_assign rfl rfl ?_ | refine op_len_slice T rfl rfl rfl rfl ?_ | refine op_neq rfl rfl rfl (fun hc => False.elim (by omega)) (fun hc => ?_))
    refine op_call rfl rfl rfl (addS_has x3.seg (sealM (bodyM r)).length hlen (by omega)) ?_
    rintro v4 w4 ⟨hc4, u4, hs4, hb4⟩
    have x4 := x3.turn hc4 hs4 hb4
    have hb5 := hs4.blk
    obtain ⟨A4, c4, rfl, _, _⟩ := hs4.own.form
    have hl4 : (ats ++ [en]).length = ats.length + 1 := by simp
    repeat (first | refine W_seq ?_ | refine W_region ?_ | refine W_ret ?_ | refine Then_n ?_ | refine WL_nil ?_ | refine WL_some rfl rfl rfl ?_ | refine op_move rfl rfl ?_ | refine op_assign rfl rfl ?_ | refine op_len_slice T rfl rfl rfl rfl ?_ | refine op_subt rfl rfl rfl (wrap_i64_in (by omega) (by omega)) ?_ | refine op_nilCheck rfl rfl ?_ | refine op_fieldAddr T rfl rfl rfl rfl rfl rfl rfl rfl ?_ | refine op_loadB T rfl rfl rfl rfl (by assumption) (by exact rfl) ?_)
    refine post2 (.inl rfl) rfl rfl rfl ⟨fun h => absurd rfl h, fun _ => ⟨?_, p3, _, x4⟩⟩
    have : (((ats ++ [en]).length : Nat) : Int) - 1 = ((ats.length : Nat) : Int) := by omega
    rw [this]
  · repeat (first | refine W_seq ?_ | refine W_region ?_ | refine W_ret ?_ | refine Then_n ?_ | refine Then_r ?_ | refine WL_nil ?_ | refine W_condT rfl ?_ | refine WL_some rfl rfl rfl ?_ | refine op_move rfl rfl ?_ | refine op_assign rfl rfl ?_ | refine op_neq rfl rfl rfl (fun hc => ?_) (fun hc => False.elim (by omega)))
    exact post2 (.inl rfl) rfl rfl rfl ⟨fun _ => ⟨rfl, p3, x3⟩, fun h => absurd h hz⟩
theorem syncS_has (x : SegO w0 w gs g s p nm ats en u) (hcalls : s.calls < 1000000000 - 1) :
    Has Go.Proofs.Tryd.prog 16 #[.pointer (some ⟨gs, 0, none⟩)] w (fun v w' => v = .int .i64 (syncM s nm).2 ∧ ∃ p', SegO w0 w' gs g (syncM s nm).1 p' nm ats en u) := by
  refine enter Go.Proofs.Tryd.func16 rfl rfl (by decide) rfl (e := [(0, .pointer (some ⟨gs, 0, none⟩))]) ⟨rfl, trivial⟩ ?_
  have hb := x.seg.blk
  repeat (first | refine W_seq ?_ | refine W_region ?_ | refine W_skip ?_ | refine Then_n ?_ | refine WL_nil ?_ | refine W_condF rfl ?_ | refine WL_some rfl rfl rfl ?_ | refine op_move rfl rfl ?_ | refine op_assign rfl rfl ?_ | refine op_eql_nilptr T rfl rfl rfl rfl rfl ?_)
  refine Q.W_walkq 9 8 (p.fp g) fol (by kernel_rfl) (by kernel_rfl) ?_
  refine Q.Walk.plain rfl rfl (by intro val w_ hR hp; exact op_move rfl rfl ⟨Chg.refl _ _, rfl⟩) ?_; dsimp only [List.nil_append, List.cons_append]
  refine Q.Walk.plain rfl rfl (by intro val w_ hR hp; exact op_nilCheck rfl rfl ⟨Chg.refl _ _, rfl⟩) ?_; dsimp only [List.nil_append, List.cons_append]
  refine Q.Walk.plain rfl rfl (by intro val w_ hR hp; exact op_fieldAddr T rfl rfl rfl rfl rfl rfl rfl rfl ⟨Chg.refl _ _, rfl⟩) ?_; dsimp only [List.nil_append, List.cons_append]
  refine Q.Walk.plain (v := ptrV g) rfl rfl (by intro val w_ hR hp; exact op_load T rfl rfl rfl rfl ((hb.keep hR x.out1).cell rfl) ⟨Chg.refl _ _, rfl⟩) ?_; dsimp only [List.nil_append, List.cons_append]
  refine Q.Walk.plain rfl rfl (by intro val w_ hR hp; exact op_move rfl rfl ⟨Chg.refl _ _, rfl⟩) ?_; dsimp only [List.nil_append, List.cons_append]
  refine Q.Walk.plain rfl rfl (by intro val w_ hR hp; exact op_nilCheck rfl rfl ⟨Chg.refl _ _, rfl⟩) ?_; dsimp only [List.nil_append, List.cons_append]
  refine Q.Walk.plain rfl rfl (by intro val w_ hR hp; exact op_fieldAddr T rfl rfl rfl rfl rfl rfl rfl rfl ⟨Chg.refl _ _, rfl⟩) ?_; dsimp only [List.nil_append, List.cons_append]
  refine Q.Walk.plain (v := .string (str nm)) rfl rfl (by intro val w_ hR hp; exact op_load T rfl rfl rfl rfl ((hb.keep hR x.out1).cell rfl) ⟨Chg.refl _ _, rfl⟩) ?_; dsimp only [List.nil_append, List.cons_append]
  refine Q.Walk.turn rfl (fun v w' => FsDone w g p (syncM s nm) v w') rfl (fun v a b h hab => ⟨h.1.trans' hab, h.2.1, let ⟨p', h3, h4⟩ := h.2.2; ⟨p', h3.keep0 hab, h4⟩⟩) ?_ ?_
  · intro val w_ hR hp
    refine op_call rfl rfl rfl (sync_has g s p nm w_ (x.fs.at_.keep0 hR) hcalls) (fun v w' h => ?_)
    exact ⟨h.1, (hR.mono (fun k hk _ => by cases hk)).trans h.1 (fun k hk _ => hk), h.2.1, let ⟨p', h3, h4⟩ := h.2.2; ⟨p', h3, fun k hk => (h4 k hk).imp id (fun h => by have := hR.size; omega)⟩⟩
  dsimp only [List.nil_append, List.cons_append]
  refine Q.Walk.fin ?_
  intro val w3 hc3 hp
  have hdone : FsDone w g p (syncM s nm) (val 8) w3 := hp 8 (by omega) _ _ rfl rfl
  clear hp
  obtain ⟨hv9, hcf, p3, x3⟩ := x.step hdone
  refine WL_sub (e' := [(13, .int .i64 (syncM s nm).2)]) ⟨congrArg some hv9, trivial⟩ ?_
  repeat (first | refine W_ret ?_ | refine Then_n ?_ | refine WL_nil ?_ | refine WL_some rfl rfl rfl ?_ | refine op_assign rfl rfl ?_)
  exact post1 (.inl rfl) rfl rfl ⟨rfl, p3, x3⟩
set_option maxHeartbeats 2000000 in
/-- Get of a record that there is. -/
theorem getS_has (x : SegO w0 w gs g s p nm ats en u) (b : List UInt8) (hread : readM s nm = some b) (hb : b.length ≤ 1000000000) (i a e_ : Nat) (ha : ats[i]? = some a) (he : (ats ++ [en])[i + 1]? = some e_) (hae : a ≤ e_) (hlim : ats.length < 1000000000) :
    Has Go.Proofs.Tryd.prog 14 #[.pointer (some ⟨gs, 0, none⟩), .int .i64 (i : Int)] w (fun v w' => Chg [] w w' ∧ v = .tuple #[.agg (recL (cellM b a e_).1).toArray, .int .i64 (cellM b a e_).2]) := by
  refine enter Go.Proofs.Tryd.func14 rfl rfl (by decide) rfl (e := [(0, .pointer (some ⟨gs, 0, none⟩)), (1, .int .i64 (i : Int))]) ⟨rfl, rfl, trivial⟩ ?_
  have hil := (List.getElem?_eq_some_iff.1 ha).1
  obtain ⟨A, c, rfl, _, _⟩ := x.seg.own.form
  repeat (first | refine W_seq ?_ | refine W_region ?_ | refine WL_some rfl rfl rfl ?_)
  refine op_alloc T rfl rfl (fun g4 w1 hs1 hc1 hg4 => ?_)
  have hg4 : Blk w1 g4 33 [.int .i64 0, .int .i64 0, .string (str []), .string (str [])] := hg4
  have x1 := x.keep0 hc1
  have hbk := x1.seg.blk
  have hcell : ∀ w2, Chg [] w1 w2 → ∀ (j n : Nat), ats[j]? = some n → ∃ ad, A = some ad ∧ w2.cell? (ad.add j) = some (.int .i64 (n : Int)) := fun w2 hc j n hj => by
    obtain ⟨gg, h1, ⟨c', h2⟩, h3⟩ := (x1.seg.own.keep0 hc).cell (show (ats.map natV)[j]? = some (natV n) from by rw [List.getElem?_map, hj]; rfl)
    injection h2 with h2
    exact ⟨_, h2, by rw [add_plain]; exact h3⟩
  refine WL_some rfl rfl rfl ?_
  refine op_assign rfl rfl ?_
  refine WL_nil ?_
  refine Then_n ?_
  refine W_seq ?_
  refine W_meet (σ := Unit) (fun _ => [(0, .pointer (some ⟨gs, 0, none⟩)), (1, .int .i64 (i : Int)), (4, .pointer (some ⟨g4, 0, none⟩))]) (fun _ w' => w' = w1) ?_ ?_
  · repeat (first | refine W_seq ?_ | refine W_block ?_ | refine W_region ?_ | refine W_skip ?_ | refine Then_n ?_ | refine InBlock_n ?_ | refine WL_nil ?_ | refine W_condF rfl ?_ | refine WL_some rfl rfl rfl ?_ | refine WL_guardT rfl rfl rfl rfl ?_ | refine op_move rfl rfl ?_ | refine op_assign rfl rfl ?_ | refine op_pick rfl rfl rfl rfl ?_ | refine op_len_slice T rfl rfl rfl rfl ?_ | refine op_nilCheck rfl rfl ?_ | refine op_lss rfl rfl rfl (fun hc => False.elim (by omega)) (fun hc => ?_) | refine op_geq rfl rfl rfl (fun hc => False.elim (by omega)) (fun hc => ?_) | refine op_fieldAddr T rfl rfl rfl rfl rfl rfl rfl rfl ?_ | refine op_eql_nilptr T rfl rfl rfl rfl rfl ?_ | refine op_loadB T rfl rfl rfl rfl (by assumption) (by exact rfl) ?_)
    exact Meet_n () ⟨rfl, rfl, rfl, trivial⟩ rfl
  rintro _ w1 rfl
  refine Then_n ?_
  refine W_seq ?_
  refine W_meet (σ := Unit) (fun _ => [(0, .pointer (some ⟨gs, 0, none⟩)), (1, .int .i64 (i : Int)), (4, .pointer (some ⟨g4, 0, none⟩)), (6, .int .i64 (en : Int))]) (fun _ w' => w' = w1) ?_ ?_
  · repeat (first | refine W_region ?_ | refine WL_nil ?_ | refine WL_some rfl rfl rfl ?_ | refine op_move rfl rfl ?_ | refine op_assign rfl rfl ?_ | refine op_nilCheck rfl rfl ?_ | refine op_fieldAddr T rfl rfl rfl rfl rfl rfl rfl rfl ?_ | refine op_loadB T rfl rfl rfl rfl (by assumption) (by exact rfl) ?_)
    exact Meet_n () ⟨rfl, rfl, rfl, rfl, trivial⟩ rfl
  rintro _ w1 rfl
  refine Then_n ?_
  refine W_seq ?_
  refine W_meet (σ := Unit) (fun _ => [(0, .pointer (some ⟨gs, 0, none⟩)), (1, .int .i64 (i : Int)), (4, .pointer (some ⟨g4, 0, none⟩)), (6, .int .i64 (e_ : Int))]) (fun _ w' => w' = w1) ?_ ?_
  · by_cases hlast : i + 1 < ats.length
    · rw [List.getElem?_append_left hlast] at he
      obtain ⟨ad, hA, hu⟩ := hcell w1 (Chg.refl _ _) _ _ he
      subst hA
      repeat (first | refine W_seq ?_ | refine W_region ?_ | refine Then_n ?_ | refine WL_nil ?_ | refine W_condT rfl ?_ | refine WL_some rfl rfl rfl ?_ | refine op_move rfl rfl ?_ | refine op_assign rfl rfl ?_ | refine op_len_slice T rfl rfl rfl rfl ?_ | refine op_add rfl rfl rfl (wrap_i64_in (by omega) (by omega)) ?_ | refine op_nilCheck rfl rfl ?_ | refine op_index_nat T rfl rfl rfl rfl rfl rfl (by omega) ?_ | refine op_load T rfl rfl rfl rfl (by assumption) ?_ | refine op_lss rfl rfl rfl (fun hc => ?_) (fun hc => False.elim (by omega)) | refine op_fieldAddr T rfl rfl rfl rfl rfl rfl rfl rfl ?_ | refine op_loadB T rfl rfl rfl rfl (by assumption) (by exact rfl) ?_)
      exact Meet_n () ⟨rfl, rfl, rfl, rfl, trivial⟩ rfl
    · obtain rfl : e_ = en := by
        rw [List.getElem?_append_right (by omega), show i + 1 - ats.length = 0 from by omega] at he
        injection he with he; exact he.symm
      repeat (first | refine W_seq ?_ | refine W_region ?_ | refine W_skip ?_ | refine Then_n ?_ | refine WL_nil ?_ | refine W_condF rfl ?_ | refine WL_some rfl rfl rfl ?_ | refine op_move rfl rfl ?_ | refine op_len_slice T rfl rfl rfl rfl ?_ | refine op_add rfl rfl rfl (wrap_i64_in (by omega) (by omega)) ?_ | refine op_nilCheck rfl rfl ?_ | refine op_lss rfl rfl rfl (fun hc => False.elim (by omega)) (fun hc => ?_) | refine op_fieldAddr T rfl rfl rfl rfl rfl rfl rfl rfl ?_ | refine op_loadB T rfl rfl rfl rfl (by assumption) (by exact rfl) ?_)
      exact Meet_n () ⟨rfl, rfl, rfl, rfl, trivial⟩ rfl
  rintro _ w1 rfl
  refine Then_n ?_
  refine W_seq ?_
  have hno : ∀ k, k ∉ ([] : List Nat) := by simp
  refine W_meet (σ := Value × World) (fun q => [(0, .pointer (some ⟨gs, 0, none⟩)), (1, .int .i64 (i : Int)), (4, .pointer (some ⟨g4, 0, none⟩)), (6, .int .i64 (e_ : Int)), (7, q.1), (8, .int .i64 0)]) (fun q w' => w' = q.2 ∧ Chg [] w1 w' ∧ Own w' 5 1 q.1 b.length (u8s b) ∧ ∀ h, q.1.ownBlock = some h → w1.heap.size ≤ h) ?_ ?_
  · refine W_walk 13 [] fol (by kernel_rfl) (by kernel_rfl) ?_
    refine Walk.plain rfl (by intro val w_ hR hp; exact op_move rfl rfl ⟨Chg.refl _ _, rfl⟩) ?_; dsimp only [List.nil_append, List.cons_append]
    refine Walk.plain rfl (by intro val w_ hR hp; exact op_nilCheck rfl rfl ⟨Chg.refl _ _, rfl⟩) ?_; dsimp only [List.nil_append, List.cons_append]
    refine Walk.plain rfl (by intro val w_ hR hp; exact op_fieldAddr T rfl rfl rfl rfl rfl rfl rfl rfl ⟨Chg.refl _ _, rfl⟩) ?_; dsimp only [List.nil_append, List.cons_append]
    refine Walk.plain (v := ptrV g) rfl (by intro val w_ hR hp; exact op_load T rfl rfl rfl rfl ((hbk.keep0 hR).cell rfl) ⟨Chg.refl _ _, rfl⟩) ?_; dsimp only [List.nil_append, List.cons_append]
    refine Walk.plain rfl (by intro val w_ hR hp; exact op_move rfl rfl ⟨Chg.refl _ _, rfl⟩) ?_; dsimp only [List.nil_append, List.cons_append]
    refine Walk.plain rfl (by intro val w_ hR hp; exact op_nilCheck rfl rfl ⟨Chg.refl _ _, rfl⟩) ?_; dsimp only [List.nil_append, List.cons_append]
    refine Walk.plain rfl (by intro val w_ hR hp; exact op_fieldAddr T rfl rfl rfl rfl rfl rfl rfl rfl ⟨Chg.refl _ _, rfl⟩) ?_; dsimp only [List.nil_append, List.cons_append]
    refine Walk.plain (v := .string (str nm)) rfl (by intro val w_ hR hp; exact op_load T rfl rfl rfl rfl ((hbk.keep0 hR).cell rfl) ⟨Chg.refl _ _, rfl⟩) ?_; dsimp only [List.nil_append, List.cons_append]
    refine Walk.rel (fun v w' => ∃ u, v = .tuple #[u, .int .i64 0] ∧ Own w' 5 1 u b.length (u8s b) ∧ ∀ h, u.ownBlock = some h → w1.heap.size ≤ h) rfl (fun v a b' ⟨u, h1, h2, h3⟩ hab => ⟨u, h1, h2.keep0 hab, h3⟩) ?_ ?_
    · intro val w_ hR hp
      refine op_call rfl rfl rfl (read_has g s p nm w_ (x1.fs.at_.keep0 hR)) (fun v w' h => ?_)
      obtain ⟨h1, h2⟩ := h
      rw [hread] at h2
      obtain ⟨u, h3, h4, h5⟩ : ∃ u, v = .tuple #[u, .int .i64 0] ∧ Own w' 5 1 u b.length (u8s b) ∧ ∀ h, u.ownBlock = some h → w_.heap.size ≤ h := h2
      exact ⟨h1, u, h3, h4, fun h hh => by have := h5 h hh; have := hR.size; omega⟩
    dsimp only [List.nil_append, List.cons_append]
    refine Walk.rel (fun v w' => ∃ u, v = .tuple #[u, .int .i64 0] ∧ Own w' 5 1 u b.length (u8s b) ∧ ∀ h, u.ownBlock = some h → w1.heap.size ≤ h) rfl (fun v a b' ⟨u, h1, h2, h3⟩ hab => ⟨u, h1, h2.keep0 hab, h3⟩) ?_ ?_
    · intro val w_ hR hp
      exact op_move rfl rfl ⟨Chg.refl _ _, hp 8 rfl _ _ rfl rfl⟩
    dsimp only [List.nil_append, List.cons_append]
    refine Walk.rel (fun u w' => Own w' 5 1 u b.length (u8s b) ∧ ∀ h, u.ownBlock = some h → w1.heap.size ≤ h) rfl (fun v a b' ⟨h2, h3⟩ hab => ⟨h2.keep0 hab, h3⟩) ?_ ?_
    · intro val w_ hR hp
      obtain ⟨u, h1, h2, h3⟩ : ∃ u, val 9 = .tuple #[u, .int .i64 0] ∧ Own w_ 5 1 u b.length (u8s b) ∧ ∀ h, u.ownBlock = some h → w1.heap.size ≤ h := hp 9 rfl _ _ rfl rfl
      exact op_extract rfl (congrArg some h1) rfl ⟨Chg.refl _ _, h2, h3⟩
    dsimp only [List.nil_append, List.cons_append]
    refine Walk.plain (v := .int .i64 0) rfl ?_ ?_
    · intro val w_ hR hp
      obtain ⟨u, h1, h2, h3⟩ : ∃ u, val 9 = .tuple #[u, .int .i64 0] ∧ Own w_ 5 1 u b.length (u8s b) ∧ ∀ h, u.ownBlock = some h → w1.heap.size ≤ h := hp 9 rfl _ _ rfl rfl
      exact op_extract rfl (congrArg some h1) rfl ⟨Chg.refl _ _, rfl⟩
    dsimp only [List.nil_append, List.cons_append]
    refine Walk.rel (fun u w' => Own w' 5 1 u b.length (u8s b) ∧ ∀ h, u.ownBlock = some h → w1.heap.size ≤ h) rfl (fun v a b' ⟨h2, h3⟩ hab => ⟨h2.keep0 hab, h3⟩) ?_ ?_
    · intro val w_ hR hp
      exact op_assign rfl rfl ⟨Chg.refl _ _, hp 10 rfl _ _ rfl rfl⟩
    dsimp only [List.nil_append, List.cons_append]
    refine Walk.fin ?_
    intro val w2 hc2 hp
    obtain ⟨ho2, hf2⟩ : Own w2 5 1 (val 12) b.length (u8s b) ∧ ∀ h, (val 12).ownBlock = some h → w1.heap.size ≤ h := hp 12 (by omega) _ _ rfl rfl
    clear hp
    repeat (first | refine WL_nil ?_ | refine WL_some rfl rfl rfl ?_ | refine op_assign rfl rfl ?_)
    exact Meet_n (val 12, w2) ⟨rfl, rfl, rfl, rfl, rfl, rfl, trivial⟩ ⟨rfl, hc2, ho2, hf2⟩
  rintro ⟨ub, w2⟩ _ ⟨rfl, hc2, ho2, hf2⟩
  dsimp only at hc2 ho2 hf2 ⊢
  refine Then_n ?_
  have hsb := ho2.bytes
  obtain ⟨Ab, cb, rfl, hcb1, hcb2⟩ := ho2.form
  unfold maxLen at hcb2
  have hg42 := hg4.keep0 hc2
  have hbk2 := hbk.keep0 hc2
  have hgs4 : gs ≠ g4 := fun e => by subst e; exact hbk.ne_ hg4 (by decide) rfl
  unfold cellM
  by_cases hshort : b.length < e_
  · rw [if_pos hshort]
    repeat (first | refine W_seq ?_ | refine W_region ?_ | refine Then_n ?_ | refine WL_nil ?_ | refine W_condT rfl ?_ | refine WL_some rfl rfl rfl ?_ | refine WL_none rfl rfl ?_ | refine WL_guardT rfl rfl rfl rfl ?_ | refine op_move rfl rfl ?_ | refine op_pick rfl rfl rfl rfl ?_ | refine op_len_slice T rfl rfl rfl rfl ?_ | refine op_lss rfl rfl rfl (fun hc => ?_) (fun hc => False.elim (by omega)) | refine op_neq rfl rfl rfl (fun hc => False.elim (by omega)) (fun hc => ?_) | refine op_build T rfl rfl rfl rfl rfl rfl ?_)
    refine op_store_agg T rfl rfl rfl rfl rfl rfl hg42 (by exact Nat.le_of_ble_eq_true rfl) (fun w3 hc3 hb3 _ => ?_)
    repeat (first | refine W_ret ?_ | refine Then_n ?_ | refine Then_r ?_ | refine WL_nil ?_ | refine WL_some rfl rfl rfl ?_ | refine op_assign rfl rfl ?_)
    exact post2c T (.inl rfl) rfl rfl rfl rfl rfl hb3 rfl ⟨(hc1.trans' hc2).trans hc3 (fun k hk hlt => by simp at hk; omega), rfl⟩
  rw [if_neg hshort]
  obtain ⟨ad, hA, hu⟩ := hcell _ hc2 _ _ ha
  subst hA
  repeat (first | refine W_seq ?_ | refine W_region ?_ | refine W_skip ?_ | refine Then_n ?_ | refine WL_nil ?_ | refine W_condF rfl ?_ | refine WL_some rfl rfl rfl ?_ | refine WL_guardT rfl rfl rfl rfl ?_ | refine op_move rfl rfl ?_ | refine op_pick rfl rfl rfl rfl ?_ | refine op_len_slice T rfl rfl rfl rfl ?_ | refine op_nilCheck rfl rfl ?_ | refine op_index_nat T rfl rfl rfl rfl rfl rfl (by omega) ?_ | refine op_load T rfl rfl rfl rfl (by assumption) ?_ | refine op_lss rfl rfl rfl (fun hc => False.elim (by omega)) (fun hc => ?_) | refine op_neq rfl rfl rfl (fun hc => False.elim (by omega)) (fun hc => ?_) | refine op_fieldAddr T rfl rfl rfl rfl rfl rfl rfl rfl ?_ | refine op_loadB T rfl rfl rfl rfl (by assumption) (by exact rfl) ?_)
  refine op_cut T (l := a) (h' := e_) rfl rfl rfl rfl rfl ⟨_, rfl⟩ ⟨_, rfl⟩ hsb hae (by omega) (fun A' hA' => ?_)
  have hs' := hA' _ hsb
  repeat (refine WL_some rfl rfl rfl ?_)
  refine op_call rfl rfl rfl (rscan_has A' _ _ _ _ hs' (by simp; omega)) ?_
  rintro _ w3 ⟨ur, rfl, hc3, hor, hfr⟩
  obtain ⟨Ar, cr, rfl, hcr1, hcr2⟩ := hor.form
  unfold maxLen at hcr2
  have hg43 := hg42.keep0 hc3
  have hbk3 := hbk2.keep0 hc3
  have hu3 := hc3.cell0 hu
  have hc03 : Chg [] w w3 := (hc1.trans' hc2).trans' hc3
  have hbd : ((rscanM ((b.take e_).drop a)).2.1 : Int) = (rscanM ((b.take e_).drop a)).2.1 := rfl
  generalize rscanM ((b.take e_).drop a) = q at *
  obtain ⟨L, tot, okk⟩ := q
  dsimp only at *
  by_cases h1 : L.length = 1
  · by_cases htot : tot = e_ - a
    · rw [if_pos ⟨h1, htot⟩]
      match L, h1, hor, hcr1 with
      | [r], h1, hor, hcr1 =>
        have hrc : ∀ j v, (recL r)[j]? = some v → ∃ g9, Ar = some ⟨g9, 0, none⟩ ∧ w3.cell? ⟨g9, j, none⟩ = some v := fun j v hj => by
          obtain ⟨gg, h1, ⟨c', h2⟩, h3⟩ := hor.cell (show ([r].flatMap recL)[j]? = some v from by simpa using hj)
          injection h2 with h2
          exact ⟨gg, h2, h3⟩
        obtain ⟨g9, rfl, _⟩ := hrc 0 _ rfl
        have hrc' : ∀ j v, (recL r)[j]? = some v → w3.cell? ((⟨g9, 0, none⟩ : Addr).add j) = some v := fun j v hj => by
          obtain ⟨gg, h2, h3⟩ := hrc j v hj
          injection h2 with h2
          injection h2 with h2 _ _
          subst h2
          rw [add_plain]; exact h3
        repeat (first | refine W_seq ?_ | refine W_region ?_ | refine W_skip ?_ | refine Then_n ?_ | refine WL_nil ?_ | refine W_condF rfl ?_ | refine WL_some rfl rfl rfl ?_ | refine WL_guardT rfl rfl rfl rfl ?_ | refine op_move rfl rfl ?_ | refine op_assign rfl rfl ?_ | refine op_pick rfl rfl rfl rfl ?_ | refine op_len_slice T rfl rfl rfl rfl ?_ | refine op_subt rfl rfl rfl (wrap_i64_in (by omega) (by omega)) ?_ | refine op_extract rfl rfl rfl ?_ | refine op_nilCheck rfl rfl ?_ | refine op_index_nat T rfl rfl rfl rfl rfl rfl (by omega) ?_ | refine op_load T rfl rfl rfl rfl (by assumption) ?_ | refine op_neq rfl rfl rfl (fun hc => False.elim (by omega)) (fun hc => ?_) | refine op_fieldAddr T rfl rfl rfl rfl rfl rfl rfl rfl ?_ | refine op_loadB T rfl rfl rfl rfl (by assumption) (by exact rfl) ?_)
        refine op_index_slice T rfl rfl rfl rfl rfl (by omega) (by omega) (p := (⟨g9, 0, none⟩ : Addr)) (by exact rfl) ?_
        repeat (refine WL_some rfl rfl rfl ?_)
        refine op_load_cells (cs := recL r) T rfl rfl rfl rfl rfl hrc' ?_
        repeat (refine WL_none rfl rfl ?_)
        refine op_store_agg T rfl rfl rfl rfl rfl rfl hg43 (by exact Nat.le_of_ble_eq_true rfl) (fun w4 hc4 hb4 _ => ?_)
        repeat (first | refine W_ret ?_ | refine Then_n ?_ | refine WL_nil ?_ | refine WL_some rfl rfl rfl ?_ | refine op_assign rfl rfl ?_)
        exact post2c T (.inl rfl) rfl rfl rfl rfl rfl hb4 rfl ⟨hc03.trans hc4 (fun k hk hlt => by simp at hk; omega), rfl⟩
    · rw [if_neg (fun h => htot h.2)]
      repeat (first | refine W_seq ?_ | refine W_region ?_ | refine Then_n ?_ | refine WL_nil ?_ | refine W_condT rfl ?_ | refine WL_some rfl rfl rfl ?_ | refine WL_none rfl rfl ?_ | refine WL_guardT rfl rfl rfl rfl ?_ | refine op_move rfl rfl ?_ | refine op_assign rfl rfl ?_ | refine op_pick rfl rfl rfl rfl ?_ | refine op_len_slice T rfl rfl rfl rfl ?_ | refine op_subt rfl rfl rfl (wrap_i64_in (by omega) (by omega)) ?_ | refine op_extract rfl rfl rfl ?_ | refine op_nilCheck rfl rfl ?_ | refine op_index_nat T rfl rfl rfl rfl rfl rfl (by omega) ?_ | refine op_load T rfl rfl rfl rfl (by assumption) ?_ | refine op_neq rfl rfl rfl (fun hc => ?_) (fun hc => False.elim (by omega)) | refine op_neq rfl rfl rfl (fun hc => False.elim (by omega)) (fun hc => ?_) | refine op_fieldAddr T rfl rfl rfl rfl rfl rfl rfl rfl ?_ | refine op_build T rfl rfl rfl rfl rfl rfl ?_ | refine op_loadB T rfl rfl rfl rfl (by assumption) (by exact rfl) ?_)
      refine op_store_agg T rfl rfl rfl rfl rfl rfl hg43 (by exact Nat.le_of_ble_eq_true rfl) (fun w4 hc4 hb4 _ => ?_)
      repeat (first | refine W_ret ?_ | refine Then_n ?_ | refine Then_r ?_ | refine WL_nil ?_ | refine WL_some rfl rfl rfl ?_ | refine op_assign rfl rfl ?_)
      exact post2c T (.inl rfl) rfl rfl rfl rfl rfl hb4 rfl ⟨hc03.trans hc4 (fun k hk hlt => by simp at hk; omega), rfl⟩
  · rw [if_neg (fun h => h1 h.1)]
    repeat (first | refine W_seq ?_ | refine W_region ?_ | refine Then_n ?_ | refine WL_nil ?_ | refine W_condT rfl ?_ | refine WL_some rfl rfl rfl ?_ | refine WL_none rfl rfl ?_ | refine WL_guardF rfl rfl rfl rfl rfl ?_ | refine op_move rfl rfl ?_ | refine op_assign rfl rfl ?_ | refine op_pick rfl rfl rfl rfl ?_ | refine op_len_slice T rfl rfl rfl rfl ?_ | refine op_extract rfl rfl rfl ?_ | refine op_neq rfl rfl rfl (fun hc => ?_) (fun hc => False.elim (by omega)) | refine op_build T rfl rfl rfl rfl rfl rfl ?_)
    refine op_store_agg T rfl rfl rfl rfl rfl rfl hg43 (by exact Nat.le_of_ble_eq_true rfl) (fun w4 hc4 hb4 _ => ?_)
    repeat (first | refine W_ret ?_ | refine Then_n ?_ | refine Then_r ?_ | refine WL_nil ?_ | refine WL_some rfl rfl rfl ?_ | refine op_assign rfl rfl ?_)
    exact post2c T (.inl rfl) rfl rfl rfl rfl rfl hb4 rfl ⟨hc03.trans hc4 (fun k hk hlt => by simp at hk; omega), rfl⟩
end
end Go.Proofs.YtbhnplghnhafiaaDoor.Tryd
/-! Segments: records one behind the other, in plain words; no segment; what is out of range. -/
set_option linter.unusedVariables false
namespace Go.Vc
open Go
/-- Records one behind the other. -/
def encs (rs : List RecM) : List UInt8 := rs.flatMap fun r => sealM (bodyM r)
def offs (rs : List RecM) : List Nat := (List.range rs.length).map fun i => (encs (rs.take i)).length
theorem encs_append (a b : List RecM) : encs (a ++ b) = encs a ++ encs b := by simp [encs]
theorem encs_one (r : RecM) : encs [r] = sealM (bodyM r) := by simp [encs]
theorem offs_length (rs : List RecM) : (offs rs).length = rs.length := by simp [offs]
theorem offs_snoc (rs : List RecM) (r : RecM) : offs (rs ++ [r]) = offs rs ++ [(encs rs).length] := by
  unfold offs
  rw [List.length_append, List.length_singleton, List.range_succ, List.map_append, List.map_singleton, List.take_left' rfl]
  congr 1
  apply List.map_congr_left
  intro i hi
  rw [List.mem_range] at hi
  rw [List.take_append_of_le_length (by omega)]
theorem offs_get (rs : List RecM) {i : Nat} (hi : i < rs.length) : (offs rs)[i]? = some (encs (rs.take i)).length := by
  unfold offs
  rw [List.getElem?_map, List.getElem?_range hi]; rfl
theorem offs_next (rs : List RecM) {i : Nat} (hi : i < rs.length) : (offs rs ++ [(encs rs).length])[i + 1]? = some (encs (rs.take (i + 1))).length := by
  by_cases h : i + 1 < rs.length
  · rw [List.getElem?_append_left (by rw [offs_length]; exact h), offs_get rs h]
  · have : i + 1 = rs.length := by omega
    rw [List.getElem?_append_right (by rw [offs_length]; omega), offs_length, this, Nat.sub_self, List.take_length]; rfl
theorem encs_take (rs : List RecM) {i : Nat} {r : RecM} (hi : rs[i]? = some r) : encs (rs.take (i + 1)) = encs (rs.take i) ++ sealM (bodyM r) := by
  rw [List.take_add_one, hi, encs_append]
  simp [encs]
theorem encs_prefix (rs : List RecM) (k : Nat) : encs rs = encs (rs.take k) ++ encs (rs.drop k) := by rw [← encs_append, List.take_append_drop]
theorem encs_cut (rs : List RecM) {i : Nat} {r : RecM} (hi : rs[i]? = some r) (more : List UInt8) : ((encs rs ++ more).take (encs (rs.take (i + 1))).length).drop (encs (rs.take i)).length = sealM (bodyM r) := by
  rw [encs_prefix rs (i + 1), List.append_assoc, List.take_left' rfl, encs_take rs hi, List.drop_left' rfl]
theorem encs_len {rs : List RecM} (h : ∀ r ∈ rs, RecOk r) : (encs rs).length ≤ 4212 * rs.length := by
  induction rs with
  | nil => simp [encs]
  | cons r rs ih =>
    have h1 := bodyM_len (h r (by simp))
    have h2 := ih (fun r hr => h r (by simp [hr]))
    have : encs (r :: rs) = sealM (bodyM r) ++ encs rs := by simp [encs]
    rw [this, List.length_append, sealM_length, List.length_cons]
    omega
theorem encs_mono (rs : List RecM) (i : Nat) : (encs (rs.take i)).length ≤ (encs (rs.take (i + 1))).length := by
  cases h : rs[i]? with
  | none => rw [List.take_add_one, h]; simp
  | some r => rw [encs_take rs h]; simp
/-- A record is read again, where it lies. -/
theorem cellM_encs {rs : List RecM} {i : Nat} {r : RecM} (hi : rs[i]? = some r) (hr : RecOk r) (more : List UInt8) : cellM (encs rs ++ more) (encs (rs.take i)).length (encs (rs.take (i + 1))).length = (r, 0) := by
  have hl : (encs (rs.take (i + 1))).length ≤ (encs rs ++ more).length := by rw [encs_prefix rs (i + 1)]; simp
  have hs := rscanM_enc hr []
  rw [List.append_nil, rscanM_nil] at hs
  unfold cellM
  rw [if_neg (by omega), encs_cut rs hi, hs, if_pos ⟨rfl, by rw [encs_take rs hi]; simp⟩]
  rfl
theorem rscanM_encs {rs : List RecM} (h : ∀ r ∈ rs, RecOk r) : rscanM (encs rs) = (rs, (encs rs).length, true) := by
  induction rs with
  | nil => exact rscanM_nil
  | cons r rs ih =>
    have e : encs (r :: rs) = sealM (bodyM r) ++ encs rs := by simp [encs]
    rw [e, rscanM_enc (h r (by simp)), ih (fun r hr => h r (by simp [hr]))]
    simp
/-! ### Files that have one file -/
def oneFs (room calls : Int) (nm : Nm) (b : List UInt8) (sy : Nat) (las : Dir) (ws : List ChM) : FsM := ⟨room, calls, -1, [⟨b, sy⟩], [(nm, 0)], las, ws⟩
theorem looks_one (nm : Nm) : looks [(nm, 0)] nm = some 0 := by simp [looks]
theorem used_one (room calls : Int) (nm : Nm) (b : List UInt8) (sy : Nat) (las : Dir) (ws : List ChM) : usedM (oneFs room calls nm b sy las ws) = b.length := by simp [usedM, lenOf, oneFs]
theorem min21 : min (2 : Int) 1 = 1 := by decide
theorem create_one (n : Int) (nm : Nm) (hn : mayM nm = true) : createM (newM n) nm = (oneFs (roomM n) 1 nm [] 0 [] [⟨0, nm, [], some 0⟩], 0) := by
  unfold createM newM callM failsM changeM doM oneFs
  simp [hn, looks, ins, min21]
theorem append_one' (room calls : Int) (nm : Nm) (b : List UInt8) (sy : Nat) (las : Dir) (ws : List ChM) (c : List UInt8) : appendM (oneFs room calls nm b sy las ws) nm c = if room - b.length < c.length then (oneFs room (calls + 1) nm b sy las ws, 4) else (oneFs room (calls + 1) nm (b ++ c) sy las ws, 0) := by
  have hu : usedM (callM (oneFs room calls nm b sy las ws)) = b.length := used_one room (calls + 1) nm b sy las ws
  unfold appendM
  dsimp only
  rw [hu]
  simp [failsM, oneFs, callM, looks, min21]
theorem sync_one (room calls : Int) (nm : Nm) (b : List UInt8) (sy : Nat) (las : Dir) (ws : List ChM) : syncM (oneFs room calls nm b sy las ws) nm = (oneFs room (calls + 1) nm b b.length las ws, 0) := by
  simp [syncM, failsM, oneFs, callM, looks, min21]
theorem syncDir_one (room calls : Int) (nm : Nm) (b : List UInt8) (sy : Nat) (las : Dir) (ws : List ChM) : syncDirM (oneFs room calls nm b sy las ws) = (oneFs room (calls + 1) nm b sy [(nm, 0)] [], 0) := by
  simp [syncDirM, failsM, oneFs, callM, min21]
theorem read_one (room calls : Int) (nm : Nm) (b : List UInt8) (sy : Nat) (las : Dir) (ws : List ChM) : readM (oneFs room calls nm b sy las ws) nm = some b := by
  simp [readM, oneFs, looks]
theorem may_raw {n : Nat} (hn : n < 10) : mayM (rawNm n) = true := by
  revert n
  decide
end Go.Vc
namespace Go.Proofs.YtbhnplghnhafiaaDoor.Tryd
open Go Go.Vc
theorem zero_rec : (recL zeroR) = [.int .i64 0, .int .i64 0, .string (str []), .string (str [])] := rfl
/-- Get of what there is not. -/
theorem getBad_has {w : World} {gs g : Nat} {nm : Nm} {ats : List Nat} {en : Nat} {u : Value} (x : SegB w gs g nm ats en u) (i : Int) (hi : i < 0 ∨ (ats.length : Int) ≤ i) :
    Has Go.Proofs.Tryd.prog 14 #[.pointer (some ⟨gs, 0, none⟩), .int .i64 i] w (fun v w' => Chg [] w w' ∧ v = .tuple #[.agg (recL zeroR).toArray, .int .i64 7]) := by
  refine enter Go.Proofs.Tryd.func14 rfl rfl (by decide) rfl (e := [(0, .pointer (some ⟨gs, 0, none⟩)), (1, .int .i64 i)]) ⟨rfl, rfl, trivial⟩ ?_
  obtain ⟨A, c, rfl, _, _⟩ := x.own.form
  repeat (first | refine W_seq ?_ | refine W_region ?_ | refine WL_some rfl rfl rfl ?_)
  refine op_alloc T rfl rfl (fun g4 w1 hs1 hc1 hg4 => ?_)
  have hg4 : Blk w1 g4 33 [.int .i64 0, .int .i64 0, .string (str []), .string (str [])] := hg4
  have hbk := (x.keep0 hc1).blk
  by_cases h0 : i < 0
  · repeat (first | refine W_seq ?_ | refine W_block ?_ | refine W_region ?_ | refine Then_n ?_ | refine WL_nil ?_ | refine W_condT rfl ?_ | refine W_condF rfl ?_ | refine WL_some rfl rfl rfl ?_ | refine WL_none rfl rfl ?_ | refine WL_guardF rfl rfl rfl rfl rfl ?_ | refine op_move rfl rfl ?_ | refine op_assign rfl rfl ?_ | refine op_pick rfl rfl rfl rfl ?_ | refine op_lss rfl rfl rfl (fun hc => ?_) (fun hc => False.elim (by omega)) | refine op_eql_nilptr T rfl rfl rfl rfl rfl ?_ | refine op_build T rfl rfl rfl rfl rfl rfl ?_)
    refine op_store_agg T rfl rfl rfl rfl rfl rfl hg4 (by exact Nat.le_of_ble_eq_true rfl) (fun w4 hc4 hb4 _ => ?_)
    repeat (first | refine W_ret ?_ | refine Then_n ?_ | refine Then_r ?_ | refine InBlock_r ?_ | refine WL_nil ?_ | refine WL_some rfl rfl rfl ?_ | refine op_assign rfl rfl ?_)
    exact post2c T (.inl rfl) rfl rfl rfl rfl rfl hb4 rfl ⟨hc1.trans hc4 (fun k hk hlt => by simp at hk; omega), rfl⟩
  · repeat (first | refine W_seq ?_ | refine W_block ?_ | refine W_region ?_ | refine Then_n ?_ | refine WL_nil ?_ | refine W_condT rfl ?_ | refine W_condF rfl ?_ | refine WL_some rfl rfl rfl ?_ | refine WL_none rfl rfl ?_ | refine WL_guardT rfl rfl rfl rfl ?_ | refine op_move rfl rfl ?_ | refine op_assign rfl rfl ?_ | refine op_pick rfl rfl rfl rfl ?_ | refine op_len_slice T rfl rfl rfl rfl ?_ | refine op_nilCheck rfl rfl ?_ | refine op_lss rfl rfl rfl (fun hc => False.elim (by omega)) (fun hc => ?_) | refine op_geq rfl rfl rfl (fun hc => ?_) (fun hc => False.elim (by omega)) | refine op_fieldAddr T rfl rfl rfl rfl rfl rfl rfl rfl ?_ | refine op_eql_nilptr T rfl rfl rfl rfl rfl ?_ | refine op_build T rfl rfl rfl rfl rfl rfl ?_ | refine op_loadB T rfl rfl rfl rfl (by assumption) (by exact rfl) ?_)
    refine op_store_agg T rfl rfl rfl rfl rfl rfl hg4 (by exact Nat.le_of_ble_eq_true rfl) (fun w4 hc4 hb4 _ => ?_)
    repeat (first | refine W_ret ?_ | refine Then_n ?_ | refine Then_r ?_ | refine InBlock_r ?_ | refine WL_nil ?_ | refine WL_some rfl rfl rfl ?_ | refine op_assign rfl rfl ?_)
    exact post2c T (.inl rfl) rfl rfl rfl rfl rfl hb4 rfl ⟨hc1.trans hc4 (fun k hk hlt => by simp at hk; omega), rfl⟩
theorem getNil_has (w : World) (i : Int) :
    Has Go.Proofs.Tryd.prog 14 #[.pointer none, .int .i64 i] w (fun v w' => Chg [] w w' ∧ v = .tuple #[.agg (recL zeroR).toArray, .int .i64 9]) := by
  refine enter Go.Proofs.Tryd.func14 rfl rfl (by decide) rfl (e := [(0, .pointer none), (1, .int .i64 i)]) ⟨rfl, rfl, trivial⟩ ?_
  repeat (first | refine W_seq ?_ | refine W_region ?_ | refine WL_some rfl rfl rfl ?_)
  refine op_alloc T rfl rfl (fun g4 w1 hs1 hc1 hg4 => ?_)
  have hg4 : Blk w1 g4 33 [.int .i64 0, .int .i64 0, .string (str []), .string (str [])] := hg4
  repeat (first | refine W_seq ?_ | refine W_block ?_ | refine W_region ?_ | refine Then_n ?_ | refine WL_nil ?_ | refine W_condT rfl ?_ | refine WL_some rfl rfl rfl ?_ | refine WL_none rfl rfl ?_ | refine op_move rfl rfl ?_ | refine op_assign rfl rfl ?_ | refine op_eql_nilptr T rfl rfl rfl rfl rfl ?_ | refine op_build T rfl rfl rfl rfl rfl rfl ?_)
  refine op_store_agg T rfl rfl rfl rfl rfl rfl hg4 (by exact Nat.le_of_ble_eq_true rfl) (fun w4 hc4 hb4 _ => ?_)
  repeat (first | refine W_ret ?_ | refine Then_n ?_ | refine Then_r ?_ | refine InBlock_r ?_ | refine WL_nil ?_ | refine WL_some rfl rfl rfl ?_ | refine op_assign rfl rfl ?_)
  exact post2c T (.inl rfl) rfl rfl rfl rfl rfl hb4 rfl ⟨hc1.trans hc4 (fun k hk hlt => by simp at hk; omega), rfl⟩
theorem appendNilS_has (w : World) (cs : List Value) (hcs : cs.length = 4) :
    Has Go.Proofs.Tryd.prog 10 #[.pointer none, .agg cs.toArray] w (fun v w' => Chg [] w w' ∧ v = .tuple #[.int .i64 (-1), .int .i64 9]) := by
  refine enter Go.Proofs.Tryd.func10 rfl rfl (by decide) rfl (e := [(0, .pointer none), (1, .agg cs.toArray)]) ⟨rfl, rfl, trivial⟩ ?_
  repeat (first | refine W_seq ?_ | refine W_region ?_ | refine WL_some rfl rfl rfl ?_)
  refine op_box rfl rfl (fun gr w1 hs1 hc1 hg1 => ?_)
  repeat (first | refine W_seq ?_ | refine W_region ?_ | refine W_ret ?_ | refine Then_n ?_ | refine Then_r ?_ | refine WL_nil ?_ | refine W_condT rfl ?_ | refine WL_some rfl rfl rfl ?_ | refine op_move rfl rfl ?_ | refine op_assign rfl rfl ?_ | refine op_eql_nilptr T rfl rfl rfl rfl rfl ?_)
  exact post2 (.inl rfl) rfl rfl rfl ⟨hc1, rfl⟩
theorem syncNilS_has (w : World) : Has Go.Proofs.Tryd.prog 16 #[.pointer none] w (fun v w' => w' = w ∧ v = .int .i64 9) := by
  refine enter Go.Proofs.Tryd.func16 rfl rfl (by decide) rfl (e := [(0, .pointer none)]) ⟨rfl, trivial⟩ ?_
  repeat (first | refine W_seq ?_ | refine W_region ?_ | refine W_ret ?_ | refine Then_n ?_ | refine Then_r ?_ | refine WL_nil ?_ | refine W_condT rfl ?_ | refine WL_some rfl rfl rfl ?_ | refine op_move rfl rfl ?_ | refine op_assign rfl rfl ?_ | refine op_eql_nilptr T rfl rfl rfl rfl rfl ?_)
  exact post1 (.inl rfl) rfl rfl ⟨rfl, rfl⟩
theorem sizeNilS_has (w : World) : Has Go.Proofs.Tryd.prog 17 #[.pointer none] w (fun v w' => w' = w ∧ v = .int .i64 0) := by
  refine enter Go.Proofs.Tryd.func17 rfl rfl (by decide) rfl (e := [(0, .pointer none)]) ⟨rfl, trivial⟩ ?_
  repeat (first | refine W_seq ?_ | refine W_region ?_ | refine W_ret ?_ | refine Then_n ?_ | refine Then_r ?_ | refine WL_nil ?_ | refine W_condT rfl ?_ | refine WL_some rfl rfl rfl ?_ | refine op_move rfl rfl ?_ | refine op_assign rfl rfl ?_ | refine op_eql_nilptr T rfl rfl rfl rfl rfl ?_)
  exact post1 (.inl rfl) rfl rfl ⟨rfl, rfl⟩
theorem lenNilS_has (w : World) : Has Go.Proofs.Tryd.prog 11 #[.pointer none] w (fun v w' => w' = w ∧ v = .int .i64 0) := by
  refine enter Go.Proofs.Tryd.func11 rfl rfl (by decide) rfl (e := [(0, .pointer none)]) ⟨rfl, trivial⟩ ?_
  repeat (first | refine W_seq ?_ | refine W_region ?_ | refine W_ret ?_ | refine Then_n ?_ | refine Then_r ?_ | refine WL_nil ?_ | refine W_condT rfl ?_ | refine WL_some rfl rfl rfl ?_ | refine op_move rfl rfl ?_ | refine op_assign rfl rfl ?_ | refine op_eql_nilptr T rfl rfl rfl rfl rfl ?_)
  exact post1 (.inl rfl) rfl rfl ⟨rfl, rfl⟩
end Go.Proofs.YtbhnplghnhafiaaDoor.Tryd
/-! What becomes of a segment of which bytes were changed: the plain law. -/
set_option linter.unusedVariables false
namespace Go.Vc
open Go
theorem take_append_len {α : Type} (a b : List α) (n : Nat) (h : n ≤ a.length) : (a ++ b).take n = a.take n := List.take_append_of_le_length h
/-- A slot that was changed and does not fit is told as spoilt. -/
theorem first_spoilt {body b more : List UInt8} (hb : body.length < 4294967296) (hl : b.length = 12 + body.length) (hne : sealM body ≠ b) (hf : ¬ fitM (sealM body) b = true) : firstM (b ++ more) = ([], 0, false) := by
  have h4 : (b ++ more).take 4 = b.take 4 := take_append_len _ _ _ (by omega)
  have hd4 : ((b ++ more).drop 4).take 4 = (b.drop 4).take 4 := by rw [List.drop_append_of_le_length (by omega)]; exact take_append_len _ _ _ (by rw [List.length_drop]; omega)
  have hd8 : ((b ++ more).drop 8).take 4 = (b.drop 8).take 4 := by rw [List.drop_append_of_le_length (by omega)]; exact take_append_len _ _ _ (by rw [List.length_drop]; omega)
  have hlen : (b ++ more).length = 12 + body.length + more.length := by rw [List.length_append, hl]
  unfold firstM
  rw [if_neg (by omega)]
  have hl4 : 4 ≤ ((b ++ more).drop 4).length := by rw [List.length_drop]; omega
  have hl8 : 4 ≤ ((b ++ more).drop 8).length := by rw [List.length_drop]; omega
  by_cases hh : headM b = true
  · have hh' : fourM (crcN (b.take 4)) = (b.drop 4).take 4 := by unfold headM at hh; exact of_decide_eq_true hh
    unfold fitM at hf
    simp only [Bool.and_eq_true, decide_eq_true_eq, hne, ne_eq, not_false_iff, true_and, hh, Bool.or_eq_true, not_or, Decidable.not_not] at hf
    obtain ⟨hf1, hf2⟩ := hf
    rw [if_neg (fun h => (sum_ne hl4 (crcN_lt _)).2 h (by rw [h4, hd4]; exact hh'))]
    have hg : getFourM (b ++ more) = body.length := by
      rw [← getFourM_take 8 (by decide), take_append_len _ _ _ (by omega), ← hf1, getFourM_take 8 (by decide)]
      unfold sealM
      rw [List.append_assoc, List.append_assoc]
      exact getFourM_fourM _ _ hb
    have hbody : ((b ++ more).drop 12).take body.length = b.drop 12 := by
      rw [List.drop_append_of_le_length (by omega), take_append_len _ _ _ (by rw [List.length_drop]; omega), List.take_of_length_le (by rw [List.length_drop]; omega)]
    rw [hg, if_neg (by omega), hbody, if_pos ((sum_ne hl8 (crcN_lt _)).1 (by rw [hd8]; exact hf2))]
  · have hh' : fourM (crcN (b.take 4)) ≠ (b.drop 4).take 4 := fun h => hh (by unfold headM; exact decide_eq_true h)
    rw [if_pos ((sum_ne hl4 (crcN_lt _)).1 (by rw [h4, hd4]; exact hh'))]
theorem rscan_spoilt {l : List UInt8} (h : firstM l = ([], 0, false)) : rscanM l = ([], 0, false) := by
  unfold rscanM
  rw [scanM_end (by rw [h]), h]; rfl
theorem scanM_encs {rs : List RecM} (h : ∀ r ∈ rs, RecOk r) : (scanM (encs rs)).1 = rs.map bodyM := by
  induction rs with
  | nil => show (scanM []).1 = []; rw [scanM_nil]
  | cons r rs ih =>
    have hb := bodyM_len (h r (by simp))
    have e : encs (r :: rs) = sealM (bodyM r) ++ encs rs := by simp [encs]
    rw [e, scanM_sealM _ _ (by omega)]
    dsimp only
    rw [ih (fun r hr => h r (by simp [hr]))]; rfl
theorem encs_cons (r : RecM) (rs : List RecM) : encs (r :: rs) = sealM (bodyM r) ++ encs rs := by simp [encs]
/-- The whole: nothing was changed, or it is spoilt. -/
theorem rot_scan : ∀ {rs : List RecM} {now : List UInt8}, (∀ r ∈ rs, RecOk r) → now.length = (encs rs).length → fitsR (rs.map bodyM) (encs rs) now = false → now = encs rs ∨ (rscanM now).2.2 = false
  | [], now, _, hl, _ => .inl (by simpa [encs] using hl)
  | r :: rs, now, hok, hl, hf => by
    have hb := bodyM_len (hok r (by simp))
    have hsl := sealM_length (bodyM r)
    rw [encs_cons] at hl hf ⊢
    rw [List.length_append, hsl] at hl
    rw [List.map_cons, fitsR, if_neg (by omega)] at hf
    have e1 : (sealM (bodyM r) ++ encs rs).take (12 + (bodyM r).length) = sealM (bodyM r) := List.take_left' hsl
    have e2 : (sealM (bodyM r) ++ encs rs).drop (12 + (bodyM r).length) = encs rs := List.drop_left' hsl
    rw [e1, e2] at hf
    split at hf
    · cases hf
    rename_i hnf
    have hsplit : now = now.take (12 + (bodyM r).length) ++ now.drop (12 + (bodyM r).length) := (List.take_append_drop _ _).symm
    have hnl : (now.take (12 + (bodyM r).length)).length = 12 + (bodyM r).length := by rw [List.length_take]; omega
    by_cases heq : sealM (bodyM r) = now.take (12 + (bodyM r).length)
    · rcases rot_scan (fun r hr => hok r (by simp [hr])) (by rw [List.length_drop]; omega) hf with h | h
      · left
        rw [hsplit, ← heq, h]
      · right
        rw [hsplit, ← heq, rscanM_enc (hok r (by simp))]
        exact h
    · right
      rw [hsplit, rscan_spoilt (first_spoilt (by omega) hnl heq hnf)]
theorem fits_get : ∀ {rs : List RecM} {now : List UInt8} {i : Nat} {r : RecM}, now.length = (encs rs).length → fitsR (rs.map bodyM) (encs rs) now = false → rs[i]? = some r →
    ¬ fitM (sealM (bodyM r)) ((now.drop (encs (rs.take i)).length).take (12 + (bodyM r).length)) = true
  | [], now, i, r, _, _, hi => by simp at hi
  | q :: rs, now, i, r, hl, hf, hi => by
    have hsl := sealM_length (bodyM q)
    rw [encs_cons] at hl hf
    rw [List.length_append, hsl] at hl
    rw [List.map_cons, fitsR, if_neg (by omega)] at hf
    have e1 : (sealM (bodyM q) ++ encs rs).take (12 + (bodyM q).length) = sealM (bodyM q) := List.take_left' hsl
    have e2 : (sealM (bodyM q) ++ encs rs).drop (12 + (bodyM q).length) = encs rs := List.drop_left' hsl
    rw [e1, e2] at hf
    split at hf
    · cases hf
    rename_i hnf
    match i, hi with
    | 0, hi =>
      simp at hi
      subst hi
      have : (encs ((q :: rs).take 0)).length = 0 := rfl
      rw [this, List.drop_zero]
      exact hnf
    | i + 1, hi =>
      have h := fits_get (i := i) (by rw [List.length_drop]; omega) hf (by simpa using hi)
      rw [List.take_succ_cons, encs_cons, List.length_append, hsl]
      rw [List.drop_drop] at h
      exact h
/-- A record of it: as it was, or spoilt. -/
theorem rot_cell {rs : List RecM} {now : List UInt8} {i : Nat} {r : RecM} (hok : ∀ r ∈ rs, RecOk r) (hl : now.length = (encs rs).length) (hf : fitsR (rs.map bodyM) (encs rs) now = false) (hi : rs[i]? = some r) :
    cellM now (encs (rs.take i)).length (encs (rs.take (i + 1))).length = (r, 0) ∨ (cellM now (encs (rs.take i)).length (encs (rs.take (i + 1))).length).2 = 6 := by
  have hr := hok r (List.mem_of_getElem? hi)
  have hb := bodyM_len hr
  have hnf := fits_get hl hf hi
  have hsl := sealM_length (bodyM r)
  have htl : (encs (rs.take (i + 1))).length = (encs (rs.take i)).length + (12 + (bodyM r).length) := by rw [encs_take rs hi, List.length_append, hsl]
  have hle : (encs (rs.take (i + 1))).length ≤ now.length := by rw [hl, encs_prefix rs (i + 1)]; simp
  have hcut : (now.take (encs (rs.take (i + 1))).length).drop (encs (rs.take i)).length = (now.drop (encs (rs.take i)).length).take (12 + (bodyM r).length) := by rw [htl]; exact take_drop_add _ _ _
  unfold cellM
  rw [if_neg (by omega), hcut]
  have hnl : ((now.drop (encs (rs.take i)).length).take (12 + (bodyM r).length)).length = 12 + (bodyM r).length := by rw [List.length_take, List.length_drop]; omega
  generalize (now.drop (encs (rs.take i)).length).take (12 + (bodyM r).length) = b at *
  by_cases heq : sealM (bodyM r) = b
  · left
    have hs := rscanM_enc hr []
    rw [List.append_nil, rscanM_nil, heq] at hs
    rw [hs, if_pos ⟨rfl, by simp; omega⟩]
    rfl
  · right
    have hs := rscan_spoilt (first_spoilt (more := []) (by omega) hnl heq hnf)
    rw [List.append_nil] at hs
    rw [hs, if_neg (by simp)]
theorem rot_one (room calls : Int) (nm : Nm) (b : List UInt8) (sy : Nat) (las : Dir) (ws : List ChM) (sec : Int) (x : UInt8) : rotM (oneFs room calls nm b sy las ws) nm sec x = if sec < 0 ∨ (((b.length + 63) / 64 : Nat) : Int) ≤ sec then (oneFs room calls nm b sy las ws, 7) else (oneFs room calls nm (rotB b sec.toNat x) sy las ws, 0) := by
  have hl : lenOf (oneFs room calls nm b sy las ws) 0 = b.length := by simp [lenOf, oneFs]
  unfold rotM
  rw [show looks (oneFs room calls nm b sy las ws).dir nm = some 0 from looks_one nm]
  dsimp only
  rw [hl]
  split
  · rfl
  · simp [oneFs]
end Go.Vc
/-! Segments: one record. -/
set_option linter.unusedVariables false
namespace Go.Vc
open Go
def kvR : RecM := ⟨1, 1, [107], [118]⟩
theorem kvR_ok : RecOk kvR := ⟨by decide, by decide, by decide, .inl rfl, by decide, by decide⟩
end Go.Vc
namespace Go.Proofs.YtbhnplghnhafiaaDoor.Tryd
open Go Go.Vc
set_option maxHeartbeats 2000000 in
theorem begun15_has (w : World) : Has Go.Proofs.Tryd.prog 7 #[] w (fun v w' => Chg [] w w' ∧ v = .bool true) := by
  refine enter Go.Proofs.Tryd.func7 rfl rfl (by decide) rfl (e := []) trivial ?_
  have hcr := create_one 10000 (rawNm 3) (may_raw (by decide))
  have hlen := sealM_length (bodyM kvR)
  have hbl := bodyM_len kvR_ok
  have hap := append_one' (roomM 10000) 1 (rawNm 3) [] 0 [] [⟨0, rawNm 3, [], some 0⟩] (sealM (bodyM kvR))
  rw [if_neg (by show ¬ (10000 : Int) - ((([] : List UInt8).length : Nat) : Int) < _; simp; omega)] at hap
  have hrd := read_one (roomM 10000) (1 + 1) (rawNm 3) ([] ++ sealM (bodyM kvR)) 0 [] [⟨0, rawNm 3, [], some 0⟩]
  rw [List.nil_append] at hrd hap
  repeat (first | refine W_seq ?_ | refine W_region ?_ | refine Then_n ?_ | refine WL_nil ?_ | refine WL_some rfl rfl rfl ?_ | refine op_assign rfl rfl ?_)
  refine op_call rfl rfl rfl (newO_has 10000 w) ?_
  rintro _ w1 ⟨g, p1, rfl, x1⟩
  unfold ptrV
  repeat (first | refine W_seq ?_ | refine W_region ?_ | refine Then_n ?_ | refine WL_nil ?_ | refine WL_some rfl rfl rfl ?_ | refine op_move rfl rfl ?_ | refine op_assign rfl rfl ?_)
  refine op_call rfl rfl rfl (createS_has x1 3 (by decide) (by decide) (by decide) (by rw [hcr])) ?_
  rintro _ w2 ⟨gs, p2, u2, rfl, x2⟩
  rw [hcr] at x2
  dsimp only at x2
  unfold ptrV
  repeat (first | refine W_seq ?_ | refine W_region ?_ | refine W_skip ?_ | refine Then_n ?_ | refine WL_nil ?_ | refine W_condF rfl ?_ | refine WL_some rfl rfl rfl ?_ | refine WL_guardT rfl rfl rfl rfl ?_ | refine op_move rfl rfl ?_ | refine op_assign rfl rfl ?_ | refine op_pick rfl rfl rfl rfl ?_ | refine op_extract rfl rfl rfl ?_ | refine op_neq rfl rfl rfl (fun hc => False.elim (by omega)) (fun hc => ?_) | refine op_eql_nilptr T rfl rfl rfl rfl rfl ?_ | refine op_build T rfl rfl rfl rfl rfl rfl ?_)
  have hcall := appendS_has x2 kvR kvR_ok (by show (1 : Int) < _; decide) (by decide) (by decide)
  rw [hap] at hcall
  refine op_call rfl rfl rfl hcall ?_
  rintro v3 w3 ⟨_, h3⟩
  obtain ⟨hv3, p3, u3, x3⟩ := h3 rfl
  obtain rfl : v3 = .tuple #[.int .i64 0, .int .i64 0] := hv3
  dsimp only at x3
  rw [Nat.zero_add, List.nil_append] at x3
  repeat (first | refine W_seq ?_ | refine W_region ?_ | refine Then_n ?_ | refine WL_nil ?_ | refine WL_some rfl rfl rfl ?_ | refine op_move rfl rfl ?_ | refine op_assign rfl rfl ?_ | refine op_extract rfl rfl rfl ?_)
  have hce : cellM (sealM (bodyM kvR)) 0 (sealM (bodyM kvR)).length = (kvR, 0) := by
    have := cellM_encs (rs := [kvR]) (i := 0) rfl kvR_ok []
    simpa [encs] using this
  have hget := getS_has x3 (sealM (bodyM kvR)) hrd (by omega) 0 0 (sealM (bodyM kvR)).length rfl rfl (Nat.zero_le _) (by decide)
  rw [hce] at hget
  refine op_call rfl rfl rfl hget ?_
  rintro v4 w4 ⟨hc4, hv4⟩
  obtain rfl : v4 = .tuple #[.agg (recL kvR).toArray, .int .i64 0] := hv4
  have x4 := x3.keep0 hc4
  repeat (first | refine WL_some rfl rfl rfl ?_ | refine op_move rfl rfl ?_ | refine op_extract rfl rfl rfl ?_)
  refine op_alloc T rfl rfl (fun g5 w5 hs5 hc5 hg5 => ?_)
  have hg5 : Blk w5 g5 33 [.int .i64 0, .int .i64 0, .string (str []), .string (str [])] := hg5
  have x5 := x4.keep0 hc5
  repeat (refine WL_none rfl rfl ?_)
  refine op_store_agg T rfl rfl rfl rfl rfl rfl hg5 (by exact Nat.le_of_ble_eq_true rfl) (fun w6 hc6 hg6 _ => ?_)
  have hg6 : Blk w6 g5 33 [.int .i64 1, .int .i64 1, .string (str [107]), .string (str [118])] := hg6
  have hs5 : w4.heap.size ≤ g5 := hs5
  have hc46 : Chg [] w4 w6 := hc5.trans hc6 (fun k hk hlt => by simp at hk; omega)
  have x6 := x4.keep0 hc46
  repeat (first | refine W_seq ?_ | refine W_region ?_ | refine Then_n ?_ | refine WL_nil ?_ | refine WL_some rfl rfl rfl ?_ | refine op_move rfl rfl ?_ | refine op_assign rfl rfl ?_)
  refine op_call rfl rfl rfl (getBad_has x6.seg 1 (.inr (by decide))) ?_
  rintro _ w7 ⟨hc7, rfl⟩
  have x7 := x6.keep0 hc7
  have hg7 := hg6.keep0 hc7
  repeat (first | refine WL_some rfl rfl rfl ?_ | refine op_move rfl rfl ?_ | refine op_extract rfl rfl rfl ?_)
  refine op_alloc T rfl rfl (fun g8 w8 hs8 hc8 hg8 => ?_)
  have hg8 : Blk w8 g8 33 [.int .i64 0, .int .i64 0, .string (str []), .string (str [])] := hg8
  have hs8 : w7.heap.size ≤ g8 := hs8
  repeat (refine WL_none rfl rfl ?_)
  refine op_store_agg T rfl rfl rfl rfl rfl rfl hg8 (by exact Nat.le_of_ble_eq_true rfl) (fun w9 hc9 _ _ => ?_)
  have hc79 : Chg [] w7 w9 := hc8.trans hc9 (fun k hk hlt => by simp at hk; omega)
  have x9 := x7.keep0 hc79
  have hg9 := hg7.keep0 hc79
  repeat (first | refine W_seq ?_ | refine W_region ?_ | refine Then_n ?_ | refine WL_nil ?_ | refine WL_some rfl rfl rfl ?_ | refine WL_guardT rfl rfl rfl rfl ?_ | refine op_move rfl rfl ?_ | refine op_assign rfl rfl ?_ | refine op_pick rfl rfl rfl rfl ?_ | refine op_eql rfl rfl rfl (fun hc => ?_) (fun hc => False.elim (by omega)) | refine op_fieldAddr T rfl rfl rfl rfl rfl rfl rfl rfl ?_ | refine op_loadB T rfl rfl rfl rfl (by assumption) (by exact rfl) ?_)
  refine op_str_eql (a := [118]) (b := [118]) rfl rfl rfl (fun _ => ?_) (fun h => absurd rfl h)
  repeat (first | refine WL_some rfl rfl rfl ?_ | refine WL_guardT rfl rfl rfl rfl ?_ | refine op_move rfl rfl ?_ | refine op_pick rfl rfl rfl rfl ?_ | refine op_eql rfl rfl rfl (fun hc => ?_) (fun hc => False.elim (by omega)))
  refine op_call rfl rfl rfl (lenS_has x9.seg) ?_
  rintro v10 _ ⟨rfl, hv10⟩
  obtain rfl : v10 = .int .i64 1 := hv10
  repeat (first | refine WL_some rfl rfl rfl ?_ | refine WL_guardT rfl rfl rfl rfl ?_ | refine op_move rfl rfl ?_ | refine op_pick rfl rfl rfl rfl ?_ | refine op_eql rfl rfl rfl (fun hc => ?_) (fun hc => False.elim (by omega)))
  refine op_call rfl rfl rfl (name_has 3 _ (by decide)) ?_
  rintro _ _ ⟨rfl, rfl⟩
  repeat (refine WL_guardT rfl rfl rfl rfl ?_)
  refine op_str_eql (a := rawNm 3) (b := [51, 46, 114, 97, 119]) rfl rfl rfl (fun _ => ?_) (fun h => absurd rfl h)
  repeat (first | refine W_ret ?_ | refine Then_n ?_ | refine WL_nil ?_ | refine WL_some rfl rfl rfl ?_ | refine op_assign rfl rfl ?_ | refine op_pick rfl rfl rfl rfl ?_)
  exact post1 (.inl rfl) rfl rfl ⟨x9.chg, rfl⟩
end Go.Proofs.YtbhnplghnhafiaaDoor.Tryd
/-! Segments: Open of what there is not, and of whole records. -/
set_option linter.unusedVariables false
namespace Go.Vc
open Go
theorem flat_get {α β : Type} {f : α → List β} {k : Nat} (hf : ∀ x, (f x).length = k) : ∀ (l : List α) {i j : Nat} {x : α}, l[i]? = some x → j < k → (l.flatMap f)[i * k + j]? = (f x)[j]?
  | [], i, j, x, h, _ => by simp at h
  | a :: l, 0, j, x, h, hj => by
    simp at h
    subst h
    rw [List.flatMap_cons, Nat.zero_mul, Nat.zero_add, List.getElem?_append_left (by rw [hf]; exact hj)]
  | a :: l, i + 1, j, x, h, hj => by
    rw [List.flatMap_cons, List.getElem?_append_right (by rw [hf, Nat.succ_mul]; omega), hf, show (i + 1) * k + j - k = i * k + j from by rw [Nat.succ_mul]; omega]
    exact flat_get hf l (by simpa using h) hj
end Go.Vc
namespace Go.Proofs.YtbhnplghnhafiaaDoor.Tryd
open Go Go.Vc
theorem createBad_has (g : Nat) (w : World) : Has Go.Proofs.Tryd.prog 9 #[ptrV g, .int .i64 0] w (fun v w' => w' = w ∧ v = .tuple #[.pointer none, .int .i64 7]) := by
  refine enter Go.Proofs.Tryd.func9 rfl rfl (by decide) rfl (e := [(0, ptrV g), (1, .int .i64 0)]) ⟨rfl, rfl, trivial⟩ ?_
  unfold ptrV
  repeat (first | refine W_seq ?_ | refine W_region ?_ | refine W_ret ?_ | refine Then_n ?_ | refine Then_r ?_ | refine WL_nil ?_ | refine W_condT rfl ?_ | refine WL_some rfl rfl rfl ?_ | refine WL_guardF rfl rfl rfl rfl rfl ?_ | refine op_move rfl rfl ?_ | refine op_assign rfl rfl ?_ | refine op_pick rfl rfl rfl rfl ?_ | refine op_lss rfl rfl rfl (fun hc => ?_) (fun hc => False.elim (by omega)))
  exact post2 (.inl rfl) rfl rfl rfl ⟨rfl, rfl⟩
theorem openNone_has {w0 w : World} {g : Nat} {s : FsM} {p : FsP} (x : FsO w0 w g s p) (n : Nat) (hn : n < 10) (hread : readM s (rawNm n) = none) :
    Has Go.Proofs.Tryd.prog 15 #[ptrV g, .int .i64 (n : Int)] w (fun v w' => Chg [] w w' ∧ v = .tuple #[.pointer none, .int .i64 3]) := by
  refine enter Go.Proofs.Tryd.func15 rfl rfl (by decide) rfl (e := [(0, ptrV g), (1, .int .i64 (n : Int))]) ⟨rfl, rfl, trivial⟩ ?_
  unfold ptrV
  repeat (first | refine W_seq ?_ | refine W_region ?_ | refine Then_n ?_ | refine WL_nil ?_ | refine WL_some rfl rfl rfl ?_ | refine op_move rfl rfl ?_ | refine op_assign rfl rfl ?_)
  refine op_call rfl rfl rfl (name_has n w hn) ?_
  rintro _ _ ⟨rfl, rfl⟩
  repeat (refine WL_some rfl rfl rfl ?_)
  refine op_call rfl rfl rfl (readO_has x (rawNm n)) ?_
  rintro v1 w1 ⟨x1, hc1, h1⟩
  rw [hread] at h1
  obtain rfl : v1 = .tuple #[.slice none 0 0, .int .i64 3] := h1
  repeat (first | refine W_seq ?_ | refine W_region ?_ | refine W_ret ?_ | refine Then_n ?_ | refine Then_r ?_ | refine WL_nil ?_ | refine W_condT rfl ?_ | refine WL_some rfl rfl rfl ?_ | refine op_move rfl rfl ?_ | refine op_assign rfl rfl ?_ | refine op_extract rfl rfl rfl ?_ | refine op_neq rfl rfl rfl (fun hc => ?_) (fun hc => False.elim (by omega)))
  exact post2 (.inl rfl) rfl rfl rfl ⟨hc1, rfl⟩
set_option maxHeartbeats 2000000 in
/-- Open of a file of whole records. -/
theorem openS_has {w0 w : World} {g : Nat} {s : FsM} {p : FsP} (x : FsO w0 w g s p) (n : Nat) (hn : n < 10) (rs : List RecM) (hrs : ∀ r ∈ rs, RecOk r) (hlen : rs.length ≤ 1000) (hread : readM s (rawNm n) = some (encs rs)) :
    Has Go.Proofs.Tryd.prog 15 #[ptrV g, .int .i64 (n : Int)] w (fun v w' => Chg [] w w' ∧ ∃ gs u, v = .tuple #[ptrV gs, .int .i64 0] ∧ SegO w0 w' gs g s p (rawNm n) (offs rs) (encs rs).length u) := by
  refine enter Go.Proofs.Tryd.func15 rfl rfl (by decide) rfl (e := [(0, ptrV g), (1, .int .i64 (n : Int))]) ⟨rfl, rfl, trivial⟩ ?_
  have hel := encs_len hrs
  unfold ptrV
  repeat (first | refine W_seq ?_ | refine W_region ?_ | refine Then_n ?_ | refine WL_nil ?_ | refine WL_some rfl rfl rfl ?_ | refine op_move rfl rfl ?_ | refine op_assign rfl rfl ?_)
  refine op_call rfl rfl rfl (name_has n w hn) ?_
  rintro _ w ⟨rfl, rfl⟩
  repeat (refine WL_some rfl rfl rfl ?_)
  refine op_call rfl rfl rfl (readO_has x (rawNm n)) ?_
  rintro v1 w1 ⟨x1, hc1, h1⟩
  rw [hread] at h1
  obtain ⟨ub, rfl, hob, hfb⟩ : ∃ u, v1 = .tuple #[u, .int .i64 0] ∧ Own w1 5 1 u (encs rs).length (u8s (encs rs)) ∧ ∀ h, u.ownBlock = some h → _ ≤ h := h1
  have hsb := hob.bytes
  obtain ⟨Ab, cb, rfl, _, _⟩ := hob.form
  repeat (first | refine W_seq ?_ | refine W_region ?_ | refine W_skip ?_ | refine Then_n ?_ | refine WL_nil ?_ | refine W_condF rfl ?_ | refine WL_some rfl rfl rfl ?_ | refine op_move rfl rfl ?_ | refine op_assign rfl rfl ?_ | refine op_extract rfl rfl rfl ?_ | refine op_neq rfl rfl rfl (fun hc => False.elim (by omega)) (fun hc => ?_))
  refine op_call rfl rfl rfl (rscan_has Ab _ cb _ w1 hsb (by omega)) ?_
  rintro _ w2 ⟨ul, rfl, hc2, hol, hfl⟩
  rw [rscanM_encs hrs]
  rw [rscanM_encs hrs] at hol
  dsimp only at hol ⊢
  have x2 := x1.keep0 hc2
  obtain ⟨Al, cl, rfl, _, _⟩ := hol.form
  repeat (first | refine W_seq ?_ | refine W_region ?_ | refine W_skip ?_ | refine Then_n ?_ | refine WL_nil ?_ | refine W_condF rfl ?_ | refine WL_some rfl rfl rfl ?_ | refine op_move rfl rfl ?_ | refine op_assign rfl rfl ?_ | refine op_len_slice T rfl rfl rfl rfl ?_ | refine op_notT rfl rfl ?_ | refine op_extract rfl rfl rfl ?_ | refine op_lss rfl rfl rfl (fun hc => False.elim (by omega)) (fun hc => ?_))
  refine op_call rfl rfl rfl (name_has n w2 hn) ?_
  rintro _ w2 ⟨rfl, rfl⟩
  repeat (first | refine WL_some rfl rfl rfl ?_ | refine op_build T rfl rfl rfl rfl rfl rfl ?_)
  refine op_box rfl rfl (fun gs w3 hs3 hc3 hg3 => ?_)
  have hg3 : Blk w3 gs 60 [ptrV g, .string (str (rawNm n)), .slice none 0 0, .int .i64 0] := hg3
  have hge : _ ≤ gs := hs3
  have x3 := x2.keep0 hc3
  have hol3 := hol.keep0 hc3
  have xs3 : SegO w0 w3 gs g s p (rawNm n) [] 0 (.slice none 0 0) := ⟨x3, ⟨hg3, Own.nil _ _ _⟩, fun hm => by have := x2.at_.lt gs hm; omega, fun k hk => by simp [Value.ownBlock] at hk, by have := x2.chg.size; omega, fun k hk => by simp [Value.ownBlock] at hk⟩
  have hc13 : Chg [] w w3 := (hc1.trans' hc2).trans' hc3
  repeat (first | refine W_seq ?_ | refine W_block ?_ | refine W_region ?_ | refine Then_n ?_ | refine WL_nil ?_ | refine WL_some rfl rfl rfl ?_ | refine op_move rfl rfl ?_ | refine op_assign rfl rfl ?_ | refine op_len_slice T rfl rfl rfl rfl ?_)
  refine W_loop (σ := Nat) (fun k => [(12, .pointer (some ⟨gs, 0, none⟩)), (57, .slice Al rs.length cl), (58, .int .i64 (rs.length : Nat)), (59, .int .i64 (k : Int))])
    (fun k w' => k ≤ rs.length ∧ Chg [] w w' ∧ Own w' 33 4 (.slice Al rs.length cl) rs.length (rs.flatMap recL) ∧ ∃ u, SegO w0 w' gs g s p (rawNm n) (offs (rs.take k)) (encs (rs.take k)).length u ∧ ∀ h, u.ownBlock = some h → w.heap.size ≤ h)
    (fun k => rs.length - k) 0 ⟨rfl, rfl, rfl, rfl, trivial⟩ ⟨by omega, hc13, hol3, .slice none 0 0, by simpa [offs, encs] using xs3, fun h hh => by simp [Value.ownBlock] at hh⟩ ?_
  rintro k w4 ⟨hk, hc4, ho4, u4, x4, hu4⟩
  repeat (first | refine W_seq ?_ | refine W_region ?_ | refine WL_some rfl rfl rfl ?_)
  (refine op_lss rfl rfl rfl (fun hc => ?_) (fun hc => ?_))
  · have hkl : k < rs.length := by omega
    have hr : rs[k]? = some rs[k] := List.getElem?_eq_getElem hkl
    have hok := hrs _ (List.getElem_mem hkl)
    have htake := encs_take rs hr
    have hoff : offs (rs.take (k + 1)) = offs (rs.take k) ++ [(encs (rs.take k)).length] := by rw [List.take_add_one, hr]; exact offs_snoc _ _
    have hmono : (encs (rs.take (k + 1))).length ≤ (encs rs).length := by rw [encs_prefix rs (k + 1)]; simp
    have hofl : (offs (rs.take k)).length ≤ 1000 := by rw [offs_length, List.length_take]; omega
    obtain ⟨gl, hgl, hcells⟩ : ∃ gl, Al = some ⟨gl, 0, none⟩ ∧ ∀ j v, (recL rs[k])[j]? = some v → w4.cell? ((⟨gl, 0, none⟩ : Addr).add (k * 4 + j)) = some v := by
      have hcell : ∀ j v, (recL rs[k])[j]? = some v → (rs.flatMap recL)[k * 4 + j]? = some v := fun j v hj => by
        have hj4 : j < 4 := by have := (List.getElem?_eq_some_iff.1 hj).1; simpa [recL] using this
        have := flat_get (f := recL) (k := 4) (fun r => rfl) rs hr hj4
        rw [this]; exact hj
      obtain ⟨g0, h1, ⟨c', h2⟩, _⟩ := ho4.cell (hcell 0 _ rfl)
      injection h2 with h2
      refine ⟨g0, h2, fun j v hj => ?_⟩
      obtain ⟨g1, h3, _, h5⟩ := ho4.cell (hcell j v hj)
      rw [h1] at h3
      injection h3 with h3
      subst h3
      rw [add_plain]; exact h5
    subst hgl
    generalize rs[k] = r at *
    repeat (first | refine W_seq ?_ | refine W_block ?_ | refine W_region ?_ | refine W_skip ?_ | refine Then_n ?_ | refine WL_nil ?_ | refine W_condT rfl ?_ | refine WL_some rfl rfl rfl ?_)
    refine op_index_slice T rfl rfl rfl rfl rfl (by omega) (by omega) (p := (⟨gl, 0, none⟩ : Addr).add (k * 4)) (by rw [Int.toNat_natCast]) ?_
    repeat (refine WL_some rfl rfl rfl ?_)
    refine op_load_cells (cs := recL r) T rfl rfl rfl rfl rfl (fun j v hj => by rw [add_of_add]; exact hcells j v hj) ?_
    repeat (refine WL_some rfl rfl rfl ?_)
    refine op_alloc T rfl rfl (fun g5 w5 hs5 hc5 hg5 => ?_)
    have hg5 : Blk w5 g5 33 [.int .i64 0, .int .i64 0, .string (str []), .string (str [])] := hg5
    have hs5 : w4.heap.size ≤ g5 := hs5
    repeat (refine WL_none rfl rfl ?_)
    refine op_store_agg T rfl rfl rfl rfl rfl rfl hg5 (by exact Nat.le_of_ble_eq_true rfl) (fun w6 hc6 hg6 _ => ?_)
    have hg6 : Blk w6 g5 33 (recL r) := hg6
    have hc46 : Chg [] w4 w6 := hc5.trans hc6 (fun k hk hlt => by simp at hk; omega)
    repeat (first | refine W_seq ?_ | refine W_region ?_ | refine Then_n ?_ | refine WL_nil ?_ | refine WL_some rfl rfl rfl ?_ | refine op_load_agg T rfl rfl rfl rfl (by assumption) (by exact Nat.le_of_ble_eq_true rfl) (by exact rfl) ?_)
    refine op_call rfl rfl rfl (encode_has r w6) ?_
    rintro _ w7 ⟨ue, rfl, me⟩
    have henc : encM r = (sealM (bodyM r), 0) := by unfold encM; rw [if_neg (by simp [checkM_ok.2 hok])]
    rw [henc] at me
    rw [henc]
    dsimp only at me
    obtain ⟨Ae, ce, rfl, _, _⟩ := me.form
    have hc47 := hc46.trans' me.chg
    have x7 := x4.keep0 hc47
    have ho7 := ho4.keep0 hc47
    repeat (first | refine W_region ?_ | refine Then_n ?_ | refine WL_nil ?_ | refine WL_some rfl rfl rfl ?_ | refine op_move rfl rfl ?_ | refine op_assign rfl rfl ?_ | refine op_len_slice T rfl rfl rfl rfl ?_ | refine op_extract rfl rfl rfl ?_)
    refine op_call rfl rfl rfl (addS_has x7.seg (sealM (bodyM r)).length (by omega) (by rw [htake, List.length_append] at hmono; omega)) ?_
    rintro v8 w8 ⟨hc8, u8, hs8, hb8⟩
    have x8 := x7.turn hc8 hs8 hb8
    rw [← hoff, ← List.length_append, ← htake] at x8
    have ho8 := ho7.keep hc8 (fun h hh hm => by
      obtain ⟨cur, hrow⟩ := ho7.row hh
      rcases List.mem_cons.1 hm with rfl | hm
      · exact hrow.ne_ x7.seg.blk (by decide) rfl
      · obtain ⟨cur2, hrow2⟩ := x7.seg.own.row (show u4.ownBlock = some h by simpa using hm)
        exact hrow.ne_ hrow2 (by decide) rfl)
    have hgw : w.heap.size ≤ gs := by have := hc1.size; have := hc2.size; omega
    have hc08 : Chg [] w w8 := (hc4.trans' hc47).trans hc8 (fun k hk hlt => by
      rcases List.mem_cons.1 hk with rfl | hk
      · omega
      · have := hu4 k (by simpa using hk); omega)
    repeat (first | refine W_region ?_ | refine Then_n ?_ | refine InBlock_n ?_ | refine WL_nil ?_ | refine WL_some rfl rfl rfl ?_ | refine op_move rfl rfl ?_ | refine op_add rfl rfl rfl (wrap_i64_in (by omega) (by omega)) ?_)
    refine Round_n (k + 1) ⟨rfl, rfl, rfl, rfl, trivial⟩ ⟨by omega, hc08, ho8, u8, x8, fun h hh => ?_⟩ (by omega)
    rcases hb8 with hb | ⟨h', hb, hge'⟩
    · exact hu4 h (by rw [← hb]; exact hh)
    · rw [hb] at hh; injection hh with hh; have := hc4.size; have := hc47.size; omega
  · obtain rfl : k = rs.length := by omega
    rw [List.take_length] at x4
    repeat (first | refine W_seq ?_ | refine W_region ?_ | refine W_exit ?_ | refine W_ret ?_ | refine Then_n ?_ | refine Then_x ?_ | refine InBlock_hit ?_ | refine Round_x ?_ | refine WL_nil ?_ | refine W_condF rfl ?_ | refine WL_some rfl rfl rfl ?_ | refine op_move rfl rfl ?_ | refine op_assign rfl rfl ?_)
    exact post2 (.inl rfl) rfl rfl rfl ⟨hc4, gs, u4, rfl, x4⟩
end Go.Proofs.YtbhnplghnhafiaaDoor.Tryd
/-! RawRot, walked. -/
set_option linter.unusedVariables false
namespace Go.Vc
open Go
/-- A row of the call's own whose elements have several cells. -/
theorem Own.elem {α : Type} {f : α → List Value} {k : Nat} (hf : ∀ x, (f x).length = k) {w : World} {t : TypeId} {A : Option Addr} {n c : Nat} {L : List α} (h : Own w t k (.slice A n c) n (L.flatMap f)) {i : Nat} {x : α} (hx : L[i]? = some x) (hk : 0 < k) :
    ∃ g, A = some ⟨g, 0, none⟩ ∧ ∀ j u, (f x)[j]? = some u → w.cell? ((⟨g, 0, none⟩ : Addr).add (i * k + j)) = some u := by
  have hcell : ∀ j v, (f x)[j]? = some v → (L.flatMap f)[i * k + j]? = some v := fun j v hj => by
    have hjk : j < k := by have := (List.getElem?_eq_some_iff.1 hj).1; rw [hf] at this; exact this
    rw [flat_get hf L hx hjk]; exact hj
  have h0 : (f x)[0]? = some ((f x)[0]'(by rw [hf]; exact hk)) := List.getElem?_eq_getElem _
  obtain ⟨g0, h1, ⟨c', h2⟩, _⟩ := h.cell (hcell 0 _ h0)
  injection h2 with h2
  refine ⟨g0, h2, fun j v hj => ?_⟩
  obtain ⟨g1, h3, _, h5⟩ := h.cell (hcell j v hj)
  rw [h1] at h3
  injection h3 with h3
  subst h3
  rw [add_plain]; exact h5
end Go.Vc
namespace Go.Proofs.YtbhnplghnhafiaaDoor.Tryd
open Go Go.Vc
/-- Open of what is spoilt. -/
theorem openSpoilt_has {w0 w : World} {g : Nat} {s : FsM} {p : FsP} (x : FsO w0 w g s p) (n : Nat) (hn : n < 10) (b : List UInt8) (hb : b.length ≤ 1000000000) (hread : readM s (rawNm n) = some b) (hbad : (rscanM b).2.2 = false) :
    Has Go.Proofs.Tryd.prog 15 #[ptrV g, .int .i64 (n : Int)] w (fun v w' => Chg [] w w' ∧ v = .tuple #[.pointer none, .int .i64 6]) := by
  refine enter Go.Proofs.Tryd.func15 rfl rfl (by decide) rfl (e := [(0, ptrV g), (1, .int .i64 (n : Int))]) ⟨rfl, rfl, trivial⟩ ?_
  unfold ptrV
  refine run ?_
  refine go T 10 rfl ?_
  refine o1 rfl ?_
  refine op_call rfl rfl rfl (name_has n w hn) ?_
  rintro _ _ ⟨rfl, rfl⟩
  refine o1 rfl ?_
  refine op_call rfl rfl rfl (readO_has x (rawNm n)) ?_
  rintro v1 w1 ⟨x1, hc1, h1⟩
  rw [hread] at h1
  obtain ⟨ub, rfl, hob, hfb⟩ : ∃ u, v1 = .tuple #[u, .int .i64 0] ∧ Own w1 5 1 u b.length (u8s b) ∧ ∀ h, u.ownBlock = some h → _ ≤ h := h1
  have hsb := hob.bytes
  obtain ⟨Ab, cb, rfl, _, _⟩ := hob.form
  refine go T 11 rfl ?_
  refine neF rfl rfl rfl rfl (by omega) ?_
  refine go T 8 rfl ?_
  refine o1 rfl ?_
  refine op_call rfl rfl rfl (rscan_has Ab _ cb _ w1 hsb hb) ?_
  rintro _ w2 ⟨ul, rfl, hc2, hol, hfl⟩
  rw [hbad]
  refine go T 25 rfl ?_
  exact post2 (.inl rfl) rfl rfl rfl ⟨hc1.trans' hc2, rfl⟩
set_option maxHeartbeats 8000000 in
theorem rawRot_has (A : Option Addr) (n c : Nat) (L : List RecM) (sec : Int) (xx : UInt8) (w : World) (hl : SliceK 4 RrecK w (.slice A n c) L) :
    Has Go.Proofs.Tryd.prog 5 #[.slice A n c, .int .i64 sec, .int .u8 (xx.toNat : Int)] w (fun v w' => Chg [] w w' ∧ v = .bool true) := by
  refine enter Go.Proofs.Tryd.func5 rfl rfl (by decide) rfl (e := [(0, .slice A n c), (1, .int .i64 sec), (2, .int .u8 (xx.toNat : Int))]) ⟨rfl, rfl, rfl, trivial⟩ ?_
  refine run ?_
  refine go T 7 rfl ?_
  refine o1 rfl ?_
  refine op_call rfl rfl rfl (begun15_has w) ?_
  rintro _ w1 ⟨hc1, rfl⟩
  refine go T 16 rfl ?_
  refine o1 rfl ?_
  refine op_call rfl rfl rfl (good_has A n c L w1 (hl.keep RrecK.kept hc1)) ?_
  rintro v2 w2 ⟨hc2, ho2, hf2⟩
  have hok := goodR_ok 10 L
  have hlen := goodR_len 10 L
  generalize goodR 10 L = rs at *
  obtain ⟨Ar, cr, rfl, hcr1, hcr2⟩ := ho2.form
  unfold maxLen at hcr2
  have hcr := create_one 1048576 (rawNm 3) (may_raw (by decide))
  have hel := encs_len hok
  replace hc1 := hc1.trans' hc2
  refine go T 5 rfl ?_
  refine o1 rfl ?_
  refine op_call rfl rfl rfl (newO_has 1048576 w2) ?_
  rintro _ w3 ⟨g, p3, rfl, x3⟩
  unfold ptrV
  refine go T 6 rfl ?_
  refine o1 rfl ?_
  refine op_call rfl rfl rfl (createS_has x3 3 (by decide) (by decide) (by show (0 : Int) < _; decide) (by rw [hcr])) ?_
  rintro v4 w4 ⟨gs, p4, u4, hv4, x4⟩
  rw [hcr] at x4
  dsimp only at x4
  obtain rfl : v4 = .tuple #[.pointer (some ⟨gs, 0, none⟩), .int .i64 0] := hv4
  have x4 : SegO w2 w4 gs g (oneFs 1048576 1 (rawNm 3) [] 0 [] [⟨0, rawNm 3, [], some 0⟩]) p4 (rawNm 3) [] 0 u4 := x4
  clear x3
  generalize [(⟨0, rawNm 3, [], some 0⟩ : ChM)] = wts at *
  refine go T 11 rfl ?_
  refine neF rfl rfl rfl rfl (by omega) ?_
  refine go T 12 rfl ?_
  refine W_loop (σ := Nat) (fun n => [(0, .slice Ar rs.length cr), (1, .int .i64 sec), (2, .int .u8 (xx.toNat : Int)), (8, .pointer (some ⟨g, 0, none⟩)), (9, .pointer (some ⟨gs, 0, none⟩)), (11, .int .i64 (n : Int))])
    (fun n w' => n ≤ rs.length ∧ ∃ p u, SegO w2 w' gs g (oneFs 1048576 (1 + n) (rawNm 3) (encs (rs.take n)) 0 [] wts) p (rawNm 3) (offs (rs.take n)) (encs (rs.take n)).length u)
    (fun n => rs.length - n) 0 ⟨rfl, rfl, rfl, rfl, rfl, rfl, trivial⟩ ⟨by omega, p4, u4, x4⟩ ?_
  rintro n w5 ⟨hn, p5, u5, x5⟩
  have ho5 := ho2.keep0 x5.chg
  refine run ?_
  refine go T 6 rfl ?_
  refine ltS rfl rfl rfl rfl (fun hcmp => ?_) (fun hcmp => ?_)
  · have hn2 : n < rs.length := by omega
    have hr : rs[n]? = some rs[n] := List.getElem?_eq_getElem hn2
    have hrok := hok _ (List.getElem_mem hn2)
    have htake := encs_take rs hr
    have hoff : offs (rs.take (n + 1)) = offs (rs.take n) ++ [(encs (rs.take n)).length] := by rw [List.take_add_one, hr]; exact offs_snoc _ _
    have hmono : (encs (rs.take (n + 1))).length ≤ (encs rs).length := by rw [encs_prefix rs (n + 1)]; simp
    have hofl : (offs (rs.take n)).length ≤ 10 := by rw [offs_length, List.length_take]; omega
    obtain ⟨gl, rfl, hcells⟩ := ho5.elem (f := recL) (fun r => rfl) hr (by decide)
    generalize rs[n] = r at *
    rw [htake, List.length_append] at hmono
    refine go T 12 rfl ?_
    refine o1 rfl ?_
    refine op_index_slice T rfl rfl rfl rfl rfl (by omega) (by omega) (p := (⟨gl, 0, none⟩ : Addr).add (n * 4)) (by rw [Int.toNat_natCast]) ?_
    refine o1 rfl ?_
    refine op_load_cells (cs := recL r) T rfl rfl rfl rfl rfl (fun j v hj => by rw [add_of_add]; exact hcells j v hj) ?_
    refine o1 rfl ?_
    have hcall := appendS_has x5 r hrok (by show (1 : Int) + n < _; omega) (by omega) (by omega)
    rw [append_one', if_neg (by have := sealM_length (bodyM r); omega)] at hcall
    refine op_call rfl rfl rfl hcall ?_
    rintro v6 w6 ⟨_, h6⟩
    obtain ⟨rfl, p6, u6, x6⟩ := h6 rfl
    dsimp only at x6
    rw [← hoff, ← List.length_append, ← htake] at x6
    refine go T 10 rfl ?_
    refine neF rfl rfl rfl rfl (by omega) ?_
    refine go T 8 rfl ?_
    refine adI rfl rfl rfl rfl (by omega) (by omega) ?_
    refine go T 2 rfl ?_
    refine Round_n (n + 1) ⟨rfl, rfl, rfl, rfl, rfl, rfl, trivial⟩ ⟨by omega, p6, u6, ?_⟩ (by omega)
    rw [show (1 : Int) + ((n + 1 : Nat) : Int) = 1 + n + 1 from by omega]
    exact x6
  obtain rfl : n = rs.length := by omega
  rw [List.take_length] at x5
  clear x4 hn
  have hoffl : (offs rs).length = rs.length := offs_length rs
  generalize hcl : (1 : Int) + (rs.length : Int) = cl at *
  refine go T 5 rfl ?_
  refine rndX ?_
  refine go T 5 rfl ?_
  refine o1 rfl ?_
  refine op_call rfl rfl rfl (readO_has x5.fs (rawNm 3)) ?_
  rintro v7 w7 ⟨_, hc7, h7⟩
  rw [read_one] at h7
  obtain ⟨ub, rfl, hob, hfb⟩ : ∃ u, v7 = .tuple #[u, .int .i64 0] ∧ Own w7 5 1 u (encs rs).length (u8s (encs rs)) ∧ ∀ h, u.ownBlock = some h → _ ≤ h := h7
  have hsb := hob.bytes
  obtain ⟨Ab, cb, rfl, _, _⟩ := hob.form
  have x7 := x5.keep0 hc7
  refine go T 10 rfl ?_
  refine o1 rfl ?_
  refine op_appB T rfl rfl rfl rfl rfl rfl rfl rfl rfl (MadeB.nil _ w7) hsb (by simp; omega) (fun v8 w8 m8 hc8 hb8 => ?_)
  rw [List.nil_append] at m8
  have x8 := x7.keep0 m8.chg
  obtain ⟨A8, c8, rfl, _, _⟩ := m8.form
  have hrot := rot_one 1048576 cl (rawNm 3) (encs rs) 0 [] wts sec xx
  refine go T 9 rfl ?_
  refine o1 rfl ?_
  have hfp : ∀ k ∈ p5.fp g, k < w7.heap.size := fun k hk => x7.fs.at_.lt k hk
  have hfirm := m8.firm hfp
  have hcall := rot_has g _ p5 (rawNm 3) sec xx w8 x8.fs.at_
  rw [hrot] at hcall
  by_cases hbad : sec < 0 ∨ (((encs rs).length + 63) / 64 : Nat) ≤ sec
  · rw [if_pos hbad] at hcall
    refine op_call rfl rfl rfl hcall ?_
    rintro v9 w9 hd9
    obtain ⟨rfl, _, p9, x9⟩ := x8.step hd9
    dsimp only at x9
    refine neT rfl rfl rfl rfl (by omega) ?_
    refine go T 10 rfl ?_
    exact post1 (.inl rfl) rfl rfl ⟨hc1.trans' x9.chg, rfl⟩
  rw [if_neg hbad] at hcall
  refine op_call rfl rfl rfl hcall ?_
  rintro v9 w9 hd9
  obtain ⟨rfl, hc9, p9, x9⟩ := x8.step hd9
  dsimp only at x9
  have hsa := hfirm w9 hc9
  have hnl : (rotB (encs rs) sec.toNat xx).length = (encs rs).length := rotB_length _ _ _
  generalize rotB (encs rs) sec.toNat xx = now at *
  have hread := read_one 1048576 cl (rawNm 3) now 0 [] wts
  clear hbad hrot hcall hfirm hd9
  generalize oneFs 1048576 cl (rawNm 3) now 0 [] wts = fsm at *
  refine neF rfl rfl rfl rfl (by omega) ?_
  refine go T 8 rfl ?_
  refine o1 rfl ?_
  refine op_call rfl rfl rfl (readO_has x9.fs (rawNm 3)) ?_
  rintro v10 w10 ⟨_, hc10, h10⟩
  rw [hread] at h10
  obtain ⟨un, rfl, hon, _⟩ : ∃ u, v10 = .tuple #[u, .int .i64 0] ∧ Own w10 5 1 u now.length (u8s now) ∧ ∀ h, u.ownBlock = some h → _ ≤ h := h10
  have hsn := hon.bytes
  obtain ⟨An, cn, rfl, _, _⟩ := hon.form
  have x10 := x9.keep0 hc10
  refine go T 12 rfl ?_
  refine o1 rfl ?_
  refine op_call rfl rfl rfl (fits_has A8 _ c8 (encs rs) An _ cn now w10 (SliceOf.kept Ru8.kept _ _ _ _ hc10 hsa) hsn (by omega) (by omega)) ?_
  rintro _ w11 ⟨hc11, rfl⟩
  rw [scanM_encs hok]
  have x11 := x10.keep0 hc11
  cases hfit : fitsR (rs.map bodyM) (encs rs) now with
  | true =>
    refine go T 10 rfl ?_
    exact post1 (.inl rfl) rfl rfl ⟨hc1.trans' x11.chg, rfl⟩
  | false =>
  refine go T 12 rfl ?_
  refine W_loop (σ := Nat) (fun n => [(0, .slice Ar rs.length cr), (8, .pointer (some ⟨g, 0, none⟩)), (9, .pointer (some ⟨gs, 0, none⟩)), (18, .int .i64 (n : Int))])
    (fun n w' => n ≤ rs.length ∧ SegO w2 w' gs g fsm p9 (rawNm 3) (offs rs) (encs rs).length u5)
    (fun n => rs.length - n) 0 ⟨rfl, rfl, rfl, rfl, trivial⟩ ⟨by omega, x11⟩ ?_
  rintro i w12 ⟨hi, x12⟩
  have ho12 := ho2.keep0 x12.chg
  refine run ?_
  refine go T 6 rfl ?_
  refine ltS rfl rfl rfl rfl (fun hcmp => ?_) (fun hcmp => ?_)
  · have hi2 : i < rs.length := by omega
    have hr : rs[i]? = some rs[i] := List.getElem?_eq_getElem hi2
    have hcell := rot_cell hok hnl hfit hr
    obtain ⟨gl, rfl, hcells⟩ := ho12.elem (f := recL) (fun r => rfl) hr (by decide)
    generalize rs[i] = r at *
    refine go T 11 rfl ?_
    refine o1 rfl ?_
    refine op_call rfl rfl rfl (getS_has x12 now hread (by omega) i _ _ (offs_get rs hi2) (offs_next rs hi2) (encs_mono _ _) (by omega)) ?_
    generalize cellM now (encs (rs.take i)).length (encs (rs.take (i + 1))).length = q at *
    obtain ⟨q, er⟩ := q
    dsimp only at *
    rintro _ w13 ⟨hc13, rfl⟩
    refine go T 3 rfl ?_
    refine o1 rfl ?_
    refine op_alloc T rfl rfl (fun g14 w14 hs14 hc14 hg14 => ?_)
    have hg14 : Blk w14 g14 33 [.int .i64 0, .int .i64 0, .string (str []), .string (str [])] := hg14
    have hs14 : w13.heap.size ≤ g14 := hs14
    refine op0 rfl rfl ?_
    refine op_store_agg T rfl rfl rfl rfl rfl rfl hg14 (by exact Nat.le_of_ble_eq_true rfl) (fun w15 hc15 hg15 _ => ?_)
    have hg15 : Blk w15 g14 33 (recL q) := hg15
    have hc1315 : Chg [] w13 w15 := hc14.trans hc15 (fun k hk hlt => by simp at hk; omega)
    have hc1215 := hc13.trans' hc1315
    have x15 := x12.keep0 hc1215
    clear hg14
    rcases hcell with hcell | hcell
    · injection hcell with e1 e2
      subst e1; subst e2
      have hcells15 : ∀ j v, (recL q)[j]? = some v → w15.cell? ((⟨gl, 0, none⟩ : Addr).add (i * 4 + j)) = some v := fun j v hj => hc1215.cell0 (hcells j v hj)
      have heq : recEq q q = true := recEq_iff.2 rfl
      refine go T 4 rfl ?_
      refine W_walk 8 [] fol (by kernel_rfl) (by kernel_rfl) ?_
      refine Walk.plain rfl (by intro val w_ hR hp; exact op_move rfl rfl ⟨Chg.refl _ _, rfl⟩) ?_; dsimp only [List.nil_append, List.cons_append]
      refine Walk.plain rfl (by intro val w_ hR hp; exact op_eql rfl rfl rfl (fun hcmp => ⟨Chg.refl _ _, rfl⟩) (fun hcmp => False.elim (by omega))) ?_; dsimp only [List.nil_append, List.cons_append]
      refine Walk.plain rfl (by intro val w_ hR hp; exact op_move rfl rfl ⟨Chg.refl _ _, rfl⟩) ?_; dsimp only [List.nil_append, List.cons_append]
      refine Walk.guardT rfl rfl rfl (fun _ => rfl) (by intro val w_ hR hp; exact op_load_agg T rfl rfl rfl rfl (hg15.keep0 hR) (by exact Nat.le_of_ble_eq_true rfl) (by exact rfl) ⟨Chg.refl _ _, rfl⟩) ?_; dsimp only [List.nil_append, List.cons_append]
      refine Walk.guardT rfl rfl rfl (fun _ => rfl) (by intro val w_ hR hp; exact op_move rfl rfl ⟨Chg.refl _ _, rfl⟩) ?_; dsimp only [List.nil_append, List.cons_append]
      refine Walk.guardT rfl rfl rfl (fun _ => rfl) (by intro val w_ hR hp; exact op_move rfl rfl ⟨Chg.refl _ _, rfl⟩) ?_; dsimp only [List.nil_append, List.cons_append]
      refine Walk.guardT (v := .pointer (some ((⟨gl, 0, none⟩ : Addr).add (i * 4)))) rfl rfl rfl (fun _ => rfl) (by intro val w_ hR hp; exact op_index_slice T rfl rfl rfl rfl rfl (by omega) (by omega) (by rw [Int.toNat_natCast]) ⟨Chg.refl _ _, rfl⟩) ?_; dsimp only [List.nil_append, List.cons_append]
      refine Walk.guardT (v := .agg (recL q).toArray) rfl rfl rfl (fun _ => rfl) (by intro val w_ hR hp; exact op_load_cells (cs := recL q) T rfl rfl rfl rfl rfl (fun j v hj => by rw [add_of_add]; exact hR.cell0 (hcells15 j v hj)) ⟨Chg.refl _ _, rfl⟩) ?_; dsimp only [List.nil_append, List.cons_append]
      skip
      refine Walk.fin ?_
      intro val w16 hc16 hp
      clear hp
      replace hc15 := hc15.trans' hc16
      replace hg15 := hg15.keep0 hc16
      replace hc1315 := hc1315.trans' hc16
      replace hc1215 := hc1215.trans' hc16
      replace x15 := x15.keep0 hc16
      refine runL ?_
      refine o1 rfl ?_
      refine op_call rfl rfl rfl (req_has q q w16) ?_
      rintro _ w17 ⟨hc17, rfl⟩
      rw [heq]
      replace hc16 := hc16.trans' hc17
      replace hc15 := hc15.trans' hc17
      replace hg15 := hg15.keep0 hc17
      replace hc1315 := hc1315.trans' hc17
      replace hc1215 := hc1215.trans' hc17
      replace x15 := x15.keep0 hc17
      refine go T 4 rfl ?_
      refine neF rfl rfl rfl rfl (by omega) ?_
      refine go T 13 rfl ?_
      refine adI rfl rfl rfl rfl (by omega) (by omega) ?_
      refine go T 2 rfl ?_
      exact Round_n (i + 1) ⟨rfl, rfl, rfl, rfl, trivial⟩ ⟨by omega, x15⟩ (by omega)
    · subst hcell
      refine go T 4 rfl ?_
      refine W_walk 8 [] fol (by kernel_rfl) (by kernel_rfl) ?_
      refine Walk.plain rfl (by intro val w_ hR hp; exact op_move rfl rfl ⟨Chg.refl _ _, rfl⟩) ?_; dsimp only [List.nil_append, List.cons_append]
      refine Walk.plain rfl (by intro val w_ hR hp; exact op_eql rfl rfl rfl (fun hcmp => False.elim (by omega)) (fun hcmp => ⟨Chg.refl _ _, rfl⟩)) ?_; dsimp only [List.nil_append, List.cons_append]
      refine Walk.plain rfl (by intro val w_ hR hp; exact op_move rfl rfl ⟨Chg.refl _ _, rfl⟩) ?_; dsimp only [List.nil_append, List.cons_append]
      refine Walk.guardF rfl rfl rfl (fun _ => rfl) rfl ?_; dsimp only [List.nil_append, List.cons_append]
      refine Walk.guardF rfl rfl rfl (fun _ => rfl) rfl ?_; dsimp only [List.nil_append, List.cons_append]
      refine Walk.guardF rfl rfl rfl (fun _ => rfl) rfl ?_; dsimp only [List.nil_append, List.cons_append]
      refine Walk.guardF rfl rfl rfl (fun _ => rfl) rfl ?_; dsimp only [List.nil_append, List.cons_append]
      refine Walk.guardF rfl rfl rfl (fun _ => rfl) rfl ?_; dsimp only [List.nil_append, List.cons_append]
      skip
      refine Walk.fin ?_
      intro val w16 hc16 hp
      clear hp
      replace hc15 := hc15.trans' hc16
      replace hg15 := hg15.keep0 hc16
      replace hc1315 := hc1315.trans' hc16
      replace hc1215 := hc1215.trans' hc16
      replace x15 := x15.keep0 hc16
      refine runL ?_
      refine go T 5 rfl ?_
      refine neT rfl rfl rfl rfl (by omega) ?_
      refine go T 2 rfl ?_
      refine neF rfl rfl rfl rfl (by omega) ?_
      refine go T 10 rfl ?_
      refine adI rfl rfl rfl rfl (by omega) (by omega) ?_
      refine go T 2 rfl ?_
      exact Round_n (i + 1) ⟨rfl, rfl, rfl, rfl, trivial⟩ ⟨by omega, x15⟩ (by omega)
  obtain rfl : i = rs.length := by omega
  rcases rot_scan hok hnl hfit with hsame | hspoilt
  · subst hsame
    refine go T 5 rfl ?_
    refine rndX ?_
    refine go T 5 rfl ?_
    refine o1 rfl ?_
    refine op_call rfl rfl rfl (openS_has x12.fs 3 (by decide) rs hok (by omega) hread) ?_
    rintro _ w13 ⟨hc13, gO, uo, rfl, y13⟩
    have x13 := x12.keep0 hc13
    unfold ptrV
    refine go T 10 rfl ?_
    refine o1 rfl ?_
    refine op_call rfl rfl rfl (readO_has x13.fs (rawNm 3)) ?_
    rintro v14 w14 ⟨_, hc14, h14⟩
    rw [hread] at h14
    obtain ⟨ur, rfl, hor, _⟩ : ∃ u, v14 = .tuple #[u, .int .i64 0] ∧ Own w14 5 1 u (encs rs).length (u8s (encs rs)) ∧ ∀ h, u.ownBlock = some h → _ ≤ h := h14
    have hsr := hor.bytes
    obtain ⟨Ao, co, rfl, _, _⟩ := hor.form
    refine go T 10 rfl ?_
    refine o1 rfl ?_
    refine op_call rfl rfl rfl (rscan2_has Ao _ co _ w14 hsr (by omega)) ?_
    rintro _ w15 ⟨um, rfl, hc15, hom, _⟩
    rw [rscanM_encs hok] at hom ⊢
    dsimp only at hom ⊢
    obtain ⟨Am, cm, rfl, _, _⟩ := hom.form
    have y15 := (y13.keep0 hc14).keep0 hc15
    refine go T 22 rfl ?_
    refine eqT rfl rfl rfl rfl (by omega) ?_
    refine go T 2 rfl ?_
    refine o1 rfl ?_
    refine op_call rfl rfl rfl (lenS_has y15.seg) ?_
    rintro _ w16 ⟨rfl, rfl⟩
    refine go T 2 rfl ?_
    refine eqT rfl rfl rfl rfl (by omega) ?_
    refine go T 5 rfl ?_
    exact post1 (.inl rfl) rfl rfl ⟨hc1.trans' y15.chg, rfl⟩
  · refine go T 5 rfl ?_
    refine rndX ?_
    refine go T 5 rfl ?_
    refine o1 rfl ?_
    refine op_call rfl rfl rfl (openSpoilt_has x12.fs 3 (by decide) now (by omega) hread hspoilt) ?_
    rintro _ w13 ⟨hc13, rfl⟩
    have x13 := x12.keep0 hc13
    refine go T 10 rfl ?_
    refine o1 rfl ?_
    refine op_call rfl rfl rfl (readO_has x13.fs (rawNm 3)) ?_
    rintro v14 w14 ⟨_, hc14, h14⟩
    rw [hread] at h14
    obtain ⟨ur, rfl, hor, _⟩ : ∃ u, v14 = .tuple #[u, .int .i64 0] ∧ Own w14 5 1 u now.length (u8s now) ∧ ∀ h, u.ownBlock = some h → _ ≤ h := h14
    have hsr := hor.bytes
    obtain ⟨Ao, co, rfl, _, _⟩ := hor.form
    refine go T 10 rfl ?_
    refine o1 rfl ?_
    refine op_call rfl rfl rfl (rscan2_has Ao _ co _ w14 hsr (by omega)) ?_
    rintro _ w15 ⟨um, rfl, hc15, hom, _⟩
    rw [hspoilt]
    refine go T 20 rfl ?_
    refine eqT rfl rfl rfl rfl (by omega) ?_
    refine go T 9 rfl ?_
    exact post1 (.inl rfl) rfl rfl ⟨(hc1.trans' x13.chg).trans' (hc14.trans' hc15), rfl⟩
end Go.Proofs.YtbhnplghnhafiaaDoor.Tryd
/-! From a law's walk to its row: arguments opened by their types' shape; arguments stay; the contract. -/
set_option linter.unusedVariables false
set_option linter.unusedSimpArgs false
namespace Go.Vc
open Go Go.RowKit Go.ChangeShapes Go.WideShapes Go.ChangeAt

/-- A reading of one cell at type t gives some a with R. -/
def Opens (P : Program) (t : TypeId) {α : Type} (R : World → Value → α → Prop) : Prop :=
  ∀ {H : Type} (enc : TypeId × Value → H) (w : World) (base : Nat) (spare : Nat → Bool) (held : Bool) (fuel : Nat) (cs : List Value) (x : DataW H × List MemPlace),
    DataW.trod enc P w base spare held fuel t cs = some x → ∃ u a, cs = [u] ∧ R w u a

theorem list_of {α : Type} {p : Nat → α → Prop} : ∀ n, (∀ i, i < n → ∃ a, p i a) → ∃ L : List α, L.length = n ∧ ∀ i a, L[i]? = some a → p i a
  | 0, _ => ⟨[], rfl, fun i a h => by simp at h⟩
  | n + 1, h => by
    obtain ⟨L, hl, hp⟩ := list_of n (fun i hi => h i (by omega))
    obtain ⟨a, ha⟩ := h n (by omega)
    refine ⟨L ++ [a], by simp [hl], fun i b hb => ?_⟩
    by_cases hi : i < L.length
    · rw [List.getElem?_append_left hi] at hb; exact hp i b hb
    · have : i = L.length := by have := (List.getElem?_eq_some_iff.1 hb).1; simp at this; omega
      subst this
      rw [List.getElem?_append_right (Nat.le_refl _)] at hb
      simp at hb; subst hb; rw [hl]; exact ha

theorem Opens.slice {P : Program} {t e : TypeId} {α : Type} {R : World → Value → α → Prop} (ht : P.underlying t = some (.slice e)) (hc : P.cellsOf e = 1) (hR : Opens P e R) : Opens P t (SliceOf R) := by
  intro H enc w base spare held fuel cs x h
  rcases Go.Deep.open_slice1 ht hc h with ⟨rfl, _⟩ | ⟨a, len, cap, m, n, V, D, Pl, rfl, hb, hl, hm, hmm, _, hx⟩
  · exact ⟨_, [], rfl, SliceOf.nil _ _⟩
  · have hlm : len ≤ m := by rw [hmm]; split <;> omega
    obtain ⟨L, hlen, hL⟩ := list_of (p := fun i a' => R w (V i) a') len (fun i hi => by
      obtain ⟨_, htr⟩ := hx i (by omega)
      obtain ⟨u, a', hu, hr⟩ := hR enc w base spare held n _ _ htr
      injection hu with hu _
      subst hu
      exact ⟨a', hr⟩)
    refine ⟨_, L, rfl, SliceOf.mk hlen.symm (by omega) hm fun i a' ha => ?_⟩
    have hi : i < len := by have := (List.getElem?_eq_some_iff.1 ha).1; omega
    exact ⟨a, V i, rfl, (hx i (by omega)).1, hL i a' ha⟩

theorem Opens.u8 {P : Program} {t : TypeId} (ht : P.underlying t = some (.int .u8)) : Opens P t Ru8 := by
  intro H enc w base spare held fuel cs x h
  obtain ⟨n, rfl, _, hw⟩ := DataW.trod_int ht h
  have hb : 0 ≤ n ∧ n ≤ 255 := by simp [Lit.wf, IntKind.min, IntKind.max, IntKind.signed, IntKind.bits] at hw; omega
  refine ⟨_, UInt8.ofNat n.toNat, rfl, ?_⟩
  unfold Ru8
  have : ((UInt8.ofNat n.toNat).toNat : Int) = n := by
    rw [UInt8.toNat_ofNat']; omega
  rw [this]
theorem Opens.i64 {P : Program} {t : TypeId} (ht : P.underlying t = some (.int .i64)) : Opens P t Ri64 := by
  intro H enc w base spare held fuel cs x h
  obtain ⟨n, rfl, _, hw⟩ := DataW.trod_int ht h
  have hb : -9223372036854775808 ≤ n ∧ n ≤ 9223372036854775807 := by simp [Lit.wf, IntKind.min, IntKind.max, IntKind.signed, IntKind.bits] at hw; omega
  exact ⟨_, n, rfl, rfl, hb.1, hb.2⟩
theorem Opens.bool {P : Program} {t : TypeId} (ht : P.underlying t = some .bool) : Opens P t Rbool := by
  intro H enc w base spare held fuel cs x h
  obtain ⟨b, rfl, _⟩ := DataW.trod_bool ht h
  exact ⟨_, b, rfl, rfl⟩
theorem Opens.str {P : Program} {t : TypeId} (ht : P.underlying t = some .string) : Opens P t Rstr := by
  intro H enc w base spare held fuel cs x h
  obtain ⟨s, rfl, _, hs⟩ := DataW.trod_string ht h
  exact ⟨_, s, rfl, rfl, hs⟩

/-- An argument, opened. -/
theorem Opens.arg {P : Program} {t : TypeId} {α : Type} {R : World → Value → α → Prop} (h : Opens P t R) {w : World} {r : Reach} {base : Nat} {v : Value} {H : Type} {enc : TypeId × Value → H} {sp : Nat → Bool} {held : Bool} {d : DataW H} {ps : List MemPlace} {b0 : Nat}
    (hd : P.underlying t = some .bool ∨ P.underlying t = some .string ∨ (∃ k, P.underlying t = some (.int k)) ∨ ∃ e, P.underlying t = some (.slice e))
    (hval : Value.okWide P w r base t v) (ht : DataW.Trod enc P w b0 sp held t v d ps) : ∃ a, R w v a := by
  obtain ⟨fuel, hf⟩ := ht
  obtain ⟨u, a, hu, hr⟩ := h enc w b0 sp held fuel _ _ hf
  have hv : v.cells = #[v] := by
    rcases hd with hd | hd | ⟨k, hd⟩ | ⟨e, hd⟩
    · obtain ⟨b, rfl⟩ := okWide_bool hd hval; rfl
    · obtain ⟨b, rfl⟩ := okWide_string hd hval; rfl
    · obtain ⟨b, rfl⟩ := okWide_int hd hval; rfl
    · obtain ⟨a, l, c, rfl⟩ := okWide_slice hd hval; rfl
  rw [hv] at hu
  simp at hu
  subst hu
  exact ⟨a, hr⟩

theorem args_stay {H : Type} {enc : TypeId × Value → H} {P : Program} (hl : laidOutB P = true) {W W' : World} (hb : Below W.heap.size W W') :
    ∀ (ts : List TypeId) (vs : List Value) (ds : List (DataW H)) (ps : List MemPlace), (∀ t ∈ ts, P.readableRec t = true ∧ t < P.types.size) → DataW.TrodAll enc P W 0 (fun _ => true) true ts vs ds ps → (∀ x ∈ ps, x.block < W.heap.size) →
      DataW.TrodAll enc P W' 0 (fun b => decide (b < W.heap.size)) true ts vs ds ps
  | [], vs, ds, ps, _, h, _ => by
    obtain ⟨rfl, rfl, rfl⟩ := trodAll_nil h
    exact trodAll_mk0
  | t :: ts, vs, ds, ps, ht, h, hlt => by
    obtain ⟨v, vs', d, ds', p, q, rfl, rfl, rfl, h0, r0⟩ := trodAll_cons h
    exact trodAll_cons_mk (Below.trod hl (ht t (by simp)).1 (ht t (by simp)).2 h0 hb (fun x hx => hlt x (by simp [hx])))
      (args_stay hl hb ts vs' ds' q (fun t' h' => ht t' (by simp [h'])) r0 (fun x hx => hlt x (by simp [hx])))

/-- The contract of a law's row, from its walk. -/
theorem law_lifted {C : Checked} {os : Os} {f : FuncId} {fn : Func} {s : ChangeSpec} {H : Type} {enc : TypeId × Value → H} {tb : TypeId}
    (own : ownKnob C.prog.godebug = none) (laid : laidOutB C.prog = true) (started : os.Started) (noInit : C.prog.inits.idxOf? f = none) (hfn : C.prog.funcs[f]? = some fn)
    (hvars : s.vars = []) (hres : fn.resultTypes = #[tb]) (htb : C.prog.underlying tb = some .bool)
    (hparams : ∀ t ∈ fn.params.toList, C.prog.readableRec t = true ∧ t < C.prog.types.size)
    (hspec : ∀ ds : List (DataW H), ds.length = fn.params.size → s.fn H ds = { results := [.lit (.bool true)], args := ds })
    (witness : ∃ (w : World) (tape : Tape) (i : Input), w.os = os ∧ (w.forCall tape i).Shaped C.prog ∧ i.vars = [] ∧ Input.okWide C.prog (w.forCall tape i) .any w.heap.size f i ∧
      s.pre6 enc C.prog fn [] false (w.forCall tape i).memory i.args ∧ ({} : Assume).holds C.prog (lone (Frame.enter C.prog f i.args .normal) [] (w.forCall tape i)))
    (walk : ∀ (W : World) (base : Nat) (args : Array Value) (ds : List (DataW H)) (ps : List MemPlace), (∀ (j : Nat) t v, fn.params[j]? = some t → args[j]? = some v → Value.okWide C.prog W .any base t v) →
      DataW.TrodAll enc C.prog W 0 (fun _ => true) true fn.params.toList args.toList ds ps → Calls C.prog f args W fun e W' => e = .returned (.bool true) ∧ Chg [] W W') :
    ReturnsInHanded {} C os f .any (s.pre6 enc C.prog fn [] false) (s.post enc C.prog fn false true false false) := by
  refine returnsInHanded_of_change own started noInit hfn witness ?_
  intro W base args ds gs before hval hW _ _
  have hW' := hW
  obtain ⟨p, q, hA, hV, rfl, hfz, hnd⟩ := hW
  rw [hvars] at hV
  obtain ⟨rfl, rfl⟩ := trodVars_none hV
  refine (walk W base args ds p hval hA).mono fun e W' ⟨he, hc⟩ => ?_
  subst he
  have bel := hc.below
  have hlen : ds.length = fn.params.size := by
    have := trodAll_length hA
    have h2 := this.1; have h3 := this.2
    simp at h2 h3 ⊢
    omega
  have hsp := hspec ds hlen
  refine ⟨_, rfl, ds, [], p ++ [], [], p, [], hW', ?_, ?_, ?_, bel.frame _, fun h => by cases h⟩
  · rw [List.append_nil, hsp, hres]
    exact trodAll_mk1 (shut_bool htb _)
  · rw [List.append_nil, hsp]
    exact args_stay laid bel _ _ _ _ hparams hA (fun x hx => hW'.lt x (by simp [hx]))
  · rw [hvars, List.append_nil, hsp]; exact rfl
end Go.Vc
