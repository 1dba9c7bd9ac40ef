/- Part 3 of the texts that the law of the last one leans on: steps of the walk and contracts of functions. Its conditions stand in each theorem. -/
import Derived.Test.YtbhnplghnhafiaaDoorRawRotK2
import Derived.Test.YtbhnplghnhafiaaDoorRawRotK1
import Derived.Test.YtbhnplghnhafiaaDoorProg
import Derived.Shelf.SlIter.Nil
import Derived.Shelf.SortM.Plain
import Derived.Shelf.SortM.SortNone
import Derived.Shelf.SlMaps.Clone
import Derived.Ground.GgzProg
import Derived.Ground.SlgmProg
import Derived.Ground.SlmcProg
/-! The references of numbers and records, walked. -/
set_option linter.unusedVariables false
namespace Go.Vc
open Go
def nullR : RecM := ⟨0, 0, [], []⟩
def recEq (a b : RecM) : Bool := decide (a.kind = b.kind ∧ a.seq = b.seq ∧ a.key = b.key ∧ a.val = b.val)
theorem recEq_iff {a b : RecM} : recEq a b = true ↔ a = b := by
  obtain ⟨a1, a2, a3, a4⟩ := a
  obtain ⟨b1, b2, b3, b4⟩ := b
  simp [recEq]
end Go.Vc
namespace Go.Proofs.YtbhnplghnhafiaaDoor.Tryd
open Go Go.Vc
set_option maxHeartbeats 2000000 in
theorem rget_has (A : Option Addr) (n c : Nat) (l : List UInt8) (w : World) (hl : SliceOf Ru8 w (.slice A n c) l) :
    Has Go.Proofs.Tryd.prog 63 #[.slice A n c] w (fun v w' => w' = w ∧ v = .tuple #[.int .u64 ((getM l).1 : Nat), .int .i64 ((getM l).2 : Nat)]) := by
  obtain ⟨rfl, hl1, hl2⟩ := hl.len
  unfold maxLen at hl2
  refine enter Go.Proofs.Tryd.func63 rfl rfl (by decide) rfl (e := [(0, .slice A l.length c)]) ⟨rfl, trivial⟩ ?_
  repeat (first | refine W_seq ?_ | refine W_block ?_ | refine W_scope ?_ | refine W_region ?_ | refine W_skip ?_ | refine W_exit ?_ | refine W_ret ?_ | refine W_label ?_ | refine Then_n ?_ | refine Then_x ?_ | refine Then_r ?_ | refine InBlock_hit ?_ | refine InBlock_miss rfl ?_ | refine InBlock_n ?_ | refine InBlock_r ?_ | refine NoGoto_n ?_ | refine NoGoto_x ?_ | refine NoGoto_r ?_ | refine Meet_x ?_ | refine Meet_r ?_ | refine Round_x ?_ | refine Round_r ?_ | refine WL_nil ?_ | refine W_condT rfl ?_ | refine W_condF rfl ?_ | refine WL_some rfl rfl rfl ?_ | refine WL_none rfl rfl ?_ | refine WL_guardT rfl rfl rfl rfl ?_ | refine WL_guardF rfl rfl rfl rfl rfl ?_ | refine WL_guardU rfl rfl rfl rfl ?_ | refine op_move rfl rfl ?_ | refine op_assign rfl rfl ?_ | refine op_pick rfl rfl rfl rfl ?_ | refine op_len_slice T rfl rfl rfl rfl ?_ | refine op_len_string T rfl rfl rfl rfl ?_ | refine op_add rfl rfl rfl (wrap_i64_in (by omega) (by omega)) ?_ | refine op_subt rfl rfl rfl (wrap_i64_in (by omega) (by omega)) ?_ | refine op_mul rfl rfl rfl (wrap_i64_in (by omega) (by omega)) ?_ | refine op_max rfl rfl rfl ?_ | refine op_min rfl rfl rfl ?_ | refine op_notT rfl rfl ?_ | refine op_notF rfl rfl ?_ | refine op_not rfl rfl rfl ?_ | refine op_extract rfl rfl rfl ?_ | refine op_nilCheck rfl rfl ?_ | refine op_rem rfl rfl rfl (by omega) rfl ?_ | refine op_index_own T rfl rfl rfl rfl rfl rfl (by omega) ?_ | refine op_index_nat T rfl rfl rfl rfl rfl rfl (by omega) ?_ | refine op_load T rfl rfl rfl rfl (by assumption) ?_ | refine op_lss rfl rfl rfl (fun hc => ?_) (fun hc => False.elim (by omega)) | refine op_lss rfl rfl rfl (fun hc => False.elim (by omega)) (fun hc => ?_) | refine op_leq rfl rfl rfl (fun hc => ?_) (fun hc => False.elim (by omega)) | refine op_leq rfl rfl rfl (fun hc => False.elim (by omega)) (fun hc => ?_) | refine op_gtr rfl rfl rfl (fun hc => ?_) (fun hc => False.elim (by omega)) | refine op_gtr rfl rfl rfl (fun hc => False.elim (by omega)) (fun hc => ?_) | refine op_geq rfl rfl rfl (fun hc => ?_) (fun hc => False.elim (by omega)) | refine op_geq rfl rfl rfl (fun hc => False.elim (by omega)) (fun hc => ?_) | refine op_eql rfl rfl rfl (fun hc => ?_) (fun hc => False.elim (by omega)) | refine op_eql rfl rfl rfl (fun hc => False.elim (by omega)) (fun hc => ?_) | refine op_neq rfl rfl rfl (fun hc => ?_) (fun hc => False.elim (by omega)) | refine op_neq rfl rfl rfl (fun hc => False.elim (by omega)) (fun hc => ?_))
  refine W_loop (σ := Nat) (fun k => [(0, .slice A l.length c), (4, .int .i64 ((k : Int) + 1))])
    (fun (k : Nat) w' => k ≤ 10 ∧ k ≤ l.length ∧ (∀ x ∈ l.take k, 127 < x.toNat) ∧ w' = w) (fun k => l.length - k) 0 ⟨rfl, rfl, trivial⟩ ⟨by omega, by omega, by simp, rfl⟩ ?_
  rintro k w1 ⟨hk10, hkl, hbig, rfl⟩
  have hk1 : (k : Int) + 1 - 1 = (k : Int) := by omega
  by_cases h10 : k = 10
  · subst h10
    rw [getM_none hbig]
    repeat (first | refine W_seq ?_ | refine W_block ?_ | refine W_scope ?_ | refine W_region ?_ | refine W_skip ?_ | refine W_exit ?_ | refine W_ret ?_ | refine W_label ?_ | refine Then_n ?_ | refine Then_x ?_ | refine Then_r ?_ | refine InBlock_hit ?_ | refine InBlock_miss rfl ?_ | refine InBlock_n ?_ | refine InBlock_r ?_ | refine NoGoto_n ?_ | refine NoGoto_x ?_ | refine NoGoto_r ?_ | refine Meet_x ?_ | refine Meet_r ?_ | refine Round_x ?_ | refine Round_r ?_ | refine WL_nil ?_ | refine W_condT rfl ?_ | refine W_condF rfl ?_ | refine WL_some rfl rfl rfl ?_ | refine WL_none rfl rfl ?_ | refine WL_guardT rfl rfl rfl rfl ?_ | refine WL_guardF rfl rfl rfl rfl rfl ?_ | refine WL_guardU rfl rfl rfl rfl ?_ | refine op_move rfl rfl ?_ | refine op_assign rfl rfl ?_ | refine op_pick rfl rfl rfl rfl ?_ | refine op_len_slice T rfl rfl rfl rfl ?_ | refine op_len_string T rfl rfl rfl rfl ?_ | refine op_add rfl rfl rfl (wrap_i64_in (by omega) (by omega)) ?_ | refine op_subt rfl rfl rfl (wrap_i64_in (by omega) (by omega)) ?_ | refine op_mul rfl rfl rfl (wrap_i64_in (by omega) (by omega)) ?_ | refine op_max rfl rfl rfl ?_ | refine op_min rfl rfl rfl ?_ | refine op_notT rfl rfl ?_ | refine op_notF rfl rfl ?_ | refine op_not rfl rfl rfl ?_ | refine op_extract rfl rfl rfl ?_ | refine op_nilCheck rfl rfl ?_ | refine op_rem rfl rfl rfl (by omega) rfl ?_ | refine op_index_own T rfl rfl rfl rfl rfl rfl (by omega) ?_ | refine op_index_nat T rfl rfl rfl rfl rfl rfl (by omega) ?_ | refine op_load T rfl rfl rfl rfl (by assumption) ?_ | refine op_lss rfl rfl rfl (fun hc => ?_) (fun hc => False.elim (by omega)) | refine op_lss rfl rfl rfl (fun hc => False.elim (by omega)) (fun hc => ?_) | refine op_leq rfl rfl rfl (fun hc => ?_) (fun hc => False.elim (by omega)) | refine op_leq rfl rfl rfl (fun hc => False.elim (by omega)) (fun hc => ?_) | refine op_gtr rfl rfl rfl (fun hc => ?_) (fun hc => False.elim (by omega)) | refine op_gtr rfl rfl rfl (fun hc => False.elim (by omega)) (fun hc => ?_) | refine op_geq rfl rfl rfl (fun hc => ?_) (fun hc => False.elim (by omega)) | refine op_geq rfl rfl rfl (fun hc => False.elim (by omega)) (fun hc => ?_) | refine op_eql rfl rfl rfl (fun hc => ?_) (fun hc => False.elim (by omega)) | refine op_eql rfl rfl rfl (fun hc => False.elim (by omega)) (fun hc => ?_) | refine op_neq rfl rfl rfl (fun hc => ?_) (fun hc => False.elim (by omega)) | refine op_neq rfl rfl rfl (fun hc => False.elim (by omega)) (fun hc => ?_))
    exact post2 (.inl rfl) rfl rfl rfl ⟨rfl, rfl⟩
  by_cases hend : k = l.length
  · rw [getM_none (fun x hx => hbig x (by rw [hend, List.take_length]; exact List.mem_of_mem_take hx))]
    repeat (first | refine W_seq ?_ | refine W_block ?_ | refine W_scope ?_ | refine W_region ?_ | refine W_skip ?_ | refine W_exit ?_ | refine W_ret ?_ | refine W_label ?_ | refine Then_n ?_ | refine Then_x ?_ | refine Then_r ?_ | refine InBlock_hit ?_ | refine InBlock_miss rfl ?_ | refine InBlock_n ?_ | refine InBlock_r ?_ | refine NoGoto_n ?_ | refine NoGoto_x ?_ | refine NoGoto_r ?_ | refine Meet_x ?_ | refine Meet_r ?_ | refine Round_x ?_ | refine Round_r ?_ | refine WL_nil ?_ | refine W_condT rfl ?_ | refine W_condF rfl ?_ | refine WL_some rfl rfl rfl ?_ | refine WL_none rfl rfl ?_ | refine WL_guardT rfl rfl rfl rfl ?_ | refine WL_guardF rfl rfl rfl rfl rfl ?_ | refine WL_guardU rfl rfl rfl rfl ?_ | refine op_move rfl rfl ?_ | refine op_assign rfl rfl ?_ | refine op_pick rfl rfl rfl rfl ?_ | refine op_len_slice T rfl rfl rfl rfl ?_ | refine op_len_string T rfl rfl rfl rfl ?_ | refine op_add rfl rfl rfl (wrap_i64_in (by omega) (by omega)) ?_ | refine op_subt rfl rfl rfl (wrap_i64_in (by omega) (by omega)) ?_ | refine op_mul rfl rfl rfl (wrap_i64_in (by omega) (by omega)) ?_ | refine op_max rfl rfl rfl ?_ | refine op_min rfl rfl rfl ?_ | refine op_notT rfl rfl ?_ | refine op_notF rfl rfl ?_ | refine op_not rfl rfl rfl ?_ | refine op_extract rfl rfl rfl ?_ | refine op_nilCheck rfl rfl ?_ | refine op_rem rfl rfl rfl (by omega) rfl ?_ | refine op_index_own T rfl rfl rfl rfl rfl rfl (by omega) ?_ | refine op_index_nat T rfl rfl rfl rfl rfl rfl (by omega) ?_ | refine op_load T rfl rfl rfl rfl (by assumption) ?_ | refine op_lss rfl rfl rfl (fun hc => ?_) (fun hc => False.elim (by omega)) | refine op_lss rfl rfl rfl (fun hc => False.elim (by omega)) (fun hc => ?_) | refine op_leq rfl rfl rfl (fun hc => ?_) (fun hc => False.elim (by omega)) | refine op_leq rfl rfl rfl (fun hc => False.elim (by omega)) (fun hc => ?_) | refine op_gtr rfl rfl rfl (fun hc => ?_) (fun hc => False.elim (by omega)) | refine op_gtr rfl rfl rfl (fun hc => False.elim (by omega)) (fun hc => ?_) | refine op_geq rfl rfl rfl (fun hc => ?_) (fun hc => False.elim (by omega)) | refine op_geq rfl rfl rfl (fun hc => False.elim (by omega)) (fun hc => ?_) | refine op_eql rfl rfl rfl (fun hc => ?_) (fun hc => False.elim (by omega)) | refine op_eql rfl rfl rfl (fun hc => False.elim (by omega)) (fun hc => ?_) | refine op_neq rfl rfl rfl (fun hc => ?_) (fun hc => False.elim (by omega)) | refine op_neq rfl rfl rfl (fun hc => False.elim (by omega)) (fun hc => ?_))
    exact post2 (.inl rfl) rfl rfl rfl ⟨rfl, rfl⟩
  have hlt : k < l.length := by omega
  have hget := List.getElem?_eq_getElem hlt
  obtain ⟨ad, u, rfl, hu, rfl⟩ := hl.get (i := k) hget
  have hat := fun hs => getM_at (b := l) (k := k) (by omega) hget hs hbig
  have htake : l.take (k + 1) = l.take k ++ [l[k]] := by rw [List.take_add_one, hget]; rfl
  generalize l[k] = ch at *
  have hch := ch.toNat_lt
  repeat (first | refine W_seq ?_ | refine W_block ?_ | refine W_scope ?_ | refine W_region ?_ | refine W_skip ?_ | refine W_exit ?_ | refine W_ret ?_ | refine W_label ?_ | refine Then_n ?_ | refine Then_x ?_ | refine Then_r ?_ | refine InBlock_hit ?_ | refine InBlock_miss rfl ?_ | refine InBlock_n ?_ | refine InBlock_r ?_ | refine NoGoto_n ?_ | refine NoGoto_x ?_ | refine NoGoto_r ?_ | refine Meet_x ?_ | refine Meet_r ?_ | refine Round_x ?_ | refine Round_r ?_ | refine WL_nil ?_ | refine W_condT rfl ?_ | refine W_condF rfl ?_ | refine WL_some rfl rfl rfl ?_ | refine WL_none rfl rfl ?_ | refine WL_guardT rfl rfl rfl rfl ?_ | refine WL_guardF rfl rfl rfl rfl rfl ?_ | refine WL_guardU rfl rfl rfl rfl ?_ | refine op_move rfl rfl ?_ | refine op_assign rfl rfl ?_ | refine op_pick rfl rfl rfl rfl ?_ | refine op_len_slice T rfl rfl rfl rfl ?_ | refine op_len_string T rfl rfl rfl rfl ?_ | refine op_add rfl rfl rfl (wrap_i64_in (by omega) (by omega)) ?_ | refine op_subt rfl rfl rfl (wrap_i64_in (by omega) (by omega)) ?_ | refine op_mul rfl rfl rfl (wrap_i64_in (by omega) (by omega)) ?_ | refine op_max rfl rfl rfl ?_ | refine op_min rfl rfl rfl ?_ | refine op_notT rfl rfl ?_ | refine op_notF rfl rfl ?_ | refine op_not rfl rfl rfl ?_ | refine op_extract rfl rfl rfl ?_ | refine op_nilCheck rfl rfl ?_ | refine op_rem rfl rfl rfl (by omega) rfl ?_ | refine op_index_own T rfl rfl rfl rfl rfl rfl (by omega) ?_ | refine op_index_nat T rfl rfl rfl rfl rfl rfl (by omega) ?_ | refine op_load T rfl rfl rfl rfl (by assumption) ?_ | refine op_lss rfl rfl rfl (fun hc => ?_) (fun hc => False.elim (by omega)) | refine op_lss rfl rfl rfl (fun hc => False.elim (by omega)) (fun hc => ?_) | refine op_leq rfl rfl rfl (fun hc => ?_) (fun hc => False.elim (by omega)) | refine op_leq rfl rfl rfl (fun hc => False.elim (by omega)) (fun hc => ?_) | refine op_gtr rfl rfl rfl (fun hc => ?_) (fun hc => False.elim (by omega)) | refine op_gtr rfl rfl rfl (fun hc => False.elim (by omega)) (fun hc => ?_) | refine op_geq rfl rfl rfl (fun hc => ?_) (fun hc => False.elim (by omega)) | refine op_geq rfl rfl rfl (fun hc => False.elim (by omega)) (fun hc => ?_) | refine op_eql rfl rfl rfl (fun hc => ?_) (fun hc => False.elim (by omega)) | refine op_eql rfl rfl rfl (fun hc => False.elim (by omega)) (fun hc => ?_) | refine op_neq rfl rfl rfl (fun hc => ?_) (fun hc => False.elim (by omega)) | refine op_neq rfl rfl rfl (fun hc => False.elim (by omega)) (fun hc => ?_))
  rw [hk1]
  repeat (first | refine W_seq ?_ | refine W_block ?_ | refine W_scope ?_ | refine W_region ?_ | refine W_skip ?_ | refine W_exit ?_ | refine W_ret ?_ | refine W_label ?_ | refine Then_n ?_ | refine Then_x ?_ | refine Then_r ?_ | refine InBlock_hit ?_ | refine InBlock_miss rfl ?_ | refine InBlock_n ?_ | refine InBlock_r ?_ | refine NoGoto_n ?_ | refine NoGoto_x ?_ | refine NoGoto_r ?_ | refine Meet_x ?_ | refine Meet_r ?_ | refine Round_x ?_ | refine Round_r ?_ | refine WL_nil ?_ | refine W_condT rfl ?_ | refine W_condF rfl ?_ | refine WL_some rfl rfl rfl ?_ | refine WL_none rfl rfl ?_ | refine WL_guardT rfl rfl rfl rfl ?_ | refine WL_guardF rfl rfl rfl rfl rfl ?_ | refine WL_guardU rfl rfl rfl rfl ?_ | refine op_move rfl rfl ?_ | refine op_assign rfl rfl ?_ | refine op_pick rfl rfl rfl rfl ?_ | refine op_len_slice T rfl rfl rfl rfl ?_ | refine op_len_string T rfl rfl rfl rfl ?_ | refine op_add rfl rfl rfl (wrap_i64_in (by omega) (by omega)) ?_ | refine op_subt rfl rfl rfl (wrap_i64_in (by omega) (by omega)) ?_ | refine op_mul rfl rfl rfl (wrap_i64_in (by omega) (by omega)) ?_ | refine op_max rfl rfl rfl ?_ | refine op_min rfl rfl rfl ?_ | refine op_notT rfl rfl ?_ | refine op_notF rfl rfl ?_ | refine op_not rfl rfl rfl ?_ | refine op_extract rfl rfl rfl ?_ | refine op_nilCheck rfl rfl ?_ | refine op_rem rfl rfl rfl (by omega) rfl ?_ | refine op_index_own T rfl rfl rfl rfl rfl rfl (by omega) ?_ | refine op_index_nat T rfl rfl rfl rfl rfl rfl (by omega) ?_ | refine op_load T rfl rfl rfl rfl (by assumption) ?_ | refine op_lss rfl rfl rfl (fun hc => ?_) (fun hc => False.elim (by omega)) | refine op_lss rfl rfl rfl (fun hc => False.elim (by omega)) (fun hc => ?_) | refine op_leq rfl rfl rfl (fun hc => ?_) (fun hc => False.elim (by omega)) | refine op_leq rfl rfl rfl (fun hc => False.elim (by omega)) (fun hc => ?_) | refine op_gtr rfl rfl rfl (fun hc => ?_) (fun hc => False.elim (by omega)) | refine op_gtr rfl rfl rfl (fun hc => False.elim (by omega)) (fun hc => ?_) | refine op_geq rfl rfl rfl (fun hc => ?_) (fun hc => False.elim (by omega)) | refine op_geq rfl rfl rfl (fun hc => False.elim (by omega)) (fun hc => ?_) | refine op_eql rfl rfl rfl (fun hc => ?_) (fun hc => False.elim (by omega)) | refine op_eql rfl rfl rfl (fun hc => False.elim (by omega)) (fun hc => ?_) | refine op_neq rfl rfl rfl (fun hc => ?_) (fun hc => False.elim (by omega)) | refine op_neq rfl rfl rfl (fun hc => False.elim (by omega)) (fun hc => ?_))
  by_cases hgo : 127 < ch.toNat
  · repeat (first | refine W_seq ?_ | refine W_block ?_ | refine W_scope ?_ | refine W_region ?_ | refine W_skip ?_ | refine W_exit ?_ | refine W_ret ?_ | refine W_label ?_ | refine Then_n ?_ | refine Then_x ?_ | refine Then_r ?_ | refine InBlock_hit ?_ | refine InBlock_miss rfl ?_ | refine InBlock_n ?_ | refine InBlock_r ?_ | refine NoGoto_n ?_ | refine NoGoto_x ?_ | refine NoGoto_r ?_ | refine Meet_x ?_ | refine Meet_r ?_ | refine Round_x ?_ | refine Round_r ?_ | refine WL_nil ?_ | refine W_condT rfl ?_ | refine W_condF rfl ?_ | refine WL_some rfl rfl rfl ?_ | refine WL_none rfl rfl ?_ | refine WL_guardT rfl rfl rfl rfl ?_ | refine WL_guardF rfl rfl rfl rfl rfl ?_ | refine WL_guardU rfl rfl rfl rfl ?_ | refine op_move rfl rfl ?_ | refine op_assign rfl rfl ?_ | refine op_pick rfl rfl rfl rfl ?_ | refine op_len_slice T rfl rfl rfl rfl ?_ | refine op_len_string T rfl rfl rfl rfl ?_ | refine op_add rfl rfl rfl (wrap_i64_in (by omega) (by omega)) ?_ | refine op_subt rfl rfl rfl (wrap_i64_in (by omega) (by omega)) ?_ | refine op_mul rfl rfl rfl (wrap_i64_in (by omega) (by omega)) ?_ | refine op_max rfl rfl rfl ?_ | refine op_min rfl rfl rfl ?_ | refine op_notT rfl rfl ?_ | refine op_notF rfl rfl ?_ | refine op_not rfl rfl rfl ?_ | refine op_extract rfl rfl rfl ?_ | refine op_nilCheck rfl rfl ?_ | refine op_rem rfl rfl rfl (by omega) rfl ?_ | refine op_index_own T rfl rfl rfl rfl rfl rfl (by omega) ?_ | refine op_index_nat T rfl rfl rfl rfl rfl rfl (by omega) ?_ | refine op_load T rfl rfl rfl rfl (by assumption) ?_ | refine op_lss rfl rfl rfl (fun hc => ?_) (fun hc => False.elim (by omega)) | refine op_lss rfl rfl rfl (fun hc => False.elim (by omega)) (fun hc => ?_) | refine op_leq rfl rfl rfl (fun hc => ?_) (fun hc => False.elim (by omega)) | refine op_leq rfl rfl rfl (fun hc => False.elim (by omega)) (fun hc => ?_) | refine op_gtr rfl rfl rfl (fun hc => ?_) (fun hc => False.elim (by omega)) | refine op_gtr rfl rfl rfl (fun hc => False.elim (by omega)) (fun hc => ?_) | refine op_geq rfl rfl rfl (fun hc => ?_) (fun hc => False.elim (by omega)) | refine op_geq rfl rfl rfl (fun hc => False.elim (by omega)) (fun hc => ?_) | refine op_eql rfl rfl rfl (fun hc => ?_) (fun hc => False.elim (by omega)) | refine op_eql rfl rfl rfl (fun hc => False.elim (by omega)) (fun hc => ?_) | refine op_neq rfl rfl rfl (fun hc => ?_) (fun hc => False.elim (by omega)) | refine op_neq rfl rfl rfl (fun hc => False.elim (by omega)) (fun hc => ?_))
    refine Round_n (k + 1) ⟨rfl, some_int (by omega), trivial⟩ ⟨by omega, by omega, fun x hx => ?_, rfl⟩ (by omega)
    rw [htake] at hx
    rcases List.mem_append.1 hx with hx | hx
    · exact hbig x hx
    · simp at hx; subst hx; exact hgo
  have hat := hat hgo
  repeat (first | refine W_seq ?_ | refine W_block ?_ | refine W_scope ?_ | refine W_region ?_ | refine W_skip ?_ | refine W_exit ?_ | refine W_ret ?_ | refine W_label ?_ | refine Then_n ?_ | refine Then_x ?_ | refine Then_r ?_ | refine InBlock_hit ?_ | refine InBlock_miss rfl ?_ | refine InBlock_n ?_ | refine InBlock_r ?_ | refine NoGoto_n ?_ | refine NoGoto_x ?_ | refine NoGoto_r ?_ | refine Meet_x ?_ | refine Meet_r ?_ | refine Round_x ?_ | refine Round_r ?_ | refine WL_nil ?_ | refine W_condT rfl ?_ | refine W_condF rfl ?_ | refine WL_some rfl rfl rfl ?_ | refine WL_none rfl rfl ?_ | refine WL_guardT rfl rfl rfl rfl ?_ | refine WL_guardF rfl rfl rfl rfl rfl ?_ | refine WL_guardU rfl rfl rfl rfl ?_ | refine op_move rfl rfl ?_ | refine op_assign rfl rfl ?_ | refine op_pick rfl rfl rfl rfl ?_ | refine op_len_slice T rfl rfl rfl rfl ?_ | refine op_len_string T rfl rfl rfl rfl ?_ | refine op_add rfl rfl rfl (wrap_i64_in (by omega) (by omega)) ?_ | refine op_subt rfl rfl rfl (wrap_i64_in (by omega) (by omega)) ?_ | refine op_mul rfl rfl rfl (wrap_i64_in (by omega) (by omega)) ?_ | refine op_max rfl rfl rfl ?_ | refine op_min rfl rfl rfl ?_ | refine op_notT rfl rfl ?_ | refine op_notF rfl rfl ?_ | refine op_not rfl rfl rfl ?_ | refine op_extract rfl rfl rfl ?_ | refine op_nilCheck rfl rfl ?_ | refine op_rem rfl rfl rfl (by omega) rfl ?_ | refine op_index_own T rfl rfl rfl rfl rfl rfl (by omega) ?_ | refine op_index_nat T rfl rfl rfl rfl rfl rfl (by omega) ?_ | refine op_load T rfl rfl rfl rfl (by assumption) ?_ | refine op_lss rfl rfl rfl (fun hc => ?_) (fun hc => False.elim (by omega)) | refine op_lss rfl rfl rfl (fun hc => False.elim (by omega)) (fun hc => ?_) | refine op_leq rfl rfl rfl (fun hc => ?_) (fun hc => False.elim (by omega)) | refine op_leq rfl rfl rfl (fun hc => False.elim (by omega)) (fun hc => ?_) | refine op_gtr rfl rfl rfl (fun hc => ?_) (fun hc => False.elim (by omega)) | refine op_gtr rfl rfl rfl (fun hc => False.elim (by omega)) (fun hc => ?_) | refine op_geq rfl rfl rfl (fun hc => ?_) (fun hc => False.elim (by omega)) | refine op_geq rfl rfl rfl (fun hc => False.elim (by omega)) (fun hc => ?_) | refine op_eql rfl rfl rfl (fun hc => ?_) (fun hc => False.elim (by omega)) | refine op_eql rfl rfl rfl (fun hc => False.elim (by omega)) (fun hc => ?_) | refine op_neq rfl rfl rfl (fun hc => ?_) (fun hc => False.elim (by omega)) | refine op_neq rfl rfl rfl (fun hc => False.elim (by omega)) (fun hc => ?_))
  rw [hk1]
  refine W_loop (σ := Nat) (fun j => [(0, .slice (some ad) l.length c), (4, .int .i64 ((k : Int) + 1)), (5, .int .u64 (horn ((l.take (k + 1)).drop j) : Nat)), (6, .int .i64 ((j : Int) - 1))])
    (fun (j : Nat) w' => j ≤ k + 1 ∧ (j = 0 → ¬ (k = 9 ∧ 1 < ch.toNat)) ∧ w' = w1) (fun j => j) (k + 1) ⟨rfl, rfl, ?_, some_int (by omega), trivial⟩ ⟨by omega, by omega, rfl⟩ ?_
  · have : (l.take (k + 1)).drop (k + 1) = [] := List.drop_eq_nil_of_le (by rw [List.length_take]; omega)
    rw [this]; rfl
  rintro j w2 ⟨hj, hnb, rfl⟩
  by_cases hj0 : j = 0
  · subst hj0
    rw [List.drop_zero]
    repeat (first | refine W_seq ?_ | refine W_block ?_ | refine W_scope ?_ | refine W_region ?_ | refine W_skip ?_ | refine W_exit ?_ | refine W_ret ?_ | refine W_label ?_ | refine Then_n ?_ | refine Then_x ?_ | refine Then_r ?_ | refine InBlock_hit ?_ | refine InBlock_miss rfl ?_ | refine InBlock_n ?_ | refine InBlock_r ?_ | refine NoGoto_n ?_ | refine NoGoto_x ?_ | refine NoGoto_r ?_ | refine Meet_x ?_ | refine Meet_r ?_ | refine Round_x ?_ | refine Round_r ?_ | refine WL_nil ?_ | refine W_condT rfl ?_ | refine W_condF rfl ?_ | refine WL_some rfl rfl rfl ?_ | refine WL_none rfl rfl ?_ | refine WL_guardT rfl rfl rfl rfl ?_ | refine WL_guardF rfl rfl rfl rfl rfl ?_ | refine WL_guardU rfl rfl rfl rfl ?_ | refine op_move rfl rfl ?_ | refine op_assign rfl rfl ?_ | refine op_pick rfl rfl rfl rfl ?_ | refine op_len_slice T rfl rfl rfl rfl ?_ | refine op_len_string T rfl rfl rfl rfl ?_ | refine op_add rfl rfl rfl (wrap_i64_in (by omega) (by omega)) ?_ | refine op_subt rfl rfl rfl (wrap_i64_in (by omega) (by omega)) ?_ | refine op_mul rfl rfl rfl (wrap_i64_in (by omega) (by omega)) ?_ | refine op_max rfl rfl rfl ?_ | refine op_min rfl rfl rfl ?_ | refine op_notT rfl rfl ?_ | refine op_notF rfl rfl ?_ | refine op_not rfl rfl rfl ?_ | refine op_extract rfl rfl rfl ?_ | refine op_nilCheck rfl rfl ?_ | refine op_rem rfl rfl rfl (by omega) rfl ?_ | refine op_index_own T rfl rfl rfl rfl rfl rfl (by omega) ?_ | refine op_index_nat T rfl rfl rfl rfl rfl rfl (by omega) ?_ | refine op_load T rfl rfl rfl rfl (by assumption) ?_ | refine op_lss rfl rfl rfl (fun hc => ?_) (fun hc => False.elim (by omega)) | refine op_lss rfl rfl rfl (fun hc => False.elim (by omega)) (fun hc => ?_) | refine op_leq rfl rfl rfl (fun hc => ?_) (fun hc => False.elim (by omega)) | refine op_leq rfl rfl rfl (fun hc => False.elim (by omega)) (fun hc => ?_) | refine op_gtr rfl rfl rfl (fun hc => ?_) (fun hc => False.elim (by omega)) | refine op_gtr rfl rfl rfl (fun hc => False.elim (by omega)) (fun hc => ?_) | refine op_geq rfl rfl rfl (fun hc => ?_) (fun hc => False.elim (by omega)) | refine op_geq rfl rfl rfl (fun hc => False.elim (by omega)) (fun hc => ?_) | refine op_eql rfl rfl rfl (fun hc => ?_) (fun hc => False.elim (by omega)) | refine op_eql rfl rfl rfl (fun hc => False.elim (by omega)) (fun hc => ?_) | refine op_neq rfl rfl rfl (fun hc => ?_) (fun hc => False.elim (by omega)) | refine op_neq rfl rfl rfl (fun hc => False.elim (by omega)) (fun hc => ?_))
    by_cases hz : 0 < k ∧ ch.toNat = 0
    · rw [if_pos (.inl hz)] at hat
      rw [hat]
      have : 0 < k := hz.1
      repeat (first | refine W_seq ?_ | refine W_block ?_ | refine W_scope ?_ | refine W_region ?_ | refine W_skip ?_ | refine W_exit ?_ | refine W_ret ?_ | refine W_label ?_ | refine Then_n ?_ | refine Then_x ?_ | refine Then_r ?_ | refine InBlock_hit ?_ | refine InBlock_miss rfl ?_ | refine InBlock_n ?_ | refine InBlock_r ?_ | refine NoGoto_n ?_ | refine NoGoto_x ?_ | refine NoGoto_r ?_ | refine Meet_x ?_ | refine Meet_r ?_ | refine Round_x ?_ | refine Round_r ?_ | refine WL_nil ?_ | refine W_condT rfl ?_ | refine W_condF rfl ?_ | refine WL_some rfl rfl rfl ?_ | refine WL_none rfl rfl ?_ | refine WL_guardT rfl rfl rfl rfl ?_ | refine WL_guardF rfl rfl rfl rfl rfl ?_ | refine WL_guardU rfl rfl rfl rfl ?_ | refine op_move rfl rfl ?_ | refine op_assign rfl rfl ?_ | refine op_pick rfl rfl rfl rfl ?_ | refine op_len_slice T rfl rfl rfl rfl ?_ | refine op_len_string T rfl rfl rfl rfl ?_ | refine op_add rfl rfl rfl (wrap_i64_in (by omega) (by omega)) ?_ | refine op_subt rfl rfl rfl (wrap_i64_in (by omega) (by omega)) ?_ | refine op_mul rfl rfl rfl (wrap_i64_in (by omega) (by omega)) ?_ | refine op_max rfl rfl rfl ?_ | refine op_min rfl rfl rfl ?_ | refine op_notT rfl rfl ?_ | refine op_notF rfl rfl ?_ | refine op_not rfl rfl rfl ?_ | refine op_extract rfl rfl rfl ?_ | refine op_nilCheck rfl rfl ?_ | refine op_rem rfl rfl rfl (by omega) rfl ?_ | refine op_index_own T rfl rfl rfl rfl rfl rfl (by omega) ?_ | refine op_index_nat T rfl rfl rfl rfl rfl rfl (by omega) ?_ | refine op_load T rfl rfl rfl rfl (by assumption) ?_ | refine op_lss rfl rfl rfl (fun hc => ?_) (fun hc => False.elim (by omega)) | refine op_lss rfl rfl rfl (fun hc => False.elim (by omega)) (fun hc => ?_) | refine op_leq rfl rfl rfl (fun hc => ?_) (fun hc => False.elim (by omega)) | refine op_leq rfl rfl rfl (fun hc => False.elim (by omega)) (fun hc => ?_) | refine op_gtr rfl rfl rfl (fun hc => ?_) (fun hc => False.elim (by omega)) | refine op_gtr rfl rfl rfl (fun hc => False.elim (by omega)) (fun hc => ?_) | refine op_geq rfl rfl rfl (fun hc => ?_) (fun hc => False.elim (by omega)) | refine op_geq rfl rfl rfl (fun hc => False.elim (by omega)) (fun hc => ?_) | refine op_eql rfl rfl rfl (fun hc => ?_) (fun hc => False.elim (by omega)) | refine op_eql rfl rfl rfl (fun hc => False.elim (by omega)) (fun hc => ?_) | refine op_neq rfl rfl rfl (fun hc => ?_) (fun hc => False.elim (by omega)) | refine op_neq rfl rfl rfl (fun hc => False.elim (by omega)) (fun hc => ?_))
      rw [hk1]
      repeat (first | refine W_seq ?_ | refine W_block ?_ | refine W_scope ?_ | refine W_region ?_ | refine W_skip ?_ | refine W_exit ?_ | refine W_ret ?_ | refine W_label ?_ | refine Then_n ?_ | refine Then_x ?_ | refine Then_r ?_ | refine InBlock_hit ?_ | refine InBlock_miss rfl ?_ | refine InBlock_n ?_ | refine InBlock_r ?_ | refine NoGoto_n ?_ | refine NoGoto_x ?_ | refine NoGoto_r ?_ | refine Meet_x ?_ | refine Meet_r ?_ | refine Round_x ?_ | refine Round_r ?_ | refine WL_nil ?_ | refine W_condT rfl ?_ | refine W_condF rfl ?_ | refine WL_some rfl rfl rfl ?_ | refine WL_none rfl rfl ?_ | refine WL_guardT rfl rfl rfl rfl ?_ | refine WL_guardF rfl rfl rfl rfl rfl ?_ | refine WL_guardU rfl rfl rfl rfl ?_ | refine op_move rfl rfl ?_ | refine op_assign rfl rfl ?_ | refine op_pick rfl rfl rfl rfl ?_ | refine op_len_slice T rfl rfl rfl rfl ?_ | refine op_len_string T rfl rfl rfl rfl ?_ | refine op_add rfl rfl rfl (wrap_i64_in (by omega) (by omega)) ?_ | refine op_subt rfl rfl rfl (wrap_i64_in (by omega) (by omega)) ?_ | refine op_mul rfl rfl rfl (wrap_i64_in (by omega) (by omega)) ?_ | refine op_max rfl rfl rfl ?_ | refine op_min rfl rfl rfl ?_ | refine op_notT rfl rfl ?_ | refine op_notF rfl rfl ?_ | refine op_not rfl rfl rfl ?_ | refine op_extract rfl rfl rfl ?_ | refine op_nilCheck rfl rfl ?_ | refine op_rem rfl rfl rfl (by omega) rfl ?_ | refine op_index_own T rfl rfl rfl rfl rfl rfl (by omega) ?_ | refine op_index_nat T rfl rfl rfl rfl rfl rfl (by omega) ?_ | refine op_load T rfl rfl rfl rfl (by assumption) ?_ | refine op_lss rfl rfl rfl (fun hc => ?_) (fun hc => False.elim (by omega)) | refine op_lss rfl rfl rfl (fun hc => False.elim (by omega)) (fun hc => ?_) | refine op_leq rfl rfl rfl (fun hc => ?_) (fun hc => False.elim (by omega)) | refine op_leq rfl rfl rfl (fun hc => False.elim (by omega)) (fun hc => ?_) | refine op_gtr rfl rfl rfl (fun hc => ?_) (fun hc => False.elim (by omega)) | refine op_gtr rfl rfl rfl (fun hc => False.elim (by omega)) (fun hc => ?_) | refine op_geq rfl rfl rfl (fun hc => ?_) (fun hc => False.elim (by omega)) | refine op_geq rfl rfl rfl (fun hc => False.elim (by omega)) (fun hc => ?_) | refine op_eql rfl rfl rfl (fun hc => ?_) (fun hc => False.elim (by omega)) | refine op_eql rfl rfl rfl (fun hc => False.elim (by omega)) (fun hc => ?_) | refine op_neq rfl rfl rfl (fun hc => ?_) (fun hc => False.elim (by omega)) | refine op_neq rfl rfl rfl (fun hc => False.elim (by omega)) (fun hc => ?_))
      exact post2 (.inl rfl) rfl rfl rfl ⟨rfl, rfl⟩
    · have hbad := hnb rfl
      rw [if_neg (by omega)] at hat
      rw [hat]
      dsimp only
      by_cases hk0 : 0 < k
      · repeat (first | refine W_seq ?_ | refine W_block ?_ | refine W_scope ?_ | refine W_region ?_ | refine W_skip ?_ | refine W_exit ?_ | refine W_ret ?_ | refine W_label ?_ | refine Then_n ?_ | refine Then_x ?_ | refine Then_r ?_ | refine InBlock_hit ?_ | refine InBlock_miss rfl ?_ | refine InBlock_n ?_ | refine InBlock_r ?_ | refine NoGoto_n ?_ | refine NoGoto_x ?_ | refine NoGoto_r ?_ | refine Meet_x ?_ | refine Meet_r ?_ | refine Round_x ?_ | refine Round_r ?_ | refine WL_nil ?_ | refine W_condT rfl ?_ | refine W_condF rfl ?_ | refine WL_some rfl rfl rfl ?_ | refine WL_none rfl rfl ?_ | refine WL_guardT rfl rfl rfl rfl ?_ | refine WL_guardF rfl rfl rfl rfl rfl ?_ | refine WL_guardU rfl rfl rfl rfl ?_ | refine op_move rfl rfl ?_ | refine op_assign rfl rfl ?_ | refine op_pick rfl rfl rfl rfl ?_ | refine op_len_slice T rfl rfl rfl rfl ?_ | refine op_len_string T rfl rfl rfl rfl ?_ | refine op_add rfl rfl rfl (wrap_i64_in (by omega) (by omega)) ?_ | refine op_subt rfl rfl rfl (wrap_i64_in (by omega) (by omega)) ?_ | refine op_mul rfl rfl rfl (wrap_i64_in (by omega) (by omega)) ?_ | refine op_max rfl rfl rfl ?_ | refine op_min rfl rfl rfl ?_ | refine op_notT rfl rfl ?_ | refine op_notF rfl rfl ?_ | refine op_not rfl rfl rfl ?_ | refine op_extract rfl rfl rfl ?_ | refine op_nilCheck rfl rfl ?_ | refine op_rem rfl rfl rfl (by omega) rfl ?_ | refine op_index_own T rfl rfl rfl rfl rfl rfl (by omega) ?_ | refine op_index_nat T rfl rfl rfl rfl rfl rfl (by omega) ?_ | refine op_load T rfl rfl rfl rfl (by assumption) ?_ | refine op_lss rfl rfl rfl (fun hc => ?_) (fun hc => False.elim (by omega)) | refine op_lss rfl rfl rfl (fun hc => False.elim (by omega)) (fun hc => ?_) | refine op_leq rfl rfl rfl (fun hc => ?_) (fun hc => False.elim (by omega)) | refine op_leq rfl rfl rfl (fun hc => False.elim (by omega)) (fun hc => ?_) | refine op_gtr rfl rfl rfl (fun hc => ?_) (fun hc => False.elim (by omega)) | refine op_gtr rfl rfl rfl (fun hc => False.elim (by omega)) (fun hc => ?_) | refine op_geq rfl rfl rfl (fun hc => ?_) (fun hc => False.elim (by omega)) | refine op_geq rfl rfl rfl (fun hc => False.elim (by omega)) (fun hc => ?_) | refine op_eql rfl rfl rfl (fun hc => ?_) (fun hc => False.elim (by omega)) | refine op_eql rfl rfl rfl (fun hc => False.elim (by omega)) (fun hc => ?_) | refine op_neq rfl rfl rfl (fun hc => ?_) (fun hc => False.elim (by omega)) | refine op_neq rfl rfl rfl (fun hc => False.elim (by omega)) (fun hc => ?_))
        rw [hk1]
        repeat (first | refine W_seq ?_ | refine W_block ?_ | refine W_scope ?_ | refine W_region ?_ | refine W_skip ?_ | refine W_exit ?_ | refine W_ret ?_ | refine W_label ?_ | refine Then_n ?_ | refine Then_x ?_ | refine Then_r ?_ | refine InBlock_hit ?_ | refine InBlock_miss rfl ?_ | refine InBlock_n ?_ | refine InBlock_r ?_ | refine NoGoto_n ?_ | refine NoGoto_x ?_ | refine NoGoto_r ?_ | refine Meet_x ?_ | refine Meet_r ?_ | refine Round_x ?_ | refine Round_r ?_ | refine WL_nil ?_ | refine W_condT rfl ?_ | refine W_condF rfl ?_ | refine WL_some rfl rfl rfl ?_ | refine WL_none rfl rfl ?_ | refine WL_guardT rfl rfl rfl rfl ?_ | refine WL_guardF rfl rfl rfl rfl rfl ?_ | refine WL_guardU rfl rfl rfl rfl ?_ | refine op_move rfl rfl ?_ | refine op_assign rfl rfl ?_ | refine op_pick rfl rfl rfl rfl ?_ | refine op_len_slice T rfl rfl rfl rfl ?_ | refine op_len_string T rfl rfl rfl rfl ?_ | refine op_add rfl rfl rfl (wrap_i64_in (by omega) (by omega)) ?_ | refine op_subt rfl rfl rfl (wrap_i64_in (by omega) (by omega)) ?_ | refine op_mul rfl rfl rfl (wrap_i64_in (by omega) (by omega)) ?_ | refine op_max rfl rfl rfl ?_ | refine op_min rfl rfl rfl ?_ | refine op_notT rfl rfl ?_ | refine op_notF rfl rfl ?_ | refine op_not rfl rfl rfl ?_ | refine op_extract rfl rfl rfl ?_ | refine op_nilCheck rfl rfl ?_ | refine op_rem rfl rfl rfl (by omega) rfl ?_ | refine op_index_own T rfl rfl rfl rfl rfl rfl (by omega) ?_ | refine op_index_nat T rfl rfl rfl rfl rfl rfl (by omega) ?_ | refine op_load T rfl rfl rfl rfl (by assumption) ?_ | refine op_lss rfl rfl rfl (fun hc => ?_) (fun hc => False.elim (by omega)) | refine op_lss rfl rfl rfl (fun hc => False.elim (by omega)) (fun hc => ?_) | refine op_leq rfl rfl rfl (fun hc => ?_) (fun hc => False.elim (by omega)) | refine op_leq rfl rfl rfl (fun hc => False.elim (by omega)) (fun hc => ?_) | refine op_gtr rfl rfl rfl (fun hc => ?_) (fun hc => False.elim (by omega)) | refine op_gtr rfl rfl rfl (fun hc => False.elim (by omega)) (fun hc => ?_) | refine op_geq rfl rfl rfl (fun hc => ?_) (fun hc => False.elim (by omega)) | refine op_geq rfl rfl rfl (fun hc => False.elim (by omega)) (fun hc => ?_) | refine op_eql rfl rfl rfl (fun hc => ?_) (fun hc => False.elim (by omega)) | refine op_eql rfl rfl rfl (fun hc => False.elim (by omega)) (fun hc => ?_) | refine op_neq rfl rfl rfl (fun hc => ?_) (fun hc => False.elim (by omega)) | refine op_neq rfl rfl rfl (fun hc => False.elim (by omega)) (fun hc => ?_))
        exact post2 (.inl rfl) rfl rfl (some_int (by omega)) ⟨rfl, rfl⟩
      · repeat (first | refine W_seq ?_ | refine W_block ?_ | refine W_scope ?_ | refine W_region ?_ | refine W_skip ?_ | refine W_exit ?_ | refine W_ret ?_ | refine W_label ?_ | refine Then_n ?_ | refine Then_x ?_ | refine Then_r ?_ | refine InBlock_hit ?_ | refine InBlock_miss rfl ?_ | refine InBlock_n ?_ | refine InBlock_r ?_ | refine NoGoto_n ?_ | refine NoGoto_x ?_ | refine NoGoto_r ?_ | refine Meet_x ?_ | refine Meet_r ?_ | refine Round_x ?_ | refine Round_r ?_ | refine WL_nil ?_ | refine W_condT rfl ?_ | refine W_condF rfl ?_ | refine WL_some rfl rfl rfl ?_ | refine WL_none rfl rfl ?_ | refine WL_guardT rfl rfl rfl rfl ?_ | refine WL_guardF rfl rfl rfl rfl rfl ?_ | refine WL_guardU rfl rfl rfl rfl ?_ | refine op_move rfl rfl ?_ | refine op_assign rfl rfl ?_ | refine op_pick rfl rfl rfl rfl ?_ | refine op_len_slice T rfl rfl rfl rfl ?_ | refine op_len_string T rfl rfl rfl rfl ?_ | refine op_add rfl rfl rfl (wrap_i64_in (by omega) (by omega)) ?_ | refine op_subt rfl rfl rfl (wrap_i64_in (by omega) (by omega)) ?_ | refine op_mul rfl rfl rfl (wrap_i64_in (by omega) (by omega)) ?_ | refine op_max rfl rfl rfl ?_ | refine op_min rfl rfl rfl ?_ | refine op_notT rfl rfl ?_ | refine op_notF rfl rfl ?_ | refine op_not rfl rfl rfl ?_ | refine op_extract rfl rfl rfl ?_ | refine op_nilCheck rfl rfl ?_ | refine op_rem rfl rfl rfl (by omega) rfl ?_ | refine op_index_own T rfl rfl rfl rfl rfl rfl (by omega) ?_ | refine op_index_nat T rfl rfl rfl rfl rfl rfl (by omega) ?_ | refine op_load T rfl rfl rfl rfl (by assumption) ?_ | refine op_lss rfl rfl rfl (fun hc => ?_) (fun hc => False.elim (by omega)) | refine op_lss rfl rfl rfl (fun hc => False.elim (by omega)) (fun hc => ?_) | refine op_leq rfl rfl rfl (fun hc => ?_) (fun hc => False.elim (by omega)) | refine op_leq rfl rfl rfl (fun hc => False.elim (by omega)) (fun hc => ?_) | refine op_gtr rfl rfl rfl (fun hc => ?_) (fun hc => False.elim (by omega)) | refine op_gtr rfl rfl rfl (fun hc => False.elim (by omega)) (fun hc => ?_) | refine op_geq rfl rfl rfl (fun hc => ?_) (fun hc => False.elim (by omega)) | refine op_geq rfl rfl rfl (fun hc => False.elim (by omega)) (fun hc => ?_) | refine op_eql rfl rfl rfl (fun hc => ?_) (fun hc => False.elim (by omega)) | refine op_eql rfl rfl rfl (fun hc => False.elim (by omega)) (fun hc => ?_) | refine op_neq rfl rfl rfl (fun hc => ?_) (fun hc => False.elim (by omega)) | refine op_neq rfl rfl rfl (fun hc => False.elim (by omega)) (fun hc => ?_))
        exact post2 (.inl rfl) rfl rfl (some_int (by omega)) ⟨rfl, rfl⟩
  · obtain ⟨i, rfl⟩ : ∃ i, j = i + 1 := ⟨j - 1, by omega⟩
    have hi1 : ((i + 1 : Nat) : Int) - 1 = (i : Int) := by omega
    have hilt : i < l.length := by omega
    have hgi := List.getElem?_eq_getElem hilt
    obtain ⟨_, u, he, hui, rfl⟩ := hl.get (i := i) hgi
    cases he
    have hdl : ((l.take (k + 1)).drop (i + 1)).length = k - i := by rw [List.length_drop, List.length_take]; omega
    have hstep : (l.take (k + 1)).drop i = l[i] :: (l.take (k + 1)).drop (i + 1) := by
      rw [List.drop_eq_getElem_cons (by rw [List.length_take]; omega)]
      simp
    have hh := horn_lt ((l.take (k + 1)).drop (i + 1))
    rw [hdl] at hh
    have hpow : 2 ^ (7 * (k - i)) ≤ 2 ^ 63 := Nat.pow_le_pow_right (by decide) (by omega)
    have hnext : horn ((l.take (k + 1)).drop i) = l[i].toNat % 128 + 128 * horn ((l.take (k + 1)).drop (i + 1)) := by rw [hstep]; rfl
    have h9 : k = 9 → i = 0 → horn ((l.take (k + 1)).drop (i + 1)) = horn ((l.take k).drop 1) + ch.toNat % 128 * 2 ^ 56 ∧ horn ((l.take k).drop 1) < 2 ^ 56 := fun e1 e2 => by
      subst e1; subst e2
      have hl8 : ((l.take 9).drop 1).length = 8 := by rw [List.length_drop, List.length_take]; omega
      have h8 := horn_lt ((l.take 9).drop 1)
      rw [hl8] at h8
      refine ⟨?_, h8⟩
      rw [htake, Nat.zero_add, List.drop_append_of_le_length (by rw [List.length_take]; omega), horn_append, hl8]
    have hsm : ¬ (k = 9 ∧ i = 0) → 2 ^ (7 * (k - i)) ≤ 2 ^ 56 := fun h => Nat.pow_le_pow_right (by decide) (by omega)
    generalize horn ((l.take (k + 1)).drop (i + 1)) = x at *
    generalize l[i] = ci at *
    have hci := ci.toNat_lt
    rw [hi1]
    by_cases hov : 144115188075855872 ≤ x
    · have e : k = 9 ∧ i = 0 := by
        by_cases e : k = 9 ∧ i = 0
        · exact e
        · have := hsm e; omega
      obtain ⟨h1, h2⟩ := h9 e.1 e.2
      rw [if_pos (.inr ⟨e.1, by omega⟩)] at hat
      rw [hat]
      repeat (first | refine W_seq ?_ | refine W_block ?_ | refine W_scope ?_ | refine W_region ?_ | refine W_skip ?_ | refine W_exit ?_ | refine W_ret ?_ | refine W_label ?_ | refine Then_n ?_ | refine Then_x ?_ | refine Then_r ?_ | refine InBlock_hit ?_ | refine InBlock_miss rfl ?_ | refine InBlock_n ?_ | refine InBlock_r ?_ | refine NoGoto_n ?_ | refine NoGoto_x ?_ | refine NoGoto_r ?_ | refine Meet_x ?_ | refine Meet_r ?_ | refine Round_x ?_ | refine Round_r ?_ | refine WL_nil ?_ | refine W_condT rfl ?_ | refine W_condF rfl ?_ | refine WL_some rfl rfl rfl ?_ | refine WL_none rfl rfl ?_ | refine WL_guardT rfl rfl rfl rfl ?_ | refine WL_guardF rfl rfl rfl rfl rfl ?_ | refine WL_guardU rfl rfl rfl rfl ?_ | refine op_move rfl rfl ?_ | refine op_assign rfl rfl ?_ | refine op_pick rfl rfl rfl rfl ?_ | refine op_len_slice T rfl rfl rfl rfl ?_ | refine op_len_string T rfl rfl rfl rfl ?_ | refine op_add rfl rfl rfl (wrap_i64_in (by omega) (by omega)) ?_ | refine op_subt rfl rfl rfl (wrap_i64_in (by omega) (by omega)) ?_ | refine op_mul rfl rfl rfl (wrap_i64_in (by omega) (by omega)) ?_ | refine op_max rfl rfl rfl ?_ | refine op_min rfl rfl rfl ?_ | refine op_notT rfl rfl ?_ | refine op_notF rfl rfl ?_ | refine op_not rfl rfl rfl ?_ | refine op_extract rfl rfl rfl ?_ | refine op_nilCheck rfl rfl ?_ | refine op_rem rfl rfl rfl (by omega) rfl ?_ | refine op_index_own T rfl rfl rfl rfl rfl rfl (by omega) ?_ | refine op_index_nat T rfl rfl rfl rfl rfl rfl (by omega) ?_ | refine op_load T rfl rfl rfl rfl (by assumption) ?_ | refine op_lss rfl rfl rfl (fun hc => ?_) (fun hc => False.elim (by omega)) | refine op_lss rfl rfl rfl (fun hc => False.elim (by omega)) (fun hc => ?_) | refine op_leq rfl rfl rfl (fun hc => ?_) (fun hc => False.elim (by omega)) | refine op_leq rfl rfl rfl (fun hc => False.elim (by omega)) (fun hc => ?_) | refine op_gtr rfl rfl rfl (fun hc => ?_) (fun hc => False.elim (by omega)) | refine op_gtr rfl rfl rfl (fun hc => False.elim (by omega)) (fun hc => ?_) | refine op_geq rfl rfl rfl (fun hc => ?_) (fun hc => False.elim (by omega)) | refine op_geq rfl rfl rfl (fun hc => False.elim (by omega)) (fun hc => ?_) | refine op_eql rfl rfl rfl (fun hc => ?_) (fun hc => False.elim (by omega)) | refine op_eql rfl rfl rfl (fun hc => False.elim (by omega)) (fun hc => ?_) | refine op_neq rfl rfl rfl (fun hc => ?_) (fun hc => False.elim (by omega)) | refine op_neq rfl rfl rfl (fun hc => False.elim (by omega)) (fun hc => ?_))
      exact post2 (.inl rfl) rfl rfl rfl ⟨rfl, rfl⟩
    · repeat (first | refine W_seq ?_ | refine W_block ?_ | refine W_scope ?_ | refine W_region ?_ | refine W_skip ?_ | refine W_exit ?_ | refine W_ret ?_ | refine W_label ?_ | refine Then_n ?_ | refine Then_x ?_ | refine Then_r ?_ | refine InBlock_hit ?_ | refine InBlock_miss rfl ?_ | refine InBlock_n ?_ | refine InBlock_r ?_ | refine NoGoto_n ?_ | refine NoGoto_x ?_ | refine NoGoto_r ?_ | refine Meet_x ?_ | refine Meet_r ?_ | refine Round_x ?_ | refine Round_r ?_ | refine WL_nil ?_ | refine W_condT rfl ?_ | refine W_condF rfl ?_ | refine WL_some rfl rfl rfl ?_ | refine WL_none rfl rfl ?_ | refine WL_guardT rfl rfl rfl rfl ?_ | refine WL_guardF rfl rfl rfl rfl rfl ?_ | refine WL_guardU rfl rfl rfl rfl ?_ | refine op_move rfl rfl ?_ | refine op_assign rfl rfl ?_ | refine op_pick rfl rfl rfl rfl ?_ | refine op_len_slice T rfl rfl rfl rfl ?_ | refine op_len_string T rfl rfl rfl rfl ?_ | refine op_add rfl rfl rfl (wrap_i64_in (by omega) (by omega)) ?_ | refine op_subt rfl rfl rfl (wrap_i64_in (by omega) (by omega)) ?_ | refine op_mul rfl rfl rfl (wrap_i64_in (by omega) (by omega)) ?_ | refine op_max rfl rfl rfl ?_ | refine op_min rfl rfl rfl ?_ | refine op_notT rfl rfl ?_ | refine op_notF rfl rfl ?_ | refine op_not rfl rfl rfl ?_ | refine op_extract rfl rfl rfl ?_ | refine op_nilCheck rfl rfl ?_ | refine op_rem rfl rfl rfl (by omega) rfl ?_ | refine op_index_own T rfl rfl rfl rfl rfl rfl (by omega) ?_ | refine op_index_nat T rfl rfl rfl rfl rfl rfl (by omega) ?_ | refine op_load T rfl rfl rfl rfl (by assumption) ?_ | refine op_lss rfl rfl rfl (fun hc => ?_) (fun hc => False.elim (by omega)) | refine op_lss rfl rfl rfl (fun hc => False.elim (by omega)) (fun hc => ?_) | refine op_leq rfl rfl rfl (fun hc => ?_) (fun hc => False.elim (by omega)) | refine op_leq rfl rfl rfl (fun hc => False.elim (by omega)) (fun hc => ?_) | refine op_gtr rfl rfl rfl (fun hc => ?_) (fun hc => False.elim (by omega)) | refine op_gtr rfl rfl rfl (fun hc => False.elim (by omega)) (fun hc => ?_) | refine op_geq rfl rfl rfl (fun hc => ?_) (fun hc => False.elim (by omega)) | refine op_geq rfl rfl rfl (fun hc => False.elim (by omega)) (fun hc => ?_) | refine op_eql rfl rfl rfl (fun hc => ?_) (fun hc => False.elim (by omega)) | refine op_eql rfl rfl rfl (fun hc => False.elim (by omega)) (fun hc => ?_) | refine op_neq rfl rfl rfl (fun hc => ?_) (fun hc => False.elim (by omega)) | refine op_neq rfl rfl rfl (fun hc => False.elim (by omega)) (fun hc => ?_))
      refine op_mul rfl rfl rfl (wrap_u64_in (by omega) (by omega)) ?_
      repeat (first | refine W_seq ?_ | refine W_block ?_ | refine W_scope ?_ | refine W_region ?_ | refine W_skip ?_ | refine W_exit ?_ | refine W_ret ?_ | refine W_label ?_ | refine Then_n ?_ | refine Then_x ?_ | refine Then_r ?_ | refine InBlock_hit ?_ | refine InBlock_miss rfl ?_ | refine InBlock_n ?_ | refine InBlock_r ?_ | refine NoGoto_n ?_ | refine NoGoto_x ?_ | refine NoGoto_r ?_ | refine Meet_x ?_ | refine Meet_r ?_ | refine Round_x ?_ | refine Round_r ?_ | refine WL_nil ?_ | refine W_condT rfl ?_ | refine W_condF rfl ?_ | refine WL_some rfl rfl rfl ?_ | refine WL_none rfl rfl ?_ | refine WL_guardT rfl rfl rfl rfl ?_ | refine WL_guardF rfl rfl rfl rfl rfl ?_ | refine WL_guardU rfl rfl rfl rfl ?_ | refine op_move rfl rfl ?_ | refine op_assign rfl rfl ?_ | refine op_pick rfl rfl rfl rfl ?_ | refine op_len_slice T rfl rfl rfl rfl ?_ | refine op_len_string T rfl rfl rfl rfl ?_ | refine op_add rfl rfl rfl (wrap_i64_in (by omega) (by omega)) ?_ | refine op_subt rfl rfl rfl (wrap_i64_in (by omega) (by omega)) ?_ | refine op_mul rfl rfl rfl (wrap_i64_in (by omega) (by omega)) ?_ | refine op_max rfl rfl rfl ?_ | refine op_min rfl rfl rfl ?_ | refine op_notT rfl rfl ?_ | refine op_notF rfl rfl ?_ | refine op_not rfl rfl rfl ?_ | refine op_extract rfl rfl rfl ?_ | refine op_nilCheck rfl rfl ?_ | refine op_rem rfl rfl rfl (by omega) rfl ?_ | refine op_index_own T rfl rfl rfl rfl rfl rfl (by omega) ?_ | refine op_index_nat T rfl rfl rfl rfl rfl rfl (by omega) ?_ | refine op_load T rfl rfl rfl rfl (by assumption) ?_ | refine op_lss rfl rfl rfl (fun hc => ?_) (fun hc => False.elim (by omega)) | refine op_lss rfl rfl rfl (fun hc => False.elim (by omega)) (fun hc => ?_) | refine op_leq rfl rfl rfl (fun hc => ?_) (fun hc => False.elim (by omega)) | refine op_leq rfl rfl rfl (fun hc => False.elim (by omega)) (fun hc => ?_) | refine op_gtr rfl rfl rfl (fun hc => ?_) (fun hc => False.elim (by omega)) | refine op_gtr rfl rfl rfl (fun hc => False.elim (by omega)) (fun hc => ?_) | refine op_geq rfl rfl rfl (fun hc => ?_) (fun hc => False.elim (by omega)) | refine op_geq rfl rfl rfl (fun hc => False.elim (by omega)) (fun hc => ?_) | refine op_eql rfl rfl rfl (fun hc => ?_) (fun hc => False.elim (by omega)) | refine op_eql rfl rfl rfl (fun hc => False.elim (by omega)) (fun hc => ?_) | refine op_neq rfl rfl rfl (fun hc => ?_) (fun hc => False.elim (by omega)) | refine op_neq rfl rfl rfl (fun hc => False.elim (by omega)) (fun hc => ?_))
      rw [show (ci.toNat : Int).tmod 128 = ((ci.toNat % 128 : Nat) : Int) from by rw [Int.tmod_eq_emod_of_nonneg (Int.natCast_nonneg _)]; omega]
      refine op_convert_fit T rfl rfl rfl rfl (wrap_u64_in (by omega) (by omega)) ?_
      repeat (first | refine W_seq ?_ | refine W_block ?_ | refine W_scope ?_ | refine W_region ?_ | refine W_skip ?_ | refine W_exit ?_ | refine W_ret ?_ | refine W_label ?_ | refine Then_n ?_ | refine Then_x ?_ | refine Then_r ?_ | refine InBlock_hit ?_ | refine InBlock_miss rfl ?_ | refine InBlock_n ?_ | refine InBlock_r ?_ | refine NoGoto_n ?_ | refine NoGoto_x ?_ | refine NoGoto_r ?_ | refine Meet_x ?_ | refine Meet_r ?_ | refine Round_x ?_ | refine Round_r ?_ | refine WL_nil ?_ | refine W_condT rfl ?_ | refine W_condF rfl ?_ | refine WL_some rfl rfl rfl ?_ | refine WL_none rfl rfl ?_ | refine WL_guardT rfl rfl rfl rfl ?_ | refine WL_guardF rfl rfl rfl rfl rfl ?_ | refine WL_guardU rfl rfl rfl rfl ?_ | refine op_move rfl rfl ?_ | refine op_assign rfl rfl ?_ | refine op_pick rfl rfl rfl rfl ?_ | refine op_len_slice T rfl rfl rfl rfl ?_ | refine op_len_string T rfl rfl rfl rfl ?_ | refine op_add rfl rfl rfl (wrap_i64_in (by omega) (by omega)) ?_ | refine op_subt rfl rfl rfl (wrap_i64_in (by omega) (by omega)) ?_ | refine op_mul rfl rfl rfl (wrap_i64_in (by omega) (by omega)) ?_ | refine op_max rfl rfl rfl ?_ | refine op_min rfl rfl rfl ?_ | refine op_notT rfl rfl ?_ | refine op_notF rfl rfl ?_ | refine op_not rfl rfl rfl ?_ | refine op_extract rfl rfl rfl ?_ | refine op_nilCheck rfl rfl ?_ | refine op_rem rfl rfl rfl (by omega) rfl ?_ | refine op_index_own T rfl rfl rfl rfl rfl rfl (by omega) ?_ | refine op_index_nat T rfl rfl rfl rfl rfl rfl (by omega) ?_ | refine op_load T rfl rfl rfl rfl (by assumption) ?_ | refine op_lss rfl rfl rfl (fun hc => ?_) (fun hc => False.elim (by omega)) | refine op_lss rfl rfl rfl (fun hc => False.elim (by omega)) (fun hc => ?_) | refine op_leq rfl rfl rfl (fun hc => ?_) (fun hc => False.elim (by omega)) | refine op_leq rfl rfl rfl (fun hc => False.elim (by omega)) (fun hc => ?_) | refine op_gtr rfl rfl rfl (fun hc => ?_) (fun hc => False.elim (by omega)) | refine op_gtr rfl rfl rfl (fun hc => False.elim (by omega)) (fun hc => ?_) | refine op_geq rfl rfl rfl (fun hc => ?_) (fun hc => False.elim (by omega)) | refine op_geq rfl rfl rfl (fun hc => False.elim (by omega)) (fun hc => ?_) | refine op_eql rfl rfl rfl (fun hc => ?_) (fun hc => False.elim (by omega)) | refine op_eql rfl rfl rfl (fun hc => False.elim (by omega)) (fun hc => ?_) | refine op_neq rfl rfl rfl (fun hc => ?_) (fun hc => False.elim (by omega)) | refine op_neq rfl rfl rfl (fun hc => False.elim (by omega)) (fun hc => ?_))
      refine op_add rfl rfl rfl (wrap_u64_in (by omega) (by omega)) ?_
      repeat (first | refine W_seq ?_ | refine W_block ?_ | refine W_scope ?_ | refine W_region ?_ | refine W_skip ?_ | refine W_exit ?_ | refine W_ret ?_ | refine W_label ?_ | refine Then_n ?_ | refine Then_x ?_ | refine Then_r ?_ | refine InBlock_hit ?_ | refine InBlock_miss rfl ?_ | refine InBlock_n ?_ | refine InBlock_r ?_ | refine NoGoto_n ?_ | refine NoGoto_x ?_ | refine NoGoto_r ?_ | refine Meet_x ?_ | refine Meet_r ?_ | refine Round_x ?_ | refine Round_r ?_ | refine WL_nil ?_ | refine W_condT rfl ?_ | refine W_condF rfl ?_ | refine WL_some rfl rfl rfl ?_ | refine WL_none rfl rfl ?_ | refine WL_guardT rfl rfl rfl rfl ?_ | refine WL_guardF rfl rfl rfl rfl rfl ?_ | refine WL_guardU rfl rfl rfl rfl ?_ | refine op_move rfl rfl ?_ | refine op_assign rfl rfl ?_ | refine op_pick rfl rfl rfl rfl ?_ | refine op_len_slice T rfl rfl rfl rfl ?_ | refine op_len_string T rfl rfl rfl rfl ?_ | refine op_add rfl rfl rfl (wrap_i64_in (by omega) (by omega)) ?_ | refine op_subt rfl rfl rfl (wrap_i64_in (by omega) (by omega)) ?_ | refine op_mul rfl rfl rfl (wrap_i64_in (by omega) (by omega)) ?_ | refine op_max rfl rfl rfl ?_ | refine op_min rfl rfl rfl ?_ | refine op_notT rfl rfl ?_ | refine op_notF rfl rfl ?_ | refine op_not rfl rfl rfl ?_ | refine op_extract rfl rfl rfl ?_ | refine op_nilCheck rfl rfl ?_ | refine op_rem rfl rfl rfl (by omega) rfl ?_ | refine op_index_own T rfl rfl rfl rfl rfl rfl (by omega) ?_ | refine op_index_nat T rfl rfl rfl rfl rfl rfl (by omega) ?_ | refine op_load T rfl rfl rfl rfl (by assumption) ?_ | refine op_lss rfl rfl rfl (fun hc => ?_) (fun hc => False.elim (by omega)) | refine op_lss rfl rfl rfl (fun hc => False.elim (by omega)) (fun hc => ?_) | refine op_leq rfl rfl rfl (fun hc => ?_) (fun hc => False.elim (by omega)) | refine op_leq rfl rfl rfl (fun hc => False.elim (by omega)) (fun hc => ?_) | refine op_gtr rfl rfl rfl (fun hc => ?_) (fun hc => False.elim (by omega)) | refine op_gtr rfl rfl rfl (fun hc => False.elim (by omega)) (fun hc => ?_) | refine op_geq rfl rfl rfl (fun hc => ?_) (fun hc => False.elim (by omega)) | refine op_geq rfl rfl rfl (fun hc => False.elim (by omega)) (fun hc => ?_) | refine op_eql rfl rfl rfl (fun hc => ?_) (fun hc => False.elim (by omega)) | refine op_eql rfl rfl rfl (fun hc => False.elim (by omega)) (fun hc => ?_) | refine op_neq rfl rfl rfl (fun hc => ?_) (fun hc => False.elim (by omega)) | refine op_neq rfl rfl rfl (fun hc => False.elim (by omega)) (fun hc => ?_))
      refine Round_n i ⟨rfl, rfl, ?_, rfl, trivial⟩ ⟨by omega, fun e => ?_, rfl⟩ (by omega)
      · rw [hnext]; exact some_int (by omega)
      · rintro ⟨e1, e2⟩
        obtain ⟨h1, h2⟩ := h9 e1 e
        omega
end Go.Proofs.YtbhnplghnhafiaaDoor.Tryd
/-! Records: Encode. -/
set_option linter.unusedVariables false
namespace Go.Proofs.YtbhnplghnhafiaaDoor.Tryd
open Go Go.Vc

set_option maxHeartbeats 2000000 in
theorem encode_has (r : RecM) (w : World) : Has Go.Proofs.Tryd.prog 29 #[.agg (recL r).toArray] w (fun v w' => ∃ u, v = .tuple #[u, .int .i64 (encM r).2] ∧ MadeB 5 w w' u (encM r).1) := by
  refine enter Go.Proofs.Tryd.func29 rfl rfl (by decide) rfl (e := [(0, .agg (recL r).toArray)]) ⟨rfl, trivial⟩ ?_
  repeat (first | refine W_seq ?_ | refine W_region ?_ | refine WL_some rfl rfl rfl ?_)
  refine op_box rfl rfl (fun g w1 hgs hc1 hg1 => ?_)
  have hg1 : Blk w1 g 33 (recL r) := hg1
  repeat (first | refine W_seq ?_ | refine W_region ?_ | refine Then_n ?_ | refine WL_nil ?_ | refine WL_some rfl rfl rfl ?_ | refine op_assign rfl rfl ?_ | refine op_load_agg T rfl rfl rfl rfl (by assumption) (by exact Nat.le_of_ble_eq_true rfl) (by exact rfl) ?_)
  refine op_call rfl rfl rfl (check_has r w1) ?_
  rintro _ w2 ⟨hc2, rfl⟩
  unfold encM
  by_cases hck : checkM r ≠ 0
  · rw [if_pos hck]
    repeat (first | refine W_seq ?_ | refine W_region ?_ | refine W_ret ?_ | refine Then_n ?_ | refine Then_r ?_ | refine WL_nil ?_ | refine W_condT rfl ?_ | refine WL_some rfl rfl rfl ?_ | refine op_move rfl rfl ?_ | refine op_assign rfl rfl ?_ | refine op_neq rfl rfl rfl (fun hc => ?_) (fun hc => False.elim (by omega)))
    exact post2 (.inl rfl) rfl rfl rfl ⟨_, rfl, hc1.trans' hc2, Own.nil _ _ _, fun h hh => by simp [Value.ownBlock] at hh⟩
  rw [if_neg hck]
  have hok := checkM_ok.1 (Decidable.not_not.1 hck)
  have hkind : r.kind = 1 ∨ r.kind = 0 := hok.kind.imp id (·.1)
  have hs1 := hok.seq1; have hs2 := hok.seq2; have h100 := hok.key100; have h4000 := hok.val4000
  have hckz : checkM r = 0 := Decidable.not_not.1 hck
  rw [hckz]
  have hg2 := hg1.keep0 hc2
  have hc02 := hc1.trans' hc2
  unfold recL at hg2
  repeat (first | refine W_seq ?_ | refine W_region ?_ | refine W_skip ?_ | refine Then_n ?_ | refine WL_nil ?_ | refine W_condF rfl ?_ | refine WL_some rfl rfl rfl ?_ | refine op_move rfl rfl ?_ | refine op_assign rfl rfl ?_ | refine op_neq rfl rfl rfl (fun hc => False.elim (by omega)) (fun hc => ?_))
  refine W_walk 8 [] fol (by kernel_rfl) (by kernel_rfl) ?_
  refine Walk.plain rfl (by intro val w_ hR hp; exact op_fieldAddr T rfl rfl rfl rfl rfl rfl rfl rfl ⟨Chg.refl _ _, rfl⟩) ?_; dsimp only [List.nil_append, List.cons_append]
  refine Walk.plain rfl (by intro val w_ hR hp; exact op_load T rfl rfl rfl rfl ((Blk.keep0 hg2 hR).cell rfl) ⟨Chg.refl _ _, rfl⟩) ?_; dsimp only [List.nil_append, List.cons_append]
  refine Walk.plain rfl (by intro val w_ hR hp; exact op_convert_fit T rfl rfl rfl rfl (wrap_u8_in (by omega) (by omega)) ⟨Chg.refl _ _, rfl⟩) ?_; dsimp only [List.nil_append, List.cons_append]
  refine Walk.rel (fun u w => ∃ g5, u = .slice (some ⟨g5, 0, none⟩) 1 1 ∧ Blk w g5 5 [.int .u8 r.kind] ∧ w2.heap.size ≤ g5) rfl (fun u a b ⟨g5, h1, h2, h3⟩ hab => ⟨g5, h1, h2.keep0 hab, h3⟩) ?_ ?_
  · intro val w_ hR hp
    exact op_buildSlice T rfl rfl rfl rfl rfl rfl rfl (fun g5 w5 hs5 hc5 hg5 => ⟨hc5, g5, rfl, hg5, by have := hR.size; omega⟩)
  dsimp only [List.nil_append, List.cons_append]
  refine Walk.plain rfl (by intro val w_ hR hp; exact op_fieldAddr T rfl rfl rfl rfl rfl rfl rfl rfl ⟨Chg.refl _ _, rfl⟩) ?_; dsimp only [List.nil_append, List.cons_append]
  refine Walk.plain rfl (by intro val w_ hR hp; exact op_load T rfl rfl rfl rfl ((Blk.keep0 hg2 hR).cell rfl) ⟨Chg.refl _ _, rfl⟩) ?_; dsimp only [List.nil_append, List.cons_append]
  refine Walk.plain (v := .int .u64 (r.seq.toNat : Int)) rfl (by intro val w_ hR hp; exact op_convert_int T rfl rfl rfl rfl (by rw [wrap_u64_in (by omega) (by omega)]; exact (Int.toNat_of_nonneg (by omega)).symm) ⟨Chg.refl _ _, rfl⟩) ?_; dsimp only [List.nil_append, List.cons_append]
  refine Walk.rel (fun u w => MadeB 5 w2 w u (putM r.seq.toNat)) rfl (fun u a b h hab => h.keep0 hab) ?_ ?_
  · intro val w_ hR hp
    exact op_call rfl rfl rfl (put_has _ w_ (by omega)) (fun v w' h => ⟨h.chg, h.base hR⟩)
  dsimp only [List.nil_append, List.cons_append]
  refine Walk.fin ?_
  intro val w3 hc3 hp
  obtain ⟨g5, he, hg5, hs5⟩ : ∃ g5, val 3 = .slice (some ⟨g5, 0, none⟩) 1 1 ∧ Blk w3 g5 5 [.int .u8 r.kind] ∧ w2.heap.size ≤ g5 := hp 3 (by omega) _ _ rfl rfl
  have m7 : MadeB 5 w2 w3 (val 7) (putM r.seq.toNat) := hp 7 (by omega) _ _ rfl rfl
  clear hp
  obtain ⟨A7, c7, he7, _, _⟩ := m7.form
  have hg3 := hg2.keep0 hc3
  have m5 : MadeB 5 w2 w3 (.slice (some ⟨g5, 0, none⟩) 1 1) [UInt8.ofNat r.kind.toNat] := by
    rw [kind_byte hkind] at hg5
    exact ⟨hc3, Own.mk hg5 (Nat.le_refl _) (by decide) rfl rfl, fun h hh => by simp [Value.ownBlock] at hh; omega⟩
  refine WL_sub (e' := [(1, .pointer (some ⟨g, 0, none⟩)), (14, .slice (some ⟨g5, 0, none⟩) 1 1), (18, .slice A7 (putM r.seq.toNat).length c7), (3, .int .i64 0)]) ⟨rfl, congrArg some he, congrArg some he7, rfl, trivial⟩ ?_
  rw [he7] at m7
  have hp10 := putM_len10 (n := r.seq.toNat) (by omega)
  have ht1 := textM_len r.key (by omega)
  have ht2 := textM_len r.val (by omega)
  repeat (refine WL_some rfl rfl rfl ?_)
  refine op_appB T rfl rfl rfl rfl rfl rfl rfl rfl rfl m5 m7.reads (by simp; omega) (fun v8 w8 m8 hc8 _ => ?_)
  have hg8 := hg3.keep hc8 (fun hm => m5.sub hg2.lt g (by simpa using hm) rfl)
  repeat (first | refine W_seq ?_ | refine W_region ?_ | refine Then_n ?_ | refine WL_nil ?_ | refine WL_some rfl rfl rfl ?_ | refine op_move rfl rfl ?_ | refine op_assign rfl rfl ?_ | refine op_fieldAddr T rfl rfl rfl rfl rfl rfl rfl rfl ?_ | refine op_loadB T rfl rfl rfl rfl (by assumption) (by exact rfl) ?_)
  refine op_call rfl rfl rfl (text_has r.key w8 (by omega)) ?_
  intro v9 w9 m9
  obtain ⟨A9, c9, rfl, _, _⟩ := m9.form
  have hg9 := hg8.keep0 m9.chg
  have m8' := m8.keep0 m9.chg
  repeat (refine WL_some rfl rfl rfl ?_)
  refine op_appB T rfl rfl rfl rfl rfl rfl rfl rfl rfl m8' m9.reads (by simp; omega) (fun v10 w10 m10 hc10 _ => ?_)
  have hg10 := hg9.keep hc10 (fun hm => m8'.sub hg2.lt g (by simpa using hm) rfl)
  by_cases hk1 : r.kind = 1
  · have eb : bodyM r = [UInt8.ofNat r.kind.toNat] ++ putM r.seq.toNat ++ textM r.key ++ textM r.val := by unfold bodyM; rw [if_pos hk1]; rfl
    repeat (first | refine W_seq ?_ | refine W_region ?_ | refine Then_n ?_ | refine WL_nil ?_ | refine W_condT rfl ?_ | refine WL_some rfl rfl rfl ?_ | refine op_move rfl rfl ?_ | refine op_assign rfl rfl ?_ | refine op_eql rfl rfl rfl (fun hc => ?_) (fun hc => False.elim (by omega)) | refine op_fieldAddr T rfl rfl rfl rfl rfl rfl rfl rfl ?_ | refine op_loadB T rfl rfl rfl rfl (by assumption) (by exact rfl) ?_)
    refine op_call rfl rfl rfl (text_has r.val w10 (by omega)) ?_
    intro v11 w11 m11
    obtain ⟨A11, c11, rfl, _, _⟩ := m11.form
    repeat (refine WL_some rfl rfl rfl ?_)
    refine op_appB T rfl rfl rfl rfl rfl rfl rfl rfl rfl (m10.keep0 m11.chg) m11.reads (by simp; omega) (fun v12 w12 m12 _ _ => ?_)
    rw [← eb] at m12
    obtain ⟨A12, c12, rfl, _, _⟩ := m12.form
    have hbl := bodyM_len hok
    repeat (first | refine W_seq ?_ | refine W_region ?_ | refine Then_n ?_ | refine WL_nil ?_ | refine WL_some rfl rfl rfl ?_ | refine op_move rfl rfl ?_ | refine op_assign rfl rfl ?_)
    refine op_call rfl rfl rfl (seal_has A12 _ c12 _ w12 m12.reads (by omega)) ?_
    intro v13 w13 m13
    repeat (first | refine W_ret ?_ | refine Then_n ?_ | refine WL_nil ?_ | refine WL_some rfl rfl rfl ?_ | refine op_assign rfl rfl ?_)
    exact post2 (.inl rfl) rfl rfl rfl ⟨_, rfl, m13.base (hc02.trans' m12.chg)⟩
  · have eb : bodyM r = [UInt8.ofNat r.kind.toNat] ++ putM r.seq.toNat ++ textM r.key := by unfold bodyM; rw [if_neg hk1, List.append_nil]; rfl
    rw [← eb] at m10
    obtain ⟨A12, c12, rfl, _, _⟩ := m10.form
    have hbl := bodyM_len hok
    repeat (first | refine W_seq ?_ | refine W_region ?_ | refine W_skip ?_ | refine Then_n ?_ | refine WL_nil ?_ | refine W_condF rfl ?_ | refine WL_some rfl rfl rfl ?_ | refine op_move rfl rfl ?_ | refine op_assign rfl rfl ?_ | refine op_eql rfl rfl rfl (fun hc => False.elim (by omega)) (fun hc => ?_) | refine op_fieldAddr T rfl rfl rfl rfl rfl rfl rfl rfl ?_ | refine op_loadB T rfl rfl rfl rfl (by assumption) (by exact rfl) ?_)
    refine op_call rfl rfl rfl (seal_has A12 _ c12 _ w10 m10.reads (by omega)) ?_
    intro v13 w13 m13
    repeat (first | refine W_ret ?_ | refine Then_n ?_ | refine WL_nil ?_ | refine WL_some rfl rfl rfl ?_ | refine op_assign rfl rfl ?_)
    exact post2 (.inl rfl) rfl rfl rfl ⟨_, rfl, m13.base (hc02.trans' m10.chg)⟩
end Go.Proofs.YtbhnplghnhafiaaDoor.Tryd
/-! Readers; a record out of bytes. -/
set_option linter.unusedVariables false
namespace Go.Vc
open Go
theorem Walk.guardR {P : Program} {N : Nat} {S : List Nat} {l : List Oper} {e : Env} {w : World} {fin : List VS → Prop} {i j : Nat} {want : Bool} {r : List Oper} {Vs : List VS} {o : Oper} (R : Value → World → Prop) (hg : o.guard = some (j, want)) (hj : (predsOf o).contains j = true) (hjd : ((l[j]?).bind (·.dst)).isSome = true) (hb : ∀ val, valOf Vs val j = .bool want) (hR : ∀ v w w', R v w → Chg S w w' → R v w')
    (h : ∀ (val : Nat → Value) (w1 : World), Chg S w w1 → (∀ j, (predsOf o).contains j = true → ∀ oj d, l[j]? = some oj → oj.dst = some d → (vsAt Vs j).holds (valOf Vs val j) w1) → OpW P N o (opEnv l Vs e i o val) w1 (fun u w' => Chg S w1 w' ∧ R u w'))
    (hr : Walk P N S l e w fin (i + 1) r (Vs ++ [.r R])) : Walk P N S l e w fin i (o :: r) Vs :=
  by
  unfold Walk
  exact ⟨.r R, hR, fun val w1 hc hp => by rw [hg]; exact ⟨want, hj, hjd, .inl (hb val), (fun _ => h val w1 hc hp), (fun hn => by cases want <;> cases hn)⟩, hr⟩
theorem scanM_bound : ∀ (n : Nat) (b : List UInt8), b.length ≤ n → 12 * (scanM b).1.length ≤ b.length ∧ ∀ s ∈ (scanM b).1, s.length ≤ b.length
  | 0, b, h => by
    have : b = [] := List.eq_nil_of_length_eq_zero (by omega)
    subst this
    rw [scanM_nil]
    simp
  | n + 1, b, h => by
    rcases firstM_bound b with hz | ⟨h1, h2, h3⟩
    · rw [scanM_end hz]
      simp
    · rw [scanM_step (by omega)]
      have hd : (b.drop (firstM b).2.1).length = b.length - (firstM b).2.1 := List.length_drop
      have ih := scanM_bound n (b.drop (firstM b).2.1) (by omega)
      refine ⟨by simp only [List.length_cons]; omega, fun s hs => ?_⟩
      rcases List.mem_cons.1 hs with rfl | hs
      · omega
      · have := ih.2 s hs; omega
end Go.Vc
namespace Go.Proofs.YtbhnplghnhafiaaDoor.Tryd
open Go Go.Vc

/-- A reader of bytes that lay there in w0. -/
structure RdAt (w0 w : World) (g : Nat) (s : List UInt8 × Bool) : Prop where
  ex : ∃ A n c, Blk w g 107 [.slice A n c, .bool s.2] ∧ SliceOf Ru8 w0 (.slice A n c) s.1
  chg : Chg [] w0 w
  ge : w0.heap.size ≤ g
theorem RdAt.keep {w0 w w' : World} {g : Nat} {s : List UInt8 × Bool} {S : List Nat} (h : RdAt w0 w g s) (hc : Chg S w w') (hS : ∀ k ∈ S, w0.heap.size ≤ k) (hg : g ∉ S) : RdAt w0 w' g s :=
  let ⟨A, n, c, h1, h2⟩ := h.ex
  ⟨⟨A, n, c, h1.keep hc hg, h2⟩, h.chg.trans hc (fun k hk hlt => by have := hS k hk; omega), h.ge⟩
theorem RdAt.keep0 {w0 w w' : World} {g : Nat} {s : List UInt8 × Bool} (h : RdAt w0 w g s) (hc : Chg [] w w') : RdAt w0 w' g s := h.keep hc (fun k hk => by cases hk) (by simp)
theorem RdAt.lt {w0 w : World} {g : Nat} {s : List UInt8 × Bool} (h : RdAt w0 w g s) : g < w.heap.size := let ⟨_, _, _, h1, _⟩ := h.ex; h1.lt
theorem RdAt.own {w0 w w' : World} {g : Nat} {s : List UInt8 × Bool} (h : RdAt w0 w g s) (hc : Chg [g] w w') : Chg [] w0 w' := h.chg.trans hc (fun k hk hlt => by have := h.ge; simp at hk; omega)
theorem equal_has (A : Option Addr) (n c : Nat) (a : List UInt8) (A' : Option Addr) (n' c' : Nat) (b : List UInt8) (w : World) (ha : SliceOf Ru8 w (.slice A n c) a) (hb : SliceOf Ru8 w (.slice A' n' c') b) :
    Has Go.Proofs.Tryd.prog 75 #[.slice A n c, .slice A' n' c'] w (fun v w' => Chg [] w w' ∧ v = .bool (decide (a = b))) := by
  refine enter Go.Proofs.Tryd.func75 rfl rfl (by decide) rfl (e := [(0, .slice A n c), (1, .slice A' n' c')]) ⟨rfl, rfl, trivial⟩ ?_
  repeat (first | refine W_seq ?_ | refine W_region ?_ | refine Then_n ?_ | refine WL_nil ?_ | refine WL_some rfl rfl rfl ?_ | refine op_move rfl rfl ?_ | refine op_assign rfl rfl ?_)
  refine op_string T rfl rfl rfl rfl rfl ha ?_
  repeat (first | refine WL_some rfl rfl rfl ?_ | refine op_move rfl rfl ?_)
  refine op_string T rfl rfl rfl rfl rfl hb ?_
  repeat (refine WL_some rfl rfl rfl ?_)
  refine op_str_eql (a := a) (b := b) rfl rfl rfl (fun h => ?_) (fun h => ?_)
  · rw [decide_eq_true h]
    repeat (first | refine W_ret ?_ | refine Then_n ?_ | refine WL_nil ?_ | refine WL_some rfl rfl rfl ?_ | refine op_assign rfl rfl ?_)
    exact post1 (.inl rfl) rfl rfl ⟨Chg.refl _ _, rfl⟩
  · rw [decide_eq_false h]
    repeat (first | refine W_ret ?_ | refine Then_n ?_ | refine WL_nil ?_ | refine WL_some rfl rfl rfl ?_ | refine op_assign rfl rfl ?_)
    exact post1 (.inl rfl) rfl rfl ⟨Chg.refl _ _, rfl⟩
theorem step_has (w0 : World) (g : Nat) (s : List UInt8 × Bool) (n : Nat) (w : World) (hx : RdAt w0 w g s) (hn : n ≤ s.1.length) :
    Has Go.Proofs.Tryd.prog 85 #[.pointer (some ⟨g, 0, none⟩), .int .i64 (n : Int)] w (fun v w' => Chg [g] w w' ∧ RdAt w0 w' g (stepM s n)) := by
  refine enter Go.Proofs.Tryd.func85 rfl rfl (by decide) rfl (e := [(0, .pointer (some ⟨g, 0, none⟩)), (1, .int .i64 (n : Int))]) ⟨rfl, rfl, trivial⟩ ?_
  have hx0 := hx
  obtain ⟨A, k, c, hb, hf⟩ := hx.ex
  obtain ⟨l, bad⟩ := s
  dsimp only at hb hf hn
  have hnil : ∀ w', SliceOf Ru8 w' (.slice none 0 0) [] := fun w' => SliceOf.nil _ _
  cases bad with
  | true =>
    rw [show stepM (l, true) n = ([], true) from rfl]
    repeat (first | refine W_seq ?_ | refine W_region ?_ | refine WL_some rfl rfl rfl ?_ | refine WL_none rfl rfl ?_ | refine WL_guardF rfl rfl rfl rfl rfl ?_ | refine op_move rfl rfl ?_ | refine op_pick rfl rfl rfl rfl ?_ | refine op_nilCheck rfl rfl ?_ | refine op_fieldAddr T rfl rfl rfl rfl rfl rfl rfl rfl ?_ | refine op_loadB T rfl rfl rfl rfl (by assumption) (by exact rfl) ?_)
    refine op_store T rfl rfl rfl rfl rfl rfl hb (by simp) (fun w1 hc1 hb1 _ => ?_)
    have hb1 : Blk w1 g 107 [.slice A k c, .bool true] := hb1
    repeat (first | refine W_seq ?_ | refine W_region ?_ | refine Then_n ?_ | refine WL_nil ?_ | refine W_condT rfl ?_ | refine WL_some rfl rfl rfl ?_ | refine WL_none rfl rfl ?_ | refine op_move rfl rfl ?_ | refine op_nilCheck rfl rfl ?_ | refine op_fieldAddr T rfl rfl rfl rfl rfl rfl rfl rfl ?_ | refine op_loadB T rfl rfl rfl rfl (by assumption) (by exact rfl) ?_)
    refine op_store T rfl rfl rfl rfl rfl rfl hb1 (by simp) (fun w2 hc2 hb2 _ => ?_)
    repeat (first | refine W_ret ?_ | refine Then_n ?_ | refine Then_r ?_ | refine WL_nil ?_)
    exact post0 (.inl rfl) rfl ⟨hc1.trans hc2 (fun k hk _ => hk), ⟨none, 0, 0, hb2, hnil _⟩, hx0.own (hc1.trans hc2 (fun k hk _ => hk)), hx0.ge⟩
  | false =>
    by_cases h0 : n = 0
    · rw [show stepM (l, false) n = ([], true) from by unfold stepM; rw [if_pos (.inr h0)]]
      repeat (first | refine W_seq ?_ | refine W_region ?_ | refine WL_some rfl rfl rfl ?_ | refine WL_none rfl rfl ?_ | refine WL_guardT rfl rfl rfl rfl ?_ | refine op_move rfl rfl ?_ | refine op_pick rfl rfl rfl rfl ?_ | refine op_nilCheck rfl rfl ?_ | refine op_eql rfl rfl rfl (fun hc => ?_) (fun hc => False.elim (by omega)) | refine op_fieldAddr T rfl rfl rfl rfl rfl rfl rfl rfl ?_ | refine op_loadB T rfl rfl rfl rfl (by assumption) (by exact rfl) ?_)
      refine op_store T rfl rfl rfl rfl rfl rfl hb (by simp) (fun w1 hc1 hb1 _ => ?_)
      have hb1 : Blk w1 g 107 [.slice A k c, .bool true] := hb1
      repeat (first | refine W_seq ?_ | refine W_region ?_ | refine Then_n ?_ | refine WL_nil ?_ | refine W_condT rfl ?_ | refine WL_some rfl rfl rfl ?_ | refine WL_none rfl rfl ?_ | refine op_move rfl rfl ?_ | refine op_nilCheck rfl rfl ?_ | refine op_fieldAddr T rfl rfl rfl rfl rfl rfl rfl rfl ?_ | refine op_loadB T rfl rfl rfl rfl (by assumption) (by exact rfl) ?_)
      refine op_store T rfl rfl rfl rfl rfl rfl hb1 (by simp) (fun w2 hc2 hb2 _ => ?_)
      repeat (first | refine W_ret ?_ | refine Then_n ?_ | refine Then_r ?_ | refine WL_nil ?_)
      exact post0 (.inl rfl) rfl ⟨hc1.trans hc2 (fun k hk _ => hk), ⟨none, 0, 0, hb2, hnil _⟩, hx0.own (hc1.trans hc2 (fun k hk _ => hk)), hx0.ge⟩
    · rw [show stepM (l, false) n = (l.drop n, false) from by unfold stepM; rw [if_neg (fun h => h.elim (fun h => by cases h) h0)]]
      repeat (first | refine W_seq ?_ | refine W_region ?_ | refine WL_some rfl rfl rfl ?_ | refine WL_none rfl rfl ?_ | refine WL_guardT rfl rfl rfl rfl ?_ | refine op_move rfl rfl ?_ | refine op_pick rfl rfl rfl rfl ?_ | refine op_nilCheck rfl rfl ?_ | refine op_eql rfl rfl rfl (fun hc => False.elim (by omega)) (fun hc => ?_) | refine op_fieldAddr T rfl rfl rfl rfl rfl rfl rfl rfl ?_ | refine op_loadB T rfl rfl rfl rfl (by assumption) (by exact rfl) ?_)
      refine op_store T rfl rfl rfl rfl rfl rfl hb (by simp) (fun w1 hc1 hb1 _ => ?_)
      have hb1 : Blk w1 g 107 [.slice A k c, .bool false] := hb1
      have hf1 := SliceOf.kept Ru8.kept _ _ _ _ (hx0.own hc1) hf
      repeat (first | refine W_seq ?_ | refine W_region ?_ | refine W_skip ?_ | refine Then_n ?_ | refine WL_nil ?_ | refine W_condF rfl ?_ | refine WL_some rfl rfl rfl ?_ | refine op_move rfl rfl ?_ | refine op_nilCheck rfl rfl ?_ | refine op_fieldAddr T rfl rfl rfl rfl rfl rfl rfl rfl ?_ | refine op_loadB T rfl rfl rfl rfl (by assumption) (by exact rfl) ?_)
      refine op_cut T (l := n) (h' := l.length) rfl rfl rfl rfl rfl ⟨_, rfl⟩ hf1.len.1.symm hf1 hn (Nat.le_refl _) (fun A' hA' => ?_)
      repeat (first | refine WL_some rfl rfl rfl ?_ | refine WL_none rfl rfl ?_ | refine op_nilCheck rfl rfl ?_ | refine op_fieldAddr T rfl rfl rfl rfl rfl rfl rfl rfl ?_)
      refine op_store T rfl rfl rfl rfl rfl rfl hb1 (by simp) (fun w2 hc2 hb2 _ => ?_)
      repeat (refine WL_nil ?_)
      have hf0 := hA' w0 hf
      rw [List.take_length] at hf0
      exact post0 (.inr rfl) rfl ⟨hc1.trans hc2 (fun k hk _ => hk), ⟨A', _, _, hb2, hf0⟩, hx0.own (hc1.trans hc2 (fun k hk _ => hk)), hx0.ge⟩
theorem num_has (w0 : World) (g : Nat) (s : List UInt8 × Bool) (most : Nat) (w : World) (hx : RdAt w0 w g s) (hm : most < 9223372036854775808) :
    Has Go.Proofs.Tryd.prog 72 #[.pointer (some ⟨g, 0, none⟩), .int .i64 (most : Int)] w (fun v w' => Chg [g] w w' ∧ v = .int .i64 ((numM s most).1 : Int) ∧ RdAt w0 w' g (numM s most).2) := by
  refine enter Go.Proofs.Tryd.func72 rfl rfl (by decide) rfl (e := [(0, .pointer (some ⟨g, 0, none⟩)), (1, .int .i64 (most : Int))]) ⟨rfl, rfl, trivial⟩ ?_
  have hx0 := hx
  obtain ⟨A, k, c, hb, hf⟩ := hx.ex
  have hnow := SliceOf.kept Ru8.kept _ _ _ _ hx.chg hf
  repeat (first | refine W_seq ?_ | refine W_region ?_ | refine Then_n ?_ | refine WL_nil ?_ | refine WL_some rfl rfl rfl ?_ | refine op_move rfl rfl ?_ | refine op_assign rfl rfl ?_ | refine op_nilCheck rfl rfl ?_ | refine op_fieldAddr T rfl rfl rfl rfl rfl rfl rfl rfl ?_ | refine op_loadB T rfl rfl rfl rfl (by assumption) (by exact rfl) ?_)
  refine op_call rfl rfl rfl (get_has A k c s.1 w hnow) ?_
  rintro _ _ ⟨rfl, rfl⟩
  have hbd := getM_bound s.1
  unfold numM
  generalize getM s.1 = q at *
  obtain ⟨n, kk⟩ := q
  dsimp only at *
  by_cases hbig : most < n
  · rw [if_pos hbig]
    repeat (first | refine W_seq ?_ | refine W_region ?_ | refine Then_n ?_ | refine WL_nil ?_ | refine WL_some rfl rfl rfl ?_ | refine op_move rfl rfl ?_ | refine op_assign rfl rfl ?_ | refine op_extract rfl rfl rfl ?_)
    refine op_convert_fit T rfl rfl rfl rfl (wrap_u64_in (by omega) (by omega)) ?_
    repeat (first | refine W_seq ?_ | refine W_region ?_ | refine Then_n ?_ | refine WL_nil ?_ | refine W_condT rfl ?_ | refine WL_some rfl rfl rfl ?_ | refine op_move rfl rfl ?_ | refine op_assign rfl rfl ?_ | refine op_gtr rfl rfl rfl (fun hc => ?_) (fun hc => False.elim (by omega)))
    refine op_call rfl rfl rfl (step_has w0 g s 0 _ hx0 (Nat.zero_le _)) ?_
    rintro v w1 ⟨hc1, hx1⟩
    rw [show stepM s 0 = ([], true) from by unfold stepM; rw [if_pos (.inr rfl)]] at hx1 ⊢
    have hx2 := hx1
    obtain ⟨A1, k1, c1, hb1, hf1⟩ := hx1.ex
    rw [if_pos rfl]
    repeat (first | refine W_seq ?_ | refine W_region ?_ | refine W_ret ?_ | refine Then_n ?_ | refine Then_r ?_ | refine WL_nil ?_ | refine W_condT rfl ?_ | refine WL_some rfl rfl rfl ?_ | refine op_move rfl rfl ?_ | refine op_assign rfl rfl ?_ | refine op_nilCheck rfl rfl ?_ | refine op_fieldAddr T rfl rfl rfl rfl rfl rfl rfl rfl ?_ | refine op_loadB T rfl rfl rfl rfl (by assumption) (by exact rfl) ?_)
    exact post1 (.inl rfl) rfl rfl ⟨hc1, rfl, hx2⟩
  · rw [if_neg hbig]
    repeat (first | refine W_seq ?_ | refine W_region ?_ | refine Then_n ?_ | refine WL_nil ?_ | refine WL_some rfl rfl rfl ?_ | refine op_move rfl rfl ?_ | refine op_assign rfl rfl ?_ | refine op_extract rfl rfl rfl ?_)
    refine op_convert_fit T rfl rfl rfl rfl (wrap_u64_in (by omega) (by omega)) ?_
    repeat (first | refine W_seq ?_ | refine W_region ?_ | refine W_skip ?_ | refine Then_n ?_ | refine WL_nil ?_ | refine W_condF rfl ?_ | refine WL_some rfl rfl rfl ?_ | refine op_move rfl rfl ?_ | refine op_gtr rfl rfl rfl (fun hc => False.elim (by omega)) (fun hc => ?_))
    refine op_call rfl rfl rfl (step_has w0 g s kk _ hx0 (by omega)) ?_
    rintro v w1 ⟨hc1, hx1⟩
    have hx2 := hx1
    obtain ⟨A1, k1, c1, hb1, hf1⟩ := hx1.ex
    generalize stepM s kk = z at *
    obtain ⟨l', bad⟩ := z
    dsimp only at *
    cases bad with
    | true =>
      rw [if_pos rfl]
      repeat (first | refine W_seq ?_ | refine W_region ?_ | refine W_ret ?_ | refine Then_n ?_ | refine Then_r ?_ | refine WL_nil ?_ | refine W_condT rfl ?_ | refine WL_some rfl rfl rfl ?_ | refine op_move rfl rfl ?_ | refine op_assign rfl rfl ?_ | refine op_nilCheck rfl rfl ?_ | refine op_fieldAddr T rfl rfl rfl rfl rfl rfl rfl rfl ?_ | refine op_loadB T rfl rfl rfl rfl (by assumption) (by exact rfl) ?_)
      exact post1 (.inl rfl) rfl rfl ⟨hc1, rfl, hx2⟩
    | false =>
      rw [if_neg (by simp)]
      repeat (first | refine W_seq ?_ | refine W_region ?_ | refine W_skip ?_ | refine Then_n ?_ | refine WL_nil ?_ | refine W_condF rfl ?_ | refine WL_some rfl rfl rfl ?_ | refine op_move rfl rfl ?_ | refine op_nilCheck rfl rfl ?_ | refine op_fieldAddr T rfl rfl rfl rfl rfl rfl rfl rfl ?_ | refine op_loadB T rfl rfl rfl rfl (by assumption) (by exact rfl) ?_)
      refine op_convert_fit T rfl rfl rfl rfl (wrap_i64_in (by omega) (by omega)) ?_
      repeat (first | refine W_ret ?_ | refine Then_n ?_ | refine WL_nil ?_ | refine WL_some rfl rfl rfl ?_ | refine op_assign rfl rfl ?_)
      exact post1 (.inl rfl) rfl rfl ⟨hc1, rfl, hx2⟩
theorem rtext_has (w0 : World) (g : Nat) (s : List UInt8 × Bool) (w : World) (hx : RdAt w0 w g s) :
    Has Go.Proofs.Tryd.prog 73 #[.pointer (some ⟨g, 0, none⟩)] w (fun v w' => Chg [g] w w' ∧ v = .string (str (readM' s).1) ∧ RdAt w0 w' g (readM' s).2) := by
  refine enter Go.Proofs.Tryd.func73 rfl rfl (by decide) rfl (e := [(0, .pointer (some ⟨g, 0, none⟩))]) ⟨rfl, trivial⟩ ?_
  have hx0 := hx
  obtain ⟨A, k, c, hb, hf⟩ := hx.ex
  have hnow := SliceOf.kept Ru8.kept _ _ _ _ hx.chg hf
  repeat (first | refine W_seq ?_ | refine W_region ?_ | refine Then_n ?_ | refine WL_nil ?_ | refine WL_some rfl rfl rfl ?_ | refine op_move rfl rfl ?_ | refine op_assign rfl rfl ?_ | refine op_nilCheck rfl rfl ?_ | refine op_fieldAddr T rfl rfl rfl rfl rfl rfl rfl rfl ?_ | refine op_loadB T rfl rfl rfl rfl (by assumption) (by exact rfl) ?_)
  refine op_call rfl rfl rfl (getText_has A k c s.1 w hnow) ?_
  rintro _ _ ⟨rfl, rfl⟩
  have hbd := getTextM_bound s.1
  unfold readM'
  generalize getTextM s.1 = q at *
  obtain ⟨t, kk⟩ := q
  dsimp only at *
  repeat (first | refine W_seq ?_ | refine W_region ?_ | refine Then_n ?_ | refine WL_nil ?_ | refine WL_some rfl rfl rfl ?_ | refine op_move rfl rfl ?_ | refine op_assign rfl rfl ?_ | refine op_extract rfl rfl rfl ?_)
  refine op_call rfl rfl rfl (step_has w0 g s kk _ hx0 (by omega)) ?_
  rintro v w1 ⟨hc1, hx1⟩
  have hx2 := hx1
  obtain ⟨A1, k1, c1, hb1, hf1⟩ := hx1.ex
  generalize stepM s kk = z at *
  obtain ⟨l', bad⟩ := z
  dsimp only at *
  cases bad with
  | true =>
    rw [if_pos rfl]
    repeat (first | refine W_seq ?_ | refine W_region ?_ | refine W_ret ?_ | refine Then_n ?_ | refine Then_r ?_ | refine WL_nil ?_ | refine W_condT rfl ?_ | refine WL_some rfl rfl rfl ?_ | refine op_move rfl rfl ?_ | refine op_assign rfl rfl ?_ | refine op_nilCheck rfl rfl ?_ | refine op_fieldAddr T rfl rfl rfl rfl rfl rfl rfl rfl ?_ | refine op_loadB T rfl rfl rfl rfl (by assumption) (by exact rfl) ?_)
    exact post1 (.inl rfl) rfl rfl ⟨hc1, rfl, hx2⟩
  | false =>
    rw [if_neg (by simp)]
    repeat (first | refine W_seq ?_ | refine W_region ?_ | refine W_skip ?_ | refine W_ret ?_ | refine Then_n ?_ | refine WL_nil ?_ | refine W_condF rfl ?_ | refine WL_some rfl rfl rfl ?_ | refine op_move rfl rfl ?_ | refine op_assign rfl rfl ?_ | refine op_nilCheck rfl rfl ?_ | refine op_fieldAddr T rfl rfl rfl rfl rfl rfl rfl rfl ?_ | refine op_loadB T rfl rfl rfl rfl (by assumption) (by exact rfl) ?_)
    exact post1 (.inl rfl) rfl rfl ⟨hc1, rfl, hx2⟩
theorem done_has (w0 : World) (g : Nat) (s : List UInt8 × Bool) (w : World) (hx : RdAt w0 w g s) :
    Has Go.Proofs.Tryd.prog 74 #[.pointer (some ⟨g, 0, none⟩)] w (fun v w' => Chg [] w w' ∧ v = .bool (decide (s.2 = false ∧ s.1 = []))) := by
  refine enter Go.Proofs.Tryd.func74 rfl rfl (by decide) rfl (e := [(0, .pointer (some ⟨g, 0, none⟩))]) ⟨rfl, trivial⟩ ?_
  obtain ⟨A, k, c, hb, hf⟩ := hx.ex
  obtain ⟨l, bad⟩ := s
  dsimp only at *
  obtain ⟨rfl, _, _⟩ := hf.len
  cases bad with
  | true =>
    rw [decide_eq_false (by simp)]
    repeat (first | refine W_seq ?_ | refine W_region ?_ | refine W_ret ?_ | refine Then_n ?_ | refine WL_nil ?_ | refine WL_some rfl rfl rfl ?_ | refine WL_guardF rfl rfl rfl rfl rfl ?_ | refine op_move rfl rfl ?_ | refine op_assign rfl rfl ?_ | refine op_pick rfl rfl rfl rfl ?_ | refine op_notT rfl rfl ?_ | refine op_nilCheck rfl rfl ?_ | refine op_fieldAddr T rfl rfl rfl rfl rfl rfl rfl rfl ?_ | refine op_loadB T rfl rfl rfl rfl (by assumption) (by exact rfl) ?_)
    exact post1 (.inl rfl) rfl rfl ⟨Chg.refl _ _, rfl⟩
  | false =>
    by_cases hl : l.length = 0
    · rw [decide_eq_true ⟨rfl, List.eq_nil_of_length_eq_zero hl⟩]
      repeat (first | refine W_seq ?_ | refine W_region ?_ | refine W_ret ?_ | refine Then_n ?_ | refine WL_nil ?_ | refine WL_some rfl rfl rfl ?_ | refine WL_guardT rfl rfl rfl rfl ?_ | refine op_move rfl rfl ?_ | refine op_assign rfl rfl ?_ | refine op_pick rfl rfl rfl rfl ?_ | refine op_len_slice T rfl rfl rfl rfl ?_ | refine op_notF rfl rfl ?_ | refine op_nilCheck rfl rfl ?_ | refine op_eql rfl rfl rfl (fun hc => ?_) (fun hc => False.elim (by omega)) | refine op_fieldAddr T rfl rfl rfl rfl rfl rfl rfl rfl ?_ | refine op_loadB T rfl rfl rfl rfl (by assumption) (by exact rfl) ?_)
      exact post1 (.inl rfl) rfl rfl ⟨Chg.refl _ _, rfl⟩
    · rw [decide_eq_false (by rintro ⟨_, rfl⟩; exact hl rfl)]
      repeat (first | refine W_seq ?_ | refine W_region ?_ | refine W_ret ?_ | refine Then_n ?_ | refine WL_nil ?_ | refine WL_some rfl rfl rfl ?_ | refine WL_guardT rfl rfl rfl rfl ?_ | refine op_move rfl rfl ?_ | refine op_assign rfl rfl ?_ | refine op_pick rfl rfl rfl rfl ?_ | refine op_len_slice T rfl rfl rfl rfl ?_ | refine op_notF rfl rfl ?_ | refine op_nilCheck rfl rfl ?_ | refine op_eql rfl rfl rfl (fun hc => False.elim (by omega)) (fun hc => ?_) | refine op_fieldAddr T rfl rfl rfl rfl rfl rfl rfl rfl ?_ | refine op_loadB T rfl rfl rfl rfl (by assumption) (by exact rfl) ?_)
      exact post1 (.inl rfl) rfl rfl ⟨Chg.refl _ _, rfl⟩
end Go.Proofs.YtbhnplghnhafiaaDoor.Tryd
/-! Records: decode. -/
set_option linter.unusedVariables false
namespace Go.Proofs.YtbhnplghnhafiaaDoor.Tryd
open Go Go.Vc

set_option maxHeartbeats 4000000 in
theorem decode_has (A : Option Addr) (n c : Nat) (b : List UInt8) (w : World) (hl : SliceOf Ru8 w (.slice A n c) b) (hb : b.length ≤ 1000000000) :
    Has Go.Proofs.Tryd.prog 55 #[.slice A n c] w (fun v w' => Chg [] w w' ∧ v = .tuple #[.agg (recL (decR b)).toArray, .bool (decOk b)]) := by
  refine enter Go.Proofs.Tryd.func55 rfl rfl (by decide) rfl (e := [(0, .slice A n c)]) ⟨rfl, trivial⟩ ?_
  repeat (first | refine W_seq ?_ | refine W_region ?_ | refine WL_some rfl rfl rfl ?_)
  refine op_alloc T rfl rfl (fun g2 w1 hs1 hc1 hg2 => ?_)
  have hg2 : Blk w1 g2 33 [.int .i64 0, .int .i64 0, .string (str []), .string (str [])] := hg2
  repeat (first | refine W_seq ?_ | refine W_region ?_ | refine Then_n ?_ | refine WL_nil ?_ | refine WL_some rfl rfl rfl ?_ | refine op_move rfl rfl ?_ | refine op_assign rfl rfl ?_ | refine op_build T rfl rfl rfl rfl rfl rfl ?_)
  refine op_box rfl rfl (fun gr w2 hs2 hc2 hgr => ?_)
  have hgr : Blk w2 gr 107 [.slice A n c, .bool false] := hgr
  have hl1 := SliceOf.kept Ru8.kept _ _ _ _ hc1 hl
  have hl2 := SliceOf.kept Ru8.kept _ _ _ _ hc2 hl1
  have hgrw : gr ∉ ([] : List Nat) := by simp
  have hrge : w1.heap.size ≤ gr := hs2
  have x2 : RdAt w w2 gr (b, false) := ⟨⟨A, n, c, hgr, hl⟩, hc1.trans' hc2, by have := hc1.size; omega⟩
  have hlt1 : g2 < w1.heap.size := hg2.lt
  have hge1 : w.heap.size ≤ g2 := hs1
  have hne : g2 ∉ [gr] := by simp; omega
  have hg22 := hg2.keep0 hc2
  clear hgr
  repeat (first | refine W_seq ?_ | refine W_region ?_ | refine Then_n ?_ | refine WL_nil ?_ | refine WL_some rfl rfl rfl ?_ | refine op_move rfl rfl ?_ | refine op_assign rfl rfl ?_)
  refine op_call rfl rfl rfl (num_has w gr _ 1 w2 x2 (by decide)) ?_
  rintro _ w3 ⟨hc3, rfl, x3⟩
  have hg23 := hg22.keep hc3 hne
  repeat (first | refine WL_some rfl rfl rfl ?_ | refine op_move rfl rfl ?_)
  refine op_call rfl rfl rfl (num_has w gr _ 1125899906842624 w3 x3 (by decide)) ?_
  rintro _ w4 ⟨hc4, rfl, x4⟩
  have hg24 := hg23.keep hc4 hne
  repeat (first | refine WL_some rfl rfl rfl ?_ | refine op_move rfl rfl ?_)
  refine op_call rfl rfl rfl (rtext_has w gr _ w4 x4) ?_
  rintro _ w5 ⟨hc5, rfl, x5⟩
  have hg25 := hg24.keep hc5 hne
  have hcr : Chg [gr] w2 w5 := (hc3.trans hc4 (fun _ h _ => h)).trans hc5 (fun _ h _ => h)
  have hc05 : Chg [] w w5 := hc1.trans (hc2.trans hcr (S' := [gr]) (S := []) (fun k hk hlt => by simp at hk; omega)) (fun k hk => by cases hk)
  clear hc3 hc4 hc5 hg22 hg23 hg24 x2 x3 x4
  have e1 : (numM (b, false) 1).1 = (dec1 b).1 := rfl
  have e2 : (numM (numM (b, false) 1).2 1125899906842624).1 = (dec2 b).1 := rfl
  have e3 : (readM' (numM (numM (b, false) 1).2 1125899906842624).2).1 = (dec3 b).1 := rfl
  have e4 : (readM' (numM (numM (b, false) 1).2 1125899906842624).2).2 = (dec3 b).2 := rfl
  rw [e1, e2, e3]
  rw [e4] at x5
  clear e1 e2 e3 e4
  repeat (first | refine WL_some rfl rfl rfl ?_ | refine op_build T rfl rfl rfl rfl rfl rfl ?_)
  refine op_alloc T rfl rfl (fun g5 w6 hs6 hc6 hg5 => ?_)
  have hg5 : Blk w6 g5 33 [.int .i64 0, .int .i64 0, .string (str []), .string (str [])] := hg5
  have hs6 : w5.heap.size ≤ g5 := hs6
  have hg26 := hg25.keep0 hc6
  repeat (refine WL_none rfl rfl ?_)
  refine op_store_agg T rfl rfl rfl rfl rfl rfl hg5 (by exact Nat.le_of_ble_eq_true rfl) (fun w7 hc7 hg57 _ => ?_)
  have hg57 : Blk w7 g5 33 [.int .i64 (dec1 b).1, .int .i64 (dec2 b).1, .string (str (dec3 b).1), .string (str [])] := hg57
  have hlt5 : gr < w5.heap.size := x5.lt
  have hlt2 : g2 < w5.heap.size := hg25.lt
  have hc57 : Chg [] w5 w7 := hc6.trans hc7 (fun k hk hlt => by simp at hk; omega)
  have x7 := x5.keep0 hc57
  have hg27 := hg25.keep0 hc57
  have hc07 := hc05.trans' hc57
  refine WL_nil ?_
  refine Then_n ?_
  refine W_seq ?_
  refine W_meet (σ := Unit) (fun _ => [(0, .slice A n c), (2, .pointer (some ⟨g2, 0, none⟩)), (4, .pointer (some ⟨gr, 0, none⟩)), (5, .pointer (some ⟨g5, 0, none⟩))])
    (fun _ w' => Chg [] w w' ∧ Blk w' g5 33 (recL (decR b)) ∧ RdAt w w' gr (dec4 b).2 ∧ Blk w' g2 33 [.int .i64 0, .int .i64 0, .string (str []), .string (str [])]) ?_ ?_
  · by_cases hk : (dec1 b).1 = 1
    · have e4 : dec4 b = readM' (dec3 b).2 := by unfold dec4; rw [if_pos hk]
      repeat (first | refine W_seq ?_ | refine W_region ?_ | refine Then_n ?_ | refine WL_nil ?_ | refine W_condT rfl ?_ | refine WL_some rfl rfl rfl ?_ | refine op_move rfl rfl ?_ | refine op_eql rfl rfl rfl (fun hc => ?_) (fun hc => False.elim (by omega)) | refine op_fieldAddr T rfl rfl rfl rfl rfl rfl rfl rfl ?_ | refine op_loadB T rfl rfl rfl rfl (by assumption) (by exact rfl) ?_)
      refine op_call rfl rfl rfl (rtext_has w gr _ w7 x7) ?_
      rintro _ w8 ⟨hc8, rfl, x8⟩
      have hg58 := hg57.keep hc8 (by simp; omega)
      have hg28 := hg27.keep hc8 (by simp; omega)
      have hc08 : Chg [] w w8 := hc07.trans hc8 (fun k hk hlt => by simp at hk; have := hc1.size; omega)
      repeat (first | refine WL_some rfl rfl rfl ?_ | refine WL_none rfl rfl ?_ | refine op_fieldAddr T rfl rfl rfl rfl rfl rfl rfl rfl ?_)
      refine op_store T rfl rfl rfl rfl rfl rfl hg58 (by simp) (fun w9 hc9 hb9 _ => ?_)
      have hb9 : Blk w9 g5 33 [.int .i64 (dec1 b).1, .int .i64 (dec2 b).1, .string (str (dec3 b).1), .string (str (readM' (dec3 b).2).1)] := hb9
      have hc09 : Chg [] w w9 := hc08.trans hc9 (fun k hk hlt => by simp at hk; have := hc05.size; omega)
      repeat (refine WL_nil ?_)
      refine Meet_n () ⟨rfl, rfl, rfl, rfl, trivial⟩ ⟨hc09, ?_, ?_, hg28.keep hc9 (by simp; omega)⟩
      · unfold decR recL
        rw [e4]
        exact hb9
      · rw [e4]
        exact x8.keep hc9 (fun k hk => by simp at hk; have := hc1.size; have := hc2.size; have := hcr.size; omega) (by simp; omega)
    · have e4 : dec4 b = ([], (dec3 b).2) := by unfold dec4; rw [if_neg hk]
      repeat (first | refine W_seq ?_ | refine W_region ?_ | refine W_skip ?_ | refine Then_n ?_ | refine WL_nil ?_ | refine W_condF rfl ?_ | refine WL_some rfl rfl rfl ?_ | refine op_eql rfl rfl rfl (fun hc => False.elim (by omega)) (fun hc => ?_) | refine op_fieldAddr T rfl rfl rfl rfl rfl rfl rfl rfl ?_ | refine op_loadB T rfl rfl rfl rfl (by assumption) (by exact rfl) ?_)
      refine Meet_n () ⟨rfl, rfl, rfl, rfl, trivial⟩ ⟨hc07, ?_, ?_, hg27⟩
      · unfold decR recL
        rw [e4]
        exact hg57
      · rw [e4]; exact x7
  rintro _ w8 ⟨hc8, hg58, x8, hg28⟩
  have hl8 := SliceOf.kept Ru8.kept _ _ _ _ hc8 hl
  clear hc05 hc07 hg27 hg57 x7 hc7 hg25 x5 hcr hg5 hg26
  unfold recL at hg58
  repeat (first | refine W_seq ?_ | refine W_region ?_ | refine Then_n ?_ | refine WL_some rfl rfl rfl ?_ | refine op_load_agg T rfl rfl rfl rfl (by assumption) (by exact Nat.le_of_ble_eq_true rfl) (by exact rfl) ?_)
  refine op_call rfl rfl rfl (encode_has (decR b) w8) ?_
  rintro _ w9 ⟨u, rfl, mu⟩
  have hg59 := hg58.keep0 mu.chg
  have hg29 := hg28.keep0 mu.chg
  have x9 := x8.keep0 mu.chg
  have hl9 := SliceOf.kept Ru8.kept _ _ _ _ mu.chg hl8
  have hc9 := hc8.trans' mu.chg
  obtain ⟨Au, cu, rfl, _, _⟩ := mu.form
  have hok : decOk b = decide (((dec4 b).2.2 = false ∧ (dec4 b).2.1 = []) ∧ checkM (decR b) = 0 ∧ (encM (decR b)).1 = sealM b) := rfl
  have herr : (encM (decR b)).2 = checkM (decR b) := by unfold encM; split <;> simp_all
  rw [herr]
  have hne2 : g5 ∉ [g2] := by simp; have := hc6.size; omega
  have hner : gr ∉ [g2] := by simp; omega
  have hS2 : ∀ k ∈ [g2], w.heap.size ≤ k := fun k hk => by simp at hk; omega
  repeat (first | refine W_seq ?_ | refine Then_n ?_ | refine WL_nil ?_ | refine WL_some rfl rfl rfl ?_ | refine op_move rfl rfl ?_ | refine op_assign rfl rfl ?_ | refine op_extract rfl rfl rfl ?_)
  have hgood : ∀ w_, Chg [] w9 w_ → Blk w_ g2 33 [.int .i64 0, .int .i64 0, .string (str []), .string (str [])] := fun w_ h => hg29.keep0 h
  by_cases hd : (dec4 b).2.2 = false ∧ (dec4 b).2.1 = []
  · by_cases he : checkM (decR b) = 0
    · refine Q.W_walkf 14 13 [g2] fol (by kernel_rfl) (by kernel_rfl) ?_
      refine Q.Walk.plain (v := .agg (recL (decR b)).toArray) rfl rfl (by intro val w_ hR hp; exact op_load_agg T rfl rfl rfl rfl (hg59.keep hR hne2) (Nat.le_of_ble_eq_true rfl) rfl ⟨Chg.refl _ _, rfl⟩) ?_; dsimp only [List.nil_append, List.cons_append]
      refine Q.Walk.plain rfl rfl (by intro val w_ hR hp; exact op_move rfl rfl ⟨Chg.refl _ _, rfl⟩) ?_; dsimp only [List.nil_append, List.cons_append]
      refine Q.Walk.plain rfl rfl (by intro val w_ hR hp; exact op_call rfl rfl rfl (done_has w gr _ w_ (x9.keep hR hS2 hner)) (fun v w' h => h)) ?_; dsimp only [List.nil_append, List.cons_append]
      rw [decide_eq_true hd]
      refine Q.Walk.plain rfl rfl (by intro val w_ hR hp; exact op_move rfl rfl ⟨Chg.refl _ _, rfl⟩) ?_; dsimp only [List.nil_append, List.cons_append]
      refine Q.Walk.guardT rfl rfl rfl rfl (fun _ => rfl) (by intro val w_ hR hp; exact op_move rfl rfl ⟨Chg.refl _ _, rfl⟩) ?_; dsimp only [List.nil_append, List.cons_append]
      refine Q.Walk.guardT rfl rfl rfl rfl (fun _ => rfl) (by intro val w_ hR hp; exact op_eql rfl rfl rfl (fun hc => ⟨Chg.refl _ _, rfl⟩) (fun hc => False.elim (by omega))) ?_; dsimp only [List.nil_append, List.cons_append]
      refine Q.Walk.plain rfl rfl (by intro val w_ hR hp; exact op_pick rfl rfl rfl rfl ⟨Chg.refl _ _, rfl⟩) ?_; dsimp only [List.nil_append, List.cons_append]
      refine Q.Walk.plain rfl rfl (by intro val w_ hR hp; exact op_move rfl rfl ⟨Chg.refl _ _, rfl⟩) ?_; dsimp only [List.nil_append, List.cons_append]
      refine Q.Walk.guardT rfl rfl rfl rfl (fun _ => rfl) (by intro val w_ hR hp; exact op_move rfl rfl ⟨Chg.refl _ _, rfl⟩) ?_; dsimp only [List.nil_append, List.cons_append]
      refine Q.Walk.guardT rfl rfl rfl rfl (fun _ => rfl) (by intro val w_ hR hp; exact op_move rfl rfl ⟨Chg.refl _ _, rfl⟩) ?_; dsimp only [List.nil_append, List.cons_append]
      refine Q.Walk.guardR rfl (fun u w' => (∃ A' n' c', u = .slice A' n' c') ∧ Firm [g2] w' (fun w => SliceOf Ru8 w u (sealM b))) rfl rfl rfl (fun _ => rfl) (fun v a b' h hab => ⟨h.1, h.2.step hab (fun k hk _ => hk)⟩) ?_ ?_
      · intro val w_ hR hp
        have hlw := SliceOf.kept Ru8.kept _ _ _ _ (hc9.trans hR (fun k hk hlt => by have := hS2 k hk; omega)) hl
        refine op_call rfl rfl rfl (seal_has A n c b w_ hlw (by omega)) (fun v w' h => ⟨h.chg, ?_, h.firm (fun k hk => ?_)⟩)
        · obtain ⟨A', c', h', _⟩ := h.form
          exact ⟨A', _, c', h'⟩
        · simp at hk; have := hg29.lt; have := hR.size; omega
      dsimp only [List.nil_append, List.cons_append]
      refine Q.Walk.guardT (v := .bool (decide ((encM (decR b)).1 = sealM b))) rfl rfl rfl rfl (fun _ => rfl) ?_ ?_
      · intro val w_ hR hp
        obtain ⟨⟨A', n', c', hv⟩, hf⟩ : (∃ A' n' c', val 10 = .slice A' n' c') ∧ Firm [g2] w_ (fun w => SliceOf Ru8 w (val 10) (sealM b)) := hp 10 rfl _ _ rfl rfl
        have h1 := hf.now
        rw [hv] at h1
        have h2 := (mu.firm (S := [g2]) (fun k hk => by simp at hk; have := hg28.lt; omega)) w_ hR
        exact op_call rfl rfl (by rw [← hv]; rfl) (equal_has _ _ _ _ A' n' c' _ w_ h2 h1) (fun v w' h => h)
      dsimp only [List.nil_append, List.cons_append]
      refine Q.Walk.plain rfl rfl (by intro val w_ hR hp; exact op_pick rfl rfl rfl rfl ⟨Chg.refl _ _, rfl⟩) ?_; dsimp only [List.nil_append, List.cons_append]
      refine Q.Walk.turn rfl (fun _ w => Blk w g2 33 (recL (decR b))) rfl (fun _ _ _ h hab => h.keep0 hab) ?_ ?_
      · intro val w_ hR hp
        exact op_store_agg T rfl rfl rfl rfl rfl rfl (hgood w_ hR) (by exact Nat.le_of_ble_eq_true rfl) (fun w7 hc7 hg57 _ => ⟨hc7, hg57⟩)
      refine Q.Walk.fin ?_
      intro val w10 hc10 hp hn
      obtain ⟨_, hb10⟩ := hn 13 (by omega) _ rfl rfl
      have hb10 : Blk w10 g2 33 (recL (decR b)) := hb10
      have hcend := hc9.trans hc10 (S' := [g2]) (S := []) (fun k hk hlt => by have := hS2 k hk; omega)
      refine WL_sub (e' := [(2, .pointer (some ⟨g2, 0, none⟩)), (41, .bool (decide ((encM (decR b)).1 = sealM b)))]) ⟨rfl, rfl, trivial⟩ ?_
      repeat (first | refine W_ret ?_ | refine Then_n ?_ | refine WL_nil ?_ | refine WL_some rfl rfl rfl ?_ | refine op_assign rfl rfl ?_)
      refine post2c T (.inl rfl) rfl rfl rfl rfl rfl hb10 rfl ⟨hcend, ?_⟩
      rw [hok]
      simp only [hd, he, and_self, true_and]
    · rw [decide_eq_false (fun h => he h.2.1)] at hok
      refine Q.W_walkf 14 13 [g2] fol (by kernel_rfl) (by kernel_rfl) ?_
      refine Q.Walk.plain (v := .agg (recL (decR b)).toArray) rfl rfl (by intro val w_ hR hp; exact op_load_agg T rfl rfl rfl rfl (hg59.keep hR hne2) (Nat.le_of_ble_eq_true rfl) rfl ⟨Chg.refl _ _, rfl⟩) ?_; dsimp only [List.nil_append, List.cons_append]
      refine Q.Walk.plain rfl rfl (by intro val w_ hR hp; exact op_move rfl rfl ⟨Chg.refl _ _, rfl⟩) ?_; dsimp only [List.nil_append, List.cons_append]
      refine Q.Walk.plain rfl rfl (by intro val w_ hR hp; exact op_call rfl rfl rfl (done_has w gr _ w_ (x9.keep hR hS2 hner)) (fun v w' h => h)) ?_; dsimp only [List.nil_append, List.cons_append]
      rw [decide_eq_true hd]
      refine Q.Walk.plain rfl rfl (by intro val w_ hR hp; exact op_move rfl rfl ⟨Chg.refl _ _, rfl⟩) ?_; dsimp only [List.nil_append, List.cons_append]
      refine Q.Walk.guardT rfl rfl rfl rfl (fun _ => rfl) (by intro val w_ hR hp; exact op_move rfl rfl ⟨Chg.refl _ _, rfl⟩) ?_; dsimp only [List.nil_append, List.cons_append]
      refine Q.Walk.guardT rfl rfl rfl rfl (fun _ => rfl) (by intro val w_ hR hp; exact op_eql rfl rfl rfl (fun hc => False.elim (by omega)) (fun hc => ⟨Chg.refl _ _, rfl⟩)) ?_; dsimp only [List.nil_append, List.cons_append]
      refine Q.Walk.plain rfl rfl (by intro val w_ hR hp; exact op_pick rfl rfl rfl rfl ⟨Chg.refl _ _, rfl⟩) ?_; dsimp only [List.nil_append, List.cons_append]
      refine Q.Walk.plain rfl rfl (by intro val w_ hR hp; exact op_move rfl rfl ⟨Chg.refl _ _, rfl⟩) ?_; dsimp only [List.nil_append, List.cons_append]
      refine Q.Walk.guardF rfl rfl rfl (fun _ => rfl) rfl ?_; dsimp only [List.nil_append, List.cons_append]
      refine Q.Walk.guardF rfl rfl rfl (fun _ => rfl) rfl ?_; dsimp only [List.nil_append, List.cons_append]
      refine Q.Walk.guardF rfl rfl rfl (fun _ => rfl) rfl ?_; dsimp only [List.nil_append, List.cons_append]
      refine Q.Walk.guardF rfl rfl rfl (fun _ => rfl) rfl ?_; dsimp only [List.nil_append, List.cons_append]
      refine Q.Walk.plain rfl rfl (by intro val w_ hR hp; exact op_pick rfl rfl rfl rfl ⟨Chg.refl _ _, rfl⟩) ?_; dsimp only [List.nil_append, List.cons_append]
      refine Q.Walk.turn rfl (fun _ w => Blk w g2 33 (recL (decR b))) rfl (fun _ _ _ h hab => h.keep0 hab) ?_ ?_
      · intro val w_ hR hp
        exact op_store_agg T rfl rfl rfl rfl rfl rfl (hgood w_ hR) (by exact Nat.le_of_ble_eq_true rfl) (fun w7 hc7 hg57 _ => ⟨hc7, hg57⟩)
      refine Q.Walk.fin ?_
      intro val w10 hc10 hp hn
      obtain ⟨_, hb10⟩ := hn 13 (by omega) _ rfl rfl
      have hb10 : Blk w10 g2 33 (recL (decR b)) := hb10
      have hcend := hc9.trans hc10 (S' := [g2]) (S := []) (fun k hk hlt => by have := hS2 k hk; omega)
      refine WL_sub (e' := [(2, .pointer (some ⟨g2, 0, none⟩)), (41, .bool false)]) ⟨rfl, rfl, trivial⟩ ?_
      repeat (first | refine W_ret ?_ | refine Then_n ?_ | refine WL_nil ?_ | refine WL_some rfl rfl rfl ?_ | refine op_assign rfl rfl ?_)
      refine post2c T (.inl rfl) rfl rfl rfl rfl rfl hb10 rfl ⟨hcend, ?_⟩
      rw [hok]
  · rw [decide_eq_false (fun h => hd h.1)] at hok
    refine Q.W_walkf 14 13 [g2] fol (by kernel_rfl) (by kernel_rfl) ?_
    refine Q.Walk.plain (v := .agg (recL (decR b)).toArray) rfl rfl (by intro val w_ hR hp; exact op_load_agg T rfl rfl rfl rfl (hg59.keep hR hne2) (Nat.le_of_ble_eq_true rfl) rfl ⟨Chg.refl _ _, rfl⟩) ?_; dsimp only [List.nil_append, List.cons_append]
    refine Q.Walk.plain rfl rfl (by intro val w_ hR hp; exact op_move rfl rfl ⟨Chg.refl _ _, rfl⟩) ?_; dsimp only [List.nil_append, List.cons_append]
    refine Q.Walk.plain rfl rfl (by intro val w_ hR hp; exact op_call rfl rfl rfl (done_has w gr _ w_ (x9.keep hR hS2 hner)) (fun v w' h => h)) ?_; dsimp only [List.nil_append, List.cons_append]
    rw [decide_eq_false hd]
    refine Q.Walk.plain rfl rfl (by intro val w_ hR hp; exact op_move rfl rfl ⟨Chg.refl _ _, rfl⟩) ?_; dsimp only [List.nil_append, List.cons_append]
    refine Q.Walk.guardF rfl rfl rfl (fun _ => rfl) rfl ?_; dsimp only [List.nil_append, List.cons_append]
    refine Q.Walk.guardF rfl rfl rfl (fun _ => rfl) rfl ?_; dsimp only [List.nil_append, List.cons_append]
    refine Q.Walk.plain rfl rfl (by intro val w_ hR hp; exact op_pick rfl rfl rfl rfl ⟨Chg.refl _ _, rfl⟩) ?_; dsimp only [List.nil_append, List.cons_append]
    refine Q.Walk.plain rfl rfl (by intro val w_ hR hp; exact op_move rfl rfl ⟨Chg.refl _ _, rfl⟩) ?_; dsimp only [List.nil_append, List.cons_append]
    refine Q.Walk.guardF rfl rfl rfl (fun _ => rfl) rfl ?_; dsimp only [List.nil_append, List.cons_append]
    refine Q.Walk.guardF rfl rfl rfl (fun _ => rfl) rfl ?_; dsimp only [List.nil_append, List.cons_append]
    refine Q.Walk.guardF rfl rfl rfl (fun _ => rfl) rfl ?_; dsimp only [List.nil_append, List.cons_append]
    refine Q.Walk.guardF rfl rfl rfl (fun _ => rfl) rfl ?_; dsimp only [List.nil_append, List.cons_append]
    refine Q.Walk.plain rfl rfl (by intro val w_ hR hp; exact op_pick rfl rfl rfl rfl ⟨Chg.refl _ _, rfl⟩) ?_; dsimp only [List.nil_append, List.cons_append]
    refine Q.Walk.turn rfl (fun _ w => Blk w g2 33 (recL (decR b))) rfl (fun _ _ _ h hab => h.keep0 hab) ?_ ?_
    · intro val w_ hR hp
      exact op_store_agg T rfl rfl rfl rfl rfl rfl (hgood w_ hR) (by exact Nat.le_of_ble_eq_true rfl) (fun w7 hc7 hg57 _ => ⟨hc7, hg57⟩)
    refine Q.Walk.fin ?_
    intro val w10 hc10 hp hn
    obtain ⟨_, hb10⟩ := hn 13 (by omega) _ rfl rfl
    have hb10 : Blk w10 g2 33 (recL (decR b)) := hb10
    have hcend := hc9.trans hc10 (S' := [g2]) (S := []) (fun k hk hlt => by have := hS2 k hk; omega)
    refine WL_sub (e' := [(2, .pointer (some ⟨g2, 0, none⟩)), (41, .bool false)]) ⟨rfl, rfl, trivial⟩ ?_
    repeat (first | refine W_ret ?_ | refine Then_n ?_ | refine WL_nil ?_ | refine WL_some rfl rfl rfl ?_ | refine op_assign rfl rfl ?_)
    refine post2c T (.inl rfl) rfl rfl rfl rfl rfl hb10 rfl ⟨hcend, ?_⟩
    rw [hok]
end Go.Proofs.YtbhnplghnhafiaaDoor.Tryd
/-! Slices whose elements have several cells, as they come in. -/
set_option linter.unusedSimpArgs false
set_option linter.unusedVariables false
namespace Go.Vc
open Go
/-- v is a slice that reads as L, each element's k cells by R. -/
def SliceK {α : Type} (k : Nat) (R : World → List Value → α → Prop) (w : World) (v : Value) (L : List α) : Prop :=
  ∃ A c, v = .slice A L.length c ∧ L.length ≤ c ∧ c ≤ maxLen ∧ ∀ i x, L[i]? = some x → ∃ ad cs, A = some ad ∧ cs.length = k ∧ (∀ j u, cs[j]? = some u → w.cell? (ad.add (i * k + j)) = some u) ∧ R w cs x
def KeptK {α : Type} (R : World → List Value → α → Prop) : Prop := ∀ w w' cs x, Chg [] w w' → R w cs x → R w' cs x
section
variable {α : Type} {k : Nat} {R : World → List Value → α → Prop} {w w' : World} {v : Value} {L : List α}
theorem SliceK.keep (hR : KeptK R) (hc : Chg [] w w') (h : SliceK k R w v L) : SliceK k R w' v L := by
  obtain ⟨A, c, rfl, h1, h2, h⟩ := h
  refine ⟨A, c, rfl, h1, h2, fun i x hx => ?_⟩
  obtain ⟨ad, cs, rfl, hl, hu, hr⟩ := h i x hx
  exact ⟨ad, cs, rfl, hl, fun j u hj => hc.cell0 (hu j u hj), hR _ _ _ _ hc hr⟩
theorem SliceK.nil (k : Nat) (R : World → List Value → α → Prop) (w : World) : SliceK k R w (.slice none 0 0) [] := ⟨none, 0, rfl, Nat.le_refl _, Nat.zero_le _, fun i x h => by simp at h⟩
theorem SliceK.form (h : SliceK k R w v L) : ∃ A c, v = .slice A L.length c ∧ L.length ≤ c ∧ c ≤ maxLen := let ⟨A, c, h1, h2, h3, _⟩ := h; ⟨A, c, h1, h2, h3⟩
theorem SliceK.len {A : Option Addr} {n c : Nat} (h : SliceK k R w (.slice A n c) L) : n = L.length ∧ L.length ≤ c ∧ c ≤ maxLen := by
  obtain ⟨A', c', he, h1, h2, _⟩ := h
  injection he with e1 e2 e3
  subst e2; subst e3
  exact ⟨rfl, h1, h2⟩
theorem SliceK.get {A : Option Addr} {n c : Nat} (h : SliceK k R w (.slice A n c) L) {i : Nat} {x : α} (hx : L[i]? = some x) : ∃ ad cs, A = some ad ∧ cs.length = k ∧ (∀ j u, cs[j]? = some u → w.cell? (ad.add (i * k + j)) = some u) ∧ R w cs x := by
  obtain ⟨A', c', he, _, _, hh⟩ := h
  injection he with h1 h2 h3
  subst h1
  exact hh i x hx
theorem SliceK.take {A : Option Addr} {n c m j : Nat} (h : SliceK k R w (.slice A n c) L) (hm : m = min j L.length) : SliceK k R w (.slice A m c) (L.take j) := by
  obtain ⟨hn, h1, h2⟩ := h.len
  refine ⟨A, c, by rw [List.length_take, hm], by rw [List.length_take]; omega, h2, fun i x hx => ?_⟩
  rw [List.getElem?_take] at hx
  split at hx
  · exact h.get hx
  · cases hx
end
section
variable {P : Program} {N : Nat} {e : Env} {w : World} {o : Oper} {K : Value → World → Prop}
/-- A struct out of cells that are known. -/
theorem op_load_cells (T : Types P) {x : Operand} {t : TypeId} {d : TInfo} {ad : Addr} {cs : List Value}
    (hop : o.op = .load t x) (hx : ev e x = some (.pointer (some ad))) (ht : T.tbl t = some d) (hd : aggI d = true) (hs' : Nat.beq d.size cs.length = true) (hcs : ∀ j u, cs[j]? = some u → w.cell? (ad.add j) = some u) (h : K (.agg cs.toArray) w) : OpW P N o e w K := by
  obtain ⟨q, hq, _, hs, _⟩ := T.inf t d ht
  refine OpW_run (fun a ha => ?_) h
  have hl := run_loadCells_list (P := P) w ad cs hcs
  have hlen : d.size = cs.length := Nat.eq_of_beq_eq_true hs'
  rw [← hlen] at hl
  have hagg := run_isAgg T ht w
  rw [hd] at hagg
  simp [execOp, hop, ha.ev hx, Instr.loadAt, Instr.sureAddr, loadVar, hagg, sizeOf, typeInfo, hq, hs, hl]
end
attribute [irreducible] SliceK
end Go.Vc
/-! Records, one behind the other. -/
set_option linter.unusedVariables false
namespace Go.Vc
open Go
theorem recGo_nth {seals : List (List UInt8)} {k at_ : Nat} {cut : Bool} {s : List UInt8} (h : seals[k]? = some s) : recGo (seals.drop k) at_ cut = if decOk s = true then (decR s :: (recGo (seals.drop (k + 1)) (at_ + (sealM s).length) cut).1, (recGo (seals.drop (k + 1)) (at_ + (sealM s).length) cut).2) else ([], at_, false) := by
  have hi := (List.getElem?_eq_some_iff.1 h).1
  rw [List.drop_eq_getElem_cons hi]
  have : seals[k] = s := (List.getElem?_eq_some_iff.1 h).2
  rw [this, recGo]
end Go.Vc
namespace Go.Proofs.YtbhnplghnhafiaaDoor.Tryd
open Go Go.Vc
theorem recL_one (r : RecM) : ∀ u ∈ recL r, u.oneCell' = true := by
  intro u hu
  simp [recL] at hu
  rcases hu with rfl | rfl | rfl | rfl <;> rfl
set_option maxHeartbeats 4000000 in
theorem rscan_has (A : Option Addr) (n c : Nat) (b : List UInt8) (w : World) (hl : SliceOf Ru8 w (.slice A n c) b) (hb : b.length ≤ 1000000000) :
    Has Go.Proofs.Tryd.prog 32 #[.slice A n c] w (fun v w' => ∃ u, v = .tuple #[u, .int .i64 ((rscanM b).2.1 : Nat), .bool (rscanM b).2.2] ∧ Chg [] w w' ∧ Own w' 33 4 u (rscanM b).1.length ((rscanM b).1.flatMap recL) ∧ ∀ h, u.ownBlock = some h → w.heap.size ≤ h) := by
  refine enter Go.Proofs.Tryd.func32 rfl rfl (by decide) rfl (e := [(0, .slice A n c)]) ⟨rfl, trivial⟩ ?_
  repeat (first | refine W_seq ?_ | refine W_region ?_ | refine Then_n ?_ | refine WL_nil ?_ | refine WL_some rfl rfl rfl ?_ | refine op_move rfl rfl ?_ | refine op_assign rfl rfl ?_)
  refine op_call rfl rfl rfl (scan_has A n c b w hl hb) ?_
  rintro _ w1 ⟨us, rfl, hc1, hos, hfs⟩
  obtain ⟨hn1, hn2⟩ := scanM_bound b.length b (Nat.le_refl _)
  unfold rscanM
  generalize scanM b = q at *
  obtain ⟨seals, tot, cut⟩ := q
  dsimp only at *
  have hss := hos.reads
  obtain ⟨As, cs, rfl, hs1, hs2⟩ := hss.form
  clear hos hfs
  unfold maxLen at hs2
  repeat (first | refine W_seq ?_ | refine W_block ?_ | refine W_region ?_ | refine Then_n ?_ | refine WL_nil ?_ | refine WL_some rfl rfl rfl ?_ | refine op_move rfl rfl ?_ | refine op_assign rfl rfl ?_ | refine op_len_slice T rfl rfl rfl rfl ?_ | refine op_extract rfl rfl rfl ?_)
  refine W_loop (σ := Nat × List RecM × Nat × Value) (fun s => [(7, .bool cut), (8, s.2.2.2), (9, .int .i64 s.2.2.1), (20, .slice As seals.length cs), (21, .int .i64 seals.length), (22, .int .i64 s.1)])
    (fun s w' => s.1 ≤ seals.length ∧ s.2.1.length ≤ s.1 ∧ s.2.2.1 ≤ s.1 * 1000000100 ∧ recGo seals 0 cut = (s.2.1 ++ (recGo (seals.drop s.1) s.2.2.1 cut).1, (recGo (seals.drop s.1) s.2.2.1 cut).2) ∧ Chg [] w1 w' ∧ Own w' 33 4 s.2.2.2 s.2.1.length (s.2.1.flatMap recL) ∧ ∀ h, s.2.2.2.ownBlock = some h → w1.heap.size ≤ h)
    (fun s => seals.length - s.1) (0, [], 0, .slice none 0 0) ⟨rfl, rfl, rfl, rfl, rfl, rfl, trivial⟩ ⟨Nat.zero_le _, Nat.zero_le _, Nat.zero_le _, by simp, Chg.refl _ _, Own.nil _ _ _, fun h hh => by simp [Value.ownBlock] at hh⟩ ?_
  rintro ⟨k, l, at_, v⟩ w2 ⟨h1, h2, h3, h4, h5, h6, h7⟩
  dsimp only at h1 h2 h3 h4 h5 h6 h7 ⊢
  repeat (first | refine W_seq ?_ | refine W_region ?_ | refine WL_some rfl rfl rfl ?_)
  (refine op_lss rfl rfl rfl (fun hc => ?_) (fun hc => ?_))
  · have hk : k < seals.length := by omega
    obtain ⟨ad, us, rfl, hus1, hrs1⟩ := hss.get (i := k) (List.getElem?_eq_getElem hk)
    have hus := h5.cell0 hus1
    have hstep := recGo_nth (at_ := at_) (cut := cut) (List.getElem?_eq_getElem hk)
    have hsl : seals[k].length ≤ b.length := hn2 _ (List.getElem_mem hk)
    generalize seals[k] = s at *
    obtain ⟨A3, c3, rfl, _, _⟩ := SliceOf.form hrs1
    have hrs1 : SliceOf Ru8 w1 (.slice A3 s.length c3) s := hrs1
    have hrs : SliceOf Ru8 w2 (.slice A3 s.length c3) s := SliceOf.kept Ru8.kept _ _ _ _ h5 hrs1
    repeat (first | refine W_seq ?_ | refine W_block ?_ | refine W_region ?_ | refine W_skip ?_ | refine Then_n ?_ | refine WL_nil ?_ | refine W_condT rfl ?_ | refine WL_some rfl rfl rfl ?_ | refine op_move rfl rfl ?_ | refine op_assign rfl rfl ?_ | refine op_index_nat T rfl rfl rfl rfl rfl rfl (by omega) ?_ | refine op_load T rfl rfl rfl rfl (by assumption) ?_)
    refine op_call rfl rfl rfl (decode_has A3 _ c3 s w2 hrs (by omega)) ?_
    rintro _ w3 ⟨hc3, rfl⟩
    repeat (first | refine WL_some rfl rfl rfl ?_ | refine op_move rfl rfl ?_ | refine op_extract rfl rfl rfl ?_)
    refine op_alloc T rfl rfl (fun g w4 hs4 hc4 hg4 => ?_)
    have hg4 : Blk w4 g 33 [.int .i64 0, .int .i64 0, .string (str []), .string (str [])] := hg4
    have hs4 : w3.heap.size ≤ g := hs4
    repeat (refine WL_none rfl rfl ?_)
    refine op_store_agg T rfl rfl rfl rfl rfl rfl hg4 (by exact Nat.le_of_ble_eq_true rfl) (fun w5 hc5 hg5 _ => ?_)
    have hg5 : Blk w5 g 33 (recL (decR s)) := hg5
    have hc25 : Chg [] w2 w5 := (hc3.trans' hc4).trans hc5 (fun k hk hlt => by simp at hk; have := hc3.size; omega)
    by_cases hok : decOk s = true
    · rw [if_pos hok] at hstep
      rw [hok]
      have hrs5 := SliceOf.kept Ru8.kept _ _ _ _ hc25 hrs
      have h65 := h6.keep0 hc25
      unfold recL at hg5
      repeat (first | refine W_seq ?_ | refine W_region ?_ | refine W_skip ?_ | refine Then_n ?_ | refine WL_nil ?_ | refine W_condF rfl ?_ | refine WL_some rfl rfl rfl ?_ | refine op_move rfl rfl ?_ | refine op_assign rfl rfl ?_ | refine op_notT rfl rfl ?_ | refine op_load_agg T rfl rfl rfl rfl (by assumption) (by exact Nat.le_of_ble_eq_true rfl) (by exact rfl) ?_)
      refine op_buildSlice T rfl rfl rfl rfl rfl rfl rfl (fun g6 w6 hs6 hc6 hg6 => ?_)
      have hg6 : Blk w6 g6 33 (recL (decR s)) := hg6
      have h66 := h65.keep0 hc6
      obtain ⟨Av, cv, rfl, _, _⟩ := h66.form
      repeat (refine WL_some rfl rfl rfl ?_)
      refine op_append T (n := l.length) (xs := l.flatMap recL) (m := 1) (news := recL (decR s)) rfl rfl rfl rfl rfl rfl rfl rfl h66 rfl ?_ (by unfold maxLen; omega) (by show (l.length + 1) * 48 ≤ _; omega) ?_
      · intro j u hj
        exact ⟨⟨_, rfl, by rw [add_plain]; exact hg6.cell hj⟩, recL_one _ u (List.mem_of_getElem? hj)⟩
      · intro v7 w7 ho7 hc7 hb7 _
        have hfr : ∀ h, v7.ownBlock = some h → w1.heap.size ≤ h := fun h hh => by
          rcases hb7 with hb | ⟨g', hb, hge⟩
          · exact h7 h (by rw [← hb]; exact hh)
          · rw [hb] at hh; injection hh with hh; have := h5.size; have := hc25.size; have := hc6.size; omega
        have hc27 : Chg [] w1 w7 := ((h5.trans' hc25).trans' hc6).trans hc7 (fun k hk hlt => by have := h7 k (by simpa using hk); omega)
        have hrs7 := SliceOf.kept Ru8.kept _ _ _ _ hc27 hrs1
        repeat (first | refine W_region ?_ | refine Then_n ?_ | refine WL_nil ?_ | refine WL_some rfl rfl rfl ?_ | refine op_move rfl rfl ?_ | refine op_assign rfl rfl ?_)
        refine op_call rfl rfl rfl (seal_has A3 _ c3 s w7 hrs7 (by omega)) ?_
        intro v8 w8 m8
        obtain ⟨A8, c8, rfl, _, _⟩ := m8.form
        have hsz := sealM_length s
        repeat (first | refine W_region ?_ | refine Then_n ?_ | refine InBlock_n ?_ | refine WL_nil ?_ | refine WL_some rfl rfl rfl ?_ | refine op_move rfl rfl ?_ | refine op_assign rfl rfl ?_ | refine op_len_slice T rfl rfl rfl rfl ?_ | refine op_add rfl rfl rfl (wrap_i64_in (by omega) (by omega)) ?_)
        refine Round_n (k + 1, l ++ [decR s], at_ + (sealM s).length, v7) ⟨rfl, rfl, some_int (by dsimp only; omega), rfl, rfl, rfl, trivial⟩ ⟨by dsimp only; omega, by dsimp only; simp; omega, by dsimp only; omega, ?_, hc27.trans' m8.chg, ?_, hfr⟩ (by dsimp only; omega)
        · dsimp only
          rw [h4, hstep, List.append_assoc]; rfl
        · dsimp only
          rw [List.length_append, List.flatMap_append]
          simpa using ho7.keep0 m8.chg
    · rw [if_neg hok] at hstep
      rw [show decOk s = false from by simpa using hok]
      repeat (first | refine W_seq ?_ | refine W_region ?_ | refine W_ret ?_ | refine Then_n ?_ | refine Then_r ?_ | refine InBlock_r ?_ | refine Round_r ?_ | refine WL_nil ?_ | refine W_condT rfl ?_ | refine WL_some rfl rfl rfl ?_ | refine op_move rfl rfl ?_ | refine op_assign rfl rfl ?_ | refine op_notF rfl rfl ?_)
      rw [h4, hstep]
      refine post3 (.inl rfl) rfl rfl rfl rfl ⟨_, rfl, hc1.trans' (h5.trans' hc25), ?_, fun h hh => by have := h7 h hh; have := hc1.size; omega⟩
      rw [List.append_nil]
      exact h6.keep0 hc25
  · obtain rfl : k = seals.length := by omega
    rw [List.drop_length] at h4
    rw [h4]
    repeat (first | refine W_seq ?_ | refine W_region ?_ | refine W_exit ?_ | refine W_ret ?_ | refine Then_n ?_ | refine Then_x ?_ | refine InBlock_hit ?_ | refine Round_x ?_ | refine WL_nil ?_ | refine W_condF rfl ?_ | refine WL_some rfl rfl rfl ?_ | refine op_move rfl rfl ?_ | refine op_assign rfl rfl ?_)
    refine post3 (.inl rfl) rfl rfl rfl rfl ⟨_, rfl, hc1.trans' h5, ?_, fun h hh => by have := h7 h hh; have := hc1.size; omega⟩
    simp only [recGo, List.append_nil]
    exact h6
end Go.Proofs.YtbhnplghnhafiaaDoor.Tryd
/-! The reference's records, walked: GetText, Check, Eq, one. -/
set_option linter.unusedVariables false
namespace Go.Proofs.YtbhnplghnhafiaaDoor.Tryd
open Go Go.Vc
set_option maxHeartbeats 1000000 in
theorem rgetText_has (A : Option Addr) (n c : Nat) (l : List UInt8) (w : World) (hl : SliceOf Ru8 w (.slice A n c) l) :
    Has Go.Proofs.Tryd.prog 64 #[.slice A n c] w (fun v w' => w' = w ∧ v = .tuple #[.string (str (getTextM l).1), .int .i64 ((getTextM l).2 : Nat)]) := by
  obtain ⟨rfl, hl1, hl2⟩ := hl.len
  unfold maxLen at hl2
  have hb := getM_bound l
  refine enter Go.Proofs.Tryd.func64 rfl rfl (by decide) rfl (e := [(0, .slice A l.length c)]) ⟨rfl, trivial⟩ ?_
  refine run ?_
  refine go T 9 rfl ?_
  refine o1 rfl ?_
  refine op_call rfl rfl rfl (rget_has A l.length c l w hl) ?_
  rintro _ _ ⟨rfl, rfl⟩
  unfold getTextM
  generalize getM l = q at *
  obtain ⟨n, k⟩ := q
  dsimp only at *
  by_cases hk : k = 0
  · rw [if_pos (.inl hk)]
    refine go T 11 rfl ?_
    refine eqT rfl rfl rfl rfl (by omega) ?_
    refine go T 20 rfl ?_
    exact post2 (.inl rfl) rfl rfl rfl ⟨rfl, rfl⟩
  · by_cases hn : l.length - k < n
    · rw [if_pos (.inr hn)]
      refine go T 11 rfl ?_
      refine eqF rfl rfl rfl rfl (by omega) ?_
      refine go T 5 rfl ?_
      refine sbI rfl rfl rfl rfl (by omega) (by omega) ?_
      refine o1 rfl (op_convert_fit T rfl rfl rfl rfl (wrap_u64_in (by omega) (by omega)) ?_)
      refine gtT rfl rfl rfl rfl (by omega) ?_
      refine go T 12 rfl ?_
      exact post2 (.inl rfl) rfl rfl rfl ⟨rfl, rfl⟩
    · rw [if_neg (by omega)]
      refine go T 11 rfl ?_
      refine eqF rfl rfl rfl rfl (by omega) ?_
      refine go T 5 rfl ?_
      refine sbI rfl rfl rfl rfl (by omega) (by omega) ?_
      refine o1 rfl (op_convert_fit T rfl rfl rfl rfl (wrap_u64_in (by omega) (by omega)) ?_)
      refine gtF rfl rfl rfl rfl (by omega) ?_
      refine go T 12 rfl ?_
      refine o1 rfl (op_convert_fit T rfl rfl rfl rfl (wrap_i64_in (by omega) (by omega)) ?_)
      refine adI rfl rfl rfl rfl (by omega) (by omega) ?_
      refine o1 rfl ?_
      refine op_cut T (l := k) (h' := k + n) rfl rfl rfl rfl rfl ⟨_, rfl⟩ ⟨_, some_int (by omega)⟩ hl (by omega) (by omega) (fun A' hA' => ?_)
      have hs := hA' _ hl
      rw [show (l.take (k + n)).drop k = (l.drop k).take n from by rw [List.drop_take]; congr 1; omega] at hs
      refine o1 rfl ?_
      refine op_string T rfl rfl rfl rfl rfl hs ?_
      refine go T 2 rfl ?_
      refine o1 rfl (op_convert_fit T rfl rfl rfl rfl (wrap_i64_in (by omega) (by omega)) ?_)
      refine adI rfl rfl rfl rfl (by omega) (by omega) ?_
      refine go T 5 rfl ?_
      exact post2 (.inl rfl) rfl rfl (some_int (by omega)) ⟨rfl, rfl⟩
set_option maxHeartbeats 1000000 in
theorem rcheck_has (r : RecM) (w : World) : Has Go.Proofs.Tryd.prog 37 #[.agg (recL r).toArray] w (fun v w' => Chg [] w w' ∧ v = .int .i64 (checkM r)) := by
  refine enter Go.Proofs.Tryd.func37 rfl rfl (by decide) rfl (e := [(0, .agg (recL r).toArray)]) ⟨rfl, trivial⟩ ?_
  obtain ⟨kd, sq, ky, vl⟩ := r
  refine run ?_
  refine go T 2 rfl ?_
  refine o1 rfl ?_
  refine op_box rfl rfl (fun g w1 hgs hc1 hg1 => ?_)
  have hg1 : Blk w1 g 33 [.int .i64 kd, .int .i64 sq, .string (str ky), .string (str vl)] := hg1
  unfold checkM
  dsimp only
  refine go T 8 rfl ?_
  refine ldB T hg1 rfl rfl rfl rfl rfl rfl ?_
  refine o1 rfl ?_
  refine op_str_eql (a := ky) (b := []) rfl rfl rfl (fun h => ?_) (fun h => ?_)
  · rw [if_pos h]
    refine go T 12 rfl ?_
    exact post1 (.inl rfl) rfl rfl ⟨hc1, rfl⟩
  rw [if_neg h]
  by_cases h2 : 100 < ky.length
  · rw [if_pos (.inl h2)]
    refine go T 7 rfl ?_
    refine ldB T hg1 rfl rfl rfl rfl rfl rfl ?_
    refine o1 rfl (op_len_str T rfl rfl rfl rfl ?_)
    refine gtT rfl rfl rfl rfl (by omega) ?_
    refine go T 18 rfl ?_
    exact post1 (.inl rfl) rfl rfl ⟨hc1, rfl⟩
  by_cases h3 : 4000 < vl.length
  · rw [if_pos (.inr h3)]
    refine go T 7 rfl ?_
    refine ldB T hg1 rfl rfl rfl rfl rfl rfl ?_
    refine o1 rfl (op_len_str T rfl rfl rfl rfl ?_)
    refine gtF rfl rfl rfl rfl (by omega) ?_
    refine go T 2 rfl ?_
    refine ldB T hg1 rfl rfl rfl rfl rfl rfl ?_
    refine o1 rfl (op_len_str T rfl rfl rfl rfl ?_)
    refine gtT rfl rfl rfl rfl (by omega) ?_
    refine go T 13 rfl ?_
    exact post1 (.inl rfl) rfl rfl ⟨hc1, rfl⟩
  rw [if_neg (by omega)]
  by_cases hk1 : kd = 1
  · by_cases hs1 : sq < 1
    · rw [if_pos (by omega)]
      refine go T 7 rfl ?_
      refine ldB T hg1 rfl rfl rfl rfl rfl rfl ?_
      refine o1 rfl (op_len_str T rfl rfl rfl rfl ?_)
      refine gtF rfl rfl rfl rfl (by omega) ?_
      refine go T 2 rfl ?_
      refine ldB T hg1 rfl rfl rfl rfl rfl rfl ?_
      refine o1 rfl (op_len_str T rfl rfl rfl rfl ?_)
      refine gtF rfl rfl rfl rfl (by omega) ?_
      refine go T 8 rfl ?_
      refine ldB T hg1 rfl rfl rfl rfl rfl rfl ?_
      refine neF rfl rfl rfl rfl (by omega) ?_
      refine go T 7 rfl ?_
      refine ldB T hg1 rfl rfl rfl rfl rfl rfl ?_
      refine eqF rfl rfl rfl rfl (by omega) ?_
      refine go T 8 rfl ?_
      refine ldB T hg1 rfl rfl rfl rfl rfl rfl ?_
      refine ltT rfl rfl rfl rfl (by omega) ?_
      refine go T 18 rfl ?_
      exact post1 (.inl rfl) rfl rfl ⟨hc1, rfl⟩
    by_cases hs2 : 1125899906842624 < sq
    · rw [if_pos (by omega)]
      refine go T 7 rfl ?_
      refine ldB T hg1 rfl rfl rfl rfl rfl rfl ?_
      refine o1 rfl (op_len_str T rfl rfl rfl rfl ?_)
      refine gtF rfl rfl rfl rfl (by omega) ?_
      refine go T 2 rfl ?_
      refine ldB T hg1 rfl rfl rfl rfl rfl rfl ?_
      refine o1 rfl (op_len_str T rfl rfl rfl rfl ?_)
      refine gtF rfl rfl rfl rfl (by omega) ?_
      refine go T 8 rfl ?_
      refine ldB T hg1 rfl rfl rfl rfl rfl rfl ?_
      refine neF rfl rfl rfl rfl (by omega) ?_
      refine go T 7 rfl ?_
      refine ldB T hg1 rfl rfl rfl rfl rfl rfl ?_
      refine eqF rfl rfl rfl rfl (by omega) ?_
      refine go T 8 rfl ?_
      refine ldB T hg1 rfl rfl rfl rfl rfl rfl ?_
      refine ltF rfl rfl rfl rfl (by omega) ?_
      refine go T 3 rfl ?_
      refine ldB T hg1 rfl rfl rfl rfl rfl rfl ?_
      refine gtT rfl rfl rfl rfl (by omega) ?_
      refine go T 13 rfl ?_
      exact post1 (.inl rfl) rfl rfl ⟨hc1, rfl⟩
    rw [if_neg (by omega)]
    refine go T 7 rfl ?_
    refine ldB T hg1 rfl rfl rfl rfl rfl rfl ?_
    refine o1 rfl (op_len_str T rfl rfl rfl rfl ?_)
    refine gtF rfl rfl rfl rfl (by omega) ?_
    refine go T 2 rfl ?_
    refine ldB T hg1 rfl rfl rfl rfl rfl rfl ?_
    refine o1 rfl (op_len_str T rfl rfl rfl rfl ?_)
    refine gtF rfl rfl rfl rfl (by omega) ?_
    refine go T 8 rfl ?_
    refine ldB T hg1 rfl rfl rfl rfl rfl rfl ?_
    refine neF rfl rfl rfl rfl (by omega) ?_
    refine go T 7 rfl ?_
    refine ldB T hg1 rfl rfl rfl rfl rfl rfl ?_
    refine eqF rfl rfl rfl rfl (by omega) ?_
    refine go T 8 rfl ?_
    refine ldB T hg1 rfl rfl rfl rfl rfl rfl ?_
    refine ltF rfl rfl rfl rfl (by omega) ?_
    refine go T 3 rfl ?_
    refine ldB T hg1 rfl rfl rfl rfl rfl rfl ?_
    refine gtF rfl rfl rfl rfl (by omega) ?_
    refine go T 14 rfl ?_
    exact post1 (.inl rfl) rfl rfl ⟨hc1, rfl⟩
  by_cases hk0 : kd = 0
  · by_cases hv : vl = []
    · by_cases hs1 : sq < 1
      · rw [if_pos (by omega)]
        refine go T 7 rfl ?_
        refine ldB T hg1 rfl rfl rfl rfl rfl rfl ?_
        refine o1 rfl (op_len_str T rfl rfl rfl rfl ?_)
        refine gtF rfl rfl rfl rfl (by omega) ?_
        refine go T 2 rfl ?_
        refine ldB T hg1 rfl rfl rfl rfl rfl rfl ?_
        refine o1 rfl (op_len_str T rfl rfl rfl rfl ?_)
        refine gtF rfl rfl rfl rfl (by omega) ?_
        refine go T 8 rfl ?_
        refine ldB T hg1 rfl rfl rfl rfl rfl rfl ?_
        refine neT rfl rfl rfl rfl (by omega) ?_
        refine go T 2 rfl ?_
        refine ldB T hg1 rfl rfl rfl rfl rfl rfl ?_
        refine neF rfl rfl rfl rfl (by omega) ?_
        refine go T 3 rfl ?_
        refine ldB T hg1 rfl rfl rfl rfl rfl rfl ?_
        refine eqT rfl rfl rfl rfl (by omega) ?_
        refine go T 2 rfl ?_
        refine ldB T hg1 rfl rfl rfl rfl rfl rfl ?_
        refine o1 rfl ?_
        refine op_str_neq (a := vl) (b := []) rfl rfl rfl (fun h => absurd hv h) (fun h => ?_)
        refine go T 4 rfl ?_
        refine ldB T hg1 rfl rfl rfl rfl rfl rfl ?_
        refine ltT rfl rfl rfl rfl (by omega) ?_
        refine go T 18 rfl ?_
        exact post1 (.inl rfl) rfl rfl ⟨hc1, rfl⟩
      by_cases hs2 : 1125899906842624 < sq
      · rw [if_pos (by omega)]
        refine go T 7 rfl ?_
        refine ldB T hg1 rfl rfl rfl rfl rfl rfl ?_
        refine o1 rfl (op_len_str T rfl rfl rfl rfl ?_)
        refine gtF rfl rfl rfl rfl (by omega) ?_
        refine go T 2 rfl ?_
        refine ldB T hg1 rfl rfl rfl rfl rfl rfl ?_
        refine o1 rfl (op_len_str T rfl rfl rfl rfl ?_)
        refine gtF rfl rfl rfl rfl (by omega) ?_
        refine go T 8 rfl ?_
        refine ldB T hg1 rfl rfl rfl rfl rfl rfl ?_
        refine neT rfl rfl rfl rfl (by omega) ?_
        refine go T 2 rfl ?_
        refine ldB T hg1 rfl rfl rfl rfl rfl rfl ?_
        refine neF rfl rfl rfl rfl (by omega) ?_
        refine go T 3 rfl ?_
        refine ldB T hg1 rfl rfl rfl rfl rfl rfl ?_
        refine eqT rfl rfl rfl rfl (by omega) ?_
        refine go T 2 rfl ?_
        refine ldB T hg1 rfl rfl rfl rfl rfl rfl ?_
        refine o1 rfl ?_
        refine op_str_neq (a := vl) (b := []) rfl rfl rfl (fun h => absurd hv h) (fun h => ?_)
        refine go T 4 rfl ?_
        refine ldB T hg1 rfl rfl rfl rfl rfl rfl ?_
        refine ltF rfl rfl rfl rfl (by omega) ?_
        refine go T 3 rfl ?_
        refine ldB T hg1 rfl rfl rfl rfl rfl rfl ?_
        refine gtT rfl rfl rfl rfl (by omega) ?_
        refine go T 13 rfl ?_
        exact post1 (.inl rfl) rfl rfl ⟨hc1, rfl⟩
      rw [if_neg (by rintro (h | h | h | h); · omega
                     · exact h.2 hv
                     · omega
                     · omega)]
      refine go T 7 rfl ?_
      refine ldB T hg1 rfl rfl rfl rfl rfl rfl ?_
      refine o1 rfl (op_len_str T rfl rfl rfl rfl ?_)
      refine gtF rfl rfl rfl rfl (by omega) ?_
      refine go T 2 rfl ?_
      refine ldB T hg1 rfl rfl rfl rfl rfl rfl ?_
      refine o1 rfl (op_len_str T rfl rfl rfl rfl ?_)
      refine gtF rfl rfl rfl rfl (by omega) ?_
      refine go T 8 rfl ?_
      refine ldB T hg1 rfl rfl rfl rfl rfl rfl ?_
      refine neT rfl rfl rfl rfl (by omega) ?_
      refine go T 2 rfl ?_
      refine ldB T hg1 rfl rfl rfl rfl rfl rfl ?_
      refine neF rfl rfl rfl rfl (by omega) ?_
      refine go T 3 rfl ?_
      refine ldB T hg1 rfl rfl rfl rfl rfl rfl ?_
      refine eqT rfl rfl rfl rfl (by omega) ?_
      refine go T 2 rfl ?_
      refine ldB T hg1 rfl rfl rfl rfl rfl rfl ?_
      refine o1 rfl ?_
      refine op_str_neq (a := vl) (b := []) rfl rfl rfl (fun h => absurd hv h) (fun h => ?_)
      refine go T 4 rfl ?_
      refine ldB T hg1 rfl rfl rfl rfl rfl rfl ?_
      refine ltF rfl rfl rfl rfl (by omega) ?_
      refine go T 3 rfl ?_
      refine ldB T hg1 rfl rfl rfl rfl rfl rfl ?_
      refine gtF rfl rfl rfl rfl (by omega) ?_
      refine go T 14 rfl ?_
      exact post1 (.inl rfl) rfl rfl ⟨hc1, rfl⟩
    · rw [if_pos (.inr (.inl ⟨hk0, hv⟩))]
      refine go T 7 rfl ?_
      refine ldB T hg1 rfl rfl rfl rfl rfl rfl ?_
      refine o1 rfl (op_len_str T rfl rfl rfl rfl ?_)
      refine gtF rfl rfl rfl rfl (by omega) ?_
      refine go T 2 rfl ?_
      refine ldB T hg1 rfl rfl rfl rfl rfl rfl ?_
      refine o1 rfl (op_len_str T rfl rfl rfl rfl ?_)
      refine gtF rfl rfl rfl rfl (by omega) ?_
      refine go T 8 rfl ?_
      refine ldB T hg1 rfl rfl rfl rfl rfl rfl ?_
      refine neT rfl rfl rfl rfl (by omega) ?_
      refine go T 2 rfl ?_
      refine ldB T hg1 rfl rfl rfl rfl rfl rfl ?_
      refine neF rfl rfl rfl rfl (by omega) ?_
      refine go T 3 rfl ?_
      refine ldB T hg1 rfl rfl rfl rfl rfl rfl ?_
      refine eqT rfl rfl rfl rfl (by omega) ?_
      refine go T 2 rfl ?_
      refine ldB T hg1 rfl rfl rfl rfl rfl rfl ?_
      refine o1 rfl ?_
      refine op_str_neq (a := vl) (b := []) rfl rfl rfl (fun h => ?_) (fun h => absurd h hv)
      refine go T 24 rfl ?_
      exact post1 (.inl rfl) rfl rfl ⟨hc1, rfl⟩
  · rw [if_pos (.inl ⟨hk1, hk0⟩)]
    refine go T 7 rfl ?_
    refine ldB T hg1 rfl rfl rfl rfl rfl rfl ?_
    refine o1 rfl (op_len_str T rfl rfl rfl rfl ?_)
    refine gtF rfl rfl rfl rfl (by omega) ?_
    refine go T 2 rfl ?_
    refine ldB T hg1 rfl rfl rfl rfl rfl rfl ?_
    refine o1 rfl (op_len_str T rfl rfl rfl rfl ?_)
    refine gtF rfl rfl rfl rfl (by omega) ?_
    refine go T 8 rfl ?_
    refine ldB T hg1 rfl rfl rfl rfl rfl rfl ?_
    refine neT rfl rfl rfl rfl (by omega) ?_
    refine go T 2 rfl ?_
    refine ldB T hg1 rfl rfl rfl rfl rfl rfl ?_
    refine neT rfl rfl rfl rfl (by omega) ?_
    refine go T 33 rfl ?_
    exact post1 (.inl rfl) rfl rfl ⟨hc1, rfl⟩
set_option maxHeartbeats 1000000 in
theorem req_has (a b : RecM) (w : World) : Has Go.Proofs.Tryd.prog 22 #[.agg (recL a).toArray, .agg (recL b).toArray] w (fun v w' => Chg [] w w' ∧ v = .bool (recEq a b)) := by
  refine enter Go.Proofs.Tryd.func22 rfl rfl (by decide) rfl (e := [(0, .agg (recL a).toArray), (1, .agg (recL b).toArray)]) ⟨rfl, rfl, trivial⟩ ?_
  obtain ⟨a1, a2, a3, a4⟩ := a
  obtain ⟨b1, b2, b3, b4⟩ := b
  refine run ?_
  refine go T 2 rfl ?_
  refine o1 rfl ?_
  refine op_box rfl rfl (fun g w1 hgs hc1 hg1 => ?_)
  have hg1 : Blk w1 g 33 [.int .i64 a1, .int .i64 a2, .string (str a3), .string (str a4)] := hg1
  refine o1 rfl ?_
  refine op_box rfl rfl (fun g' w2 hgs' hc2 hg2 => ?_)
  have hg2 : Blk w2 g' 33 [.int .i64 b1, .int .i64 b2, .string (str b3), .string (str b4)] := hg2
  have hg12 := hg1.keep0 hc2
  have hcc := hc1.trans' hc2
  unfold recEq
  dsimp only
  by_cases h1 : a1 = b1
  · by_cases h2 : a2 = b2
    · by_cases h3 : a3 = b3
      · by_cases h4 : a4 = b4
        · rw [decide_eq_true ⟨h1, h2, h3, h4⟩]
          refine go T 6 rfl ?_
          refine ldB T hg12 rfl rfl rfl rfl rfl rfl ?_
          refine go T 1 rfl ?_
          refine ldB T hg2 rfl rfl rfl rfl rfl rfl ?_
          refine eqT rfl rfl rfl rfl (by omega) ?_
          refine go T 2 rfl ?_
          refine ldB T hg12 rfl rfl rfl rfl rfl rfl ?_
          refine go T 1 rfl ?_
          refine ldB T hg2 rfl rfl rfl rfl rfl rfl ?_
          refine eqT rfl rfl rfl rfl (by omega) ?_
          refine go T 3 rfl ?_
          refine ldB T hg12 rfl rfl rfl rfl rfl rfl ?_
          refine go T 1 rfl ?_
          refine ldB T hg2 rfl rfl rfl rfl rfl rfl ?_
          refine o1 rfl ?_
          refine op_str_eql (a := a3) (b := b3) rfl rfl rfl (fun h => ?_) (fun h => absurd h3 h)
          refine go T 3 rfl ?_
          refine ldB T hg12 rfl rfl rfl rfl rfl rfl ?_
          refine go T 1 rfl ?_
          refine ldB T hg2 rfl rfl rfl rfl rfl rfl ?_
          refine o1 rfl ?_
          refine op_str_eql (a := a4) (b := b4) rfl rfl rfl (fun h => ?_) (fun h => absurd h4 h)
          refine go T 5 rfl ?_
          exact post1 (.inl rfl) rfl rfl ⟨hcc, rfl⟩
        · rw [decide_eq_false (fun h => h4 h.2.2.2)]
          refine go T 6 rfl ?_
          refine ldB T hg12 rfl rfl rfl rfl rfl rfl ?_
          refine go T 1 rfl ?_
          refine ldB T hg2 rfl rfl rfl rfl rfl rfl ?_
          refine eqT rfl rfl rfl rfl (by omega) ?_
          refine go T 2 rfl ?_
          refine ldB T hg12 rfl rfl rfl rfl rfl rfl ?_
          refine go T 1 rfl ?_
          refine ldB T hg2 rfl rfl rfl rfl rfl rfl ?_
          refine eqT rfl rfl rfl rfl (by omega) ?_
          refine go T 3 rfl ?_
          refine ldB T hg12 rfl rfl rfl rfl rfl rfl ?_
          refine go T 1 rfl ?_
          refine ldB T hg2 rfl rfl rfl rfl rfl rfl ?_
          refine o1 rfl ?_
          refine op_str_eql (a := a3) (b := b3) rfl rfl rfl (fun h => ?_) (fun h => absurd h3 h)
          refine go T 3 rfl ?_
          refine ldB T hg12 rfl rfl rfl rfl rfl rfl ?_
          refine go T 1 rfl ?_
          refine ldB T hg2 rfl rfl rfl rfl rfl rfl ?_
          refine o1 rfl ?_
          refine op_str_eql (a := a4) (b := b4) rfl rfl rfl (fun h => absurd h h4) (fun h => ?_)
          refine go T 5 rfl ?_
          exact post1 (.inl rfl) rfl rfl ⟨hcc, rfl⟩
      · rw [decide_eq_false (fun h => h3 h.2.2.1)]
        refine go T 6 rfl ?_
        refine ldB T hg12 rfl rfl rfl rfl rfl rfl ?_
        refine go T 1 rfl ?_
        refine ldB T hg2 rfl rfl rfl rfl rfl rfl ?_
        refine eqT rfl rfl rfl rfl (by omega) ?_
        refine go T 2 rfl ?_
        refine ldB T hg12 rfl rfl rfl rfl rfl rfl ?_
        refine go T 1 rfl ?_
        refine ldB T hg2 rfl rfl rfl rfl rfl rfl ?_
        refine eqT rfl rfl rfl rfl (by omega) ?_
        refine go T 3 rfl ?_
        refine ldB T hg12 rfl rfl rfl rfl rfl rfl ?_
        refine go T 1 rfl ?_
        refine ldB T hg2 rfl rfl rfl rfl rfl rfl ?_
        refine o1 rfl ?_
        refine op_str_eql (a := a3) (b := b3) rfl rfl rfl (fun h => absurd h h3) (fun h => ?_)
        refine go T 12 rfl ?_
        exact post1 (.inl rfl) rfl rfl ⟨hcc, rfl⟩
    · rw [decide_eq_false (fun h => h2 h.2.1)]
      refine go T 6 rfl ?_
      refine ldB T hg12 rfl rfl rfl rfl rfl rfl ?_
      refine go T 1 rfl ?_
      refine ldB T hg2 rfl rfl rfl rfl rfl rfl ?_
      refine eqT rfl rfl rfl rfl (by omega) ?_
      refine go T 2 rfl ?_
      refine ldB T hg12 rfl rfl rfl rfl rfl rfl ?_
      refine go T 1 rfl ?_
      refine ldB T hg2 rfl rfl rfl rfl rfl rfl ?_
      refine eqF rfl rfl rfl rfl (by omega) ?_
      refine go T 19 rfl ?_
      exact post1 (.inl rfl) rfl rfl ⟨hcc, rfl⟩
  · rw [decide_eq_false (fun h => h1 h.1)]
    refine go T 6 rfl ?_
    refine ldB T hg12 rfl rfl rfl rfl rfl rfl ?_
    refine go T 1 rfl ?_
    refine ldB T hg2 rfl rfl rfl rfl rfl rfl ?_
    refine eqF rfl rfl rfl rfl (by omega) ?_
    refine go T 25 rfl ?_
    exact post1 (.inl rfl) rfl rfl ⟨hcc, rfl⟩
end Go.Proofs.YtbhnplghnhafiaaDoor.Tryd
/-! The reference's records, walked: one. -/
set_option linter.unusedVariables false
namespace Go.Proofs.YtbhnplghnhafiaaDoor.Tryd
open Go Go.Vc
set_option maxHeartbeats 4000000 in
/-- What the reference reads of a seal. -/
theorem one_has (A : Option Addr) (n c : Nat) (b : List UInt8) (w : World) (hl : SliceOf Ru8 w (.slice A n c) b) :
    Has Go.Proofs.Tryd.prog 42 #[.slice A n c] w (fun v w' => Chg [] w w' ∧ v = .tuple #[.agg (recL ((oneP b).getD nullR)).toArray, .bool (oneP b).isSome]) := by
  obtain ⟨rfl, hl1, hl2⟩ := hl.len
  unfold maxLen at hl2
  refine enter Go.Proofs.Tryd.func42 rfl rfl (by decide) rfl (e := [(0, .slice A b.length c)]) ⟨rfl, trivial⟩ ?_
  refine run ?_
  refine go T 2 rfl ?_
  refine o1 rfl ?_
  refine op_alloc T rfl rfl (fun g2 w1 hs1 hc1 hg2 => ?_)
  have hg2 : Blk w1 g2 33 [.int .i64 0, .int .i64 0, .string (str []), .string (str [])] := hg2
  have hs1 : w.heap.size ≤ g2 := hs1
  match b, hl, hl1, hl2 with
  | [], hl, hl1, hl2 =>
    simp only [List.length_nil] at *
    refine go T 8 rfl ?_
    refine eqT rfl rfl rfl rfl (by omega) ?_
    refine go T 11 rfl ?_
    refine o1 rfl (op_build T rfl rfl rfl rfl rfl rfl ?_)
    refine op0 rfl rfl ?_
    refine op_store_agg T rfl rfl rfl rfl rfl rfl hg2 (by exact Nat.le_of_ble_eq_true rfl) (fun w3 hc3 hb3 _ => ?_)
    refine go T 5 rfl ?_
    exact post2c T (.inl rfl) rfl rfl rfl rfl rfl hb3 rfl ⟨hc1.trans hc3 (fun k hk hlt => by simp at hk; omega), rfl⟩
  | ch :: t, hl, hl1, hl2 =>
    simp only [List.length_cons] at *
    obtain ⟨ad, u, rfl, hu0, rfl⟩ := hl.get (i := 0) rfl
    have hch := ch.toNat_lt
    have hu := hc1.cell0 hu0
    have hdrop : ∀ k, k ≤ t.length + 1 → ((ch :: t).take (t.length + 1)).drop k = (ch :: t).drop k := fun k _ => by rw [List.take_of_length_le (by simp)]
    unfold oneP
    dsimp only
    by_cases h1 : 1 < ch.toNat
    · rw [if_pos h1]
      refine go T 8 rfl ?_
      refine eqF rfl rfl rfl rfl (by omega) ?_
      refine go T 2 rfl ?_
      refine o1 rfl (op_index_nat (i := 0) T rfl rfl rfl rfl rfl rfl (by omega) ?_)
      refine o1 rfl (op_load T rfl rfl rfl rfl (by assumption) ?_)
      refine gtT rfl rfl rfl rfl (by omega) ?_
      refine go T 6 rfl ?_
      refine o1 rfl (op_build T rfl rfl rfl rfl rfl rfl ?_)
      refine op0 rfl rfl ?_
      refine op_store_agg T rfl rfl rfl rfl rfl rfl hg2 (by exact Nat.le_of_ble_eq_true rfl) (fun w3 hc3 hb3 _ => ?_)
      refine go T 5 rfl ?_
      exact post2c T (.inl rfl) rfl rfl rfl rfl rfl hb3 rfl ⟨hc1.trans hc3 (fun k hk hlt => by simp at hk; omega), rfl⟩
    rw [if_neg h1]
    refine go T 8 rfl ?_
    refine eqF rfl rfl rfl rfl (by omega) ?_
    refine go T 2 rfl ?_
    refine o1 rfl (op_index_nat (i := 0) T rfl rfl rfl rfl rfl rfl (by omega) ?_)
    refine o1 rfl (op_load T rfl rfl rfl rfl (by assumption) ?_)
    refine gtF rfl rfl rfl rfl (by omega) ?_
    refine go T 9 rfl ?_
    refine o1 rfl (op_index_nat (i := 0) T rfl rfl rfl rfl rfl rfl (by omega) ?_)
    refine o1 rfl (op_load T rfl rfl rfl rfl (by assumption) ?_)
    refine o1 rfl (op_convert_fit T rfl rfl rfl rfl (wrap_i64_in (by omega) (by omega)) ?_)
    refine o1 rfl (op_build T rfl rfl rfl rfl rfl rfl ?_)
    refine o1 rfl ?_
    refine op_alloc T rfl rfl (fun g4 w2 hs2 hc2 hg4 => ?_)
    have hg4 : Blk w2 g4 33 [.int .i64 0, .int .i64 0, .string (str []), .string (str [])] := hg4
    have hs2 : w1.heap.size ≤ g4 := hs2
    have hge1 := hc1.size
    refine op0 rfl rfl ?_
    refine op_store_agg T rfl rfl rfl rfl rfl rfl hg4 (by exact Nat.le_of_ble_eq_true rfl) (fun w3 hc3 hg43 _ => ?_)
    have hg43 : Blk w3 g4 33 [.int .i64 (ch.toNat : Int), .int .i64 0, .string (str []), .string (str [])] := hg43
    have hne : g2 ∉ [g4] := by simp; have := hg2.lt; omega
    have hne4 : g2 ≠ g4 := by simpa using hne
    have hg23 := (hg2.keep0 hc2).keep hc3 hne
    have hcw3 : Chg [] w w3 := (hc1.trans' hc2).trans hc3 (fun k hk hlt => by simp at hk; omega)
    have hl3 := SliceOf.kept Ru8.kept _ _ _ _ hcw3 hl
    have fin : ∀ w4, Chg [] w3 w4 → ∀ w5, Chg [g2] w4 w5 → Chg [] w w5 := fun w4 h4 w5 h5 => (hcw3.trans' h4).trans h5 (fun k hk hlt => by simp at hk; omega)
    have hgb := getM_bound t
    refine go T 5 rfl ?_
    refine o1 rfl ?_
    refine op_cut T (l := 1) (h' := t.length + 1) rfl rfl rfl rfl rfl ⟨_, rfl⟩ rfl hl3 (by omega) (Nat.le_refl _) (fun A1 hA1 => ?_)
    have ht := hA1 _ hl3
    rw [hdrop 1 (by omega)] at ht
    have ht : SliceOf Ru8 w3 (.slice A1 (t.length + 1 - 1) (c - 1)) t := ht
    refine o1 rfl ?_
    refine op_call rfl rfl rfl (rget_has A1 _ _ t w3 ht) ?_
    rintro _ w3 ⟨rfl, rfl⟩
    generalize hq : getM t = q at *
    obtain ⟨m, k⟩ := q
    dsimp only at *
    by_cases h2 : k = 0 ∨ 1125899906842624 < m
    · rw [if_pos h2]
      by_cases hk : k = 0
      · refine go T 11 rfl ?_
        refine eqT rfl rfl rfl rfl (by omega) ?_
        refine go T 9 rfl ?_
        refine o1 rfl (op_build T rfl rfl rfl rfl rfl rfl ?_)
        refine op0 rfl rfl ?_
        refine op_store_agg T rfl rfl rfl rfl rfl rfl hg23 (by exact Nat.le_of_ble_eq_true rfl) (fun w5 hc5 hb5 _ => ?_)
        refine go T 5 rfl ?_
        exact post2c T (.inl rfl) rfl rfl rfl rfl rfl hb5 rfl ⟨fin _ (Chg.refl _ _) _ hc5, rfl⟩
      · refine go T 11 rfl ?_
        refine eqF rfl rfl rfl rfl (by omega) ?_
        refine go T 2 rfl ?_
        refine gtT rfl rfl rfl rfl (by omega) ?_
        refine go T 6 rfl ?_
        refine o1 rfl (op_build T rfl rfl rfl rfl rfl rfl ?_)
        refine op0 rfl rfl ?_
        refine op_store_agg T rfl rfl rfl rfl rfl rfl hg23 (by exact Nat.le_of_ble_eq_true rfl) (fun w5 hc5 hb5 _ => ?_)
        refine go T 5 rfl ?_
        exact post2c T (.inl rfl) rfl rfl rfl rfl rfl hb5 rfl ⟨fin _ (Chg.refl _ _) _ hc5, rfl⟩
    rw [if_neg h2]
    refine go T 11 rfl ?_
    refine eqF rfl rfl rfl rfl (by omega) ?_
    refine go T 2 rfl ?_
    refine gtF rfl rfl rfl rfl (by omega) ?_
    refine go T 9 rfl ?_
    refine o1 rfl (op_convert_fit T rfl rfl rfl rfl (wrap_i64_in (by omega) (by omega)) ?_)
    refine go T 1 rfl ?_
    refine op0 rfl rfl ?_
    refine op_store T rfl rfl rfl rfl rfl rfl hg43 (by simp) (fun w4 hc4 hg44 _ => ?_)
    have hg44 : Blk w4 g4 33 [.int .i64 (ch.toNat : Int), .int .i64 (m : Int), .string (str []), .string (str [])] := hg44
    have hg24 := hg23.keep hc4 hne
    have hc04 : Chg [] w w4 := hcw3.trans hc4 (fun k hk hlt => by simp at hk; omega)
    have hl4 := SliceOf.kept Ru8.kept _ _ _ _ hc04 hl
    refine go T 6 rfl ?_
    refine adI rfl rfl rfl rfl (by omega) (by omega) ?_
    refine o1 rfl ?_
    refine op_cut T (l := 1 + k) (h' := t.length + 1) rfl rfl rfl rfl rfl ⟨_, some_int (by omega)⟩ rfl hl4 (by omega) (Nat.le_refl _) (fun A2 hA2 => ?_)
    have ht2 := hA2 _ hl
    rw [hdrop (1 + k) (by omega), Nat.add_comm 1 k, List.drop_succ_cons] at ht2
    have hz2 : t.length + 1 - (k + 1) = (t.drop k).length := by rw [List.length_drop]; omega
    rw [hz2] at ht2
    rw [Nat.add_comm 1 k, hz2]
    generalize hc2' : c - (k + 1) = c2 at *
    generalize t.drop k = t2 at *
    unfold one2
    have hbd2 := getTextM_bound t2
    have hlen2 := ht2.len
    unfold maxLen at hlen2
    refine go T 6 rfl ?_
    refine o1 rfl ?_
    refine op_call rfl rfl rfl (rgetText_has A2 _ _ t2 w4 (SliceOf.kept Ru8.kept _ _ _ _ hc04 ht2)) ?_
    rintro _ w4 ⟨rfl, rfl⟩
    generalize hq2 : getTextM t2 = q2 at *
    obtain ⟨s, k2⟩ := q2
    dsimp only at *
    by_cases h3 : k2 = 0
    · rw [if_pos h3]
      refine go T 11 rfl ?_
      refine eqT rfl rfl rfl rfl (by omega) ?_
      refine go T 5 rfl ?_
      refine o1 rfl (op_build T rfl rfl rfl rfl rfl rfl ?_)
      refine op0 rfl rfl ?_
      refine op_store_agg T rfl rfl rfl rfl rfl rfl hg24 (by exact Nat.le_of_ble_eq_true rfl) (fun w5 hc5 hb5 _ => ?_)
      refine go T 5 rfl ?_
      exact post2c T (.inl rfl) rfl rfl rfl rfl rfl hb5 rfl ⟨hc04.trans hc5 (fun k hk hlt => by simp at hk; omega), rfl⟩
    rw [if_neg h3]
    refine go T 11 rfl ?_
    refine eqF rfl rfl rfl rfl (by omega) ?_
    refine go T 9 rfl ?_
    refine op0 rfl rfl ?_
    refine op_store T rfl rfl rfl rfl rfl rfl hg44 (by simp) (fun w5 hc5 hg45 _ => ?_)
    have hg45 : Blk w5 g4 33 [.int .i64 (ch.toNat : Int), .int .i64 (m : Int), .string (str s), .string (str [])] := hg45
    have hg25 := hg24.keep hc5 hne
    have hc05 : Chg [] w w5 := hc04.trans hc5 (fun k hk hlt => by simp at hk; omega)
    refine go T 6 rfl ?_
    refine o1 rfl ?_
    refine op_cut T (l := k2) (h' := t2.length) rfl rfl rfl rfl rfl ⟨_, rfl⟩ rfl (SliceOf.kept Ru8.kept _ _ _ _ hc05 ht2) (by omega) (Nat.le_refl _) (fun A3 hA3 => ?_)
    have ht3 := hA3 _ ht2
    rw [List.take_length] at ht3
    have hz3 : t2.length - k2 = (t2.drop k2).length := by rw [List.length_drop]
    rw [hz3] at ht3
    rw [hz3]
    clear hA3 hA2 hA1
    generalize c2 - k2 = c3 at *
    generalize t2.drop k2 = t3 at *
    have hlen3 := ht3.len
    have hbd3 := getTextM_bound t3
    unfold maxLen at hlen3
    have hfin : ∀ w6, Chg [] w w6 → ∀ w7, Chg [g2] w6 w7 → Chg [] w w7 := fun w6 h6 w7 h7 => h6.trans h7 (fun k hk hlt => by simp at hk; omega)
    unfold one3
    by_cases hk1 : ch.toNat = 1
    · rw [if_pos hk1]
      refine go T 7 rfl ?_
      refine ldB T hg45 rfl rfl rfl rfl rfl rfl ?_
      refine eqT rfl rfl rfl rfl (by omega) ?_
      refine go T 6 rfl ?_
      refine o1 rfl ?_
      refine op_call rfl rfl rfl (rgetText_has A3 _ _ t3 w5 (SliceOf.kept Ru8.kept _ _ _ _ hc05 ht3)) ?_
      rintro _ w5 ⟨rfl, rfl⟩
      generalize hq3 : getTextM t3 = q3 at *
      obtain ⟨vl, k3⟩ := q3
      dsimp only at *
      by_cases h4 : k3 = 0
      · rw [if_pos h4]
        refine go T 11 rfl ?_
        refine eqT rfl rfl rfl rfl (by omega) ?_
        refine go T 5 rfl ?_
        refine o1 rfl (op_build T rfl rfl rfl rfl rfl rfl ?_)
        refine op0 rfl rfl ?_
        refine op_store_agg T rfl rfl rfl rfl rfl rfl hg25 (by exact Nat.le_of_ble_eq_true rfl) (fun w7 hc7 hb7 _ => ?_)
        refine go T 6 rfl ?_
        exact post2c T (.inl rfl) rfl rfl rfl rfl rfl hb7 rfl ⟨hfin _ hc05 _ hc7, rfl⟩
      rw [if_neg h4]
      refine go T 11 rfl ?_
      refine eqF rfl rfl rfl rfl (by omega) ?_
      refine go T 9 rfl ?_
      refine op0 rfl rfl ?_
      refine op_store T rfl rfl rfl rfl rfl rfl hg45 (by simp) (fun w6 hc6 hg46 _ => ?_)
      have hg46 : Blk w6 g4 33 [.int .i64 (ch.toNat : Int), .int .i64 (m : Int), .string (str s), .string (str vl)] := hg46
      have hg26 := hg25.keep hc6 hne
      have hc06 : Chg [] w w6 := hc05.trans hc6 (fun k hk hlt => by simp at hk; omega)
      refine go T 5 rfl ?_
      refine o1 rfl ?_
      refine op_cut T (l := k3) (h' := t3.length) rfl rfl rfl rfl rfl ⟨_, rfl⟩ rfl (SliceOf.kept Ru8.kept _ _ _ _ hc06 ht3) (by omega) (Nat.le_refl _) (fun A4 hA4 => ?_)
      clear hA4
      unfold fin1
      by_cases h5 : t3.drop k3 = []
      · have hl5 := congrArg List.length h5
        rw [List.length_drop, List.length_nil] at hl5
        by_cases h6 : checkM ⟨(ch.toNat : Int), (m : Int), s, vl⟩ = 0
        · rw [if_neg (by simp [h5, h6])]
          refine go T 8 rfl ?_
          refine gtF rfl rfl rfl rfl (by omega) ?_
          refine go T 1 rfl ?_
          refine o1 rfl (op_load_agg T rfl rfl rfl rfl hg46 (by exact Nat.le_of_ble_eq_true rfl) (by exact rfl) ?_)
          refine o1 rfl ?_
          refine op_call rfl rfl rfl (rcheck_has ⟨(ch.toNat : Int), (m : Int), s, vl⟩ w6) ?_
          rintro _ w7 ⟨hc7, rfl⟩
          have hg47 := hg46.keep0 hc7
          have hg27 := hg26.keep0 hc7
          refine neF rfl rfl rfl rfl (by omega) ?_
          refine go T 8 rfl ?_
          refine o1 rfl (op_load_agg T rfl rfl rfl rfl hg47 (by exact Nat.le_of_ble_eq_true rfl) (by exact rfl) ?_)
          refine op0 rfl rfl ?_
          refine op_store_agg T rfl rfl rfl rfl rfl rfl hg27 (by exact Nat.le_of_ble_eq_true rfl) (fun w8 hc8 hb8 _ => ?_)
          refine go T 4 rfl ?_
          exact post2c T (.inl rfl) rfl rfl rfl rfl rfl hb8 rfl ⟨hfin _ (hc06.trans' hc7) _ hc8, rfl⟩
        · rw [if_pos (.inr h6)]
          refine go T 8 rfl ?_
          refine gtF rfl rfl rfl rfl (by omega) ?_
          refine go T 1 rfl ?_
          refine o1 rfl (op_load_agg T rfl rfl rfl rfl hg46 (by exact Nat.le_of_ble_eq_true rfl) (by exact rfl) ?_)
          refine o1 rfl ?_
          refine op_call rfl rfl rfl (rcheck_has ⟨(ch.toNat : Int), (m : Int), s, vl⟩ w6) ?_
          rintro _ w7 ⟨hc7, rfl⟩
          have hg27 := hg26.keep0 hc7
          refine neT rfl rfl rfl rfl (by omega) ?_
          refine go T 6 rfl ?_
          refine o1 rfl (op_build T rfl rfl rfl rfl rfl rfl ?_)
          refine op0 rfl rfl ?_
          refine op_store_agg T rfl rfl rfl rfl rfl rfl hg27 (by exact Nat.le_of_ble_eq_true rfl) (fun w8 hc8 hb8 _ => ?_)
          refine go T 5 rfl ?_
          exact post2c T (.inl rfl) rfl rfl rfl rfl rfl hb8 rfl ⟨hfin _ (hc06.trans' hc7) _ hc8, rfl⟩
      · have hl5 : ¬ t3.length - k3 = 0 := fun h => h5 (List.drop_eq_nil_of_le (by omega))
        rw [if_pos (.inl h5)]
        refine go T 8 rfl ?_
        refine gtT rfl rfl rfl rfl (by omega) ?_
        refine go T 10 rfl ?_
        refine o1 rfl (op_build T rfl rfl rfl rfl rfl rfl ?_)
        refine op0 rfl rfl ?_
        refine op_store_agg T rfl rfl rfl rfl rfl rfl hg26 (by exact Nat.le_of_ble_eq_true rfl) (fun w8 hc8 hb8 _ => ?_)
        refine go T 5 rfl ?_
        exact post2c T (.inl rfl) rfl rfl rfl rfl rfl hb8 rfl ⟨hfin _ hc06 _ hc8, rfl⟩
    · rw [if_neg hk1]
      refine go T 7 rfl ?_
      refine ldB T hg45 rfl rfl rfl rfl rfl rfl ?_
      refine eqF rfl rfl rfl rfl (by omega) ?_
      refine go T 10 rfl ?_
      unfold fin1
      by_cases h5 : t3 = []
      · have hl5 := congrArg List.length h5
        rw [List.length_nil] at hl5
        by_cases h6 : checkM ⟨(ch.toNat : Int), (m : Int), s, []⟩ = 0
        · rw [if_neg (by simp [h5, h6])]
          refine gtF rfl rfl rfl rfl (by omega) ?_
          refine go T 1 rfl ?_
          refine o1 rfl (op_load_agg T rfl rfl rfl rfl hg45 (by exact Nat.le_of_ble_eq_true rfl) (by exact rfl) ?_)
          refine o1 rfl ?_
          refine op_call rfl rfl rfl (rcheck_has ⟨(ch.toNat : Int), (m : Int), s, []⟩ w5) ?_
          rintro _ w7 ⟨hc7, rfl⟩
          have hg47 := hg45.keep0 hc7
          have hg27 := hg25.keep0 hc7
          refine neF rfl rfl rfl rfl (by omega) ?_
          refine go T 8 rfl ?_
          refine o1 rfl (op_load_agg T rfl rfl rfl rfl hg47 (by exact Nat.le_of_ble_eq_true rfl) (by exact rfl) ?_)
          refine op0 rfl rfl ?_
          refine op_store_agg T rfl rfl rfl rfl rfl rfl hg27 (by exact Nat.le_of_ble_eq_true rfl) (fun w8 hc8 hb8 _ => ?_)
          refine go T 4 rfl ?_
          exact post2c T (.inl rfl) rfl rfl rfl rfl rfl hb8 rfl ⟨hfin _ (hc05.trans' hc7) _ hc8, rfl⟩
        · rw [if_pos (.inr h6)]
          refine gtF rfl rfl rfl rfl (by omega) ?_
          refine go T 1 rfl ?_
          refine o1 rfl (op_load_agg T rfl rfl rfl rfl hg45 (by exact Nat.le_of_ble_eq_true rfl) (by exact rfl) ?_)
          refine o1 rfl ?_
          refine op_call rfl rfl rfl (rcheck_has ⟨(ch.toNat : Int), (m : Int), s, []⟩ w5) ?_
          rintro _ w7 ⟨hc7, rfl⟩
          have hg27 := hg25.keep0 hc7
          refine neT rfl rfl rfl rfl (by omega) ?_
          refine go T 6 rfl ?_
          refine o1 rfl (op_build T rfl rfl rfl rfl rfl rfl ?_)
          refine op0 rfl rfl ?_
          refine op_store_agg T rfl rfl rfl rfl rfl rfl hg27 (by exact Nat.le_of_ble_eq_true rfl) (fun w8 hc8 hb8 _ => ?_)
          refine go T 5 rfl ?_
          exact post2c T (.inl rfl) rfl rfl rfl rfl rfl hb8 rfl ⟨hfin _ (hc05.trans' hc7) _ hc8, rfl⟩
      · have hl5 : ¬ t3.length = 0 := fun h => h5 (List.eq_nil_of_length_eq_zero h)
        rw [if_pos (.inl h5)]
        refine gtT rfl rfl rfl rfl (by omega) ?_
        refine go T 10 rfl ?_
        refine o1 rfl (op_build T rfl rfl rfl rfl rfl rfl ?_)
        refine op0 rfl rfl ?_
        refine op_store_agg T rfl rfl rfl rfl rfl rfl hg25 (by exact Nat.le_of_ble_eq_true rfl) (fun w8 hc8 hb8 _ => ?_)
        refine go T 5 rfl ?_
        exact post2c T (.inl rfl) rfl rfl rfl rfl rfl hb8 rfl ⟨hfin _ hc05 _ hc8, rfl⟩
end Go.Proofs.YtbhnplghnhafiaaDoor.Tryd
/-! The references' seals and records, one behind the other, walked. -/
set_option linter.unusedVariables false
namespace Go.Vc
open Go
theorem fourM_getFourM {l : List UInt8} (h : 4 ≤ l.length) : fourM (getFourM l) = l.take 4 := by
  match l with
  | a :: b :: c :: d :: t =>
    have := a.toNat_lt; have := b.toNat_lt; have := c.toNat_lt; have := d.toNat_lt
    simp only [getFourM, fourM, List.take_succ_cons, List.take_zero]
    have e : ∀ (x : UInt8) (n : Nat), n % 256 = x.toNat → UInt8.ofNat n = x := fun x n hn => by
      apply UInt8.toNat_inj.1
      rw [UInt8.toNat_ofNat']
      exact hn
    rw [e a _ (by omega), e b _ (by omega), e c _ (by omega), e d _ (by omega)]
  | [] => simp at h
  | [_] => simp at h
  | [_, _] => simp at h
  | [_, _, _] => simp at h
theorem getFourM_take {l : List UInt8} (n : Nat) (h : 4 ≤ n) : getFourM (l.take n) = getFourM l := by
  match l, n, h with
  | a :: b :: c :: d :: t, n + 4, _ => simp [getFourM]
  | [], _, _ => simp [getFourM]
  | [_], n + 4, _ => simp [getFourM]
  | [_, _], n + 4, _ => simp [getFourM]
  | [_, _, _], n + 4, _ => simp [getFourM]
theorem sum_ne {x : List UInt8} {m : Nat} (h : 4 ≤ x.length) (hm : m < 4294967296) : fourM m ≠ x.take 4 ↔ getFourM x ≠ m := by
  constructor
  · intro h1 h2; exact h1 (by rw [← h2, fourM_getFourM h])
  · intro h1 h2
    have := getFourM_fourM m [] hm
    rw [List.append_nil, h2, getFourM_take 4 (Nat.le_refl _)] at this
    exact h1 this
theorem getFour_lt {l : List UInt8} : getFourM l < 4294967296 := getFourM_lt l
end Go.Vc
namespace Go.Proofs.YtbhnplghnhafiaaDoor.Tryd
open Go Go.Vc
set_option maxHeartbeats 2000000 in
theorem rscan1_has (A : Option Addr) (n c : Nat) (b : List UInt8) (w : World) (hl : SliceOf Ru8 w (.slice A n c) b) (hb : b.length ≤ 1000000000) :
    Has Go.Proofs.Tryd.prog 39 #[.slice A n c] w (fun v w' => ∃ u, v = .tuple #[u, .int .i64 ((scanM b).2.1 : Nat), .bool (scanM b).2.2] ∧ Chg [] w w' ∧ OwnOf Rbs 31 [] w' u (scanM b).1 ∧ ∀ h, u.ownBlock = some h → w.heap.size ≤ h) := by
  obtain ⟨rfl, hl1, hl2⟩ := hl.len
  unfold maxLen at hl2
  refine enter Go.Proofs.Tryd.func39 rfl rfl (by decide) rfl (e := [(0, .slice A b.length c)]) ⟨rfl, trivial⟩ ?_
  refine run ?_
  refine go T 18 rfl ?_
  refine W_loop (σ := Nat × List (List UInt8) × Value) (fun s => [(0, .slice A b.length c), (5, s.2.2), (6, .int .i64 s.1)])
    (fun s w' => s.1 ≤ b.length ∧ 12 * s.2.1.length ≤ s.1 ∧ scanM b = (s.2.1 ++ (scanM (b.drop s.1)).1, s.1 + (scanM (b.drop s.1)).2.1, (scanM (b.drop s.1)).2.2) ∧ Chg [] w w' ∧ OwnOf Rbs 31 [] w' s.2.2 s.2.1 ∧ ∀ h, s.2.2.ownBlock = some h → w.heap.size ≤ h)
    (fun s => b.length - s.1) (0, [], .slice none 0 0) ⟨rfl, rfl, rfl, trivial⟩ ⟨Nat.zero_le _, Nat.zero_le _, by simp, Chg.refl _ _, OwnOf.nil _ _ _ _, fun h hh => by simp [Value.ownBlock] at hh⟩ ?_
  rintro ⟨at_, l, v⟩ w1 ⟨h1, h2, h3, hc, ho, hf⟩
  dsimp only at h1 h2 h3 hc ho hf ⊢
  have hdl : (b.drop at_).length = b.length - at_ := List.length_drop
  by_cases hshort : b.length - at_ < 12
  · have hfirst : firstM (b.drop at_) = ([], 0, true) := by unfold firstM; rw [if_pos (by omega)]
    rw [h3, scanM_end (by rw [hfirst]), hfirst]
    refine run ?_
    refine go T 6 rfl ?_
    refine sbI rfl rfl rfl rfl (by omega) (by omega) ?_
    refine go T 7 rfl ?_
    refine ltT rfl rfl rfl rfl (by omega) ?_
    refine go T 15 rfl ?_
    refine rndR ?_
    refine go T 1 rfl ?_
    refine post3 (.inl rfl) rfl rfl rfl rfl ⟨v, by simp, hc, by simpa using ho, hf⟩
  refine run ?_
  refine go T 6 rfl ?_
  refine sbI rfl rfl rfl rfl (by omega) (by omega) ?_
  refine go T 7 rfl ?_
  refine ltF rfl rfl rfl rfl (by omega) ?_
  refine go T 10 rfl ?_
  refine adI rfl rfl rfl rfl (by omega) (by omega) ?_
  refine o1 rfl ?_
  refine op_cut T (l := at_) (h' := at_ + 12) rfl rfl rfl rfl rfl ⟨_, rfl⟩ ⟨_, some_int (by omega)⟩ (SliceOf.kept Ru8.kept _ _ _ _ hc hl) (by omega) (by omega) (fun A8 hA8 => ?_)
  have h8 := hA8 _ hl
  rw [show (b.take (at_ + 12)).drop at_ = (b.drop at_).take 12 from by rw [List.drop_take]; congr 1; omega] at h8
  rw [show at_ + 12 - at_ = 12 from by omega]
  rw [show at_ + 12 - at_ = 12 from by omega] at h8
  clear hA8
  have hx12 : ((b.drop at_).take 12).length = 12 := by rw [List.length_take]; omega
  have e4 : ((b.drop at_).take 12).take 4 = (b.drop at_).take 4 := by rw [List.take_take]; rfl
  have e8 : (((b.drop at_).take 12).take 8).drop 4 = ((b.drop at_).drop 4).take 4 := by rw [List.take_take, List.drop_take]; rfl
  have e12 : (((b.drop at_).take 12).take 12).drop 8 = ((b.drop at_).drop 8).take 4 := by rw [List.take_take, List.drop_take]; rfl
  have hs4 : ∀ w', Chg [] w w' → SliceOf Ru8 w' (cutV A8 (c - at_) 0 4) ((b.drop at_).take 4) := fun w' hc => by have := cutV_reads (SliceOf.kept Ru8.kept _ _ _ _ hc h8) (Nat.zero_le 4) (by omega); rwa [e4] at this
  have hs8 : ∀ w', Chg [] w w' → SliceOf Ru8 w' (cutV A8 (c - at_) 4 8) (((b.drop at_).drop 4).take 4) := fun w' hc => by have := cutV_reads (SliceOf.kept Ru8.kept _ _ _ _ hc h8) (show 4 ≤ 8 by decide) (by omega); rwa [e8] at this
  have hs12 : ∀ w', Chg [] w w' → SliceOf Ru8 w' (cutV A8 (c - at_) 8 12) (((b.drop at_).drop 8).take 4) := fun w' hc => by have := cutV_reads (SliceOf.kept Ru8.kept _ _ _ _ hc h8) (show 8 ≤ 12 by decide) (by omega); rwa [e12] at this
  have hd4 : 4 ≤ ((b.drop at_).drop 4).length := by rw [List.length_drop]; omega
  have hd8 : 4 ≤ ((b.drop at_).drop 8).length := by rw [List.length_drop]; omega
  have hcat : 12 ≤ c - at_ := by omega
  refine go T 5 rfl ?_
  refine W_walk 8 [] fol (by kernel_rfl) (by kernel_rfl) ?_
  refine Walk.plain rfl (by intro val w_ hR hp; exact op_move rfl rfl ⟨Chg.refl _ _, rfl⟩) ?_; dsimp only [List.nil_append, List.cons_append]
  refine Walk.plain (v := cutV A8 (c - at_) 0 4) rfl (by intro val w_ hR hp; exact op_cutV (l := 0) (h' := 4) T rfl rfl rfl rfl rfl rfl ⟨_, rfl⟩ (by omega) (by omega) ⟨Chg.refl _ _, rfl⟩) ?_; dsimp only [List.nil_append, List.cons_append]
  refine Walk.plain (v := .int .u32 (crcN ((b.drop at_).take 4) : Nat)) rfl (by intro val w_ hR hp; exact op_call rfl rfl rfl (rsum_has _ _ _ _ _ (hs4 _ (hc.trans' hR))) (fun v w' ⟨h1, h2⟩ => ⟨h1 ▸ Chg.refl _ _, h2⟩)) ?_; dsimp only [List.nil_append, List.cons_append]
  refine Walk.rel (fun v w' => SliceOf Ru8 w' v (fourM (crcN ((b.drop at_).take 4)))) rfl (fun v w w' h hab => SliceOf.kept Ru8.kept _ _ _ _ hab h) (by intro val w_ hR hp; exact op_call rfl rfl rfl (rfour_has _ _ (crcN_lt _)) (fun v w' m => ⟨m.chg, m.reads⟩)) ?_; dsimp only [List.nil_append, List.cons_append]
  refine Walk.plain (v := .string (str (fourM (crcN ((b.drop at_).take 4))))) rfl ?_ ?_
  · intro val w_ hR hp
    have h3 : SliceOf Ru8 w_ (val 3) (fourM (crcN ((b.drop at_).take 4))) := hp 3 rfl _ _ rfl rfl
    obtain ⟨A3, c3, e3, _, _⟩ := h3.form
    rw [e3] at h3
    exact op_string T rfl (congrArg some e3) rfl rfl rfl h3 ⟨Chg.refl _ _, rfl⟩
  dsimp only [List.nil_append, List.cons_append]
  refine Walk.plain rfl (by intro val w_ hR hp; exact op_move rfl rfl ⟨Chg.refl _ _, rfl⟩) ?_; dsimp only [List.nil_append, List.cons_append]
  refine Walk.plain (v := cutV A8 (c - at_) 4 8) rfl (by intro val w_ hR hp; exact op_cutV (l := 4) (h' := 8) T rfl rfl rfl rfl rfl ⟨_, rfl⟩ ⟨_, rfl⟩ (by omega) (by omega) ⟨Chg.refl _ _, rfl⟩) ?_; dsimp only [List.nil_append, List.cons_append]
  refine Walk.plain (v := .string (str (((b.drop at_).drop 4).take 4))) rfl (by intro val w_ hR hp; exact op_string T rfl rfl rfl rfl rfl (hs8 _ (hc.trans' hR)) ⟨Chg.refl _ _, rfl⟩) ?_; dsimp only [List.nil_append, List.cons_append]
  refine Walk.fin ?_
  intro val w2 hc2 hp
  clear hp
  replace hc := hc.trans' hc2
  replace ho := ho.keep0 hc2
  have hfirst : firstM (b.drop at_) = if getFourM ((b.drop at_).drop 4) ≠ crcN ((b.drop at_).take 4) then ([], 0, false)
      else if (b.drop at_).length - 12 < getFourM (b.drop at_) then ([], 0, true)
      else if getFourM ((b.drop at_).drop 8) ≠ crcN (((b.drop at_).drop 12).take (getFourM (b.drop at_))) then ([], 0, false)
      else (((b.drop at_).drop 12).take (getFourM (b.drop at_)), 12 + getFourM (b.drop at_), true) := by
    unfold firstM; rw [if_neg (by omega)]
  refine runL ?_
  refine o1 rfl ?_
  refine op_str_neq (a := fourM (crcN ((b.drop at_).take 4))) (b := ((b.drop at_).drop 4).take 4) rfl rfl rfl (fun h => ?_) (fun h => ?_)
  · rw [if_pos ((sum_ne hd4 (crcN_lt _)).1 h)] at hfirst
    rw [h3, scanM_end (by rw [hfirst]), hfirst]
    refine go T 15 rfl ?_
    refine rndR ?_
    refine go T 1 rfl ?_
    exact post3 (.inl rfl) rfl rfl rfl rfl ⟨v, by simp, hc, by simpa using ho, hf⟩
  rw [if_neg (fun h' => (sum_ne hd4 (crcN_lt _)).2 h' h)] at hfirst
  obtain ⟨x0, x1, x2, x3, xs, hx⟩ : ∃ x0 x1 x2 x3 xs, (b.drop at_).take 12 = x0 :: x1 :: x2 :: x3 :: xs := by
    match hq : (b.drop at_).take 12 with
    | x0 :: x1 :: x2 :: x3 :: xs => exact ⟨x0, x1, x2, x3, xs, rfl⟩
    | [] => rw [hq] at hx12; simp at hx12
    | [_] => rw [hq] at hx12; simp at hx12
    | [_, _] => rw [hq] at hx12; simp at hx12
    | [_, _, _] => rw [hq] at hx12; simp at hx12
  have hg4 : getFourM (b.drop at_) = x0.toNat + 256 * x1.toNat + 65536 * x2.toNat + 16777216 * x3.toNat := by
    rw [← getFourM_take 12 (by decide), hx]; rfl
  have h82 := SliceOf.kept Ru8.kept _ _ _ _ hc h8
  rw [hx] at h82
  have hlen82 := h82.len
  obtain ⟨ad, u0, rfl, hu0, rfl⟩ := h82.get (i := 0) rfl
  obtain ⟨ad1, u1, e1, hu1, rfl⟩ := h82.get (i := 1) rfl
  cases e1
  obtain ⟨ad2, u2, e2, hu2, rfl⟩ := h82.get (i := 2) rfl
  cases e2
  obtain ⟨ad3, u3, e3, hu3, rfl⟩ := h82.get (i := 3) rfl
  cases e3
  have b0 := x0.toNat_lt; have b1 := x1.toNat_lt; have b2 := x2.toNat_lt; have b3 := x3.toNat_lt
  clear h82 hlen82
  refine go T 6 rfl ?_
  refine W_walk 21 [] fol (by kernel_rfl) (by kernel_rfl) ?_
  refine Walk.plain rfl (by intro val w_ hR hp; exact op_move rfl rfl ⟨Chg.refl _ _, rfl⟩) ?_; dsimp only [List.nil_append, List.cons_append]
  refine Walk.plain rfl (by intro val w_ hR hp; exact op_index_nat (i := 0) T rfl rfl rfl rfl rfl rfl (by omega) ⟨Chg.refl _ _, rfl⟩) ?_; dsimp only [List.nil_append, List.cons_append]
  refine Walk.plain rfl (by intro val w_ hR hp; exact op_load T rfl rfl rfl rfl (hR.cell0 (by assumption)) ⟨Chg.refl _ _, rfl⟩) ?_; dsimp only [List.nil_append, List.cons_append]
  refine Walk.plain rfl (by intro val w_ hR hp; exact op_convert_fit T rfl rfl rfl rfl (wrap_u64_in (by omega) (by omega)) ⟨Chg.refl _ _, rfl⟩) ?_; dsimp only [List.nil_append, List.cons_append]
  refine Walk.plain rfl (by intro val w_ hR hp; exact op_move rfl rfl ⟨Chg.refl _ _, rfl⟩) ?_; dsimp only [List.nil_append, List.cons_append]
  refine Walk.plain rfl (by intro val w_ hR hp; exact op_index_nat (i := 1) T rfl rfl rfl rfl rfl rfl (by omega) ⟨Chg.refl _ _, rfl⟩) ?_; dsimp only [List.nil_append, List.cons_append]
  refine Walk.plain rfl (by intro val w_ hR hp; exact op_load T rfl rfl rfl rfl (hR.cell0 (by assumption)) ⟨Chg.refl _ _, rfl⟩) ?_; dsimp only [List.nil_append, List.cons_append]
  refine Walk.plain rfl (by intro val w_ hR hp; exact op_convert_fit T rfl rfl rfl rfl (wrap_u64_in (by omega) (by omega)) ⟨Chg.refl _ _, rfl⟩) ?_; dsimp only [List.nil_append, List.cons_append]
  refine Walk.plain rfl (by intro val w_ hR hp; exact op_shl_fit (s := 8) rfl (by decide) (show _ < 18446744073709551616 by omega) rfl rfl rfl ⟨Chg.refl _ _, rfl⟩) ?_; dsimp only [List.nil_append, List.cons_append]
  refine Walk.plain rfl (by intro val w_ hR hp; exact op_add rfl rfl rfl (wrap_u64_in (by omega) (by omega)) ⟨Chg.refl _ _, rfl⟩) ?_; dsimp only [List.nil_append, List.cons_append]
  refine Walk.plain rfl (by intro val w_ hR hp; exact op_move rfl rfl ⟨Chg.refl _ _, rfl⟩) ?_; dsimp only [List.nil_append, List.cons_append]
  refine Walk.plain rfl (by intro val w_ hR hp; exact op_index_nat (i := 2) T rfl rfl rfl rfl rfl rfl (by omega) ⟨Chg.refl _ _, rfl⟩) ?_; dsimp only [List.nil_append, List.cons_append]
  refine Walk.plain rfl (by intro val w_ hR hp; exact op_load T rfl rfl rfl rfl (hR.cell0 (by assumption)) ⟨Chg.refl _ _, rfl⟩) ?_; dsimp only [List.nil_append, List.cons_append]
  refine Walk.plain rfl (by intro val w_ hR hp; exact op_convert_fit T rfl rfl rfl rfl (wrap_u64_in (by omega) (by omega)) ⟨Chg.refl _ _, rfl⟩) ?_; dsimp only [List.nil_append, List.cons_append]
  refine Walk.plain rfl (by intro val w_ hR hp; exact op_shl_fit (s := 16) rfl (by decide) (show _ < 18446744073709551616 by omega) rfl rfl rfl ⟨Chg.refl _ _, rfl⟩) ?_; dsimp only [List.nil_append, List.cons_append]
  refine Walk.plain rfl (by intro val w_ hR hp; exact op_add rfl rfl rfl (wrap_u64_in (by omega) (by omega)) ⟨Chg.refl _ _, rfl⟩) ?_; dsimp only [List.nil_append, List.cons_append]
  refine Walk.plain rfl (by intro val w_ hR hp; exact op_move rfl rfl ⟨Chg.refl _ _, rfl⟩) ?_; dsimp only [List.nil_append, List.cons_append]
  refine Walk.plain rfl (by intro val w_ hR hp; exact op_index_nat (i := 3) T rfl rfl rfl rfl rfl rfl (by omega) ⟨Chg.refl _ _, rfl⟩) ?_; dsimp only [List.nil_append, List.cons_append]
  refine Walk.plain rfl (by intro val w_ hR hp; exact op_load T rfl rfl rfl rfl (hR.cell0 (by assumption)) ⟨Chg.refl _ _, rfl⟩) ?_; dsimp only [List.nil_append, List.cons_append]
  refine Walk.plain rfl (by intro val w_ hR hp; exact op_convert_fit T rfl rfl rfl rfl (wrap_u64_in (by omega) (by omega)) ⟨Chg.refl _ _, rfl⟩) ?_; dsimp only [List.nil_append, List.cons_append]
  refine Walk.plain rfl (by intro val w_ hR hp; exact op_shl_fit (s := 24) rfl (by decide) (show _ < 18446744073709551616 by omega) rfl rfl rfl ⟨Chg.refl _ _, rfl⟩) ?_; dsimp only [List.nil_append, List.cons_append]
  refine Walk.fin ?_
  intro val2 w3 hc3 hp
  clear hp
  replace hc := hc.trans' hc3
  replace ho := ho.keep0 hc3
  have hsum : (x0.toNat : Int) + ((x1.toNat * 2 ^ 8 : Nat) : Int) + ((x2.toNat * 2 ^ 16 : Nat) : Int) + ((x3.toNat * 2 ^ 24 : Nat) : Int) = (getFourM (b.drop at_) : Nat) := by rw [hg4]; omega
  refine runL ?_
  refine o1 rfl (op_add rfl rfl rfl (wrap_u64_in (by omega) (by omega)) ?_)
  refine go T 8 rfl ?_
  refine sbI rfl rfl rfl rfl (by omega) (by omega) ?_
  refine o1 rfl (op_convert_fit T rfl rfl rfl rfl (wrap_u64_in (by omega) (by omega)) ?_)
  rw [hsum]
  clear hsum
  have hlt4 := getFourM_lt (b.drop at_)
  rw [hdl] at hfirst
  generalize getFourM (b.drop at_) = m at *
  clear hu0 hu1 hu2 hu3 hg4
  by_cases hm : b.length - at_ - 12 < m
  · rw [if_pos hm] at hfirst
    rw [h3, scanM_end (by rw [hfirst]), hfirst]
    refine gtT rfl rfl rfl rfl (by omega) ?_
    refine go T 15 rfl ?_
    refine rndR ?_
    refine go T 1 rfl ?_
    exact post3 (.inl rfl) rfl rfl rfl rfl ⟨v, by simp, hc, by simpa using ho, hf⟩
  rw [if_neg hm] at hfirst
  refine gtF rfl rfl rfl rfl (by omega) ?_
  refine go T 9 rfl ?_
  refine adI rfl rfl rfl rfl (by omega) (by omega) ?_
  refine go T 1 rfl ?_
  refine adI rfl rfl rfl rfl (by omega) (by omega) ?_
  refine go T 1 rfl ?_
  refine o1 rfl (op_convert_fit T rfl rfl rfl rfl (wrap_i64_in (by omega) (by omega)) ?_)
  refine adI rfl rfl rfl rfl (by omega) (by omega) ?_
  refine o1 rfl ?_
  refine op_cut T (l := at_ + 12) (h' := at_ + 12 + m) rfl rfl rfl rfl rfl ⟨_, rfl⟩ ⟨_, some_int (by omega)⟩ (SliceOf.kept Ru8.kept _ _ _ _ hc hl) (by omega) (by omega) (fun A10 hA10 => ?_)
  have h10 := hA10 _ hl
  rw [show (b.take (at_ + 12 + m)).drop (at_ + 12) = ((b.drop at_).drop 12).take m from by rw [List.drop_take, List.drop_drop]; congr 1; omega] at h10
  clear hA10
  rw [show at_ + 12 + m - (at_ + 12) = m from by omega]
  rw [show at_ + 12 + m - (at_ + 12) = m from by omega] at h10
  have hxl : (((b.drop at_).drop 12).take m).length = m := by rw [List.length_take, List.length_drop, hdl]; omega
  refine go T 5 rfl ?_
  refine W_walk 7 [] fol (by kernel_rfl) (by kernel_rfl) ?_
  refine Walk.plain rfl (by intro val w_ hR hp; exact op_move rfl rfl ⟨Chg.refl _ _, rfl⟩) ?_; dsimp only [List.nil_append, List.cons_append]
  refine Walk.plain (v := .int .u32 (crcN (((b.drop at_).drop 12).take m) : Nat)) rfl (by intro val w_ hR hp; exact op_call rfl rfl rfl (rsum_has _ _ _ _ _ (SliceOf.kept Ru8.kept _ _ _ _ (hc.trans' hR) h10)) (fun v w' ⟨h1, h2⟩ => ⟨h1 ▸ Chg.refl _ _, h2⟩)) ?_; dsimp only [List.nil_append, List.cons_append]
  refine Walk.rel (fun v w' => SliceOf Ru8 w' v (fourM (crcN (((b.drop at_).drop 12).take m)))) rfl (fun v w w' h hab => SliceOf.kept Ru8.kept _ _ _ _ hab h) (by intro val w_ hR hp; exact op_call rfl rfl rfl (rfour_has _ _ (crcN_lt _)) (fun v w' m => ⟨m.chg, m.reads⟩)) ?_; dsimp only [List.nil_append, List.cons_append]
  refine Walk.plain (v := .string (str (fourM (crcN (((b.drop at_).drop 12).take m))))) rfl ?_ ?_
  · intro val w_ hR hp
    have h3 : SliceOf Ru8 w_ (val 2) (fourM (crcN (((b.drop at_).drop 12).take m))) := hp 2 rfl _ _ rfl rfl
    obtain ⟨A3, c3, e3, _, _⟩ := h3.form
    rw [e3] at h3
    exact op_string T rfl (congrArg some e3) rfl rfl rfl h3 ⟨Chg.refl _ _, rfl⟩
  dsimp only [List.nil_append, List.cons_append]
  refine Walk.plain rfl (by intro val w_ hR hp; exact op_move rfl rfl ⟨Chg.refl _ _, rfl⟩) ?_; dsimp only [List.nil_append, List.cons_append]
  refine Walk.plain (v := cutV (some ad) (c - at_) 8 12) rfl (by intro val w_ hR hp; exact op_cutV (l := 8) (h' := 12) T rfl rfl rfl rfl rfl ⟨_, rfl⟩ ⟨_, rfl⟩ (by omega) (by omega) ⟨Chg.refl _ _, rfl⟩) ?_; dsimp only [List.nil_append, List.cons_append]
  refine Walk.plain (v := .string (str (((b.drop at_).drop 8).take 4))) rfl (by intro val w_ hR hp; exact op_string T rfl rfl rfl rfl rfl (hs12 _ (hc.trans' hR)) ⟨Chg.refl _ _, rfl⟩) ?_; dsimp only [List.nil_append, List.cons_append]
  refine Walk.fin ?_
  intro val3 w4 hc4 hp
  clear hp
  replace hc := hc.trans' hc4
  replace ho := ho.keep0 hc4
  refine runL ?_
  refine o1 rfl ?_
  refine op_str_neq (a := fourM (crcN (((b.drop at_).drop 12).take m))) (b := ((b.drop at_).drop 8).take 4) rfl rfl rfl (fun h => ?_) (fun h => ?_)
  · rw [if_pos ((sum_ne hd8 (crcN_lt _)).1 h)] at hfirst
    rw [h3, scanM_end (by rw [hfirst]), hfirst]
    refine go T 15 rfl ?_
    refine rndR ?_
    refine go T 1 rfl ?_
    exact post3 (.inl rfl) rfl rfl rfl rfl ⟨v, by simp, hc, by simpa using ho, hf⟩
  rw [if_neg (fun h' => (sum_ne hd8 (crcN_lt _)).2 h' h)] at hfirst
  have hstep := scanM_step (l := b.drop at_) (by rw [hfirst]; simp)
  rw [hfirst] at hstep
  dsimp only at hstep
  rw [List.drop_drop, List.drop_drop] at hstep
  rw [hstep] at h3
  dsimp only at h3
  rw [List.drop_drop] at h10 hxl
  generalize (b.drop (at_ + 12)).take m = x at *
  refine go T 9 rfl ?_
  refine o1 rfl ?_
  refine op_buildSlice T rfl rfl rfl rfl rfl rfl rfl (fun g w5 hgs hc5 hg5 => ?_)
  replace ho := ho.keep0 hc5
  have hfirm : Firm (v.ownBlock.toList ++ []) w5 (fun w => Rbs w (.slice A10 m (c - (at_ + 12))) x) := Firm.old (fun a b hab h => SliceOf.kept Ru8.kept _ _ _ _ hab h) h10 (hc.trans' hc5) (fun k hk => hf k (by simpa using hk))
  refine o1 rfl ?_
  refine op_push T (xa := x) rfl rfl rfl rfl rfl rfl rfl rfl ho hg5 (by exact rfl) hfirm (by omega) rfl (fun v' w6 ho6 hc6 hb6 => ?_)
  have hc06 : Chg [] w w6 := (hc.trans' hc5).trans hc6 (fun k hk hlt => by have := hf k (by simpa using hk); omega)
  refine go T 6 rfl ?_
  refine o1 rfl (op_convert_fit T rfl rfl rfl rfl (wrap_i64_in (by omega) (by omega)) ?_)
  refine adI rfl rfl rfl rfl (by omega) (by omega) ?_
  refine adI rfl rfl rfl rfl (by omega) (by omega) ?_
  refine go T 3 rfl ?_
  refine Round_n (at_ + (12 + m), l ++ [x], v') ⟨rfl, rfl, some_int (by dsimp only; omega), trivial⟩ ⟨by dsimp only; omega, by dsimp only; simp; omega, ?_, hc06, ho6, fun h hh => ?_⟩ (by dsimp only; omega)
  · dsimp only
    rw [h3, List.append_assoc, Nat.add_assoc at_]; rfl
  · rcases hb6 with hb | ⟨g', hb, hge⟩
    · exact hf h (by rw [← hb]; exact hh)
    · rw [hb] at hh; injection hh with hh
      have := hc.size; have := hc5.size; omega
end Go.Proofs.YtbhnplghnhafiaaDoor.Tryd
/-! The reference's records, one behind the other; what is cut, what may be. -/
set_option linter.unusedVariables false
namespace Go.Vc
open Go
theorem recGo_one {seals : List (List UInt8)} {k at_ : Nat} {cut : Bool} {s : List UInt8} (h : seals[k]? = some s) : recGo (seals.drop k) at_ cut = match oneP s with
    | some r => (r :: (recGo (seals.drop (k + 1)) (at_ + (sealM s).length) cut).1, (recGo (seals.drop (k + 1)) (at_ + (sealM s).length) cut).2)
    | none => ([], at_, false) := by
  rw [recGo_nth h, oneP_eq]
  split
  · rfl
  · rfl
/-- A record whose texts are cut. -/
def cutR (r : RecM) : RecM := ⟨r.kind, r.seq, r.key.take 110, r.val.take 300⟩
def goodR : Nat → List RecM → List RecM
  | 0, _ => []
  | _, [] => []
  | n + 1, r :: l => if checkM (cutR r) = 0 then cutR r :: goodR n l else goodR (n + 1) l
theorem goodR_nil (n : Nat) : goodR n [] = [] := by cases n <;> rfl
theorem goodR_len : ∀ (n : Nat) (l : List RecM), (goodR n l).length ≤ n
  | 0, l => by simp [goodR]
  | n + 1, [] => by simp [goodR]
  | n + 1, r :: l => by
    unfold goodR
    split
    · have := goodR_len n l; simp; omega
    · exact goodR_len (n + 1) l
theorem goodR_ok : ∀ (n : Nat) (l : List RecM), ∀ r ∈ goodR n l, RecOk r
  | 0, l => by simp [goodR]
  | n + 1, [] => by simp [goodR]
  | n + 1, r :: l => by
    unfold goodR
    split
    · rename_i h
      intro x hx
      rcases List.mem_cons.1 hx with rfl | hx
      · exact checkM_ok.1 h
      · exact goodR_ok n l x hx
    · exact goodR_ok (n + 1) l
end Go.Vc
namespace Go.Proofs.YtbhnplghnhafiaaDoor.Tryd
open Go Go.Vc
set_option maxHeartbeats 2000000 in
theorem rscan2_has (A : Option Addr) (n c : Nat) (b : List UInt8) (w : World) (hl : SliceOf Ru8 w (.slice A n c) b) (hb : b.length ≤ 1000000000) :
    Has Go.Proofs.Tryd.prog 23 #[.slice A n c] w (fun v w' => ∃ u, v = .tuple #[u, .int .i64 ((rscanM b).2.1 : Nat), .bool (rscanM b).2.2] ∧ Chg [] w w' ∧ Own w' 33 4 u (rscanM b).1.length ((rscanM b).1.flatMap recL) ∧ ∀ h, u.ownBlock = some h → w.heap.size ≤ h) := by
  refine enter Go.Proofs.Tryd.func23 rfl rfl (by decide) rfl (e := [(0, .slice A n c)]) ⟨rfl, trivial⟩ ?_
  refine run ?_
  refine go T 20 rfl ?_
  refine o1 rfl ?_
  refine op_call rfl rfl rfl (rscan1_has A n c b w hl hb) ?_
  rintro _ w1 ⟨us, rfl, hc1, hos, hfs⟩
  obtain ⟨hn1, hn2⟩ := scanM_bound b.length b (Nat.le_refl _)
  unfold rscanM
  generalize scanM b = q at *
  obtain ⟨seals, tot, cut⟩ := q
  dsimp only at *
  have hss := hos.reads
  obtain ⟨As, cs, rfl, hs1, hs2⟩ := hss.form
  clear hos hfs
  unfold maxLen at hs2
  refine go T 16 rfl ?_
  refine W_loop (σ := Nat × List RecM × Nat × Value) (fun s => [(5, s.2.2.2), (6, .int .i64 s.2.2.1), (7, .slice As seals.length cs), (9, .bool cut), (10, .int .i64 s.1)])
    (fun s w' => s.1 ≤ seals.length ∧ s.2.1.length ≤ s.1 ∧ s.2.2.1 ≤ s.1 * 1000000100 ∧ recGo seals 0 cut = (s.2.1 ++ (recGo (seals.drop s.1) s.2.2.1 cut).1, (recGo (seals.drop s.1) s.2.2.1 cut).2) ∧ Chg [] w1 w' ∧ Own w' 33 4 s.2.2.2 s.2.1.length (s.2.1.flatMap recL) ∧ ∀ h, s.2.2.2.ownBlock = some h → w1.heap.size ≤ h)
    (fun s => seals.length - s.1) (0, [], 0, .slice none 0 0) ⟨rfl, rfl, rfl, rfl, rfl, trivial⟩ ⟨Nat.zero_le _, Nat.zero_le _, Nat.zero_le _, by simp, Chg.refl _ _, Own.nil _ _ _, fun h hh => by simp [Value.ownBlock] at hh⟩ ?_
  rintro ⟨k, l, at_, v⟩ w2 ⟨h1, h2, h3, h4, h5, h6, h7⟩
  dsimp only at h1 h2 h3 h4 h5 h6 h7 ⊢
  refine run ?_
  refine go T 6 rfl ?_
  refine ltS rfl rfl rfl rfl (fun hcmp => ?_) (fun hcmp => ?_)
  · have hk : k < seals.length := by omega
    obtain ⟨ad, us, rfl, hus1, hrs1⟩ := hss.get (i := k) (List.getElem?_eq_getElem hk)
    have hus := h5.cell0 hus1
    have hstep := recGo_one (at_ := at_) (cut := cut) (List.getElem?_eq_getElem hk)
    have hsl : seals[k].length ≤ b.length := hn2 _ (List.getElem_mem hk)
    generalize seals[k] = s at *
    obtain ⟨A3, c3, rfl, _, _⟩ := SliceOf.form hrs1
    have hrs1 : SliceOf Ru8 w1 (.slice A3 s.length c3) s := hrs1
    have hsz := sealM_length s
    refine go T 11 rfl ?_
    refine o1 rfl (op_index_nat T rfl rfl rfl rfl rfl rfl (by omega) ?_)
    refine o1 rfl (op_load T rfl rfl rfl rfl (by assumption) ?_)
    refine o1 rfl ?_
    refine op_call rfl rfl rfl (one_has A3 _ c3 s w2 (SliceOf.kept Ru8.kept _ _ _ _ h5 hrs1)) ?_
    rintro _ w3 ⟨hc3, rfl⟩
    refine go T 3 rfl ?_
    refine o1 rfl ?_
    refine op_alloc T rfl rfl (fun g w4 hs4 hc4 hg4 => ?_)
    have hg4 : Blk w4 g 33 [.int .i64 0, .int .i64 0, .string (str []), .string (str [])] := hg4
    have hs4 : w3.heap.size ≤ g := hs4
    refine op0 rfl rfl ?_
    refine op_store_agg T rfl rfl rfl rfl rfl rfl hg4 (by exact Nat.le_of_ble_eq_true rfl) (fun w5 hc5 hg5 _ => ?_)
    have hg5 : Blk w5 g 33 (recL ((oneP s).getD nullR)) := hg5
    have hc25 : Chg [] w2 w5 := (hc3.trans' hc4).trans hc5 (fun k hk hlt => by simp at hk; have := hc3.size; omega)
    cases hone : oneP s with
    | some r =>
      rw [hone] at hstep hg5
      dsimp only [Option.getD] at hstep hg5
      have hus5 := hc25.cell0 hus
      have h65 := h6.keep0 hc25
      unfold recL at hg5
      refine go T 16 rfl ?_
      refine o1 rfl (op_load_agg T rfl rfl rfl rfl hg5 (by exact Nat.le_of_ble_eq_true rfl) (by exact rfl) ?_)
      refine o1 rfl ?_
      refine op_buildSlice T rfl rfl rfl rfl rfl rfl rfl (fun g6 w6 hs6 hc6 hg6 => ?_)
      have hg6 : Blk w6 g6 33 (recL r) := hg6
      have h66 := h65.keep0 hc6
      obtain ⟨Av, cv, rfl, _, _⟩ := h66.form
      refine o1 rfl ?_
      refine op_append T (n := l.length) (xs := l.flatMap recL) (m := 1) (news := recL r) rfl rfl rfl rfl rfl rfl rfl rfl h66 rfl ?_ (by unfold maxLen; omega) (by show (l.length + 1) * 48 ≤ _; omega) ?_
      · intro j u hj
        exact ⟨⟨_, rfl, by rw [add_plain]; exact hg6.cell hj⟩, recL_one _ u (List.mem_of_getElem? hj)⟩
      · intro v7 w7 ho7 hc7 hb7 _
        have hfr : ∀ h, v7.ownBlock = some h → w1.heap.size ≤ h := fun h hh => by
          rcases hb7 with hb | ⟨g', hb, hge⟩
          · exact h7 h (by rw [← hb]; exact hh)
          · rw [hb] at hh; injection hh with hh; have := h5.size; have := hc25.size; have := hc6.size; omega
        have hc27 : Chg [] w1 w7 := ((h5.trans' hc25).trans' hc6).trans hc7 (fun k hk hlt => by have := h7 k (by simpa using hk); omega)
        have hus7 := hc27.cell0 hus1
        clear hus hus5
        refine go T 7 rfl ?_
        refine o1 rfl (op_index_nat T rfl rfl rfl rfl rfl rfl (by omega) ?_)
        refine o1 rfl (op_load T rfl rfl rfl rfl (by assumption) ?_)
        refine go T 1 rfl ?_
        refine adI rfl rfl rfl rfl (by omega) (by omega) ?_
        refine adI rfl rfl rfl rfl (by omega) (by omega) ?_
        refine go T 6 rfl ?_
        refine adI rfl rfl rfl rfl (by omega) (by omega) ?_
        refine go T 2 rfl ?_
        refine Round_n (k + 1, l ++ [r], at_ + (sealM s).length, v7) ⟨rfl, some_int (by dsimp only; omega), rfl, rfl, rfl, trivial⟩ ⟨by dsimp only; omega, by dsimp only; simp; omega, by dsimp only; omega, ?_, hc27, ?_, hfr⟩ (by dsimp only; omega)
        · dsimp only
          rw [h4, hstep, List.append_assoc]; rfl
        · dsimp only
          rw [List.length_append, List.flatMap_append]
          simpa using ho7
    | none =>
      rw [hone] at hstep hg5
      dsimp only at hstep
      refine go T 24 rfl ?_
      refine rndR ?_
      refine go T 2 rfl ?_
      rw [h4, hstep]
      refine post3 (.inl rfl) rfl rfl rfl rfl ⟨_, rfl, hc1.trans' (h5.trans' hc25), ?_, fun h hh => by have := h7 h hh; have := hc1.size; omega⟩
      rw [List.append_nil]
      exact h6.keep0 hc25
  · obtain rfl : k = seals.length := by omega
    rw [List.drop_length] at h4
    rw [h4]
    refine go T 5 rfl ?_
    refine rndX ?_
    refine go T 13 rfl ?_
    refine post3 (.inl rfl) rfl rfl rfl rfl ⟨_, rfl, hc1.trans' h5, ?_, fun h hh => by have := h7 h hh; have := hc1.size; omega⟩
    simp only [recGo, List.append_nil]
    exact h6
theorem cutS_has (s : List UInt8) (n : Nat) (w : World) (hs : s.length ≤ 9223372036854775807) (hn : n < 1000000000) :
    Has Go.Proofs.Tryd.prog 62 #[.string (str s), .int .i64 (n : Int)] w (fun v w' => w' = w ∧ v = .string (str (s.take n))) := by
  refine enter Go.Proofs.Tryd.func62 rfl rfl (by decide) rfl (e := [(0, .string (str s)), (1, .int .i64 (n : Int))]) ⟨rfl, rfl, trivial⟩ ?_
  by_cases h : n < s.length
  · refine run ?_
    refine go T 9 rfl ?_
    refine o1 rfl (op_len_str T rfl rfl rfl rfl ?_)
    refine go T 1 rfl ?_
    refine gtT rfl rfl rfl rfl (by omega) ?_
    refine go T 7 rfl ?_
    refine o1 rfl ?_
    refine op_slice_strTo T rfl rfl rfl rfl (by omega) ?_
    refine go T 5 rfl ?_
    exact post1 (.inl rfl) rfl rfl ⟨rfl, rfl⟩
  · rw [List.take_of_length_le (by omega)]
    refine run ?_
    refine go T 9 rfl ?_
    refine o1 rfl (op_len_str T rfl rfl rfl rfl ?_)
    refine go T 1 rfl ?_
    refine gtF rfl rfl rfl rfl (by omega) ?_
    refine go T 12 rfl ?_
    exact post1 (.inl rfl) rfl rfl ⟨rfl, rfl⟩
end Go.Proofs.YtbhnplghnhafiaaDoor.Tryd
/-! What may be of records; whether a seal fits all the same. -/
set_option linter.unusedVariables false
namespace Go.Vc
open Go
def RrecK (_ : World) (cs : List Value) (r : RecM) : Prop := cs = recL r ∧ r.key.length ≤ maxLen ∧ r.val.length ≤ maxLen
theorem RrecK.kept : KeptK RrecK := fun _ _ _ _ _ h => h
/-- Of seals that stood in a file, and of which bytes were changed: does one fit all the same? -/
def headM (b : List UInt8) : Bool := decide (fourM (crcN (b.take 4)) = (b.drop 4).take 4)
def fitM (a b : List UInt8) : Bool := decide (a ≠ b) && headM b && (decide (a.take 8 ≠ b.take 8) || decide (fourM (crcN (b.drop 12)) = (b.drop 8).take 4))
def fitsR : List (List UInt8) → List UInt8 → List UInt8 → Bool
  | [], _, _ => false
  | s :: r, old, now => if now.length < 12 + s.length then false else if fitM (old.take (12 + s.length)) (now.take (12 + s.length)) = true then true else fitsR r (old.drop (12 + s.length)) (now.drop (12 + s.length))
end Go.Vc
namespace Go.Proofs.YtbhnplghnhafiaaDoor.Tryd
open Go Go.Vc
set_option maxHeartbeats 1000000 in
theorem cutR_has (r : RecM) (w : World) (hk : r.key.length ≤ maxLen) (hv : r.val.length ≤ maxLen) :
    Has Go.Proofs.Tryd.prog 36 #[.agg (recL r).toArray] w (fun v w' => Chg [] w w' ∧ v = .agg (recL (cutR r)).toArray) := by
  unfold maxLen at hk hv
  refine enter Go.Proofs.Tryd.func36 rfl rfl (by decide) rfl (e := [(0, .agg (recL r).toArray)]) ⟨rfl, trivial⟩ ?_
  obtain ⟨kd, sq, ky, vl⟩ := r
  refine run ?_
  refine go T 2 rfl ?_
  refine o1 rfl ?_
  refine op_box rfl rfl (fun g1 w1 hs1 hc1 hg1 => ?_)
  have hg1 : Blk w1 g1 33 [.int .i64 kd, .int .i64 sq, .string (str ky), .string (str vl)] := hg1
  refine o1 rfl ?_
  refine op_alloc T rfl rfl (fun g2 w2 hs2 hc2 hg2 => ?_)
  have hg2 : Blk w2 g2 33 [.int .i64 0, .int .i64 0, .string (str []), .string (str [])] := hg2
  have hs1 : w.heap.size ≤ g1 := hs1
  have hs2 : w1.heap.size ≤ g2 := hs2
  have hlt := hg1.lt
  have hz1 := hc1.size
  replace hc1 := hc1.trans' hc2
  replace hg1 := hg1.keep0 hc2
  refine go T 3 rfl ?_
  refine W_walk 7 [] fol (by kernel_rfl) (by kernel_rfl) ?_
  refine Walk.plain rfl (by intro val w_ hR hp; exact op_fieldAddr T rfl rfl rfl rfl rfl rfl rfl rfl ⟨Chg.refl _ _, rfl⟩) ?_; dsimp only [List.nil_append, List.cons_append]
  refine Walk.plain rfl (by intro val w_ hR hp; exact op_loadB T rfl rfl rfl rfl (hg1.keep0 hR) (by exact rfl) ⟨Chg.refl _ _, rfl⟩) ?_; dsimp only [List.nil_append, List.cons_append]
  refine Walk.plain (v := .string (str (ky.take 110))) rfl (by intro val w_ hR hp; exact op_call rfl rfl rfl (cutS_has ky 110 _ hk (by decide)) (fun v w' ⟨h1, h2⟩ => ⟨h1 ▸ Chg.refl _ _, h2⟩)) ?_; dsimp only [List.nil_append, List.cons_append]
  refine Walk.plain rfl (by intro val w_ hR hp; exact op_fieldAddr T rfl rfl rfl rfl rfl rfl rfl rfl ⟨Chg.refl _ _, rfl⟩) ?_; dsimp only [List.nil_append, List.cons_append]
  refine Walk.plain rfl (by intro val w_ hR hp; exact op_loadB T rfl rfl rfl rfl (hg1.keep0 hR) (by exact rfl) ⟨Chg.refl _ _, rfl⟩) ?_; dsimp only [List.nil_append, List.cons_append]
  refine Walk.plain (v := .string (str (vl.take 300))) rfl (by intro val w_ hR hp; exact op_call rfl rfl rfl (cutS_has vl 300 _ hv (by decide)) (fun v w' ⟨h1, h2⟩ => ⟨h1 ▸ Chg.refl _ _, h2⟩)) ?_; dsimp only [List.nil_append, List.cons_append]
  refine Walk.plain rfl (by intro val w_ hR hp; exact op_fieldAddr T rfl rfl rfl rfl rfl rfl rfl rfl ⟨Chg.refl _ _, rfl⟩) ?_; dsimp only [List.nil_append, List.cons_append]
  refine Walk.fin ?_
  intro val w3 hc3 hp
  clear hp
  replace hc2 := hc2.trans' hc3
  replace hg2 := hg2.keep0 hc3
  replace hc1 := hc1.trans' hc3
  replace hg1 := hg1.keep0 hc3
  refine runL ?_
  refine op0 rfl rfl ?_
  refine op_store T rfl rfl rfl rfl rfl rfl hg1 (by simp) (fun w4 hc4 hb4 _ => ?_)
  have hb4 : Blk w4 g1 33 [.int .i64 kd, .int .i64 sq, .string (str (ky.take 110)), .string (str vl)] := hb4
  replace hg2 := hg2.keep hc4 (by simp; omega)
  replace hc1 := hc1.trans hc4 (fun k hk hlt => by simp at hk; omega)
  refine go T 1 rfl ?_
  refine op0 rfl rfl ?_
  refine op_store T rfl rfl rfl rfl rfl rfl hb4 (by simp) (fun w5 hc5 hb5 _ => ?_)
  have hb5 : Blk w5 g1 33 [.int .i64 kd, .int .i64 sq, .string (str (ky.take 110)), .string (str (vl.take 300))] := hb5
  replace hg2 := hg2.keep hc5 (by simp; omega)
  replace hc1 := hc1.trans hc5 (fun k hk hlt => by simp at hk; omega)
  clear hg1 hb4
  refine go T 4 rfl ?_
  refine o1 rfl (op_load_agg T rfl rfl rfl rfl hb5 (by exact Nat.le_of_ble_eq_true rfl) (by exact rfl) ?_)
  refine op0 rfl rfl ?_
  refine op_store_agg T rfl rfl rfl rfl rfl rfl hg2 (by exact Nat.le_of_ble_eq_true rfl) (fun w6 hc6 hg6 _ => ?_)
  have hg6 : Blk w6 g2 33 (recL (cutR ⟨kd, sq, ky, vl⟩)) := hg6
  replace hc1 := hc1.trans hc6 (fun k hk hlt => by simp at hk; omega)
  refine go T 3 rfl ?_
  exact post1c T (.inl rfl) rfl rfl rfl rfl hg6 rfl ⟨hc1, rfl⟩
set_option maxHeartbeats 1000000 in
theorem good_has (A : Option Addr) (n c : Nat) (L : List RecM) (w : World) (hl : SliceK 4 RrecK w (.slice A n c) L) :
    Has Go.Proofs.Tryd.prog 18 #[.slice A n c, .int .i64 10] w (fun v w' => Chg [] w w' ∧ Own w' 33 4 v (goodR 10 L).length ((goodR 10 L).flatMap recL) ∧ ∀ h, v.ownBlock = some h → w.heap.size ≤ h) := by
  obtain ⟨rfl, hl1, hl2⟩ := hl.len
  unfold maxLen at hl2
  refine enter Go.Proofs.Tryd.func18 rfl rfl (by decide) rfl (e := [(0, .slice A L.length c), (1, .int .i64 10)]) ⟨rfl, rfl, trivial⟩ ?_
  refine run ?_
  refine go T 17 rfl ?_
  refine W_loop (σ := Nat × List RecM × Value) (fun s => [(0, .slice A L.length c), (1, .int .i64 10), (5, s.2.2), (6, .int .i64 s.1)])
    (fun s w' => s.1 ≤ L.length ∧ s.2.1.length ≤ 10 ∧ goodR 10 L = s.2.1 ++ goodR (10 - s.2.1.length) (L.drop s.1) ∧ Chg [] w w' ∧ Own w' 33 4 s.2.2 s.2.1.length (s.2.1.flatMap recL) ∧ ∀ h, s.2.2.ownBlock = some h → w.heap.size ≤ h)
    (fun s => L.length - s.1) (0, [], .slice none 0 0) ⟨rfl, rfl, rfl, rfl, trivial⟩ ⟨Nat.zero_le _, Nat.zero_le _, by simp, Chg.refl _ _, Own.nil _ _ _, fun h hh => by simp [Value.ownBlock] at hh⟩ ?_
  rintro ⟨i, l, v⟩ w1 ⟨h1, h2, h3, hc, ho, hf⟩
  dsimp only at h1 h2 h3 hc ho hf ⊢
  obtain ⟨Av, cv, rfl, _, _⟩ := ho.form
  by_cases hend : i = L.length ∨ l.length = 10
  · have hz : goodR (10 - l.length) (L.drop i) = [] := by
      rcases hend with h | h
      · rw [h, List.drop_length, goodR_nil]
      · rw [h]; simp [goodR]
    rw [hz, List.append_nil] at h3
    rw [h3]
    by_cases hi : i = L.length
    · refine run ?_
      refine go T 6 rfl ?_
      refine ltF rfl rfl rfl rfl (by omega) ?_
      refine go T 11 rfl ?_
      refine rndX ?_
      refine go T 9 rfl ?_
      exact post1 (.inl rfl) rfl rfl ⟨hc, ho, hf⟩
    · have : l.length = 10 := by omega
      refine run ?_
      refine go T 6 rfl ?_
      refine ltT rfl rfl rfl rfl (by omega) ?_
      refine go T 4 rfl ?_
      refine ltF rfl rfl rfl rfl (by omega) ?_
      refine go T 6 rfl ?_
      refine rndX ?_
      refine go T 9 rfl ?_
      exact post1 (.inl rfl) rfl rfl ⟨hc, ho, hf⟩
  have hi : i < L.length := by omega
  obtain ⟨ad, cs, rfl, _, hcell, rfl, hk, hv⟩ := hl.get (i := i) (List.getElem?_eq_getElem hi)
  have hdrop : L.drop i = L[i] :: L.drop (i + 1) := List.drop_eq_getElem_cons hi
  obtain ⟨q, hq⟩ : ∃ q, 10 - l.length = q + 1 := ⟨9 - l.length, by omega⟩
  rw [hdrop, hq] at h3
  generalize L[i] = r at *
  refine run ?_
  refine go T 6 rfl ?_
  refine ltT rfl rfl rfl rfl (by omega) ?_
  refine go T 4 rfl ?_
  refine ltT rfl rfl rfl rfl (by omega) ?_
  refine go T 12 rfl ?_
  refine o1 rfl ?_
  refine op_index_slice T rfl rfl rfl rfl rfl (by omega) (by omega) (p := ad.add (i * 4)) (by rw [Int.toNat_natCast]) ?_
  refine o1 rfl ?_
  refine op_load_cells (cs := recL r) T rfl rfl rfl rfl rfl (fun j u hj => hc.cell0 (by rw [add_of_add]; exact hcell j u hj)) ?_
  refine o1 rfl ?_
  refine op_call rfl rfl rfl (cutR_has r w1 hk hv) ?_
  rintro _ w2 ⟨hc2, rfl⟩
  replace hc := hc.trans' hc2
  replace ho := ho.keep0 hc2
  refine o1 rfl ?_
  refine op_alloc T rfl rfl (fun g w3 hs3 hc3 hg3 => ?_)
  have hg3 : Blk w3 g 33 [.int .i64 0, .int .i64 0, .string (str []), .string (str [])] := hg3
  have hs3 : w2.heap.size ≤ g := hs3
  have hsz := hc.size
  refine op0 rfl rfl ?_
  refine op_store_agg T rfl rfl rfl rfl rfl rfl hg3 (by exact Nat.le_of_ble_eq_true rfl) (fun w4 hc4 hg4 _ => ?_)
  have hg4 : Blk w4 g 33 (recL (cutR r)) := hg4
  have hc24 : Chg [] w2 w4 := hc3.trans hc4 (fun k hk hlt => by simp at hk; omega)
  clear hg3
  replace hc := hc.trans' hc24
  replace ho := ho.keep0 hc24
  unfold recL at hg4
  refine go T 4 rfl ?_
  refine o1 rfl (op_load_agg T rfl rfl rfl rfl hg4 (by exact Nat.le_of_ble_eq_true rfl) (by exact rfl) ?_)
  refine o1 rfl ?_
  refine op_call rfl rfl rfl (rcheck_has (cutR r) w4) ?_
  rintro _ w5 ⟨hc5, rfl⟩
  replace hc4 := hc4.trans' hc5
  replace hg4 := hg4.keep0 hc5
  replace hc24 := hc24.trans' hc5
  replace hc := hc.trans' hc5
  replace ho := ho.keep0 hc5
  by_cases hok : checkM (cutR r) = 0
  · rw [goodR, if_pos hok] at h3
    refine eqT rfl rfl rfl rfl (by omega) ?_
    refine go T 5 rfl ?_
    refine o1 rfl (op_load_agg T rfl rfl rfl rfl hg4 (by exact Nat.le_of_ble_eq_true rfl) (by exact rfl) ?_)
    refine o1 rfl ?_
    refine op_buildSlice T rfl rfl rfl rfl rfl rfl rfl (fun g6 w6 hs6 hc6 hg6 => ?_)
    have hg6 : Blk w6 g6 33 (recL (cutR r)) := hg6
    have hs6 : w5.heap.size ≤ g6 := hs6
    replace hc := hc.trans' hc6
    replace ho := ho.keep0 hc6
    refine o1 rfl ?_
    refine op_append T (n := l.length) (xs := l.flatMap recL) (m := 1) (news := recL (cutR r)) rfl rfl rfl rfl rfl rfl rfl rfl ho rfl ?_ (by unfold maxLen; omega) (by show (l.length + 1) * 48 ≤ _; omega) ?_
    · intro j u hj
      exact ⟨⟨_, rfl, by rw [add_plain]; exact hg6.cell hj⟩, recL_one _ u (List.mem_of_getElem? hj)⟩
    · intro v7 w7 ho7 hc7 hb7 _
      have hfr : ∀ h, v7.ownBlock = some h → w.heap.size ≤ h := fun h hh => by
        rcases hb7 with hb | ⟨g', hb, hge⟩
        · exact hf h (by rw [← hb]; exact hh)
        · rw [hb] at hh; injection hh with hh; have := hc.size; omega
      have hc7' : Chg [] w w7 := hc.trans hc7 (fun k hk hlt => by have := hf k (by simpa using hk); omega)
      refine go T 6 rfl ?_
      refine adI rfl rfl rfl rfl (by omega) (by omega) ?_
      refine go T 2 rfl ?_
      refine Round_n (i + 1, l ++ [cutR r], v7) ⟨rfl, rfl, rfl, rfl, trivial⟩ ⟨by dsimp only; omega, by dsimp only; simp; omega, ?_, hc7', ?_, hfr⟩ (by dsimp only; omega)
      · dsimp only
        rw [h3, List.append_assoc, List.length_append, List.length_singleton, show 10 - (l.length + 1) = q from by omega]; rfl
      · dsimp only
        rw [List.length_append, List.flatMap_append]
        simpa using ho7
  · rw [goodR, if_neg hok] at h3
    refine eqF rfl rfl rfl rfl (by omega) ?_
    refine go T 8 rfl ?_
    refine adI rfl rfl rfl rfl (by omega) (by omega) ?_
    refine go T 2 rfl ?_
    refine Round_n (i + 1, l, .slice Av l.length cv) ⟨rfl, rfl, rfl, rfl, trivial⟩ ⟨by dsimp only; omega, h2, ?_, hc, ho, hf⟩ (by dsimp only; omega)
    dsimp only
    rw [hq]; exact h3
end Go.Proofs.YtbhnplghnhafiaaDoor.Tryd
/-! Fits, walked. -/
set_option linter.unusedVariables false
namespace Go.Vc
open Go
def sumL : List (List UInt8) → Nat
  | [] => 0
  | s :: r => 12 + s.length + sumL r
theorem scanM_sum : ∀ (n : Nat) (l : List UInt8), l.length ≤ n → sumL (scanM l).1 ≤ l.length
  | n, l, hn => by
    by_cases h : (firstM l).2.1 = 0
    · rw [scanM_end h]; simp [sumL]
    · rw [scanM_step h]
      rcases firstM_bound l with h' | ⟨h1, h2, h3⟩
      · exact absurd h' h
      · match n with
        | 0 => omega
        | n + 1 =>
          have := scanM_sum n (l.drop (firstM l).2.1) (by rw [List.length_drop]; omega)
          rw [List.length_drop] at this
          show 12 + (firstM l).1.length + sumL _ ≤ _
          omega
theorem take_drop_add {α : Type} (l : List α) (a n : Nat) : (l.take (a + n)).drop a = (l.drop a).take n := by rw [List.drop_take]; congr 1; omega
end Go.Vc
namespace Go.Proofs.YtbhnplghnhafiaaDoor.Tryd
open Go Go.Vc
set_option maxHeartbeats 4000000 in
theorem fits_has (A : Option Addr) (n c : Nat) (old : List UInt8) (A' : Option Addr) (n' c' : Nat) (now : List UInt8) (w : World) (hl : SliceOf Ru8 w (.slice A n c) old) (hl' : SliceOf Ru8 w (.slice A' n' c') now) (hb : old.length ≤ 1000000000) (hb' : now.length ≤ 1000000000) :
    Has Go.Proofs.Tryd.prog 21 #[.slice A n c, .slice A' n' c'] w (fun v w' => Chg [] w w' ∧ v = .bool (fitsR (scanM old).1 old now)) := by
  obtain ⟨rfl, hl1, hl2⟩ := hl.len
  obtain ⟨rfl, hl3, hl4⟩ := hl'.len
  unfold maxLen at hl2 hl4
  refine enter Go.Proofs.Tryd.func21 rfl rfl (by decide) rfl (e := [(0, .slice A old.length c), (1, .slice A' now.length c')]) ⟨rfl, rfl, trivial⟩ ?_
  refine run ?_
  refine go T 8 rfl ?_
  refine o1 rfl ?_
  refine op_call rfl rfl rfl (rscan1_has A old.length c old w hl hb) ?_
  rintro _ w1 ⟨us, rfl, hc1, hos, hfs⟩
  have hsum := scanM_sum old.length old (Nat.le_refl _)
  generalize scanM old = q at *
  obtain ⟨seals, tot, cut⟩ := q
  dsimp only at *
  have hss := hos.reads
  obtain ⟨As, cs, rfl, hs1, hs2⟩ := hss.form
  clear hos hfs
  unfold maxLen at hs2
  refine go T 21 rfl ?_
  refine W_loop (σ := Nat × Nat) (fun s => [(0, .slice A old.length c), (1, .slice A' now.length c'), (5, .slice As seals.length cs), (8, .int .i64 s.2), (9, .int .i64 s.1)])
    (fun s w' => s.1 ≤ seals.length ∧ s.2 ≤ now.length ∧ s.2 + sumL (seals.drop s.1) ≤ old.length ∧ fitsR seals old now = fitsR (seals.drop s.1) (old.drop s.2) (now.drop s.2) ∧ Chg [] w1 w')
    (fun s => seals.length - s.1) (0, 0) ⟨rfl, rfl, rfl, rfl, rfl, trivial⟩ ⟨Nat.zero_le _, Nat.zero_le _, by simpa using hsum, by simp, Chg.refl _ _⟩ ?_
  rintro ⟨k, at_⟩ w2 ⟨h1, h2, h3, h4, hc⟩
  dsimp only at h1 h2 h3 h4 hc ⊢
  by_cases hend : k = seals.length
  · subst hend
    rw [List.drop_length] at h4
    rw [h4]
    refine run ?_
    refine go T 6 rfl ?_
    refine ltF rfl rfl rfl rfl (by omega) ?_
    refine go T 5 rfl ?_
    refine rndX ?_
    refine go T 8 rfl ?_
    exact post1 (.inl rfl) rfl rfl ⟨hc1.trans' hc, rfl⟩
  have hk : k < seals.length := by omega
  obtain ⟨ad, us, rfl, hus1, hrs1⟩ := hss.get (i := k) (List.getElem?_eq_getElem hk)
  have hus := hc.cell0 hus1
  have hdr : seals.drop k = seals[k] :: seals.drop (k + 1) := List.drop_eq_getElem_cons hk
  rw [hdr] at h3 h4
  generalize seals[k] = s at *
  obtain ⟨A3, c3, rfl, _, _⟩ := SliceOf.form hrs1
  clear hrs1
  simp only [sumL] at h3
  have hdn : (now.drop at_).length = now.length - at_ := List.length_drop
  by_cases hshort : now.length < at_ + (12 + s.length)
  · rw [fitsR, if_pos (by omega)] at h4
    rw [h4]
    refine run ?_
    refine go T 6 rfl ?_
    refine ltT rfl rfl rfl rfl (by omega) ?_
    refine go T 11 rfl ?_
    refine o1 rfl (op_index_nat T rfl rfl rfl rfl rfl rfl (by omega) ?_)
    refine o1 rfl (op_load T rfl rfl rfl rfl (by assumption) ?_)
    refine go T 1 rfl ?_
    refine adI rfl rfl rfl rfl (by omega) (by omega) ?_
    refine go T 8 rfl ?_
    refine adI rfl rfl rfl rfl (by omega) (by omega) ?_
    refine go T 2 rfl ?_
    refine gtT rfl rfl rfl rfl (by omega) ?_
    refine go T 12 rfl ?_
    refine rndR ?_
    refine go T 2 rfl ?_
    exact post1 (.inl rfl) rfl rfl ⟨hc1.trans' hc, rfl⟩
  rw [fitsR, if_neg (by omega)] at h4
  have hcw := hc1.trans' hc
  refine run ?_
  refine go T 6 rfl ?_
  refine ltT rfl rfl rfl rfl (by omega) ?_
  refine go T 11 rfl ?_
  refine o1 rfl (op_index_nat T rfl rfl rfl rfl rfl rfl (by omega) ?_)
  refine o1 rfl (op_load T rfl rfl rfl rfl (by assumption) ?_)
  refine go T 1 rfl ?_
  refine adI rfl rfl rfl rfl (by omega) (by omega) ?_
  refine go T 8 rfl ?_
  refine adI rfl rfl rfl rfl (by omega) (by omega) ?_
  refine go T 2 rfl ?_
  refine gtF rfl rfl rfl rfl (by omega) ?_
  refine go T 6 rfl ?_
  refine W_walk 13 [] fol (by kernel_rfl) (by kernel_rfl) ?_
  refine Walk.plain rfl (by intro val w_ hR hp; exact op_move rfl rfl ⟨Chg.refl _ _, rfl⟩) ?_; dsimp only [List.nil_append, List.cons_append]
  refine Walk.plain rfl (by intro val w_ hR hp; exact op_move rfl rfl ⟨Chg.refl _ _, rfl⟩) ?_; dsimp only [List.nil_append, List.cons_append]
  refine Walk.plain rfl (by intro val w_ hR hp; exact op_move rfl rfl ⟨Chg.refl _ _, rfl⟩) ?_; dsimp only [List.nil_append, List.cons_append]
  refine Walk.plain rfl (by intro val w_ hR hp; exact op_move rfl rfl ⟨Chg.refl _ _, rfl⟩) ?_; dsimp only [List.nil_append, List.cons_append]
  refine Walk.plain rfl (by intro val w_ hR hp; exact op_add rfl rfl rfl (wrap_i64_in (by omega) (by omega)) ⟨Chg.refl _ _, rfl⟩) ?_; dsimp only [List.nil_append, List.cons_append]
  refine Walk.plain (v := cutV A c at_ (at_ + (12 + s.length))) rfl (by intro val w_ hR hp; exact op_cutV (l := at_) (h' := at_ + (12 + s.length)) T rfl rfl rfl rfl rfl ⟨_, rfl⟩ ⟨_, some_int (by omega)⟩ (by omega) (by omega) ⟨Chg.refl _ _, rfl⟩) ?_; dsimp only [List.nil_append, List.cons_append]
  refine Walk.plain rfl (by intro val w_ hR hp; exact op_move rfl rfl ⟨Chg.refl _ _, rfl⟩) ?_; dsimp only [List.nil_append, List.cons_append]
  refine Walk.plain rfl (by intro val w_ hR hp; exact op_move rfl rfl ⟨Chg.refl _ _, rfl⟩) ?_; dsimp only [List.nil_append, List.cons_append]
  refine Walk.plain rfl (by intro val w_ hR hp; exact op_move rfl rfl ⟨Chg.refl _ _, rfl⟩) ?_; dsimp only [List.nil_append, List.cons_append]
  refine Walk.plain rfl (by intro val w_ hR hp; exact op_move rfl rfl ⟨Chg.refl _ _, rfl⟩) ?_; dsimp only [List.nil_append, List.cons_append]
  refine Walk.plain rfl (by intro val w_ hR hp; exact op_add rfl rfl rfl (wrap_i64_in (by omega) (by omega)) ⟨Chg.refl _ _, rfl⟩) ?_; dsimp only [List.nil_append, List.cons_append]
  refine Walk.plain (v := cutV A' c' at_ (at_ + (12 + s.length))) rfl (by intro val w_ hR hp; exact op_cutV (l := at_) (h' := at_ + (12 + s.length)) T rfl rfl rfl rfl rfl ⟨_, rfl⟩ ⟨_, some_int (by omega)⟩ (by omega) (by omega) ⟨Chg.refl _ _, rfl⟩) ?_; dsimp only [List.nil_append, List.cons_append]
  refine Walk.plain rfl (by intro val w_ hR hp; exact op_assign rfl rfl ⟨Chg.refl _ _, rfl⟩) ?_; dsimp only [List.nil_append, List.cons_append]
  refine Walk.fin ?_
  intro val w3 hc3 hp
  clear hp
  replace hc := hc.trans' hc3
  replace hus := hc3.cell0 hus
  replace hcw := hcw.trans' hc3
  have ha0 := cutV_reads hl (l := at_) (h := at_ + (12 + s.length)) (by omega) (by omega)
  have hb0 := cutV_reads hl' (l := at_) (h := at_ + (12 + s.length)) (by omega) (by omega)
  rw [take_drop_add] at ha0 hb0
  obtain ⟨Aa, ca, hea, hca, _⟩ := ha0.form
  obtain ⟨Ab, cb, heb, hcb, _⟩ := hb0.form
  rw [hea] at ha0
  rw [heb] at hb0
  refine WL_sub (e' := [(0, .slice A old.length c), (1, .slice A' now.length c'), (5, .slice (some ad) seals.length cs), (8, .int .i64 (at_ : Int)), (9, .int .i64 (k : Int)), (10, .int .i64 (12 + (s.length : Int))), (11, .slice Aa _ ca), (49, .slice Ab _ cb)]) ⟨rfl, rfl, rfl, rfl, rfl, rfl, congrArg some hea, congrArg some heb, trivial⟩ ?_
  have hal : ((old.drop at_).take (12 + s.length)).length = 12 + s.length := by rw [List.length_take, List.length_drop]; omega
  have hbl : ((now.drop at_).take (12 + s.length)).length = 12 + s.length := by rw [List.length_take, List.length_drop]; omega
  rw [hal] at ha0 hca hea ⊢
  rw [hbl] at hb0 hcb heb ⊢
  have hnext : (old.drop at_).drop (12 + s.length) = old.drop (at_ + (12 + s.length)) ∧ (now.drop at_).drop (12 + s.length) = now.drop (at_ + (12 + s.length)) := ⟨List.drop_drop, List.drop_drop⟩
  rw [hnext.1, hnext.2] at h4
  generalize (old.drop at_).take (12 + s.length) = a at *
  generalize (now.drop at_).take (12 + s.length) = b at *
  clear hea heb hnext hdn val
  have ha : ∀ w', Chg [] w w' → SliceOf Ru8 w' (.slice Aa (12 + s.length) ca) a := fun w' h => SliceOf.kept Ru8.kept _ _ _ _ h ha0
  have hbw : ∀ w', Chg [] w w' → SliceOf Ru8 w' (.slice Ab (12 + s.length) cb) b := fun w' h => SliceOf.kept Ru8.kept _ _ _ _ h hb0
  have eqs : (b.take 8).drop 4 = (b.drop 4).take 4 := by rw [List.drop_take]
  have eqs2 : (b.take 12).drop 8 = (b.drop 8).take 4 := by rw [List.drop_take]
  have round : ∀ w4, Chg [] w1 w4 → fitsR seals old now = fitsR (seals.drop (k + 1)) (old.drop (at_ + (12 + s.length))) (now.drop (at_ + (12 + s.length))) → ∃ s' : Nat × Nat, s' = (k + 1, at_ + (12 + s.length)) ∧ (s'.1 ≤ seals.length ∧ s'.2 ≤ now.length ∧ s'.2 + sumL (seals.drop s'.1) ≤ old.length ∧ fitsR seals old now = fitsR (seals.drop s'.1) (old.drop s'.2) (now.drop s'.2) ∧ Chg [] w1 w4) := fun w4 hc4 hf => ⟨_, rfl, by dsimp only; omega, by dsimp only; omega, by dsimp only; omega, hf, hc4⟩
  refine runL ?_
  refine go T 7 rfl ?_
  refine o1 rfl ?_
  refine op_string T rfl rfl rfl rfl rfl (ha _ hcw) ?_
  refine go T 1 rfl ?_
  refine o1 rfl ?_
  refine op_string T rfl rfl rfl rfl rfl (hbw _ hcw) ?_
  refine o1 rfl ?_
  refine op_str_neq (a := a) (b := b) rfl rfl rfl (fun hne => ?_) (fun heq => ?_)
  rotate_left
  · have hnf : ¬ fitM a b = true := by unfold fitM; rw [heq]; simp
    rw [if_neg hnf] at h4
    refine go T 8 rfl ?_
    refine adI rfl rfl rfl rfl (by omega) (by omega) ?_
    refine go T 6 rfl ?_
    refine adI rfl rfl rfl rfl (by omega) (by omega) ?_
    refine go T 2 rfl ?_
    obtain ⟨s', rfl, hI⟩ := round _ hc h4
    exact Round_n _ ⟨rfl, rfl, rfl, some_int (by dsimp only; omega), rfl, trivial⟩ hI (by dsimp only; omega)
  refine go T 4 rfl ?_
  refine W_walk 8 [] fol (by kernel_rfl) (by kernel_rfl) ?_
  refine Walk.plain rfl (by intro val w_ hR hp; exact op_move rfl rfl ⟨Chg.refl _ _, rfl⟩) ?_; dsimp only [List.nil_append, List.cons_append]
  refine Walk.plain (v := cutV Ab cb 0 4) rfl (by intro val w_ hR hp; exact op_cutV (l := 0) (h' := 4) T rfl rfl rfl rfl rfl rfl ⟨_, rfl⟩ (by omega) (by omega) ⟨Chg.refl _ _, rfl⟩) ?_; dsimp only [List.nil_append, List.cons_append]
  refine Walk.plain (v := .int .u32 (crcN (b.take 4) : Nat)) rfl (by intro val w_ hR hp; exact op_call rfl rfl rfl (rsum_has _ _ _ _ _ (cutV_reads (hbw _ (hcw.trans' hR)) (Nat.zero_le 4) (by omega))) (fun v w' ⟨h1, h2⟩ => ⟨h1 ▸ Chg.refl _ _, h2⟩)) ?_; dsimp only [List.nil_append, List.cons_append]
  refine Walk.rel (fun v w' => SliceOf Ru8 w' v (fourM (crcN (b.take 4)))) rfl (fun v w w' h hab => SliceOf.kept Ru8.kept _ _ _ _ hab h) (by intro val w_ hR hp; exact op_call rfl rfl rfl (rfour_has _ _ (crcN_lt _)) (fun v w' m => ⟨m.chg, m.reads⟩)) ?_; dsimp only [List.nil_append, List.cons_append]
  refine Walk.plain (v := .string (str (fourM (crcN (b.take 4))))) rfl ?_ ?_
  · intro val w_ hR hp
    have h3 : SliceOf Ru8 w_ (val 3) (fourM (crcN (b.take 4))) := hp 3 rfl _ _ rfl rfl
    obtain ⟨A3, c3, e3, _, _⟩ := h3.form
    rw [e3] at h3
    exact op_string T rfl (congrArg some e3) rfl rfl rfl h3 ⟨Chg.refl _ _, rfl⟩
  dsimp only [List.nil_append, List.cons_append]
  refine Walk.plain rfl (by intro val w_ hR hp; exact op_move rfl rfl ⟨Chg.refl _ _, rfl⟩) ?_; dsimp only [List.nil_append, List.cons_append]
  refine Walk.plain (v := cutV Ab cb 4 8) rfl (by intro val w_ hR hp; exact op_cutV (l := 4) (h' := 8) T rfl rfl rfl rfl rfl ⟨_, rfl⟩ ⟨_, rfl⟩ (by omega) (by omega) ⟨Chg.refl _ _, rfl⟩) ?_; dsimp only [List.nil_append, List.cons_append]
  refine Walk.plain (v := .string (str ((b.take 8).drop 4))) rfl (by intro val w_ hR hp; exact op_string T rfl rfl rfl rfl rfl (cutV_reads (hbw _ (hcw.trans' hR)) (show 4 ≤ 8 by decide) (by omega)) ⟨Chg.refl _ _, rfl⟩) ?_; dsimp only [List.nil_append, List.cons_append]
  skip
  refine Walk.fin ?_
  intro val w4 hc4 hp
  clear hp
  replace hc3 := hc3.trans' hc4
  replace hc := hc.trans' hc4
  replace hus := hc4.cell0 hus
  replace hcw := hcw.trans' hc4
  refine WL_sub (e' := [(0, .slice A old.length c), (1, .slice A' now.length c'), (5, .slice (some ad) seals.length cs), (8, .int .i64 (at_ : Int)), (9, .int .i64 (k : Int)), (10, .int .i64 (12 + (s.length : Int))), (11, .slice Aa (12 + s.length) ca), (12, .slice Ab (12 + s.length) cb), (59, .string (str (fourM (crcN (b.take 4))))), (62, .string (str ((b.take 8).drop 4)))]) ⟨rfl, rfl, rfl, rfl, rfl, rfl, rfl, rfl, rfl, rfl, trivial⟩ ?_
  refine runL ?_
  refine o1 rfl ?_
  refine op_str_eql (a := fourM (crcN (b.take 4))) (b := (b.take 8).drop 4) rfl rfl rfl (fun hh => ?_) (fun hh => ?_)
  rotate_left
  · have hhm : headM b = false := by unfold headM; rw [← eqs]; exact decide_eq_false hh
    have hnf : ¬ fitM a b = true := by unfold fitM; simp [hhm]
    rw [if_neg hnf] at h4
    refine go T 4 rfl ?_
    refine W_walk 21 [] fol (by kernel_rfl) (by kernel_rfl) ?_
    refine Walk.plain rfl (by intro val w_ hR hp; exact op_move rfl rfl ⟨Chg.refl _ _, rfl⟩) ?_; dsimp only [List.nil_append, List.cons_append]
    refine Walk.plain rfl (by intro val w_ hR hp; exact op_move rfl rfl ⟨Chg.refl _ _, rfl⟩) ?_; dsimp only [List.nil_append, List.cons_append]
    refine Walk.guardF rfl rfl rfl (fun _ => rfl) rfl ?_; dsimp only [List.nil_append, List.cons_append]
    refine Walk.guardF rfl rfl rfl (fun _ => rfl) rfl ?_; dsimp only [List.nil_append, List.cons_append]
    refine Walk.guardF rfl rfl rfl (fun _ => rfl) rfl ?_; dsimp only [List.nil_append, List.cons_append]
    refine Walk.guardF rfl rfl rfl (fun _ => rfl) rfl ?_; dsimp only [List.nil_append, List.cons_append]
    refine Walk.guardF rfl rfl rfl (fun _ => rfl) rfl ?_; dsimp only [List.nil_append, List.cons_append]
    refine Walk.guardF rfl rfl rfl (fun _ => rfl) rfl ?_; dsimp only [List.nil_append, List.cons_append]
    refine Walk.guardF rfl rfl rfl (fun _ => rfl) rfl ?_; dsimp only [List.nil_append, List.cons_append]
    refine Walk.plain rfl (by intro val w_ hR hp; exact op_pick rfl rfl rfl rfl ⟨Chg.refl _ _, rfl⟩) ?_; dsimp only [List.nil_append, List.cons_append]
    refine Walk.plain rfl (by intro val w_ hR hp; exact op_move rfl rfl ⟨Chg.refl _ _, rfl⟩) ?_; dsimp only [List.nil_append, List.cons_append]
    refine Walk.guardT rfl rfl rfl (fun _ => rfl) (by intro val w_ hR hp; exact op_move rfl rfl ⟨Chg.refl _ _, rfl⟩) ?_; dsimp only [List.nil_append, List.cons_append]
    refine Walk.guardT rfl rfl rfl (fun _ => rfl) (by intro val w_ hR hp; exact op_move rfl rfl ⟨Chg.refl _ _, rfl⟩) ?_; dsimp only [List.nil_append, List.cons_append]
    refine Walk.guardF rfl rfl rfl (fun _ => rfl) rfl ?_; dsimp only [List.nil_append, List.cons_append]
    refine Walk.guardF rfl rfl rfl (fun _ => rfl) rfl ?_; dsimp only [List.nil_append, List.cons_append]
    refine Walk.guardF rfl rfl rfl (fun _ => rfl) rfl ?_; dsimp only [List.nil_append, List.cons_append]
    refine Walk.guardF rfl rfl rfl (fun _ => rfl) rfl ?_; dsimp only [List.nil_append, List.cons_append]
    refine Walk.guardF rfl rfl rfl (fun _ => rfl) rfl ?_; dsimp only [List.nil_append, List.cons_append]
    refine Walk.guardF rfl rfl rfl (fun _ => rfl) rfl ?_; dsimp only [List.nil_append, List.cons_append]
    refine Walk.guardF rfl rfl rfl (fun _ => rfl) rfl ?_; dsimp only [List.nil_append, List.cons_append]
    refine Walk.guardF rfl rfl rfl (fun _ => rfl) rfl ?_; dsimp only [List.nil_append, List.cons_append]
    skip
    refine Walk.fin ?_
    intro val2 w5 hc5 hp
    clear hp
    replace hc4 := hc4.trans' hc5
    replace hc3 := hc3.trans' hc5
    replace hc := hc.trans' hc5
    replace hus := hc5.cell0 hus
    replace hcw := hcw.trans' hc5
    refine runL ?_
    refine go T 11 rfl ?_
    refine adI rfl rfl rfl rfl (by omega) (by omega) ?_
    refine go T 6 rfl ?_
    refine adI rfl rfl rfl rfl (by omega) (by omega) ?_
    refine go T 2 rfl ?_
    obtain ⟨s', rfl, hI⟩ := round _ hc h4
    exact Round_n _ ⟨rfl, rfl, rfl, some_int (by dsimp only; omega), rfl, trivial⟩ hI (by dsimp only; omega)
  have hhm : headM b = true := by unfold headM; rw [← eqs]; exact decide_eq_true hh
  refine go T 4 rfl ?_
  refine W_walk 21 [] fol (by kernel_rfl) (by kernel_rfl) ?_
  refine Walk.plain rfl (by intro val w_ hR hp; exact op_move rfl rfl ⟨Chg.refl _ _, rfl⟩) ?_; dsimp only [List.nil_append, List.cons_append]
  refine Walk.plain rfl (by intro val w_ hR hp; exact op_move rfl rfl ⟨Chg.refl _ _, rfl⟩) ?_; dsimp only [List.nil_append, List.cons_append]
  refine Walk.guardT rfl rfl rfl (fun _ => rfl) (by intro val w_ hR hp; exact op_move rfl rfl ⟨Chg.refl _ _, rfl⟩) ?_; dsimp only [List.nil_append, List.cons_append]
  refine Walk.guardT (v := cutV Aa ca 0 8) rfl rfl rfl (fun _ => rfl) (by intro val w_ hR hp; exact op_cutV (l := 0) (h' := 8) T rfl rfl rfl rfl rfl rfl ⟨_, rfl⟩ (by omega) (by omega) ⟨Chg.refl _ _, rfl⟩) ?_; dsimp only [List.nil_append, List.cons_append]
  refine Walk.guardT (v := .string (str (a.take 8))) rfl rfl rfl (fun _ => rfl) (by intro val w_ hR hp; exact op_string T rfl rfl rfl rfl rfl (cutV_reads (ha _ (hcw.trans' hR)) (Nat.zero_le 8) (by omega)) ⟨Chg.refl _ _, rfl⟩) ?_; dsimp only [List.nil_append, List.cons_append]
  refine Walk.guardT rfl rfl rfl (fun _ => rfl) (by intro val w_ hR hp; exact op_move rfl rfl ⟨Chg.refl _ _, rfl⟩) ?_; dsimp only [List.nil_append, List.cons_append]
  refine Walk.guardT (v := cutV Ab cb 0 8) rfl rfl rfl (fun _ => rfl) (by intro val w_ hR hp; exact op_cutV (l := 0) (h' := 8) T rfl rfl rfl rfl rfl rfl ⟨_, rfl⟩ (by omega) (by omega) ⟨Chg.refl _ _, rfl⟩) ?_; dsimp only [List.nil_append, List.cons_append]
  refine Walk.guardT (v := .string (str (b.take 8))) rfl rfl rfl (fun _ => rfl) (by intro val w_ hR hp; exact op_string T rfl rfl rfl rfl rfl (cutV_reads (hbw _ (hcw.trans' hR)) (Nat.zero_le 8) (by omega)) ⟨Chg.refl _ _, rfl⟩) ?_; dsimp only [List.nil_append, List.cons_append]
  by_cases h8 : a.take 8 = b.take 8
  rotate_left
  · have hf : fitM a b = true := by unfold fitM; simp [hhm, hne, h8]
    rw [if_pos hf] at h4
    rw [h4]
    refine Walk.guardT (v := .bool true) rfl rfl rfl (fun _ => rfl) (by intro val w_ hR hp; exact op_str_neq (a := a.take 8) (b := b.take 8) rfl rfl rfl (fun h => ⟨Chg.refl _ _, rfl⟩) (fun h => absurd h h8)) ?_; dsimp only [List.nil_append, List.cons_append]
    refine Walk.plain rfl (by intro val w_ hR hp; exact op_pick rfl rfl rfl rfl ⟨Chg.refl _ _, rfl⟩) ?_; dsimp only [List.nil_append, List.cons_append]
    refine Walk.plain rfl (by intro val w_ hR hp; exact op_move rfl rfl ⟨Chg.refl _ _, rfl⟩) ?_; dsimp only [List.nil_append, List.cons_append]
    refine Walk.guardF rfl rfl rfl (fun _ => rfl) rfl ?_; dsimp only [List.nil_append, List.cons_append]
    refine Walk.guardF rfl rfl rfl (fun _ => rfl) rfl ?_; dsimp only [List.nil_append, List.cons_append]
    refine Walk.guardU rfl rfl rfl (fun _ => rfl) ?_; dsimp only [List.nil_append, List.cons_append]
    refine Walk.guardU rfl rfl rfl (fun _ => rfl) ?_; dsimp only [List.nil_append, List.cons_append]
    refine Walk.guardU rfl rfl rfl (fun _ => rfl) ?_; dsimp only [List.nil_append, List.cons_append]
    refine Walk.guardU rfl rfl rfl (fun _ => rfl) ?_; dsimp only [List.nil_append, List.cons_append]
    refine Walk.guardU rfl rfl rfl (fun _ => rfl) ?_; dsimp only [List.nil_append, List.cons_append]
    refine Walk.guardU rfl rfl rfl (fun _ => rfl) ?_; dsimp only [List.nil_append, List.cons_append]
    refine Walk.guardU rfl rfl rfl (fun _ => rfl) ?_; dsimp only [List.nil_append, List.cons_append]
    refine Walk.guardU rfl rfl rfl (fun _ => rfl) ?_; dsimp only [List.nil_append, List.cons_append]
    refine Walk.fin ?_
    intro val2 w5 hc5 hp
    clear hp
    replace hc4 := hc4.trans' hc5
    replace hc3 := hc3.trans' hc5
    replace hc := hc.trans' hc5
    replace hus := hc5.cell0 hus
    replace hcw := hcw.trans' hc5
    refine runL ?_
    refine go T 15 rfl ?_
    refine rndR ?_
    refine go T 2 rfl ?_
    exact post1 (.inl rfl) rfl rfl ⟨hcw, rfl⟩
  refine Walk.guardT (v := .bool false) rfl rfl rfl (fun _ => rfl) (by intro val w_ hR hp; exact op_str_neq (a := a.take 8) (b := b.take 8) rfl rfl rfl (fun h => absurd h8 h) (fun h => ⟨Chg.refl _ _, rfl⟩)) ?_; dsimp only [List.nil_append, List.cons_append]
  refine Walk.plain rfl (by intro val w_ hR hp; exact op_pick rfl rfl rfl rfl ⟨Chg.refl _ _, rfl⟩) ?_; dsimp only [List.nil_append, List.cons_append]
  refine Walk.plain rfl (by intro val w_ hR hp; exact op_move rfl rfl ⟨Chg.refl _ _, rfl⟩) ?_; dsimp only [List.nil_append, List.cons_append]
  refine Walk.guardT rfl rfl rfl (fun _ => rfl) (by intro val w_ hR hp; exact op_move rfl rfl ⟨Chg.refl _ _, rfl⟩) ?_; dsimp only [List.nil_append, List.cons_append]
  refine Walk.guardT rfl rfl rfl (fun _ => rfl) (by intro val w_ hR hp; exact op_move rfl rfl ⟨Chg.refl _ _, rfl⟩) ?_; dsimp only [List.nil_append, List.cons_append]
  refine Walk.guardT rfl rfl rfl (fun _ => rfl) (by intro val w_ hR hp; exact op_move rfl rfl ⟨Chg.refl _ _, rfl⟩) ?_; dsimp only [List.nil_append, List.cons_append]
  refine Walk.guardT (v := cutV Ab cb 12 (12 + s.length)) rfl rfl rfl (fun _ => rfl) (by intro val w_ hR hp; exact op_cutV (l := 12) (h' := 12 + s.length) T rfl rfl rfl rfl rfl ⟨_, rfl⟩ rfl (by omega) (by omega) ⟨Chg.refl _ _, rfl⟩) ?_; dsimp only [List.nil_append, List.cons_append]
  have e12 : (b.take (12 + s.length)).drop 12 = b.drop 12 := by rw [List.take_of_length_le (by omega)]
  have h12 : ∀ w', Chg [] w w' → SliceOf Ru8 w' (cutV Ab cb 12 (12 + s.length)) (b.drop 12) := fun w' h => by have := cutV_reads (hbw _ h) (show 12 ≤ 12 + s.length by omega) (by omega); rwa [e12] at this
  refine Walk.guardT (v := .int .u32 (crcN (b.drop 12) : Nat)) rfl rfl rfl (fun _ => rfl) (by intro val w_ hR hp; exact op_call rfl rfl rfl (rsum_has _ _ _ _ _ (h12 _ (hcw.trans' hR))) (fun v w' ⟨h1, h2⟩ => ⟨h1 ▸ Chg.refl _ _, h2⟩)) ?_; dsimp only [List.nil_append, List.cons_append]
  refine Walk.guardR (fun v w' => SliceOf Ru8 w' v (fourM (crcN (b.drop 12)))) rfl rfl rfl (fun _ => rfl) (fun v w w' h hab => SliceOf.kept Ru8.kept _ _ _ _ hab h) (by intro val w_ hR hp; exact op_call rfl rfl rfl (rfour_has _ _ (crcN_lt _)) (fun v w' m => ⟨m.chg, m.reads⟩)) ?_; dsimp only [List.nil_append, List.cons_append]
  refine Walk.guardT (v := .string (str (fourM (crcN (b.drop 12))))) rfl rfl rfl (fun _ => rfl) ?_ ?_
  · intro val w_ hR hp
    have h3 : SliceOf Ru8 w_ (val 16) (fourM (crcN (b.drop 12))) := hp 16 rfl _ _ rfl rfl
    obtain ⟨A3, c3, e3, _, _⟩ := h3.form
    rw [e3] at h3
    exact op_string T rfl (congrArg some e3) rfl rfl rfl h3 ⟨Chg.refl _ _, rfl⟩
  dsimp only [List.nil_append, List.cons_append]
  refine Walk.guardT rfl rfl rfl (fun _ => rfl) (by intro val w_ hR hp; exact op_move rfl rfl ⟨Chg.refl _ _, rfl⟩) ?_; dsimp only [List.nil_append, List.cons_append]
  refine Walk.guardT (v := cutV Ab cb 8 12) rfl rfl rfl (fun _ => rfl) (by intro val w_ hR hp; exact op_cutV (l := 8) (h' := 12) T rfl rfl rfl rfl rfl ⟨_, rfl⟩ ⟨_, rfl⟩ (by omega) (by omega) ⟨Chg.refl _ _, rfl⟩) ?_; dsimp only [List.nil_append, List.cons_append]
  refine Walk.guardT (v := .string (str ((b.take 12).drop 8))) rfl rfl rfl (fun _ => rfl) (by intro val w_ hR hp; exact op_string T rfl rfl rfl rfl rfl (cutV_reads (hbw _ (hcw.trans' hR)) (show 8 ≤ 12 by decide) (by omega)) ⟨Chg.refl _ _, rfl⟩) ?_; dsimp only [List.nil_append, List.cons_append]
  skip
  refine Walk.fin ?_
  intro val2 w5 hc5 hp
  clear hp
  replace hc4 := hc4.trans' hc5
  replace hc3 := hc3.trans' hc5
  replace hc := hc.trans' hc5
  replace hus := hc5.cell0 hus
  replace hcw := hcw.trans' hc5
  refine WL_sub (e' := [(0, .slice A old.length c), (1, .slice A' now.length c'), (5, .slice (some ad) seals.length cs), (8, .int .i64 (at_ : Int)), (9, .int .i64 (k : Int)), (10, .int .i64 (12 + (s.length : Int))), (74, .bool false), (75, .bool true), (76, .bool true), (81, .string (str (fourM (crcN (b.drop 12))))), (84, .string (str ((b.take 12).drop 8)))]) ⟨rfl, rfl, rfl, rfl, rfl, rfl, rfl, rfl, rfl, rfl, rfl, trivial⟩ ?_
  refine runL ?_
  refine o1 rfl ?_
  refine op_str_eql (a := fourM (crcN (b.drop 12))) (b := (b.take 12).drop 8) rfl rfl rfl (fun hbd => ?_) (fun hbd => ?_)
  · have hf : fitM a b = true := by unfold fitM; rw [← eqs2]; simp [hhm, hne, hbd]
    rw [if_pos hf] at h4
    rw [h4]
    refine go T 14 rfl ?_
    refine rndR ?_
    refine go T 2 rfl ?_
    exact post1 (.inl rfl) rfl rfl ⟨hcw, rfl⟩
  · have hnf : ¬ fitM a b = true := by unfold fitM; rw [← eqs2]; simp [hhm, hne, h8, hbd]
    rw [if_neg hnf] at h4
    refine go T 10 rfl ?_
    refine adI rfl rfl rfl rfl (by omega) (by omega) ?_
    refine go T 6 rfl ?_
    refine adI rfl rfl rfl rfl (by omega) (by omega) ?_
    refine go T 2 rfl ?_
    obtain ⟨s', rfl, hI⟩ := round _ hc h4
    exact Round_n _ ⟨rfl, rfl, rfl, some_int (by dsimp only; omega), rfl, trivial⟩ hI (by dsimp only; omega)
end Go.Proofs.YtbhnplghnhafiaaDoor.Tryd
/-! Files: what a file system is, in plain words. -/
set_option linter.unusedVariables false
namespace Go.Vc
open Go

abbrev Nm := List UInt8
abbrev Dir := List (Nm × Nat)
theorem nm_lt_irrefl (a : Nm) : ¬ a < a := List.lt_irrefl a
theorem nm_lt_trans {a b c : Nm} (h : a < b) (k : b < c) : a < c := List.lt_trans h k
theorem nm_tri {a b : Nm} (h1 : ¬ a < b) (h2 : a ≠ b) : b < a := by
  have h3 : b ≤ a := List.not_lt.1 h1
  exact List.not_le.1 fun h4 => h2 (List.le_antisymm h4 h3)
def looks : Dir → Nm → Option Nat
  | [], _ => none
  | (k', i) :: d, k => if k' = k then some i else looks d k
def ins : Dir → Nm → Nat → Dir
  | [], k, i => [(k, i)]
  | (k', i') :: d, k, i => if k < k' then (k, i) :: (k', i') :: d else if k' = k then (k, i) :: d else (k', i') :: ins d k i
def del : Dir → Nm → Dir
  | [], _ => []
  | (k', i') :: d, k => if k' = k then del d k else (k', i') :: del d k
def Rising (d : Dir) : Prop := (d.map (·.1)).Pairwise (fun x y => x < y)
theorem looks_mem {d : Dir} {k : Nm} {i : Nat} (h : looks d k = some i) : (k, i) ∈ d := by
  induction d with
  | nil => cases h
  | cons p d ih =>
    obtain ⟨k', i'⟩ := p
    simp only [looks] at h
    split at h
    · injection h with h; rename_i e; subst e; subst h; simp
    · simp [ih h]
theorem looks_isSome {d : Dir} {k : Nm} : (looks d k).isSome = true ↔ k ∈ d.map (·.1) := by
  induction d with
  | nil => simp [looks]
  | cons p d ih =>
    obtain ⟨k', i'⟩ := p
    simp only [looks]
    split
    · rename_i e; subst e; simp
    · rename_i e; rw [ih, List.map_cons, List.mem_cons]; exact ⟨.inr, fun h => h.resolve_left (fun e' => e e'.symm)⟩
theorem Rising.nodup {d : Dir} (h : Rising d) : (d.map (·.1)).Nodup := by
  unfold List.Nodup
  exact h.imp (fun {a b} hlt e => by subst e; exact nm_lt_irrefl _ hlt)
theorem Rising.tail {p : Nm × Nat} {d : Dir} (h : Rising (p :: d)) : Rising d := (List.pairwise_cons.1 h).2
theorem Rising.head {p : Nm × Nat} {d : Dir} (h : Rising (p :: d)) : ∀ q ∈ d, p.1 < q.1 := fun q hq => (List.pairwise_cons.1 h).1 _ (List.mem_map.2 ⟨q, hq, rfl⟩)
theorem Rising.cons {p : Nm × Nat} {d : Dir} (h : Rising d) (hp : ∀ q ∈ d, p.1 < q.1) : Rising (p :: d) := List.pairwise_cons.2 ⟨fun k hk => by obtain ⟨q, hq, rfl⟩ := List.mem_map.1 hk; exact hp q hq, h⟩
theorem looks_of_mem {d : Dir} (hr : Rising d) {k : Nm} {i : Nat} (h : (k, i) ∈ d) : looks d k = some i := by
  induction d with
  | nil => cases h
  | cons p d ih =>
    obtain ⟨k', i'⟩ := p
    simp only [looks]
    rcases List.mem_cons.1 h with h | h
    · injection h with h1 h2; rw [if_pos h1.symm, h2]
    · rw [if_neg (fun e => ?_)]
      · exact ih hr.tail h
      · have := hr.head _ h; simp only at this; rw [e] at this; exact nm_lt_irrefl _ this
theorem ins_mem {d : Dir} {k : Nm} {i : Nat} {q : Nm × Nat} (h : q ∈ ins d k i) : q = (k, i) ∨ q ∈ d := by
  induction d with
  | nil => simpa [ins] using h
  | cons p d ih =>
    obtain ⟨k', i'⟩ := p
    simp only [ins] at h
    split at h
    · rcases List.mem_cons.1 h with h | h
      · exact .inl h
      · exact .inr h
    · split at h
      · rcases List.mem_cons.1 h with h | h
        · exact .inl h
        · exact .inr (by simp [h])
      · rcases List.mem_cons.1 h with h | h
        · exact .inr (by simp [h])
        · exact (ih h).imp id (fun h => by simp [h])
theorem looks_ins {d : Dir} (hr : Rising d) (k : Nm) (i : Nat) (k' : Nm) : looks (ins d k i) k' = if k' = k then some i else looks d k' := by
  induction d with
  | nil => simp only [ins, looks]; by_cases h : k = k' <;> simp [h, eq_comm]
  | cons p d ih =>
    obtain ⟨k0, i0⟩ := p
    simp only [ins]
    split
    · simp only [looks]
      by_cases h : k = k'
      · subst h; simp
      · rw [if_neg h]; rw [if_neg (show ¬ k' = k from fun e => h e.symm)]
    · split
      · rename_i e
        subst e
        simp only [looks]
        by_cases h : k0 = k'
        · subst h; simp
        · rw [if_neg h, if_neg (fun e => h e.symm), if_neg h]
      · rename_i h1 h2
        simp only [looks]
        by_cases h : k0 = k'
        · subst h; rw [if_pos rfl, if_neg h2, if_pos rfl]
        · rw [if_neg h, if_neg h]; exact ih hr.tail
theorem ins_rising {d : Dir} (hr : Rising d) (k : Nm) (i : Nat) : Rising (ins d k i) := by
  induction d with
  | nil => simp [ins, Rising]
  | cons p d ih =>
    obtain ⟨k0, i0⟩ := p
    simp only [ins]
    split
    · rename_i h
      exact hr.cons fun q hq => by
        rcases List.mem_cons.1 hq with rfl | hq
        · exact h
        · exact nm_lt_trans h (hr.head q hq)
    · split
      · rename_i e
        subst e
        exact hr.tail.cons (fun q hq => hr.head q hq)
      · rename_i h1 h2
        refine (ih hr.tail).cons fun q hq => ?_
        rcases ins_mem hq with rfl | hq
        · exact nm_tri h1 (fun e => h2 e.symm)
        · exact hr.head q hq
theorem del_mem {d : Dir} {k : Nm} {q : Nm × Nat} (h : q ∈ del d k) : q ∈ d := by
  induction d with
  | nil => cases h
  | cons p d ih =>
    obtain ⟨k', i'⟩ := p
    simp only [del] at h
    split at h
    · simp [ih h]
    · rcases List.mem_cons.1 h with h | h
      · simp [h]
      · simp [ih h]
theorem looks_del (d : Dir) (k k' : Nm) : looks (del d k) k' = if k' = k then none else looks d k' := by
  induction d with
  | nil => simp [del, looks]
  | cons p d ih =>
    obtain ⟨k0, i0⟩ := p
    simp only [del]
    split
    · rename_i e
      subst e
      rw [ih]
      simp only [looks]
      by_cases h : k' = k0
      · rw [if_pos h, if_pos h]
      · rw [if_neg h, if_neg h, if_neg (fun e => h e.symm)]
    · rename_i e
      simp only [looks]
      by_cases h : k0 = k'
      · subst h; rw [if_pos rfl, if_neg e, if_pos rfl]
      · rw [if_neg h, if_neg h]; exact ih
theorem del_rising {d : Dir} (hr : Rising d) (k : Nm) : Rising (del d k) := by
  induction d with
  | nil => simp [del, Rising]
  | cons p d ih =>
    obtain ⟨k0, i0⟩ := p
    simp only [del]
    split
    · exact ih hr.tail
    · exact (ih hr.tail).cons fun q hq => hr.head q (del_mem hq)
theorem ins_length (d : Dir) (k : Nm) (i : Nat) : (ins d k i).length ≤ d.length + 1 := by
  induction d with
  | nil => simp [ins]
  | cons p d ih =>
    obtain ⟨k0, i0⟩ := p
    simp only [ins]
    split
    · simp
    · split
      · simp
      · simp; omega
theorem ins_length_in {d : Dir} (hr : Rising d) {k : Nm} {i j : Nat} (h : looks d k = some j) : (ins d k i).length = d.length := by
  induction d with
  | nil => cases h
  | cons p d ih =>
    obtain ⟨k0, i0⟩ := p
    simp only [ins]
    split
    · rename_i hlt
      have := looks_mem h
      rcases List.mem_cons.1 this with h | h
      · injection h with h1 h2; rw [h1] at hlt; exact absurd hlt (nm_lt_irrefl _)
      · have := nm_lt_trans hlt (hr.head _ h)
        exact absurd this (nm_lt_irrefl _)
    · split
      · simp
      · rename_i h1 h2
        simp only [looks] at h
        rw [if_neg h2] at h
        simp [ih hr.tail h]
theorem del_length (d : Dir) (k : Nm) : (del d k).length ≤ d.length := by
  induction d with
  | nil => simp [del]
  | cons p d ih =>
    obtain ⟨k0, i0⟩ := p
    simp only [del]
    split
    · simp; omega
    · simp; omega
theorem del_length_in {d : Dir} {k : Nm} {j : Nat} (h : looks d k = some j) : (del d k).length + 1 ≤ d.length := by
  induction d with
  | nil => cases h
  | cons p d ih =>
    obtain ⟨k0, i0⟩ := p
    simp only [del]
    split
    · have := del_length d k; simp; omega
    · rename_i h2
      simp only [looks] at h
      rw [if_neg h2] at h
      have := ih h
      simp; omega

structure FileM where
  b : List UInt8
  synced : Nat
structure ChM where
  kind : Nat
  name : Nm
  to : Nm
  id : Option Nat
structure FsM where
  room : Int
  calls : Int
  fail : Int
  files : List FileM
  dir : Dir
  lasts : Dir
  waits : List ChM
def doM (d : Dir) (c : ChM) : Dir :=
  if c.kind = 0 then (match c.id with | some i => ins d c.name i | none => d)
  else if c.kind = 1 then (match looks d c.name with | some i => ins (del d c.name) c.to i | none => del d c.name)
  else del d c.name
/-- A change that may be done. -/
def Fit1 (d : Dir) (c : ChM) : Prop := (c.kind = 0 → c.id ≠ none) ∧ (c.kind = 1 → looks d c.name ≠ none)
structure DirOk (n : Nat) (d : Dir) : Prop where
  up : Rising d
  few : d.length ≤ 150
  name : ∀ p ∈ d, p.1.length ≤ 20 ∧ p.2 < n
def Replay (n : Nat) : Dir → List ChM → Dir → Prop
  | d, [], d' => d = d' ∧ DirOk n d
  | d, c :: cs, d' => DirOk n d ∧ Fit1 d c ∧ (∀ i, c.id = some i → i < n) ∧ c.name.length ≤ 20 ∧ c.to.length ≤ 20 ∧ Replay n (doM d c) cs d'
theorem DirOk.more {n m : Nat} {d : Dir} (h : DirOk n d) (hm : n ≤ m) : DirOk m d := ⟨h.up, h.few, fun p hp => ⟨(h.name p hp).1, Nat.lt_of_lt_of_le (h.name p hp).2 hm⟩⟩
theorem Replay.more {n m : Nat} (hm : n ≤ m) : ∀ {cs : List ChM} {d d' : Dir}, Replay n d cs d' → Replay m d cs d'
  | [], d, d', h => ⟨h.1, h.2.more hm⟩
  | c :: cs, d, d', h => ⟨h.1.more hm, h.2.1, fun i hi => Nat.lt_of_lt_of_le (h.2.2.1 i hi) hm, h.2.2.2.1, h.2.2.2.2.1, Replay.more hm h.2.2.2.2.2⟩
theorem Replay.last {n : Nat} : ∀ {cs : List ChM} {d d' : Dir}, Replay n d cs d' → DirOk n d'
  | [], d, d', h => h.1 ▸ h.2
  | c :: cs, d, d', h => Replay.last h.2.2.2.2.2
theorem Replay.first {n : Nat} : ∀ {cs : List ChM} {d d' : Dir}, Replay n d cs d' → DirOk n d
  | [], d, d', h => h.2
  | c :: cs, d, d', h => h.1
theorem Replay.snoc {n : Nat} {c : ChM} (hi : ∀ i, c.id = some i → i < n) (hn : c.name.length ≤ 20) (ht : c.to.length ≤ 20) : ∀ {cs : List ChM} {d d' : Dir}, Replay n d cs d' → Fit1 d' c → DirOk n (doM d' c) → Replay n d (cs ++ [c]) (doM d' c)
  | [], d, d', h, hf, ho => by obtain ⟨rfl, h2⟩ := h; exact ⟨h2, hf, hi, hn, ht, rfl, ho⟩
  | c' :: cs, d, d', h, hf, ho => ⟨h.1, h.2.1, h.2.2.1, h.2.2.2.1, h.2.2.2.2.1, Replay.snoc hi hn ht h.2.2.2.2.2 hf ho⟩
/-- All but the first k changes are still to come. -/
theorem Replay.at {n : Nat} : ∀ (k : Nat) {cs : List ChM} {d d' : Dir}, Replay n d cs d' → k ≤ cs.length → Replay n ((cs.take k).foldl doM d) (cs.drop k) d'
  | 0, cs, d, d', h, _ => h
  | k + 1, [], d, d', h, hk => by simp at hk
  | k + 1, c :: cs, d, d', h, hk => by
    simp only [List.take_succ_cons, List.foldl_cons, List.drop_succ_cons]
    exact Replay.at k h.2.2.2.2.2 (by simpa using hk)

structure FsOk (s : FsM) : Prop where
  room0 : 0 ≤ s.room
  room1 : s.room ≤ 4194304
  calls0 : 0 ≤ s.calls
  fail0 : -1 ≤ s.fail
  fail1 : s.fail ≤ 9223372036854775807
  files : ∀ f ∈ s.files, f.synced ≤ f.b.length ∧ f.b.length ≤ 4194304
  replay : Replay s.files.length s.lasts s.waits s.dir
  waits : (s.waits.length : Int) ≤ s.calls
theorem FsOk.dir {s : FsM} (h : FsOk s) : DirOk s.files.length s.dir := h.replay.last
theorem FsOk.lasts {s : FsM} (h : FsOk s) : DirOk s.files.length s.lasts := h.replay.first

/-! ### What the calls do -/
def mayM (k : Nm) : Bool := k.all (fun c => (decide (97 ≤ c.toNat) && decide (c.toNat ≤ 122)) || (decide (65 ≤ c.toNat) && decide (c.toNat ≤ 90)) || (decide (48 ≤ c.toNat) && decide (c.toNat ≤ 57)) || decide (c.toNat = 46)) && decide (1 ≤ k.length) && decide (k.length ≤ 20)
def lenOf (s : FsM) (i : Nat) : Nat := (s.files[i]?.map (·.b.length)).getD 0
def usedM (s : FsM) : Nat := (s.dir.map fun p => lenOf s p.2).sum
def roomM (n : Int) : Int := min (max n 0) 4194304
def newM (n : Int) : FsM := ⟨roomM n, 0, -1, [], [], [], []⟩
/-- A call is counted; 5: it fails. -/
def callM (s : FsM) : FsM := { s with calls := s.calls + 1, fail := max (s.fail - 1) (-1) }
def failsM (s : FsM) : Bool := s.fail == 0
def changeM (s : FsM) (c : ChM) : FsM := { s with dir := doM s.dir c, waits := s.waits ++ [c] }
def createM (s0 : FsM) (k : Nm) : FsM × Int :=
  let s := callM s0
  if failsM s0 then (s, 5) else if !mayM k then (s, 10) else if (looks s.dir k).isNone && decide (150 ≤ s.dir.length) then (s, 4)
  else (changeM { s with files := s.files ++ [⟨[], 0⟩] } ⟨0, k, [], some s.files.length⟩, 0)
def appendM (s0 : FsM) (k : Nm) (b : List UInt8) : FsM × Int :=
  let s := callM s0
  if failsM s0 then (s, 5) else match looks s.dir k with
  | none => (s, 3)
  | some i => if s.room - usedM s < b.length then (s, 4) else ({ s with files := s.files.modify i fun f => { f with b := f.b ++ b } }, 0)
def syncM (s0 : FsM) (k : Nm) : FsM × Int :=
  let s := callM s0
  if failsM s0 then (s, 5) else match looks s.dir k with
  | none => (s, 3)
  | some i => ({ s with files := s.files.modify i fun f => { f with synced := f.b.length } }, 0)
def syncDirM (s0 : FsM) : FsM × Int :=
  let s := callM s0
  if failsM s0 then (s, 5) else ({ s with lasts := s.dir, waits := [] }, 0)
def renameM (s0 : FsM) (k k' : Nm) : FsM × Int :=
  let s := callM s0
  if failsM s0 then (s, 5) else if (looks s.dir k).isNone then (s, 3) else if !mayM k' then (s, 10) else (changeM s ⟨1, k, k', none⟩, 0)
def removeM (s0 : FsM) (k : Nm) : FsM × Int :=
  let s := callM s0
  if failsM s0 then (s, 5) else if (looks s.dir k).isNone then (s, 3) else (changeM s ⟨2, k, [], none⟩, 0)
def readM (s : FsM) (k : Nm) : Option (List UInt8) := (looks s.dir k).bind fun i => (s.files[i]?).map (·.b)
def rotB (b : List UInt8) (sec : Nat) (x : UInt8) : List UInt8 := b.mapIdx fun i c => if sec * 64 ≤ i ∧ i < (sec + 1) * 64 then c ^^^ (x + UInt8.ofNat (i % 64)) else c
def rotM (s : FsM) (k : Nm) (sec : Int) (x : UInt8) : FsM × Int := match looks s.dir k with
  | none => (s, 3)
  | some i => if sec < 0 ∨ (((lenOf s i + 63) / 64 : Nat) : Int) ≤ sec then (s, 7) else ({ s with files := s.files.modify i fun f => { f with b := rotB f.b sec.toNat x } }, 0)
def crashDir (s : FsM) (n : Int) : Dir := (s.waits.take n.toNat).foldl doM s.lasts
/-- What of a file lasts. -/
def tailOf (f : FileM) (tails : List Int) (j : Nat) : Nat := f.synced + (match tails[j]? with | some t => min (max t 0).toNat (f.b.length - f.synced) | none => 0)
def cutM (f : FileM) (tails : List Int) (j : Nat) : FileM := ⟨f.b.take (tailOf f tails j), tailOf f tails j⟩
def crashFiles (s : FsM) (d : Dir) (tails : List Int) : List FileM := d.mapIdx fun j p => cutM ((s.files[p.2]?).getD ⟨[], 0⟩) tails j
def crashM (s : FsM) (n : Int) (tails : List Int) : FsM :=
  let d := crashDir s n
  let d' := d.mapIdx fun j p => (p.1, j)
  ⟨s.room, 0, -1, crashFiles s d tails, d', d', []⟩

/-! ### .. keeps it well -/
theorem newM_ok (n : Int) : FsOk (newM n) := by
  refine ⟨by simp [newM, roomM]; omega, by simp [newM, roomM]; omega, by simp [newM], by simp [newM], by simp [newM], by simp [newM], ?_, by simp [newM]⟩
  exact ⟨rfl, ⟨List.Pairwise.nil, by simp [newM], by simp [newM]⟩⟩
theorem callM_ok {s : FsM} (h : FsOk s) : FsOk (callM s) := ⟨h.room0, h.room1, by have := h.calls0; simp [callM]; omega, by simp [callM]; omega, by have := h.fail1; simp [callM]; omega, h.files, h.replay, by have := h.waits; simp [callM]; omega⟩
theorem mayM_len {k : Nm} (h : mayM k = true) : k.length ≤ 20 := by
  unfold mayM at h
  simp only [Bool.and_eq_true, decide_eq_true_eq] at h
  exact h.2
theorem looks_name {n : Nat} {d : Dir} (h : DirOk n d) {k : Nm} {i : Nat} (hl : looks d k = some i) : k.length ≤ 20 ∧ i < n := h.name _ (looks_mem hl)
theorem ins_ok {n : Nat} {d : Dir} (h : DirOk n d) {k : Nm} {i : Nat} (hk : k.length ≤ 20) (hi : i < n) (hfew : (ins d k i).length ≤ 150) : DirOk n (ins d k i) :=
  ⟨ins_rising h.up k i, hfew, fun p hp => by
    rcases ins_mem hp with rfl | hp
    · exact ⟨hk, hi⟩
    · exact h.name p hp⟩
theorem del_ok {n : Nat} {d : Dir} (h : DirOk n d) (k : Nm) : DirOk n (del d k) := ⟨del_rising h.up k, Nat.le_trans (del_length d k) h.few, fun p hp => h.name p (del_mem hp)⟩
theorem changeM_ok {s : FsM} (h : FsOk s) {c : ChM} (hf : Fit1 s.dir c) (hi : ∀ i, c.id = some i → i < s.files.length) (hn : c.name.length ≤ 20) (ht : c.to.length ≤ 20) (ho : DirOk s.files.length (doM s.dir c)) (hw : (s.waits.length : Int) + 1 ≤ s.calls) : FsOk (changeM s c) :=
  ⟨h.room0, h.room1, h.calls0, h.fail0, h.fail1, h.files, h.replay.snoc hi hn ht hf ho, by simp [changeM]; exact hw⟩
theorem usedM_callM (s : FsM) : usedM (callM s) = usedM s := rfl
theorem createM_ok {s : FsM} (h : FsOk s) (k : Nm) : FsOk (createM s k).1 := by
  have h1 := callM_ok h
  unfold createM
  simp only
  split
  · exact h1
  split
  · exact h1
  split
  · exact h1
  rename_i h2 h3 h4
  have hm : mayM k = true := by simpa using h3
  have h5 : FsOk { callM s with files := (callM s).files ++ [⟨[], 0⟩] } := ⟨h1.room0, h1.room1, h1.calls0, h1.fail0, h1.fail1, fun f hf => by
    rcases List.mem_append.1 hf with hf | hf
    · exact h1.files f hf
    · simp at hf; subst hf; simp, h1.replay.more (by simp), h1.waits⟩
  refine changeM_ok h5 ⟨fun _ => by simp, fun e => by simp at e⟩ (fun i hi => by simp at hi; subst hi; simp) (mayM_len hm) (by simp) ?_ (by have := h.waits; simp [callM]; omega)
  show DirOk _ (ins (callM s).dir k (callM s).files.length)
  refine ins_ok h5.dir (mayM_len hm) (by simp) ?_
  show (ins (callM s).dir k (callM s).files.length).length ≤ 150
  cases hl : looks (callM s).dir k with
  | none =>
    rw [hl] at h4
    simp at h4
    have := ins_length (callM s).dir k (callM s).files.length
    omega
  | some j => rw [ins_length_in h1.dir.up hl]; exact h1.dir.few
theorem modify_ok {s : FsM} (h : FsOk s) (i : Nat) (g : FileM → FileM) (hg : ∀ f, s.files[i]? = some f → (g f).synced ≤ (g f).b.length ∧ (g f).b.length ≤ 4194304) : FsOk { s with files := s.files.modify i g } :=
  ⟨h.room0, h.room1, h.calls0, h.fail0, h.fail1, fun f hf => by
    obtain ⟨j, hj⟩ := List.getElem?_of_mem hf
    rw [List.getElem?_modify] at hj
    by_cases e : i = j
    · subst e
      cases hf' : s.files[i]? with
      | none => simp [hf'] at hj
      | some f' => simp [hf'] at hj; subst hj; exact hg f' hf'
    · simp [e] at hj
      exact h.files f (List.mem_of_getElem? hj), by
    show Replay (s.files.modify i g).length _ _ _
    rw [List.length_modify]; exact h.replay, h.waits⟩
theorem lenOf_le {s : FsM} (h : FsOk s) (i : Nat) : lenOf s i ≤ 4194304 := by
  unfold lenOf
  cases hf : s.files[i]? with
  | none => simp
  | some f => exact (h.files f (List.mem_of_getElem? hf)).2
theorem usedM_ge {s : FsM} {k : Nm} {i : Nat} (hl : looks s.dir k = some i) : lenOf s i ≤ usedM s := by
  unfold usedM
  have hm := looks_mem hl
  generalize s.dir = d at hm
  induction d with
  | nil => cases hm
  | cons p d ih =>
    rcases List.mem_cons.1 hm with h | h
    · subst h; simp
    · have := ih h; simp; omega
theorem sum_le {α : Type} (f : α → Nat) (B : Nat) (hf : ∀ x, f x ≤ B) : ∀ l : List α, (l.map f).sum ≤ l.length * B
  | [] => by simp
  | a :: l => by
    have := sum_le f B hf l
    have := hf a
    simp only [List.map_cons, List.sum_cons, List.length_cons, Nat.succ_mul]
    omega
theorem usedM_le {s : FsM} (h : FsOk s) : usedM s ≤ 629145600 := by
  unfold usedM
  have := sum_le (fun p : Nm × Nat => lenOf s p.2) 4194304 (fun p => lenOf_le h p.2) s.dir
  have := h.dir.few
  omega
theorem appendM_ok {s : FsM} (h : FsOk s) (k : Nm) (b : List UInt8) : FsOk (appendM s k b).1 := by
  have h1 := callM_ok h
  unfold appendM
  simp only
  split
  · exact h1
  split
  · exact h1
  rename_i i hl
  split
  · exact h1
  rename_i hr
  refine modify_ok h1 i _ fun f hf => ?_
  have h2 := h1.files f (List.mem_of_getElem? hf)
  have h3 : lenOf (callM s) i ≤ usedM (callM s) := usedM_ge hl
  have h4 : lenOf (callM s) i = f.b.length := by unfold lenOf; rw [hf]; rfl
  have := h1.room1
  simp only [List.length_append]
  omega
theorem syncM_ok {s : FsM} (h : FsOk s) (k : Nm) : FsOk (syncM s k).1 := by
  have h1 := callM_ok h
  unfold syncM
  simp only
  split
  · exact h1
  split
  · exact h1
  exact modify_ok h1 _ _ fun f hf => ⟨Nat.le_refl _, (h1.files f (List.mem_of_getElem? hf)).2⟩
theorem syncDirM_ok {s : FsM} (h : FsOk s) : FsOk (syncDirM s).1 := by
  have h1 := callM_ok h
  unfold syncDirM
  simp only
  split
  · exact h1
  exact ⟨h1.room0, h1.room1, h1.calls0, h1.fail0, h1.fail1, h1.files, ⟨rfl, h1.dir⟩, by have := h1.calls0; simpa using this⟩
theorem renameM_ok {s : FsM} (h : FsOk s) (k k' : Nm) : FsOk (renameM s k k').1 := by
  have h1 := callM_ok h
  unfold renameM
  simp only
  split
  · exact h1
  split
  · exact h1
  split
  · exact h1
  rename_i h2 h3 h4
  cases hl : looks (callM s).dir k with
  | none => rw [hl] at h3; simp at h3
  | some i =>
    obtain ⟨hk, hi⟩ := looks_name h1.dir hl
    have hk' := mayM_len (k := k') (by simpa using h4)
    refine changeM_ok h1 ⟨fun e => by simp at e, fun _ => by simp [hl]⟩ (fun i hi => by cases hi) hk hk' ?_ (by have := h.waits; simp [callM]; omega)
    have : doM (callM s).dir ⟨1, k, k', none⟩ = ins (del (callM s).dir k) k' i := by simp [doM, hl]
    rw [this]
    refine ins_ok (del_ok h1.dir k) hk' hi ?_
    have := ins_length (del (callM s).dir k) k' i
    have := del_length_in hl
    have := h1.dir.few
    omega
theorem removeM_ok {s : FsM} (h : FsOk s) (k : Nm) : FsOk (removeM s k).1 := by
  have h1 := callM_ok h
  unfold removeM
  simp only
  split
  · exact h1
  split
  · exact h1
  rename_i h2 h3
  cases hl : looks (callM s).dir k with
  | none => rw [hl] at h3; simp at h3
  | some i =>
    refine changeM_ok h1 ⟨fun e => by simp at e, fun e => by simp at e⟩ (fun i hi => by cases hi) (looks_name h1.dir hl).1 (by simp) ?_ (by have := h.waits; simp [callM]; omega)
    exact del_ok h1.dir k
theorem rotB_length (b : List UInt8) (sec : Nat) (x : UInt8) : (rotB b sec x).length = b.length := by simp [rotB]
theorem rotM_ok {s : FsM} (h : FsOk s) (k : Nm) (sec : Int) (x : UInt8) : FsOk (rotM s k sec x).1 := by
  unfold rotM
  split
  · exact h
  split
  · exact h
  exact modify_ok h _ _ fun f hf => by rw [rotB_length]; exact h.files f (List.mem_of_getElem? hf)
theorem failM_ok {s : FsM} (h : FsOk s) (n : Int) (hn : n ≤ 9223372036854775807) : FsOk { s with fail := max n (-1) } := ⟨h.room0, h.room1, h.calls0, by simp; omega, by simp; omega, h.files, h.replay, h.waits⟩
theorem roomM_ok {s : FsM} (h : FsOk s) (n : Int) : FsOk { s with room := roomM n } := ⟨by simp [roomM]; omega, by simp [roomM]; omega, h.calls0, h.fail0, h.fail1, h.files, h.replay, h.waits⟩
theorem tailOf_le (f : FileM) (tails : List Int) (j : Nat) (h : f.synced ≤ f.b.length) : tailOf f tails j ≤ f.b.length := by
  unfold tailOf
  split
  · exact Nat.add_le_of_le_sub' h (Nat.min_le_right _ _)
  · exact h
theorem crashDir_ok {s : FsM} (h : FsOk s) (n : Int) : DirOk s.files.length (crashDir s n) := by
  unfold crashDir
  by_cases hn : n.toNat ≤ s.waits.length
  · exact (h.replay.at n.toNat hn).first
  · rw [List.take_of_length_le (by omega)]
    have := (h.replay.at s.waits.length (Nat.le_refl _)).first
    rw [List.take_length] at this; exact this
theorem crashM_ok {s : FsM} (h : FsOk s) (n : Int) (tails : List Int) : FsOk (crashM s n tails) := by
  have hd := crashDir_ok h n
  refine ⟨h.room0, h.room1, by simp [crashM], by simp [crashM], by simp [crashM], fun f hf => ?_, ⟨rfl, ?_⟩, by simp [crashM]⟩
  · simp only [crashM, crashFiles, List.mem_mapIdx] at hf
    obtain ⟨j, hj, rfl⟩ := hf
    have hk : ∀ f : FileM, f.synced ≤ f.b.length ∧ f.b.length ≤ 4194304 → (cutM f tails j).synced ≤ (cutM f tails j).b.length ∧ (cutM f tails j).b.length ≤ 4194304 := fun f hf => by
      have := tailOf_le f tails j hf.1
      simp only [cutM, List.length_take]
      omega
    apply hk
    cases hf : s.files[((crashDir s n)[j]).2]? with
    | none => simp
    | some f => exact h.files f (List.mem_of_getElem? hf)
  · refine ⟨?_, by simpa [crashM] using hd.few, fun p hp => ?_⟩
    · have : ((crashDir s n).mapIdx fun j p => (p.1, j)).map (·.1) = (crashDir s n).map (·.1) := by
        apply List.ext_getElem?
        intro i
        simp [List.getElem?_map, List.getElem?_mapIdx]
        cases (crashDir s n)[i]? <;> simp
      unfold Rising crashM
      simp only
      rw [this]; exact hd.up
    · simp only [crashM, List.mem_mapIdx] at hp
      obtain ⟨j, hj, rfl⟩ := hp
      exact ⟨(hd.name _ (List.getElem_mem hj)).1, by simpa [crashM, crashFiles] using hj⟩
end Go.Vc
/-
  DERIVED: THE SHELF's CONTRACTS AT THIS DUMP, IN PLAIN WORDS (tools/lay-plain.mjs out of 'TryShelf.lean', which tools/lay-shelf.mjs wrote): THE SAME DECLARATIONS UNDER THE SAME NAMES: 'import', 'namespace', 'open', 'def', 'theorem' AND NOTHING ELSE: no command of the shelf's: FOR A HAND-IN. Each laying: the table of numbers ('.._ren') and one theorem, a field a fact of the dump's own or the kernel's comparison; each contract: ONE APPLICATION.
-/
namespace Go.Proofs
open Go.Shelf
def Tryd.keysA_ren : Go.Shelf.Ren := ⟨fun | 7 => 47 | 10 => 68 | n => n, fun | 23 => 53 | 26 => 9 | 3 => 63 | 28 => 86 | 0 => 0 | 27 => 85 | 33 => 88 | 4 => 4 | n => n, fun | n => n⟩
theorem Tryd.keysA : Go.Proofs.SlLaysZ.n7 Tryd.prog Tryd.keysA_ren := {
  mixed := by kernel_rfl
  f7 := ⟨Tryd.f47.name, by decide, Tryd.func47.trans (congrArg some (by kernel_rfl))⟩
  f10 := ⟨Tryd.f68.name, by decide, Tryd.func68.trans (congrArg some (by kernel_rfl))⟩
  t0 := Tryd.underlying0
  a0 := Tryd.isAgg0
  z0 := Tryd.sizeOf0
  v0 := Tryd.zeroValue0
  t4 := Tryd.underlying4
  a4 := Tryd.isAgg4
  z4 := Tryd.sizeOf4
  v4 := Tryd.zeroValue4
  t23 := Tryd.underlying53
  a23 := Tryd.isAgg53
  z23 := Tryd.sizeOf53
  v23 := Tryd.zeroValue53
  t26 := Tryd.underlying9
  a26 := Tryd.isAgg9
  z26 := Tryd.sizeOf9
  v26 := Tryd.zeroValue9
  t27 := Tryd.underlying85
  a27 := Tryd.isAgg85
  z27 := Tryd.sizeOf85
  v27 := Tryd.zeroValue85
  t28 := Tryd.underlying86
  a28 := Tryd.isAgg86
  z28 := Tryd.sizeOf86
  v28 := Tryd.zeroValue86
  t33 := Tryd.underlying88
  a33 := Tryd.isAgg88
  z33 := Tryd.sizeOf88
  v33 := Tryd.zeroValue88 }
def Tryd.sortedA_ren : Go.Shelf.Ren := ⟨fun | 6 => 46 | 8 => 66 | 9 => 67 | 11 => 80 | 13 => 82 | 12 => 81 | 23 => 101 | 24 => 88 | 14 => 92 | 15 => 93 | 16 => 94 | 17 => 95 | 18 => 96 | 19 => 97 | 20 => 98 | 21 => 99 | 22 => 100 | 25 => 104 | 26 => 105 | 27 => 106 | 28 => 107 | 29 => 108 | 30 => 109 | 31 => 110 | n => n, fun | 26 => 9 | 28 => 86 | 24 => 83 | 0 => 0 | 3 => 3 | 37 => 96 | 48 => 75 | 50 => 91 | 4 => 4 | 40 => 125 | 39 => 124 | 45 => 130 | 5 => 5 | 9 => 9 | 51 => 133 | 55 => 137 | 57 => 141 | 58 => 142 | 33 => 88 | n => n, fun | n => n⟩
theorem Tryd.sortedA : Go.Proofs.SlLaysZ.n6 Tryd.prog Tryd.sortedA_ren := {
  mixed := by kernel_rfl
  f6 := ⟨Tryd.f46.name, by decide, Tryd.func46.trans (congrArg some (by kernel_rfl))⟩
  f8 := ⟨Tryd.f66.name, by decide, Tryd.func66.trans (congrArg some (by kernel_rfl))⟩
  f11 := ⟨Tryd.f80.name, by decide, Tryd.func80.trans (congrArg some (by kernel_rfl))⟩
  t0 := Tryd.underlying0
  a0 := Tryd.isAgg0
  z0 := Tryd.sizeOf0
  v0 := Tryd.zeroValue0
  t24 := Tryd.underlying83
  a24 := Tryd.isAgg83
  z24 := Tryd.sizeOf83
  v24 := Tryd.zeroValue83
  t26 := Tryd.underlying9
  a26 := Tryd.isAgg9
  z26 := Tryd.sizeOf9
  v26 := Tryd.zeroValue9
  t28 := Tryd.underlying86
  a28 := Tryd.isAgg86
  z28 := Tryd.sizeOf86
  v28 := Tryd.zeroValue86
  i26 := by kernel_rfl }
def Tryd.sortA_ren : Go.Shelf.Ren := ⟨fun | 6 => 67 | 8 => 82 | 9 => 81 | 19 => 101 | 20 => 88 | 21 => 92 | 22 => 93 | 23 => 94 | 24 => 95 | 25 => 96 | 26 => 97 | 27 => 98 | 28 => 99 | 29 => 100 | 36 => 104 | 31 => 105 | 32 => 106 | 37 => 107 | 38 => 108 | 39 => 109 | 41 => 110 | n => n, fun | 27 => 83 | 29 => 9 | 3 => 3 | 32 => 96 | 26 => 83 | 0 => 0 | 44 => 75 | 46 => 91 | 4 => 4 | 36 => 125 | 35 => 124 | 41 => 130 | 5 => 5 | 9 => 9 | 53 => 133 | 57 => 137 | 63 => 141 | 64 => 142 | n => n, fun | n => n⟩
theorem Tryd.sortA : Go.Proofs.SlLaysM.n6 Tryd.prog Tryd.sortA_ren := {
  mixed := by kernel_rfl
  f6 := ⟨Tryd.f67.name, by decide, Tryd.func67.trans (congrArg some (by kernel_rfl))⟩
  f8 := Tryd.func82.trans (congrArg some (by kernel_rfl))
  f9 := ⟨Tryd.f81.name, by decide, Tryd.func81.trans (congrArg some (by kernel_rfl))⟩
  f19 := Tryd.func101.trans (congrArg some (by kernel_rfl))
  f20 := Tryd.func88.trans (congrArg some (by kernel_rfl))
  f21 := ⟨Tryd.f92.name, by decide, Tryd.func92.trans (congrArg some (by kernel_rfl))⟩
  f22 := ⟨Tryd.f93.name, by decide, Tryd.func93.trans (congrArg some (by kernel_rfl))⟩
  f23 := ⟨Tryd.f94.name, by decide, Tryd.func94.trans (congrArg some (by kernel_rfl))⟩
  f24 := ⟨Tryd.f95.name, by decide, Tryd.func95.trans (congrArg some (by kernel_rfl))⟩
  f25 := ⟨Tryd.f96.name, by decide, Tryd.func96.trans (congrArg some (by kernel_rfl))⟩
  f26 := ⟨Tryd.f97.name, by decide, Tryd.func97.trans (congrArg some (by kernel_rfl))⟩
  f27 := ⟨Tryd.f98.name, by decide, Tryd.func98.trans (congrArg some (by kernel_rfl))⟩
  f28 := ⟨Tryd.f99.name, by decide, Tryd.func99.trans (congrArg some (by kernel_rfl))⟩
  f29 := ⟨Tryd.f100.name, by decide, Tryd.func100.trans (congrArg some (by kernel_rfl))⟩
  f31 := Tryd.func105.trans (congrArg some (by kernel_rfl))
  f32 := Tryd.func106.trans (congrArg some (by kernel_rfl))
  f36 := ⟨Tryd.f104.name, by decide, Tryd.func104.trans (congrArg some (by kernel_rfl))⟩
  f37 := ⟨Tryd.f107.name, by decide, Tryd.func107.trans (congrArg some (by kernel_rfl))⟩
  f38 := ⟨Tryd.f108.name, by decide, Tryd.func108.trans (congrArg some (by kernel_rfl))⟩
  f39 := ⟨Tryd.f109.name, by decide, Tryd.func109.trans (congrArg some (by kernel_rfl))⟩
  f41 := ⟨Tryd.f110.name, by decide, Tryd.func110.trans (congrArg some (by kernel_rfl))⟩
  t0 := Tryd.underlying0
  a0 := Tryd.isAgg0
  z0 := Tryd.sizeOf0
  v0 := Tryd.zeroValue0
  t3 := Tryd.underlying3
  a3 := Tryd.isAgg3
  z3 := Tryd.sizeOf3
  v3 := Tryd.zeroValue3
  t4 := Tryd.underlying4
  a4 := Tryd.isAgg4
  z4 := Tryd.sizeOf4
  v4 := Tryd.zeroValue4
  t5 := Tryd.underlying5
  a5 := Tryd.isAgg5
  z5 := Tryd.sizeOf5
  v5 := Tryd.zeroValue5
  t9 := Tryd.underlying9
  a9 := Tryd.isAgg9
  z9 := Tryd.sizeOf9
  v9 := Tryd.zeroValue9
  t26 := Tryd.underlying83
  a26 := Tryd.isAgg83
  z26 := Tryd.sizeOf83
  v26 := Tryd.zeroValue83
  t27 := Tryd.underlying83
  a27 := Tryd.isAgg83
  z27 := Tryd.sizeOf83
  v27 := Tryd.zeroValue83
  t29 := Tryd.underlying9
  a29 := Tryd.isAgg9
  z29 := Tryd.sizeOf9
  v29 := Tryd.zeroValue9
  t32 := Tryd.underlying96
  a32 := Tryd.isAgg96
  z32 := Tryd.sizeOf96
  v32 := Tryd.zeroValue96
  t35 := Tryd.underlying124
  a35 := Tryd.isAgg124
  z35 := Tryd.sizeOf124
  v35 := Tryd.zeroValue124
  t36 := Tryd.underlying125
  a36 := Tryd.isAgg125
  z36 := Tryd.sizeOf125
  v36 := Tryd.zeroValue125
  t41 := Tryd.underlying130
  a41 := Tryd.isAgg130
  z41 := Tryd.sizeOf130
  v41 := Tryd.zeroValue130
  t44 := Tryd.underlying75
  a44 := Tryd.isAgg75
  z44 := Tryd.sizeOf75
  v44 := Tryd.zeroValue75
  t46 := Tryd.underlying91
  a46 := Tryd.isAgg91
  z46 := Tryd.sizeOf91
  v46 := Tryd.zeroValue91
  t53 := Tryd.underlying133
  a53 := Tryd.isAgg133
  z53 := Tryd.sizeOf133
  v53 := Tryd.zeroValue133
  t57 := Tryd.underlying137
  a57 := Tryd.isAgg137
  z57 := Tryd.sizeOf137
  v57 := Tryd.zeroValue137
  t63 := Tryd.underlying141
  a63 := Tryd.isAgg141
  z63 := Tryd.sizeOf141
  v63 := Tryd.zeroValue141
  t64 := Tryd.underlying142
  a64 := Tryd.isAgg142
  z64 := Tryd.sizeOf142
  v64 := Tryd.zeroValue142 }
def Tryd.cloneM_ren : Go.Shelf.Ren := ⟨fun | 5 => 44 | 7 => 65 | n => n, fun | 23 => 53 | 25 => 9 | 3 => 63 | 4 => 4 | 20 => 20 | n => n, fun | n => n⟩
theorem Tryd.cloneM : Go.Proofs.SlLaysW.n5 Tryd.prog Tryd.cloneM_ren := {
  mixed := by kernel_rfl
  f5 := ⟨Tryd.f44.name, by decide, Tryd.func44.trans (congrArg some (by kernel_rfl))⟩
  f7 := Tryd.func65.trans (congrArg some (by kernel_rfl))
  t4 := Tryd.underlying4
  a4 := Tryd.isAgg4
  z4 := Tryd.sizeOf4
  v4 := Tryd.zeroValue4
  t20 := Tryd.underlying20
  a20 := Tryd.isAgg20
  z20 := Tryd.sizeOf20
  v20 := Tryd.zeroValue20
  t23 := Tryd.underlying53
  a23 := Tryd.isAgg53
  z23 := Tryd.sizeOf53
  v23 := Tryd.zeroValue53 }
end Go.Proofs
/-! The library: a map's keys sorted; a map's copy. -/
set_option linter.unusedVariables false
namespace Go.Vc
open Go Go.RowKit Go.Maps Go.Proofs
theorem keyV_enc : keyV = Go.Proofs.encStr := funext fun _ => rfl
/-- A map with texts for keys, as the kit's walks over maps ask for it. -/
theorem MapAt.owns {P : Program} {β : Type} {bv : β → Value} {f : List UInt8 → Option β} {w : World} {r : Nat} {kt : TypeId} (hk : P.underlying kt = some .string) (hm : MapAt keyV bv w r f) (B : List (List UInt8))
    (hB : ∀ k, (f k).isSome = true → k ∈ B ∧ k.length ≤ maxLen) (hBl : B.length ≤ 1000000) :
    ∃ (D : DataW Unit) (nn : Nat), w.ownsMap P kt (fun _ => some (.lit (.bool true), [])) r nn D ∧ Maps.size D ≤ B.length ∧ ∀ ss : List (List UInt8), ss.Perm (strKeys D) → ss.Nodup ∧ ∀ k, k ∈ ss ↔ (f k).isSome = true := by
  obtain ⟨es, clk, h1, h2, h3, h4⟩ := hm
  let R : Value → Option (DataW Unit × List MemPlace) := fun _ => some (.lit (.bool true), [])
  have hrd : ∀ e ∈ es.toList, ∃ k, e.key = keyV k ∧ (f k).isSome = true ∧ WideElems.rd P kt R e = some (.string k, .lit (.bool true)) := fun e he => by
    obtain ⟨k, b, e1, e2, e3⟩ := h3 e he
    have hs : (f k).isSome = true := by rw [e3]; rfl
    refine ⟨k, e1, hs, ?_⟩
    have hl := (hB k hs).2
    unfold WideElems.rd keyOf
    rw [hk, e1]
    simp only
    unfold mapKey keyV
    rw [hk]
    simp only [str_size]
    rw [if_pos hl]
    simp [str, R]
  have hL : (es.toList.map fun e => strOf (WideElems.rg P kt R e).1).map keyV = es.toList.map (·.key) := by
    rw [List.map_map]
    refine List.map_congr_left fun e he => ?_
    obtain ⟨k, e1, _, e3⟩ := hrd e he
    simp only [Function.comp]
    rw [WideElems.rg_of e3, e1]
    rfl
  have hnd : (es.toList.map fun e => strOf (WideElems.rg P kt R e).1).Nodup := by
    have := h2.2.2
    rw [← hL] at this
    exact (List.pairwise_map.1 this).imp (fun hne e => hne (by rw [e]))
  have hmem : ∀ k, k ∈ (es.toList.map fun e => strOf (WideElems.rg P kt R e).1) ↔ (f k).isSome = true := fun k => by
    rw [List.mem_map]
    constructor
    · rintro ⟨e, he, rfl⟩
      obtain ⟨k, e1, e2, e3⟩ := hrd e he
      rw [WideElems.rg_of e3]; exact e2
    · intro hk'
      obtain ⟨b, hb⟩ := Option.isSome_iff_exists.1 hk'
      obtain ⟨e, he, hek⟩ := h4 k b hb
      obtain ⟨k', e1, e2, e3⟩ := hrd e he
      refine ⟨e, he, ?_⟩
      rw [WideElems.rg_of e3]
      exact strKey.inj _ _ (e1.symm.trans hek)
  have hlen : es.size ≤ B.length := by
    have := nodup_length _ B hnd (fun k hk' => (hB k ((hmem k).1 hk')).1)
    simpa using this
  refine ⟨.map ((es.toList.map (WideElems.rg P kt R)).foldr DataW.insert []), es.size, ⟨es, clk, h1, ⟨by unfold maxLen; omega, h2, fun x hx => by obtain ⟨k, _, _, e3⟩ := hrd x hx; exact ⟨_, e3⟩⟩, Nat.le_refl _, rfl⟩, ?_, fun ss hss => ?_⟩
  · show List.length _ ≤ _
    rw [(WideShapes.sorted_perm _).length_eq]; simpa using hlen
  · have hp : (strKeys (.map ((es.toList.map (WideElems.rg P kt R)).foldr DataW.insert []))).Perm (es.toList.map fun e => strOf (WideElems.rg P kt R e).1) := by
      show (List.map _ _).Perm _
      have := (WideShapes.sorted_perm (es.toList.map (WideElems.rg P kt R))).map (fun p => strOf p.1)
      rw [List.map_map] at this
      exact this
    have h5 := hss.trans hp
    exact ⟨h5.nodup_iff.2 hnd, fun k => by rw [h5.mem_iff]; exact hmem k⟩
end Go.Vc
namespace Go.Proofs.YtbhnplghnhafiaaDoor.Tryd
open Go Go.Vc Go.RowKit Go.Maps Go.Sort Go.Shelf

theorem keysD_has (b : Nat) (w : World) : Has Go.Proofs.Tryd.prog 47 #[.map (some b)] w
    (fun v w' => v = .func (.func 68) #[] #[.pointer (some ⟨w.heap.size, 0, none⟩)] ∧ w' = w.alloc (.cells #[.map (some b)] 53)) := by
  refine ⟨⟨_, Go.Proofs.Tryd.func47, rfl, by decide⟩, (callsIn_wide.1 (AnyZ.keys_in Go.Proofs.Tryd.keysA Fence.wide 5 trivial rfl (some b) w)).mono ?_⟩
  rintro e w' ⟨rfl, rfl⟩
  exact ⟨_, rfl, rfl, rfl⟩
theorem sortsD (m : Nat) : AnyZ.SortsIn Go.Proofs.Tryd.prog Go.Proofs.Tryd.sortedA_ren Fence.wide m :=
  ⟨fun blk off cap ss W hH hblk hsz => callsIn_wide.2 (AnyM.slices_Sort_string Go.Proofs.Tryd.sortA blk off cap ss W hH hblk hsz),
   fun p cap W => callsIn_wide.2 (AnyM.slices_Sort_string_none Go.Proofs.Tryd.sortA p cap W)⟩
set_option maxHeartbeats 1000000 in
theorem sortedD_has {β : Type} {bv : β → Value} {f : List UInt8 → Option β} {w : World} {b : Nat} (hm : MapAt keyV bv w b f) (B : List (List UInt8)) (hB : ∀ k, (f k).isSome = true → k ∈ B ∧ k.length ≤ maxLen) (hBl : B.length ≤ 1000000) :
    Has Go.Proofs.Tryd.prog 46 #[.func (.func 68) #[] #[.pointer (some ⟨w.heap.size, 0, none⟩)]] (w.alloc (.cells #[.map (some b)] 53))
    (fun v w' => Chg [] w w' ∧ ∃ ss : List (List UInt8), ss.Nodup ∧ (∀ k, k ∈ ss ↔ (f k).isSome = true) ∧ Own w' 9 1 v ss.length ((sorted ss).map keyV) ∧ (∀ g, v.ownBlock = some g → w.heap.size ≤ g)) := by
  obtain ⟨D, nn, hown, hsize, hD⟩ := hm.owns (P := Go.Proofs.Tryd.prog) Go.Proofs.Tryd.underlying9 B hB hBl
  have hbl := hown.lt
  have hseq : SeqGives Fence.wide 2 Go.Proofs.Tryd.prog 68 #[.pointer (some ⟨w.heap.size, 0, none⟩)] encStr (fun ss => ss.Perm (strKeys D)) (Maps.size D) (w.alloc (.cells #[.map (some b)] 53)) :=
    AnyZ.keys_gives (ρ := Go.Proofs.Tryd.keysA_ren) { Go.Proofs.Tryd.keysA with } Fence.wide _ trivial rfl (by omega) w.heap.size b nn D _ (by simp) (by simp) (by
      obtain ⟨es, clock, hb, Ft, hs, hD⟩ := hown
      exact ⟨es, clock, (Below.heap_alloc _ _ b hbl).trans hb, Ft, hs, hD⟩)
  have hc := AnyZ.sorted_in Go.Proofs.Tryd.sortedA Fence.wide 5 trivial trivial trivial trivial rfl (by omega) (sortsD _) (enters_of Go.Proofs.Tryd.func67 (by kernel_rfl) rfl) 68 #[.pointer (some ⟨w.heap.size, 0, none⟩)] trivial (enters_of Go.Proofs.Tryd.func68 (by kernel_rfl) rfl) _ _ (by unfold maxLen; omega) (by omega) _ hseq
  refine ⟨⟨_, Go.Proofs.Tryd.func46, rfl, by decide⟩, (callsIn_wide.1 hc).mono ?_⟩
  rintro e w' ⟨v, ss, rfl, hp, hrow, hnil, hb⟩
  obtain ⟨h1, h2⟩ := hD ss hp
  have hf : ∀ g, v.ownBlock = some g → w.heap.size ≤ g := fun g hg => by
    have := (World.ownsRow.lt hrow g hg).1
    simp at this; omega
  refine ⟨v, rfl, (Chg.alloc w _).trans (Chg.of_below hb) (fun _ h _ => h), ss, h1, h2, ?_, hf⟩
  unfold Own
  rw [keyV_enc]
  exact ⟨hrow.1, hrow.2.imp id (fun ⟨g, cap, cur, e1, e2, e3⟩ => ⟨g, cap, cur, e1, Nat.zero_le _, e3⟩)⟩

theorem cloneD_has {κ β : Type} {kv : κ → Value} {bv : β → Value} {f : κ → Option β} {w : World} {b : Nat} (hm : MapAt kv bv w b f) :
    Has Go.Proofs.Tryd.prog 44 #[.map (some b)] w (fun v w' => ∃ b', v = .map (some b') ∧ w.heap.size ≤ b' ∧ Chg [] w w' ∧ MapAt kv bv w' b' f) := by
  obtain ⟨es, clk, h1, h2⟩ := hm
  refine ⟨⟨_, Go.Proofs.Tryd.func44, rfl, by decide⟩, (AnyW.maps_Clone Go.Proofs.Tryd.cloneM b es clk w h1).mono ?_⟩
  rintro e w' ⟨rfl, rfl⟩
  exact ⟨_, rfl, w.heap.size, rfl, Nat.le_refl _, Chg.alloc w _, es, clk, (MapKept.heap_alloc w _).1, h2⟩
end Go.Proofs.YtbhnplghnhafiaaDoor.Tryd
/-! Files: how a file system lies in memory; its counts. -/
set_option linter.unusedVariables false
set_option linter.unusedSimpArgs false
namespace Go.Vc
open Go
/-- Where a file system lies: its maps, the row of the changes that wait, for each file its block and its bytes. -/
structure FsP where
  md : Nat
  ml : Nat
  wv : Value
  fb : List (Nat × Value)
def FsP.fp (p : FsP) (g : Nat) : List Nat := g :: p.md :: p.ml :: (p.wv.ownBlock.toList ++ p.fb.flatMap fun q => q.1 :: q.2.ownBlock.toList)
def ptrV (b : Nat) : Value := .pointer (some ⟨b, 0, none⟩)
def at2 (fb : List (Nat × Value)) (d : Dir) (k : Nm) : Option Nat := (looks d k).bind fun i => (fb[i]?).map (·.1)
def idV (fb : List (Nat × Value)) (o : Option Nat) : Value := match o.bind fun i => (fb[i]?).map (·.1) with
  | some b => ptrV b
  | none => .pointer none
def chV (fb : List (Nat × Value)) (c : ChM) : List Value := [.int .i64 c.kind, keyV c.name, keyV c.to, idV fb c.id]
theorem FsP.mem_fp {p : FsP} {g k : Nat} : k ∈ p.fp g ↔ k = g ∨ k = p.md ∨ k = p.ml ∨ p.wv.ownBlock = some k ∨ ∃ q ∈ p.fb, k = q.1 ∨ q.2.ownBlock = some k := by
  unfold FsP.fp
  simp [eq_comm]
end Go.Vc
namespace Go.Proofs.YtbhnplghnhafiaaDoor.Tryd
open Go Go.Vc

structure FsAt (w : World) (g : Nat) (s : FsM) (p : FsP) : Prop where
  ok : FsOk s
  blk : Blk w g 56 [.int .i64 s.room, .map (some p.md), .map (some p.ml), p.wv, .int .i64 s.calls, .int .i64 s.fail]
  dirM : MapAt keyV ptrV w p.md (at2 p.fb s.dir)
  lastsM : MapAt keyV ptrV w p.ml (at2 p.fb s.lasts)
  waitsM : Own w 81 4 p.wv s.waits.length (s.waits.flatMap (chV p.fb))
  len : p.fb.length = s.files.length
  fblk : ∀ (i : Nat) q f, p.fb[i]? = some q → s.files[i]? = some f → Blk w q.1 65 [q.2, .int .i64 f.synced]
  fown : ∀ (i : Nat) q f, p.fb[i]? = some q → s.files[i]? = some f → Own w 5 1 q.2 f.b.length (u8s f.b)
  apart1 : p.md ≠ p.ml
  apart2 : (p.fb.map (·.1)).Nodup
  apart3 : ∀ (i j : Nat) q q' h, p.fb[i]? = some q → p.fb[j]? = some q' → q.2.ownBlock = some h → q'.2.ownBlock = some h → i = j

section
variable {w w' : World} {g : Nat} {s : FsM} {p : FsP} {S : List Nat}
theorem FsAt.file (x : FsAt w g s p) {q : Nat × Value} (hq : q ∈ p.fb) : ∃ (i : Nat) (f : FileM), p.fb[i]? = some q ∧ s.files[i]? = some f := by
  obtain ⟨i, hi⟩ := List.getElem?_of_mem hq
  have hil := (List.getElem?_eq_some_iff.1 hi).1
  rw [x.len] at hil
  exact ⟨i, _, hi, List.getElem?_eq_getElem hil⟩
theorem FsAt.lt (x : FsAt w g s p) : ∀ k ∈ p.fp g, k < w.heap.size := fun k hk => by
  rcases FsP.mem_fp.1 hk with rfl | rfl | rfl | h | ⟨q, hq, h⟩
  · exact x.blk.lt
  · exact x.dirM.lt
  · exact x.lastsM.lt
  · exact x.waitsM.lt h
  · obtain ⟨i, f, hi, hf⟩ := x.file hq
    rcases h with rfl | h
    · exact (x.fblk i q f hi hf).lt
    · exact (x.fown i q f hi hf).lt h
theorem FsAt.keep (x : FsAt w g s p) (hc : Chg S w w') (hS : ∀ k ∈ p.fp g, k ∉ S) : FsAt w' g s p := by
  have hm := fun k h => hS k (FsP.mem_fp.2 h)
  exact ⟨x.ok, x.blk.keep hc (hm g (.inl rfl)), x.dirM.keep hc (hm _ (.inr (.inl rfl))), x.lastsM.keep hc (hm _ (.inr (.inr (.inl rfl)))), x.waitsM.keep hc (fun h hh => hm h (.inr (.inr (.inr (.inl hh))))), x.len,
    fun i q f hq hf => (x.fblk i q f hq hf).keep hc (hm _ (.inr (.inr (.inr (.inr ⟨q, List.mem_of_getElem? hq, .inl rfl⟩))))),
    fun i q f hq hf => (x.fown i q f hq hf).keep hc (fun h hh => hm h (.inr (.inr (.inr (.inr ⟨q, List.mem_of_getElem? hq, .inr hh⟩))))), x.apart1, x.apart2, x.apart3⟩
theorem FsAt.keep0 (x : FsAt w g s p) (hc : Chg [] w w') : FsAt w' g s p := x.keep hc (fun _ _ => by simp)
/-- Only the struct's own cells have turned. -/
theorem FsAt.scalars (x : FsAt w g s p) (hc : Chg [g] w w') {room calls fail : Int} (hb : Blk w' g 56 [.int .i64 room, .map (some p.md), .map (some p.ml), p.wv, .int .i64 calls, .int .i64 fail])
    (hok : FsOk { s with room := room, calls := calls, fail := fail }) : FsAt w' g { s with room := room, calls := calls, fail := fail } p := by
  have hw : ∀ h, p.wv.ownBlock = some h → h ∉ [g] := fun h hh hm => by
    simp at hm
    obtain ⟨cur, hr⟩ := x.waitsM.row hh
    rw [hm] at hr
    exact x.blk.ne_ hr (by decide) rfl
  refine ⟨hok, hb, x.dirM.keep hc ?_, x.lastsM.keep hc ?_, x.waitsM.keep hc hw, x.len, fun i q f hq hf => (x.fblk i q f hq hf).keep hc ?_, fun i q f hq hf => (x.fown i q f hq hf).keep hc fun h hh hm => ?_, x.apart1, x.apart2, x.apart3⟩
  · simpa using x.dirM.ne_blk x.blk
  · simpa using x.lastsM.ne_blk x.blk
  · have := (x.fblk i q f hq hf).ne_ x.blk (by decide)
    simpa using this
  · simp at hm
    obtain ⟨cur, hr⟩ := (x.fown i q f hq hf).row hh
    rw [hm] at hr
    exact x.blk.ne_ hr (by decide) rfl
end

theorem room_has (n : Int) (w : World) : Has Go.Proofs.Tryd.prog 27 #[.int .i64 n] w (fun v w' => w' = w ∧ v = .int .i64 (roomM n)) := by
  refine enter Go.Proofs.Tryd.func27 rfl rfl (by decide) rfl (e := [(0, .int .i64 n)]) ⟨rfl, trivial⟩ ?_
  repeat (first | refine W_seq ?_ | refine W_region ?_ | refine W_ret ?_ | refine Then_n ?_ | refine WL_nil ?_ | refine WL_some rfl rfl rfl ?_ | refine op_move rfl rfl ?_ | refine op_assign rfl rfl ?_ | refine op_max rfl rfl rfl ?_ | refine op_min rfl rfl rfl ?_)
  exact post1 (.inl rfl) rfl rfl ⟨rfl, rfl⟩

theorem call_has (g : Nat) (s : FsM) (p : FsP) (w : World) (x : FsAt w g s p) (hcalls : s.calls < 1000000000) :
    Has Go.Proofs.Tryd.prog 43 #[ptrV g] w (fun v w' => Chg [g] w w' ∧ v = .int .i64 (if failsM s then 5 else 0) ∧ FsAt w' g (callM s) p) := by
  have hc0 := x.ok.calls0
  have hf0 := x.ok.fail0
  have hf1 := x.ok.fail1
  have hok := callM_ok x.ok
  refine enter Go.Proofs.Tryd.func43 rfl rfl (by decide) rfl (e := [(0, ptrV g)]) ⟨rfl, trivial⟩ ?_
  unfold ptrV
  have hb := x.blk
  repeat (first | refine W_seq ?_ | refine W_region ?_ | refine W_skip ?_ | refine Then_n ?_ | refine WL_nil ?_ | refine W_condF rfl ?_ | refine WL_some rfl rfl rfl ?_ | refine WL_none rfl rfl ?_ | refine op_move rfl rfl ?_ | refine op_assign rfl rfl ?_ | refine op_add rfl rfl rfl (wrap_i64_in (by omega) (by omega)) ?_ | refine op_nilCheck rfl rfl ?_ | refine op_fieldAddr T rfl rfl rfl rfl rfl rfl rfl rfl ?_ | refine op_eql_nilptr T rfl rfl rfl rfl rfl ?_ | refine op_loadB T rfl rfl rfl rfl (by assumption) (by exact rfl) ?_)
  refine op_store T rfl rfl rfl rfl rfl rfl hb (Nat.le_of_ble_eq_true rfl) (fun w1 hc1 hb1 _ => ?_)
  have hb1 : Blk w1 g 56 [.int .i64 s.room, .map (some p.md), .map (some p.ml), p.wv, .int .i64 (s.calls + 1), .int .i64 s.fail] := hb1
  repeat (first | refine W_seq ?_ | refine W_region ?_ | refine Then_n ?_ | refine WL_nil ?_ | refine WL_some rfl rfl rfl ?_ | refine WL_none rfl rfl ?_ | refine op_move rfl rfl ?_ | refine op_subt rfl rfl rfl (wrap_i64_in (by omega) (by omega)) ?_ | refine op_nilCheck rfl rfl ?_ | refine op_fieldAddr T rfl rfl rfl rfl rfl rfl rfl rfl ?_ | refine op_loadB T rfl rfl rfl rfl (by assumption) (by exact rfl) ?_)
  refine op_store T rfl rfl rfl rfl rfl rfl hb1 (Nat.le_of_ble_eq_true rfl) (fun w2 hc2 hb2 _ => ?_)
  have hb2 : Blk w2 g 56 [.int .i64 s.room, .map (some p.md), .map (some p.ml), p.wv, .int .i64 (s.calls + 1), .int .i64 (s.fail - 1)] := hb2
  have hc02 : Chg [g] w w2 := hc1.trans hc2 (fun _ h _ => h)
  by_cases hz : s.fail = 0
  · have hfm : failsM s = true := by unfold failsM; rw [hz]; rfl
    repeat (first | refine W_seq ?_ | refine W_region ?_ | refine W_ret ?_ | refine Then_n ?_ | refine Then_r ?_ | refine WL_nil ?_ | refine W_condT rfl ?_ | refine WL_some rfl rfl rfl ?_ | refine op_move rfl rfl ?_ | refine op_assign rfl rfl ?_ | refine op_nilCheck rfl rfl ?_ | refine op_eql rfl rfl rfl (fun hc => ?_) (fun hc => False.elim (by omega)) | refine op_fieldAddr T rfl rfl rfl rfl rfl rfl rfl rfl ?_ | refine op_loadB T rfl rfl rfl rfl (by assumption) (by exact rfl) ?_)
    refine post1 (.inl rfl) rfl rfl ⟨hc02, by rw [hfm]; rfl, x.scalars hc02 ?_ hok⟩
    rw [show max (s.fail - 1) (-1) = s.fail - 1 by omega]; exact hb2
  · have hfm : failsM s = false := by unfold failsM; simpa using hz
    repeat (first | refine W_seq ?_ | refine W_region ?_ | refine W_skip ?_ | refine Then_n ?_ | refine WL_nil ?_ | refine W_condF rfl ?_ | refine WL_some rfl rfl rfl ?_ | refine WL_none rfl rfl ?_ | refine op_move rfl rfl ?_ | refine op_max rfl rfl rfl ?_ | refine op_nilCheck rfl rfl ?_ | refine op_eql rfl rfl rfl (fun hc => False.elim (by omega)) (fun hc => ?_) | refine op_fieldAddr T rfl rfl rfl rfl rfl rfl rfl rfl ?_ | refine op_loadB T rfl rfl rfl rfl (by assumption) (by exact rfl) ?_)
    refine op_store T rfl rfl rfl rfl rfl rfl hb2 (Nat.le_of_ble_eq_true rfl) (fun w3 hc3 hb3 _ => ?_)
    have hc03 : Chg [g] w w3 := hc02.trans hc3 (fun _ h _ => h)
    repeat (first | refine W_seq ?_ | refine W_region ?_ | refine W_ret ?_ | refine Then_n ?_ | refine WL_nil ?_ | refine WL_some rfl rfl rfl ?_ | refine op_assign rfl rfl ?_)
    exact post1 (.inl rfl) rfl rfl ⟨hc03, by rw [hfm]; rfl, x.scalars hc03 hb3 hok⟩
end Go.Proofs.YtbhnplghnhafiaaDoor.Tryd
