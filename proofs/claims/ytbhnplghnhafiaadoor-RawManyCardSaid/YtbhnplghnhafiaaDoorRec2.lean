import Derived.Test.YtbhnplghnhafiaaDoorRec1
/-! Records: Encode. -/
set_option linter.unusedVariables false
namespace Go.Proofs.YtbhnplghnhafiaaDoor.Tryd
open Go Go.Vc

set_option maxHeartbeats 2000000 in
theorem encode_has (r : RecM) (w : World) : Has Go.Proofs.Tryd.prog 29 #[.agg (recL r).toArray] w (fun v w' => ∃ u, v = .tuple #[u, .int .i64 (encM r).2] ∧ MadeB 5 w w' u (encM r).1) := by
  refine enter Go.Proofs.Tryd.func29 rfl rfl (by decide) rfl (e := [(0, .agg (recL r).toArray)]) ⟨rfl, trivial⟩ ?_
  repeat (first | refine W_seq ?_ | refine W_region ?_ | refine WL_some rfl rfl rfl ?_)
  refine op_box rfl rfl (fun g w1 hgs hc1 hg1 => ?_)
  have hg1 : Blk w1 g 33 (recL r) := hg1
  repeat (first | refine W_seq ?_ | refine W_region ?_ | refine Then_n ?_ | refine WL_nil ?_ | refine WL_some rfl rfl rfl ?_ | refine op_assign rfl rfl ?_ | refine op_load_agg T rfl rfl rfl rfl (by assumption) (by exact Nat.le_of_ble_eq_true rfl) (by exact rfl) ?_)
  refine op_call rfl rfl rfl (check_has r w1) ?_
  rintro _ w2 ⟨hc2, rfl⟩
  unfold encM
  by_cases hck : checkM r ≠ 0
  · rw [if_pos hck]
    repeat (first | refine W_seq ?_ | refine W_region ?_ | refine W_ret ?_ | refine Then_n ?_ | refine Then_r ?_ | refine WL_nil ?_ | refine W_condT rfl ?_ | refine WL_some rfl rfl rfl ?_ | refine op_move rfl rfl ?_ | refine op_assign rfl rfl ?_ | refine op_neq rfl rfl rfl (fun hc => ?_) (fun hc => False.elim (by omega)))
    exact post2 (.inl rfl) rfl rfl rfl ⟨_, rfl, hc1.trans' hc2, Own.nil _ _ _, fun h hh => by simp [Value.ownBlock] at hh⟩
  rw [if_neg hck]
  have hok := checkM_ok.1 (Decidable.not_not.1 hck)
  have hkind : r.kind = 1 ∨ r.kind = 0 := hok.kind.imp id (·.1)
  have hs1 := hok.seq1; have hs2 := hok.seq2; have h100 := hok.key100; have h4000 := hok.val4000
  have hckz : checkM r = 0 := Decidable.not_not.1 hck
  rw [hckz]
  have hg2 := hg1.keep0 hc2
  have hc02 := hc1.trans' hc2
  unfold recL at hg2
  repeat (first | refine W_seq ?_ | refine W_region ?_ | refine W_skip ?_ | refine Then_n ?_ | refine WL_nil ?_ | refine W_condF rfl ?_ | refine WL_some rfl rfl rfl ?_ | refine op_move rfl rfl ?_ | refine op_assign rfl rfl ?_ | refine op_neq rfl rfl rfl (fun hc => False.elim (by omega)) (fun hc => ?_))
  refine W_walk 8 [] fol (by kernel_rfl) (by kernel_rfl) ?_
  refine Walk.plain rfl (by intro val w_ hR hp; exact op_fieldAddr T rfl rfl rfl rfl rfl rfl rfl rfl ⟨Chg.refl _ _, rfl⟩) ?_; dsimp only [List.nil_append, List.cons_append]
  refine Walk.plain rfl (by intro val w_ hR hp; exact op_load T rfl rfl rfl rfl ((Blk.keep0 hg2 hR).cell rfl) ⟨Chg.refl _ _, rfl⟩) ?_; dsimp only [List.nil_append, List.cons_append]
  refine Walk.plain rfl (by intro val w_ hR hp; exact op_convert_fit T rfl rfl rfl rfl (wrap_u8_in (by omega) (by omega)) ⟨Chg.refl _ _, rfl⟩) ?_; dsimp only [List.nil_append, List.cons_append]
  refine Walk.rel (fun u w => ∃ g5, u = .slice (some ⟨g5, 0, none⟩) 1 1 ∧ Blk w g5 5 [.int .u8 r.kind] ∧ w2.heap.size ≤ g5) rfl (fun u a b ⟨g5, h1, h2, h3⟩ hab => ⟨g5, h1, h2.keep0 hab, h3⟩) ?_ ?_
  · intro val w_ hR hp
    exact op_buildSlice T rfl rfl rfl rfl rfl rfl rfl (fun g5 w5 hs5 hc5 hg5 => ⟨hc5, g5, rfl, hg5, by have := hR.size; omega⟩)
  dsimp only [List.nil_append, List.cons_append]
  refine Walk.plain rfl (by intro val w_ hR hp; exact op_fieldAddr T rfl rfl rfl rfl rfl rfl rfl rfl ⟨Chg.refl _ _, rfl⟩) ?_; dsimp only [List.nil_append, List.cons_append]
  refine Walk.plain rfl (by intro val w_ hR hp; exact op_load T rfl rfl rfl rfl ((Blk.keep0 hg2 hR).cell rfl) ⟨Chg.refl _ _, rfl⟩) ?_; dsimp only [List.nil_append, List.cons_append]
  refine Walk.plain (v := .int .u64 (r.seq.toNat : Int)) rfl (by intro val w_ hR hp; exact op_convert_int T rfl rfl rfl rfl (by rw [wrap_u64_in (by omega) (by omega)]; exact (Int.toNat_of_nonneg (by omega)).symm) ⟨Chg.refl _ _, rfl⟩) ?_; dsimp only [List.nil_append, List.cons_append]
  refine Walk.rel (fun u w => MadeB 5 w2 w u (putM r.seq.toNat)) rfl (fun u a b h hab => h.keep0 hab) ?_ ?_
  · intro val w_ hR hp
    exact op_call rfl rfl rfl (put_has _ w_ (by omega)) (fun v w' h => ⟨h.chg, h.base hR⟩)
  dsimp only [List.nil_append, List.cons_append]
  refine Walk.fin ?_
  intro val w3 hc3 hp
  obtain ⟨g5, he, hg5, hs5⟩ : ∃ g5, val 3 = .slice (some ⟨g5, 0, none⟩) 1 1 ∧ Blk w3 g5 5 [.int .u8 r.kind] ∧ w2.heap.size ≤ g5 := hp 3 (by omega) _ _ rfl rfl
  have m7 : MadeB 5 w2 w3 (val 7) (putM r.seq.toNat) := hp 7 (by omega) _ _ rfl rfl
  clear hp
  obtain ⟨A7, c7, he7, _, _⟩ := m7.form
  have hg3 := hg2.keep0 hc3
  have m5 : MadeB 5 w2 w3 (.slice (some ⟨g5, 0, none⟩) 1 1) [UInt8.ofNat r.kind.toNat] := by
    rw [kind_byte hkind] at hg5
    exact ⟨hc3, Own.mk hg5 (Nat.le_refl _) (by decide) rfl rfl, fun h hh => by simp [Value.ownBlock] at hh; omega⟩
  refine WL_sub (e' := [(1, .pointer (some ⟨g, 0, none⟩)), (14, .slice (some ⟨g5, 0, none⟩) 1 1), (18, .slice A7 (putM r.seq.toNat).length c7), (3, .int .i64 0)]) ⟨rfl, congrArg some he, congrArg some he7, rfl, trivial⟩ ?_
  rw [he7] at m7
  have hp10 := putM_len10 (n := r.seq.toNat) (by omega)
  have ht1 := textM_len r.key (by omega)
  have ht2 := textM_len r.val (by omega)
  repeat (refine WL_some rfl rfl rfl ?_)
  refine op_appB T rfl rfl rfl rfl rfl rfl rfl rfl rfl m5 m7.reads (by simp; omega) (fun v8 w8 m8 hc8 _ => ?_)
  have hg8 := hg3.keep hc8 (fun hm => m5.sub hg2.lt g (by simpa using hm) rfl)
  repeat (first | refine W_seq ?_ | refine W_region ?_ | refine Then_n ?_ | refine WL_nil ?_ | refine WL_some rfl rfl rfl ?_ | refine op_move rfl rfl ?_ | refine op_assign rfl rfl ?_ | refine op_fieldAddr T rfl rfl rfl rfl rfl rfl rfl rfl ?_ | refine op_loadB T rfl rfl rfl rfl (by assumption) (by exact rfl) ?_)
  refine op_call rfl rfl rfl (text_has r.key w8 (by omega)) ?_
  intro v9 w9 m9
  obtain ⟨A9, c9, rfl, _, _⟩ := m9.form
  have hg9 := hg8.keep0 m9.chg
  have m8' := m8.keep0 m9.chg
  repeat (refine WL_some rfl rfl rfl ?_)
  refine op_appB T rfl rfl rfl rfl rfl rfl rfl rfl rfl m8' m9.reads (by simp; omega) (fun v10 w10 m10 hc10 _ => ?_)
  have hg10 := hg9.keep hc10 (fun hm => m8'.sub hg2.lt g (by simpa using hm) rfl)
  by_cases hk1 : r.kind = 1
  · have eb : bodyM r = [UInt8.ofNat r.kind.toNat] ++ putM r.seq.toNat ++ textM r.key ++ textM r.val := by unfold bodyM; rw [if_pos hk1]; rfl
    repeat (first | refine W_seq ?_ | refine W_region ?_ | refine Then_n ?_ | refine WL_nil ?_ | refine W_condT rfl ?_ | refine WL_some rfl rfl rfl ?_ | refine op_move rfl rfl ?_ | refine op_assign rfl rfl ?_ | refine op_eql rfl rfl rfl (fun hc => ?_) (fun hc => False.elim (by omega)) | refine op_fieldAddr T rfl rfl rfl rfl rfl rfl rfl rfl ?_ | refine op_loadB T rfl rfl rfl rfl (by assumption) (by exact rfl) ?_)
    refine op_call rfl rfl rfl (text_has r.val w10 (by omega)) ?_
    intro v11 w11 m11
    obtain ⟨A11, c11, rfl, _, _⟩ := m11.form
    repeat (refine WL_some rfl rfl rfl ?_)
    refine op_appB T rfl rfl rfl rfl rfl rfl rfl rfl rfl (m10.keep0 m11.chg) m11.reads (by simp; omega) (fun v12 w12 m12 _ _ => ?_)
    rw [← eb] at m12
    obtain ⟨A12, c12, rfl, _, _⟩ := m12.form
    have hbl := bodyM_len hok
    repeat (first | refine W_seq ?_ | refine W_region ?_ | refine Then_n ?_ | refine WL_nil ?_ | refine WL_some rfl rfl rfl ?_ | refine op_move rfl rfl ?_ | refine op_assign rfl rfl ?_)
    refine op_call rfl rfl rfl (seal_has A12 _ c12 _ w12 m12.reads (by omega)) ?_
    intro v13 w13 m13
    repeat (first | refine W_ret ?_ | refine Then_n ?_ | refine WL_nil ?_ | refine WL_some rfl rfl rfl ?_ | refine op_assign rfl rfl ?_)
    exact post2 (.inl rfl) rfl rfl rfl ⟨_, rfl, m13.base (hc02.trans' m12.chg)⟩
  · have eb : bodyM r = [UInt8.ofNat r.kind.toNat] ++ putM r.seq.toNat ++ textM r.key := by unfold bodyM; rw [if_neg hk1, List.append_nil]; rfl
    rw [← eb] at m10
    obtain ⟨A12, c12, rfl, _, _⟩ := m10.form
    have hbl := bodyM_len hok
    repeat (first | refine W_seq ?_ | refine W_region ?_ | refine W_skip ?_ | refine Then_n ?_ | refine WL_nil ?_ | refine W_condF rfl ?_ | refine WL_some rfl rfl rfl ?_ | refine op_move rfl rfl ?_ | refine op_assign rfl rfl ?_ | refine op_eql rfl rfl rfl (fun hc => False.elim (by omega)) (fun hc => ?_) | refine op_fieldAddr T rfl rfl rfl rfl rfl rfl rfl rfl ?_ | refine op_loadB T rfl rfl rfl rfl (by assumption) (by exact rfl) ?_)
    refine op_call rfl rfl rfl (seal_has A12 _ c12 _ w10 m10.reads (by omega)) ?_
    intro v13 w13 m13
    repeat (first | refine W_ret ?_ | refine Then_n ?_ | refine WL_nil ?_ | refine WL_some rfl rfl rfl ?_ | refine op_assign rfl rfl ?_)
    exact post2 (.inl rfl) rfl rfl rfl ⟨_, rfl, m13.base (hc02.trans' m10.chg)⟩
end Go.Proofs.YtbhnplghnhafiaaDoor.Tryd
