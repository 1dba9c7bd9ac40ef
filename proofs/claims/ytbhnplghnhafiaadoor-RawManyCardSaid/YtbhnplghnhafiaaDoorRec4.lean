import Derived.Test.YtbhnplghnhafiaaDoorRec3
/-! Records: decode. -/
set_option linter.unusedVariables false
namespace Go.Proofs.YtbhnplghnhafiaaDoor.Tryd
open Go Go.Vc

set_option maxHeartbeats 4000000 in
theorem decode_has (A : Option Addr) (n c : Nat) (b : List UInt8) (w : World) (hl : SliceOf Ru8 w (.slice A n c) b) (hb : b.length ≤ 1000000000) :
    Has Go.Proofs.Tryd.prog 55 #[.slice A n c] w (fun v w' => Chg [] w w' ∧ v = .tuple #[.agg (recL (decR b)).toArray, .bool (decOk b)]) := by
  refine enter Go.Proofs.Tryd.func55 rfl rfl (by decide) rfl (e := [(0, .slice A n c)]) ⟨rfl, trivial⟩ ?_
  repeat (first | refine W_seq ?_ | refine W_region ?_ | refine WL_some rfl rfl rfl ?_)
  refine op_alloc T rfl rfl (fun g2 w1 hs1 hc1 hg2 => ?_)
  have hg2 : Blk w1 g2 33 [.int .i64 0, .int .i64 0, .string (str []), .string (str [])] := hg2
  repeat (first | refine W_seq ?_ | refine W_region ?_ | refine Then_n ?_ | refine WL_nil ?_ | refine WL_some rfl rfl rfl ?_ | refine op_move rfl rfl ?_ | refine op_assign rfl rfl ?_ | refine op_build T rfl rfl rfl rfl rfl rfl ?_)
  refine op_box rfl rfl (fun gr w2 hs2 hc2 hgr => ?_)
  have hgr : Blk w2 gr 107 [.slice A n c, .bool false] := hgr
  have hl1 := SliceOf.kept Ru8.kept _ _ _ _ hc1 hl
  have hl2 := SliceOf.kept Ru8.kept _ _ _ _ hc2 hl1
  have hgrw : gr ∉ ([] : List Nat) := by simp
  have hrge : w1.heap.size ≤ gr := hs2
  have x2 : RdAt w w2 gr (b, false) := ⟨⟨A, n, c, hgr, hl⟩, hc1.trans' hc2, by have := hc1.size; omega⟩
  have hlt1 : g2 < w1.heap.size := hg2.lt
  have hge1 : w.heap.size ≤ g2 := hs1
  have hne : g2 ∉ [gr] := by simp; omega
  have hg22 := hg2.keep0 hc2
  clear hgr
  repeat (first | refine W_seq ?_ | refine W_region ?_ | refine Then_n ?_ | refine WL_nil ?_ | refine WL_some rfl rfl rfl ?_ | refine op_move rfl rfl ?_ | refine op_assign rfl rfl ?_)
  refine op_call rfl rfl rfl (num_has w gr _ 1 w2 x2 (by decide)) ?_
  rintro _ w3 ⟨hc3, rfl, x3⟩
  have hg23 := hg22.keep hc3 hne
  repeat (first | refine WL_some rfl rfl rfl ?_ | refine op_move rfl rfl ?_)
  refine op_call rfl rfl rfl (num_has w gr _ 1125899906842624 w3 x3 (by decide)) ?_
  rintro _ w4 ⟨hc4, rfl, x4⟩
  have hg24 := hg23.keep hc4 hne
  repeat (first | refine WL_some rfl rfl rfl ?_ | refine op_move rfl rfl ?_)
  refine op_call rfl rfl rfl (rtext_has w gr _ w4 x4) ?_
  rintro _ w5 ⟨hc5, rfl, x5⟩
  have hg25 := hg24.keep hc5 hne
  have hcr : Chg [gr] w2 w5 := (hc3.trans hc4 (fun _ h _ => h)).trans hc5 (fun _ h _ => h)
  have hc05 : Chg [] w w5 := hc1.trans (hc2.trans hcr (S' := [gr]) (S := []) (fun k hk hlt => by simp at hk; omega)) (fun k hk => by cases hk)
  clear hc3 hc4 hc5 hg22 hg23 hg24 x2 x3 x4
  have e1 : (numM (b, false) 1).1 = (dec1 b).1 := rfl
  have e2 : (numM (numM (b, false) 1).2 1125899906842624).1 = (dec2 b).1 := rfl
  have e3 : (readM' (numM (numM (b, false) 1).2 1125899906842624).2).1 = (dec3 b).1 := rfl
  have e4 : (readM' (numM (numM (b, false) 1).2 1125899906842624).2).2 = (dec3 b).2 := rfl
  rw [e1, e2, e3]
  rw [e4] at x5
  clear e1 e2 e3 e4
  repeat (first | refine WL_some rfl rfl rfl ?_ | refine op_build T rfl rfl rfl rfl rfl rfl ?_)
  refine op_alloc T rfl rfl (fun g5 w6 hs6 hc6 hg5 => ?_)
  have hg5 : Blk w6 g5 33 [.int .i64 0, .int .i64 0, .string (str []), .string (str [])] := hg5
  have hs6 : w5.heap.size ≤ g5 := hs6
  have hg26 := hg25.keep0 hc6
  repeat (refine WL_none rfl rfl ?_)
  refine op_store_agg T rfl rfl rfl rfl rfl rfl hg5 (by exact Nat.le_of_ble_eq_true rfl) (fun w7 hc7 hg57 _ => ?_)
  have hg57 : Blk w7 g5 33 [.int .i64 (dec1 b).1, .int .i64 (dec2 b).1, .string (str (dec3 b).1), .string (str [])] := hg57
  have hlt5 : gr < w5.heap.size := x5.lt
  have hlt2 : g2 < w5.heap.size := hg25.lt
  have hc57 : Chg [] w5 w7 := hc6.trans hc7 (fun k hk hlt => by simp at hk; omega)
  have x7 := x5.keep0 hc57
  have hg27 := hg25.keep0 hc57
  have hc07 := hc05.trans' hc57
  refine WL_nil ?_
  refine Then_n ?_
  refine W_seq ?_
  refine W_meet (σ := Unit) (fun _ => [(0, .slice A n c), (2, .pointer (some ⟨g2, 0, none⟩)), (4, .pointer (some ⟨gr, 0, none⟩)), (5, .pointer (some ⟨g5, 0, none⟩))])
    (fun _ w' => Chg [] w w' ∧ Blk w' g5 33 (recL (decR b)) ∧ RdAt w w' gr (dec4 b).2 ∧ Blk w' g2 33 [.int .i64 0, .int .i64 0, .string (str []), .string (str [])]) ?_ ?_
  · by_cases hk : (dec1 b).1 = 1
    · have e4 : dec4 b = readM' (dec3 b).2 := by unfold dec4; rw [if_pos hk]
      repeat (first | refine W_seq ?_ | refine W_region ?_ | refine Then_n ?_ | refine WL_nil ?_ | refine W_condT rfl ?_ | refine WL_some rfl rfl rfl ?_ | refine op_move rfl rfl ?_ | refine op_eql rfl rfl rfl (fun hc => ?_) (fun hc => False.elim (by omega)) | refine op_fieldAddr T rfl rfl rfl rfl rfl rfl rfl rfl ?_ | refine op_loadB T rfl rfl rfl rfl (by assumption) (by exact rfl) ?_)
      refine op_call rfl rfl rfl (rtext_has w gr _ w7 x7) ?_
      rintro _ w8 ⟨hc8, rfl, x8⟩
      have hg58 := hg57.keep hc8 (by simp; omega)
      have hg28 := hg27.keep hc8 (by simp; omega)
      have hc08 : Chg [] w w8 := hc07.trans hc8 (fun k hk hlt => by simp at hk; have := hc1.size; omega)
      repeat (first | refine WL_some rfl rfl rfl ?_ | refine WL_none rfl rfl ?_ | refine op_fieldAddr T rfl rfl rfl rfl rfl rfl rfl rfl ?_)
      refine op_store T rfl rfl rfl rfl rfl rfl hg58 (by simp) (fun w9 hc9 hb9 _ => ?_)
      have hb9 : Blk w9 g5 33 [.int .i64 (dec1 b).1, .int .i64 (dec2 b).1, .string (str (dec3 b).1), .string (str (readM' (dec3 b).2).1)] := hb9
      have hc09 : Chg [] w w9 := hc08.trans hc9 (fun k hk hlt => by simp at hk; have := hc05.size; omega)
      repeat (refine WL_nil ?_)
      refine Meet_n () ⟨rfl, rfl, rfl, rfl, trivial⟩ ⟨hc09, ?_, ?_, hg28.keep hc9 (by simp; omega)⟩
      · unfold decR recL
        rw [e4]
        exact hb9
      · rw [e4]
        exact x8.keep hc9 (fun k hk => by simp at hk; have := hc1.size; have := hc2.size; have := hcr.size; omega) (by simp; omega)
    · have e4 : dec4 b = ([], (dec3 b).2) := by unfold dec4; rw [if_neg hk]
      repeat (first | refine W_seq ?_ | refine W_region ?_ | refine W_skip ?_ | refine Then_n ?_ | refine WL_nil ?_ | refine W_condF rfl ?_ | refine WL_some rfl rfl rfl ?_ | refine op_eql rfl rfl rfl (fun hc => False.elim (by omega)) (fun hc => ?_) | refine op_fieldAddr T rfl rfl rfl rfl rfl rfl rfl rfl ?_ | refine op_loadB T rfl rfl rfl rfl (by assumption) (by exact rfl) ?_)
      refine Meet_n () ⟨rfl, rfl, rfl, rfl, trivial⟩ ⟨hc07, ?_, ?_, hg27⟩
      · unfold decR recL
        rw [e4]
        exact hg57
      · rw [e4]; exact x7
  rintro _ w8 ⟨hc8, hg58, x8, hg28⟩
  have hl8 := SliceOf.kept Ru8.kept _ _ _ _ hc8 hl
  clear hc05 hc07 hg27 hg57 x7 hc7 hg25 x5 hcr hg5 hg26
  unfold recL at hg58
  repeat (first | refine W_seq ?_ | refine W_region ?_ | refine Then_n ?_ | refine WL_some rfl rfl rfl ?_ | refine op_load_agg T rfl rfl rfl rfl (by assumption) (by exact Nat.le_of_ble_eq_true rfl) (by exact rfl) ?_)
  refine op_call rfl rfl rfl (encode_has (decR b) w8) ?_
  rintro _ w9 ⟨u, rfl, mu⟩
  have hg59 := hg58.keep0 mu.chg
  have hg29 := hg28.keep0 mu.chg
  have x9 := x8.keep0 mu.chg
  have hl9 := SliceOf.kept Ru8.kept _ _ _ _ mu.chg hl8
  have hc9 := hc8.trans' mu.chg
  obtain ⟨Au, cu, rfl, _, _⟩ := mu.form
  have hok : decOk b = decide (((dec4 b).2.2 = false ∧ (dec4 b).2.1 = []) ∧ checkM (decR b) = 0 ∧ (encM (decR b)).1 = sealM b) := rfl
  have herr : (encM (decR b)).2 = checkM (decR b) := by unfold encM; split <;> simp_all
  rw [herr]
  have hne2 : g5 ∉ [g2] := by simp; have := hc6.size; omega
  have hner : gr ∉ [g2] := by simp; omega
  have hS2 : ∀ k ∈ [g2], w.heap.size ≤ k := fun k hk => by simp at hk; omega
  repeat (first | refine W_seq ?_ | refine Then_n ?_ | refine WL_nil ?_ | refine WL_some rfl rfl rfl ?_ | refine op_move rfl rfl ?_ | refine op_assign rfl rfl ?_ | refine op_extract rfl rfl rfl ?_)
  have hgood : ∀ w_, Chg [] w9 w_ → Blk w_ g2 33 [.int .i64 0, .int .i64 0, .string (str []), .string (str [])] := fun w_ h => hg29.keep0 h
  by_cases hd : (dec4 b).2.2 = false ∧ (dec4 b).2.1 = []
  · by_cases he : checkM (decR b) = 0
    · refine Q.W_walkf 14 13 [g2] fol (by kernel_rfl) (by kernel_rfl) ?_
      refine Q.Walk.plain (v := .agg (recL (decR b)).toArray) rfl rfl (by intro val w_ hR hp; exact op_load_agg T rfl rfl rfl rfl (hg59.keep hR hne2) (Nat.le_of_ble_eq_true rfl) rfl ⟨Chg.refl _ _, rfl⟩) ?_; dsimp only [List.nil_append, List.cons_append]
      refine Q.Walk.plain rfl rfl (by intro val w_ hR hp; exact op_move rfl rfl ⟨Chg.refl _ _, rfl⟩) ?_; dsimp only [List.nil_append, List.cons_append]
      refine Q.Walk.plain rfl rfl (by intro val w_ hR hp; exact op_call rfl rfl rfl (done_has w gr _ w_ (x9.keep hR hS2 hner)) (fun v w' h => h)) ?_; dsimp only [List.nil_append, List.cons_append]
      rw [decide_eq_true hd]
      refine Q.Walk.plain rfl rfl (by intro val w_ hR hp; exact op_move rfl rfl ⟨Chg.refl _ _, rfl⟩) ?_; dsimp only [List.nil_append, List.cons_append]
      refine Q.Walk.guardT rfl rfl rfl rfl (fun _ => rfl) (by intro val w_ hR hp; exact op_move rfl rfl ⟨Chg.refl _ _, rfl⟩) ?_; dsimp only [List.nil_append, List.cons_append]
      refine Q.Walk.guardT rfl rfl rfl rfl (fun _ => rfl) (by intro val w_ hR hp; exact op_eql rfl rfl rfl (fun hc => ⟨Chg.refl _ _, rfl⟩) (fun hc => False.elim (by omega))) ?_; dsimp only [List.nil_append, List.cons_append]
      refine Q.Walk.plain rfl rfl (by intro val w_ hR hp; exact op_pick rfl rfl rfl rfl ⟨Chg.refl _ _, rfl⟩) ?_; dsimp only [List.nil_append, List.cons_append]
      refine Q.Walk.plain rfl rfl (by intro val w_ hR hp; exact op_move rfl rfl ⟨Chg.refl _ _, rfl⟩) ?_; dsimp only [List.nil_append, List.cons_append]
      refine Q.Walk.guardT rfl rfl rfl rfl (fun _ => rfl) (by intro val w_ hR hp; exact op_move rfl rfl ⟨Chg.refl _ _, rfl⟩) ?_; dsimp only [List.nil_append, List.cons_append]
      refine Q.Walk.guardT rfl rfl rfl rfl (fun _ => rfl) (by intro val w_ hR hp; exact op_move rfl rfl ⟨Chg.refl _ _, rfl⟩) ?_; dsimp only [List.nil_append, List.cons_append]
      refine Q.Walk.guardR rfl (fun u w' => (∃ A' n' c', u = .slice A' n' c') ∧ Firm [g2] w' (fun w => SliceOf Ru8 w u (sealM b))) rfl rfl rfl (fun _ => rfl) (fun v a b' h hab => ⟨h.1, h.2.step hab (fun k hk _ => hk)⟩) ?_ ?_
      · intro val w_ hR hp
        have hlw := SliceOf.kept Ru8.kept _ _ _ _ (hc9.trans hR (fun k hk hlt => by have := hS2 k hk; omega)) hl
        refine op_call rfl rfl rfl (seal_has A n c b w_ hlw (by omega)) (fun v w' h => ⟨h.chg, ?_, h.firm (fun k hk => ?_)⟩)
        · obtain ⟨A', c', h', _⟩ := h.form
          exact ⟨A', _, c', h'⟩
        · simp at hk; have := hg29.lt; have := hR.size; omega
      dsimp only [List.nil_append, List.cons_append]
      refine Q.Walk.guardT (v := .bool (decide ((encM (decR b)).1 = sealM b))) rfl rfl rfl rfl (fun _ => rfl) ?_ ?_
      · intro val w_ hR hp
        obtain ⟨⟨A', n', c', hv⟩, hf⟩ : (∃ A' n' c', val 10 = .slice A' n' c') ∧ Firm [g2] w_ (fun w => SliceOf Ru8 w (val 10) (sealM b)) := hp 10 rfl _ _ rfl rfl
        have h1 := hf.now
        rw [hv] at h1
        have h2 := (mu.firm (S := [g2]) (fun k hk => by simp at hk; have := hg28.lt; omega)) w_ hR
        exact op_call rfl rfl (by rw [← hv]; rfl) (equal_has _ _ _ _ A' n' c' _ w_ h2 h1) (fun v w' h => h)
      dsimp only [List.nil_append, List.cons_append]
      refine Q.Walk.plain rfl rfl (by intro val w_ hR hp; exact op_pick rfl rfl rfl rfl ⟨Chg.refl _ _, rfl⟩) ?_; dsimp only [List.nil_append, List.cons_append]
      refine Q.Walk.turn rfl (fun _ w => Blk w g2 33 (recL (decR b))) rfl (fun _ _ _ h hab => h.keep0 hab) ?_ ?_
      · intro val w_ hR hp
        exact op_store_agg T rfl rfl rfl rfl rfl rfl (hgood w_ hR) (by exact Nat.le_of_ble_eq_true rfl) (fun w7 hc7 hg57 _ => ⟨hc7, hg57⟩)
      refine Q.Walk.fin ?_
      intro val w10 hc10 hp hn
      obtain ⟨_, hb10⟩ := hn 13 (by omega) _ rfl rfl
      have hb10 : Blk w10 g2 33 (recL (decR b)) := hb10
      have hcend := hc9.trans hc10 (S' := [g2]) (S := []) (fun k hk hlt => by have := hS2 k hk; omega)
      refine WL_sub (e' := [(2, .pointer (some ⟨g2, 0, none⟩)), (41, .bool (decide ((encM (decR b)).1 = sealM b)))]) ⟨rfl, rfl, trivial⟩ ?_
      repeat (first | refine W_ret ?_ | refine Then_n ?_ | refine WL_nil ?_ | refine WL_some rfl rfl rfl ?_ | refine op_assign rfl rfl ?_)
      refine post2c T (.inl rfl) rfl rfl rfl rfl rfl hb10 rfl ⟨hcend, ?_⟩
      rw [hok]
      simp only [hd, he, and_self, true_and]
    · rw [decide_eq_false (fun h => he h.2.1)] at hok
      refine Q.W_walkf 14 13 [g2] fol (by kernel_rfl) (by kernel_rfl) ?_
      refine Q.Walk.plain (v := .agg (recL (decR b)).toArray) rfl rfl (by intro val w_ hR hp; exact op_load_agg T rfl rfl rfl rfl (hg59.keep hR hne2) (Nat.le_of_ble_eq_true rfl) rfl ⟨Chg.refl _ _, rfl⟩) ?_; dsimp only [List.nil_append, List.cons_append]
      refine Q.Walk.plain rfl rfl (by intro val w_ hR hp; exact op_move rfl rfl ⟨Chg.refl _ _, rfl⟩) ?_; dsimp only [List.nil_append, List.cons_append]
      refine Q.Walk.plain rfl rfl (by intro val w_ hR hp; exact op_call rfl rfl rfl (done_has w gr _ w_ (x9.keep hR hS2 hner)) (fun v w' h => h)) ?_; dsimp only [List.nil_append, List.cons_append]
      rw [decide_eq_true hd]
      refine Q.Walk.plain rfl rfl (by intro val w_ hR hp; exact op_move rfl rfl ⟨Chg.refl _ _, rfl⟩) ?_; dsimp only [List.nil_append, List.cons_append]
      refine Q.Walk.guardT rfl rfl rfl rfl (fun _ => rfl) (by intro val w_ hR hp; exact op_move rfl rfl ⟨Chg.refl _ _, rfl⟩) ?_; dsimp only [List.nil_append, List.cons_append]
      refine Q.Walk.guardT rfl rfl rfl rfl (fun _ => rfl) (by intro val w_ hR hp; exact op_eql rfl rfl rfl (fun hc => False.elim (by omega)) (fun hc => ⟨Chg.refl _ _, rfl⟩)) ?_; dsimp only [List.nil_append, List.cons_append]
      refine Q.Walk.plain rfl rfl (by intro val w_ hR hp; exact op_pick rfl rfl rfl rfl ⟨Chg.refl _ _, rfl⟩) ?_; dsimp only [List.nil_append, List.cons_append]
      refine Q.Walk.plain rfl rfl (by intro val w_ hR hp; exact op_move rfl rfl ⟨Chg.refl _ _, rfl⟩) ?_; dsimp only [List.nil_append, List.cons_append]
      refine Q.Walk.guardF rfl rfl rfl (fun _ => rfl) rfl ?_; dsimp only [List.nil_append, List.cons_append]
      refine Q.Walk.guardF rfl rfl rfl (fun _ => rfl) rfl ?_; dsimp only [List.nil_append, List.cons_append]
      refine Q.Walk.guardF rfl rfl rfl (fun _ => rfl) rfl ?_; dsimp only [List.nil_append, List.cons_append]
      refine Q.Walk.guardF rfl rfl rfl (fun _ => rfl) rfl ?_; dsimp only [List.nil_append, List.cons_append]
      refine Q.Walk.plain rfl rfl (by intro val w_ hR hp; exact op_pick rfl rfl rfl rfl ⟨Chg.refl _ _, rfl⟩) ?_; dsimp only [List.nil_append, List.cons_append]
      refine Q.Walk.turn rfl (fun _ w => Blk w g2 33 (recL (decR b))) rfl (fun _ _ _ h hab => h.keep0 hab) ?_ ?_
      · intro val w_ hR hp
        exact op_store_agg T rfl rfl rfl rfl rfl rfl (hgood w_ hR) (by exact Nat.le_of_ble_eq_true rfl) (fun w7 hc7 hg57 _ => ⟨hc7, hg57⟩)
      refine Q.Walk.fin ?_
      intro val w10 hc10 hp hn
      obtain ⟨_, hb10⟩ := hn 13 (by omega) _ rfl rfl
      have hb10 : Blk w10 g2 33 (recL (decR b)) := hb10
      have hcend := hc9.trans hc10 (S' := [g2]) (S := []) (fun k hk hlt => by have := hS2 k hk; omega)
      refine WL_sub (e' := [(2, .pointer (some ⟨g2, 0, none⟩)), (41, .bool false)]) ⟨rfl, rfl, trivial⟩ ?_
      repeat (first | refine W_ret ?_ | refine Then_n ?_ | refine WL_nil ?_ | refine WL_some rfl rfl rfl ?_ | refine op_assign rfl rfl ?_)
      refine post2c T (.inl rfl) rfl rfl rfl rfl rfl hb10 rfl ⟨hcend, ?_⟩
      rw [hok]
  · rw [decide_eq_false (fun h => hd h.1)] at hok
    refine Q.W_walkf 14 13 [g2] fol (by kernel_rfl) (by kernel_rfl) ?_
    refine Q.Walk.plain (v := .agg (recL (decR b)).toArray) rfl rfl (by intro val w_ hR hp; exact op_load_agg T rfl rfl rfl rfl (hg59.keep hR hne2) (Nat.le_of_ble_eq_true rfl) rfl ⟨Chg.refl _ _, rfl⟩) ?_; dsimp only [List.nil_append, List.cons_append]
    refine Q.Walk.plain rfl rfl (by intro val w_ hR hp; exact op_move rfl rfl ⟨Chg.refl _ _, rfl⟩) ?_; dsimp only [List.nil_append, List.cons_append]
    refine Q.Walk.plain rfl rfl (by intro val w_ hR hp; exact op_call rfl rfl rfl (done_has w gr _ w_ (x9.keep hR hS2 hner)) (fun v w' h => h)) ?_; dsimp only [List.nil_append, List.cons_append]
    rw [decide_eq_false hd]
    refine Q.Walk.plain rfl rfl (by intro val w_ hR hp; exact op_move rfl rfl ⟨Chg.refl _ _, rfl⟩) ?_; dsimp only [List.nil_append, List.cons_append]
    refine Q.Walk.guardF rfl rfl rfl (fun _ => rfl) rfl ?_; dsimp only [List.nil_append, List.cons_append]
    refine Q.Walk.guardF rfl rfl rfl (fun _ => rfl) rfl ?_; dsimp only [List.nil_append, List.cons_append]
    refine Q.Walk.plain rfl rfl (by intro val w_ hR hp; exact op_pick rfl rfl rfl rfl ⟨Chg.refl _ _, rfl⟩) ?_; dsimp only [List.nil_append, List.cons_append]
    refine Q.Walk.plain rfl rfl (by intro val w_ hR hp; exact op_move rfl rfl ⟨Chg.refl _ _, rfl⟩) ?_; dsimp only [List.nil_append, List.cons_append]
    refine Q.Walk.guardF rfl rfl rfl (fun _ => rfl) rfl ?_; dsimp only [List.nil_append, List.cons_append]
    refine Q.Walk.guardF rfl rfl rfl (fun _ => rfl) rfl ?_; dsimp only [List.nil_append, List.cons_append]
    refine Q.Walk.guardF rfl rfl rfl (fun _ => rfl) rfl ?_; dsimp only [List.nil_append, List.cons_append]
    refine Q.Walk.guardF rfl rfl rfl (fun _ => rfl) rfl ?_; dsimp only [List.nil_append, List.cons_append]
    refine Q.Walk.plain rfl rfl (by intro val w_ hR hp; exact op_pick rfl rfl rfl rfl ⟨Chg.refl _ _, rfl⟩) ?_; dsimp only [List.nil_append, List.cons_append]
    refine Q.Walk.turn rfl (fun _ w => Blk w g2 33 (recL (decR b))) rfl (fun _ _ _ h hab => h.keep0 hab) ?_ ?_
    · intro val w_ hR hp
      exact op_store_agg T rfl rfl rfl rfl rfl rfl (hgood w_ hR) (by exact Nat.le_of_ble_eq_true rfl) (fun w7 hc7 hg57 _ => ⟨hc7, hg57⟩)
    refine Q.Walk.fin ?_
    intro val w10 hc10 hp hn
    obtain ⟨_, hb10⟩ := hn 13 (by omega) _ rfl rfl
    have hb10 : Blk w10 g2 33 (recL (decR b)) := hb10
    have hcend := hc9.trans hc10 (S' := [g2]) (S := []) (fun k hk hlt => by have := hS2 k hk; omega)
    refine WL_sub (e' := [(2, .pointer (some ⟨g2, 0, none⟩)), (41, .bool false)]) ⟨rfl, rfl, trivial⟩ ?_
    repeat (first | refine W_ret ?_ | refine Then_n ?_ | refine WL_nil ?_ | refine WL_some rfl rfl rfl ?_ | refine op_assign rfl rfl ?_)
    refine post2c T (.inl rfl) rfl rfl rfl rfl rfl hb10 rfl ⟨hcend, ?_⟩
    rw [hok]
end Go.Proofs.YtbhnplghnhafiaaDoor.Tryd
