import Derived.Test.YtbhnplghnhafiaaDoorRec2
/-! Readers; a record out of bytes. -/
set_option linter.unusedVariables false
namespace Go.Vc
open Go
theorem Walk.guardR {P : Program} {N : Nat} {S : List Nat} {l : List Oper} {e : Env} {w : World} {fin : List VS → Prop} {i j : Nat} {want : Bool} {r : List Oper} {Vs : List VS} {o : Oper} (R : Value → World → Prop) (hg : o.guard = some (j, want)) (hj : (predsOf o).contains j = true) (hjd : ((l[j]?).bind (·.dst)).isSome = true) (hb : ∀ val, valOf Vs val j = .bool want) (hR : ∀ v w w', R v w → Chg S w w' → R v w')
    (h : ∀ (val : Nat → Value) (w1 : World), Chg S w w1 → (∀ j, (predsOf o).contains j = true → ∀ oj d, l[j]? = some oj → oj.dst = some d → (vsAt Vs j).holds (valOf Vs val j) w1) → OpW P N o (opEnv l Vs e i o val) w1 (fun u w' => Chg S w1 w' ∧ R u w'))
    (hr : Walk P N S l e w fin (i + 1) r (Vs ++ [.r R])) : Walk P N S l e w fin i (o :: r) Vs :=
  by
  unfold Walk
  exact ⟨.r R, hR, fun val w1 hc hp => by rw [hg]; exact ⟨want, hj, hjd, hb val, (fun _ => h val w1 hc hp), (fun hn => by cases want <;> cases hn)⟩, hr⟩
theorem scanM_bound : ∀ (n : Nat) (b : List UInt8), b.length ≤ n → 12 * (scanM b).1.length ≤ b.length ∧ ∀ s ∈ (scanM b).1, s.length ≤ b.length
  | 0, b, h => by
    have : b = [] := List.eq_nil_of_length_eq_zero (by omega)
    subst this
    rw [scanM_nil]
    simp
  | n + 1, b, h => by
    rcases firstM_bound b with hz | ⟨h1, h2, h3⟩
    · rw [scanM_end hz]
      simp
    · rw [scanM_step (by omega)]
      have hd : (b.drop (firstM b).2.1).length = b.length - (firstM b).2.1 := List.length_drop
      have ih := scanM_bound n (b.drop (firstM b).2.1) (by omega)
      refine ⟨by simp only [List.length_cons]; omega, fun s hs => ?_⟩
      rcases List.mem_cons.1 hs with rfl | hs
      · omega
      · have := ih.2 s hs; omega
end Go.Vc
namespace Go.Proofs.YtbhnplghnhafiaaDoor.Tryd
open Go Go.Vc

/-- A reader of bytes that lay there in w0. -/
structure RdAt (w0 w : World) (g : Nat) (s : List UInt8 × Bool) : Prop where
  ex : ∃ A n c, Blk w g 107 [.slice A n c, .bool s.2] ∧ SliceOf Ru8 w0 (.slice A n c) s.1
  chg : Chg [] w0 w
  ge : w0.heap.size ≤ g
theorem RdAt.keep {w0 w w' : World} {g : Nat} {s : List UInt8 × Bool} {S : List Nat} (h : RdAt w0 w g s) (hc : Chg S w w') (hS : ∀ k ∈ S, w0.heap.size ≤ k) (hg : g ∉ S) : RdAt w0 w' g s :=
  let ⟨A, n, c, h1, h2⟩ := h.ex
  ⟨⟨A, n, c, h1.keep hc hg, h2⟩, h.chg.trans hc (fun k hk hlt => by have := hS k hk; omega), h.ge⟩
theorem RdAt.keep0 {w0 w w' : World} {g : Nat} {s : List UInt8 × Bool} (h : RdAt w0 w g s) (hc : Chg [] w w') : RdAt w0 w' g s := h.keep hc (fun k hk => by cases hk) (by simp)
theorem RdAt.lt {w0 w : World} {g : Nat} {s : List UInt8 × Bool} (h : RdAt w0 w g s) : g < w.heap.size := let ⟨_, _, _, h1, _⟩ := h.ex; h1.lt
theorem RdAt.own {w0 w w' : World} {g : Nat} {s : List UInt8 × Bool} (h : RdAt w0 w g s) (hc : Chg [g] w w') : Chg [] w0 w' := h.chg.trans hc (fun k hk hlt => by have := h.ge; simp at hk; omega)
theorem equal_has (A : Option Addr) (n c : Nat) (a : List UInt8) (A' : Option Addr) (n' c' : Nat) (b : List UInt8) (w : World) (ha : SliceOf Ru8 w (.slice A n c) a) (hb : SliceOf Ru8 w (.slice A' n' c') b) :
    Has Go.Proofs.Tryd.prog 75 #[.slice A n c, .slice A' n' c'] w (fun v w' => Chg [] w w' ∧ v = .bool (decide (a = b))) := by
  refine enter Go.Proofs.Tryd.func75 rfl rfl (by decide) rfl (e := [(0, .slice A n c), (1, .slice A' n' c')]) ⟨rfl, rfl, trivial⟩ ?_
  repeat (first | refine W_seq ?_ | refine W_region ?_ | refine Then_n ?_ | refine WL_nil ?_ | refine WL_some rfl rfl rfl ?_ | refine op_move rfl rfl ?_ | refine op_assign rfl rfl ?_)
  refine op_string T rfl rfl rfl rfl rfl ha ?_
  repeat (first | refine WL_some rfl rfl rfl ?_ | refine op_move rfl rfl ?_)
  refine op_string T rfl rfl rfl rfl rfl hb ?_
  repeat (refine WL_some rfl rfl rfl ?_)
  refine op_str_eql (a := a) (b := b) rfl rfl rfl (fun h => ?_) (fun h => ?_)
  · rw [decide_eq_true h]
    repeat (first | refine W_ret ?_ | refine Then_n ?_ | refine WL_nil ?_ | refine WL_some rfl rfl rfl ?_ | refine op_assign rfl rfl ?_)
    exact post1 (.inl rfl) rfl rfl ⟨Chg.refl _ _, rfl⟩
  · rw [decide_eq_false h]
    repeat (first | refine W_ret ?_ | refine Then_n ?_ | refine WL_nil ?_ | refine WL_some rfl rfl rfl ?_ | refine op_assign rfl rfl ?_)
    exact post1 (.inl rfl) rfl rfl ⟨Chg.refl _ _, rfl⟩
theorem step_has (w0 : World) (g : Nat) (s : List UInt8 × Bool) (n : Nat) (w : World) (hx : RdAt w0 w g s) (hn : n ≤ s.1.length) :
    Has Go.Proofs.Tryd.prog 85 #[.pointer (some ⟨g, 0, none⟩), .int .i64 (n : Int)] w (fun v w' => Chg [g] w w' ∧ RdAt w0 w' g (stepM s n)) := by
  refine enter Go.Proofs.Tryd.func85 rfl rfl (by decide) rfl (e := [(0, .pointer (some ⟨g, 0, none⟩)), (1, .int .i64 (n : Int))]) ⟨rfl, rfl, trivial⟩ ?_
  have hx0 := hx
  obtain ⟨A, k, c, hb, hf⟩ := hx.ex
  obtain ⟨l, bad⟩ := s
  dsimp only at hb hf hn
  have hnil : ∀ w', SliceOf Ru8 w' (.slice none 0 0) [] := fun w' => SliceOf.nil _ _
  cases bad with
  | true =>
    rw [show stepM (l, true) n = ([], true) from rfl]
    repeat (first | refine W_seq ?_ | refine W_region ?_ | refine WL_some rfl rfl rfl ?_ | refine WL_none rfl rfl ?_ | refine WL_guardF rfl rfl rfl rfl rfl ?_ | refine op_move rfl rfl ?_ | refine op_pick rfl rfl rfl rfl ?_ | refine op_nilCheck rfl rfl ?_ | refine op_fieldAddr T rfl rfl rfl rfl rfl rfl rfl rfl ?_ | refine op_loadB T rfl rfl rfl rfl (by assumption) (by exact rfl) ?_)
    refine op_store T rfl rfl rfl rfl rfl rfl hb (by simp) (fun w1 hc1 hb1 _ => ?_)
    have hb1 : Blk w1 g 107 [.slice A k c, .bool true] := hb1
    repeat (first | refine W_seq ?_ | refine W_region ?_ | refine Then_n ?_ | refine WL_nil ?_ | refine W_condT rfl ?_ | refine WL_some rfl rfl rfl ?_ | refine WL_none rfl rfl ?_ | refine op_move rfl rfl ?_ | refine op_nilCheck rfl rfl ?_ | refine op_fieldAddr T rfl rfl rfl rfl rfl rfl rfl rfl ?_ | refine op_loadB T rfl rfl rfl rfl (by assumption) (by exact rfl) ?_)
    refine op_store T rfl rfl rfl rfl rfl rfl hb1 (by simp) (fun w2 hc2 hb2 _ => ?_)
    repeat (first | refine W_ret ?_ | refine Then_n ?_ | refine Then_r ?_ | refine WL_nil ?_)
    exact post0 (.inl rfl) rfl ⟨hc1.trans hc2 (fun k hk _ => hk), ⟨none, 0, 0, hb2, hnil _⟩, hx0.own (hc1.trans hc2 (fun k hk _ => hk)), hx0.ge⟩
  | false =>
    by_cases h0 : n = 0
    · rw [show stepM (l, false) n = ([], true) from by unfold stepM; rw [if_pos (.inr h0)]]
      repeat (first | refine W_seq ?_ | refine W_region ?_ | refine WL_some rfl rfl rfl ?_ | refine WL_none rfl rfl ?_ | refine WL_guardT rfl rfl rfl rfl ?_ | refine op_move rfl rfl ?_ | refine op_pick rfl rfl rfl rfl ?_ | refine op_nilCheck rfl rfl ?_ | refine op_eql rfl rfl rfl (fun hc => ?_) (fun hc => False.elim (by omega)) | refine op_fieldAddr T rfl rfl rfl rfl rfl rfl rfl rfl ?_ | refine op_loadB T rfl rfl rfl rfl (by assumption) (by exact rfl) ?_)
      refine op_store T rfl rfl rfl rfl rfl rfl hb (by simp) (fun w1 hc1 hb1 _ => ?_)
      have hb1 : Blk w1 g 107 [.slice A k c, .bool true] := hb1
      repeat (first | refine W_seq ?_ | refine W_region ?_ | refine Then_n ?_ | refine WL_nil ?_ | refine W_condT rfl ?_ | refine WL_some rfl rfl rfl ?_ | refine WL_none rfl rfl ?_ | refine op_move rfl rfl ?_ | refine op_nilCheck rfl rfl ?_ | refine op_fieldAddr T rfl rfl rfl rfl rfl rfl rfl rfl ?_ | refine op_loadB T rfl rfl rfl rfl (by assumption) (by exact rfl) ?_)
      refine op_store T rfl rfl rfl rfl rfl rfl hb1 (by simp) (fun w2 hc2 hb2 _ => ?_)
      repeat (first | refine W_ret ?_ | refine Then_n ?_ | refine Then_r ?_ | refine WL_nil ?_)
      exact post0 (.inl rfl) rfl ⟨hc1.trans hc2 (fun k hk _ => hk), ⟨none, 0, 0, hb2, hnil _⟩, hx0.own (hc1.trans hc2 (fun k hk _ => hk)), hx0.ge⟩
    · rw [show stepM (l, false) n = (l.drop n, false) from by unfold stepM; rw [if_neg (fun h => h.elim (fun h => by cases h) h0)]]
      repeat (first | refine W_seq ?_ | refine W_region ?_ | refine WL_some rfl rfl rfl ?_ | refine WL_none rfl rfl ?_ | refine WL_guardT rfl rfl rfl rfl ?_ | refine op_move rfl rfl ?_ | refine op_pick rfl rfl rfl rfl ?_ | refine op_nilCheck rfl rfl ?_ | refine op_eql rfl rfl rfl (fun hc => False.elim (by omega)) (fun hc => ?_) | refine op_fieldAddr T rfl rfl rfl rfl rfl rfl rfl rfl ?_ | refine op_loadB T rfl rfl rfl rfl (by assumption) (by exact rfl) ?_)
      refine op_store T rfl rfl rfl rfl rfl rfl hb (by simp) (fun w1 hc1 hb1 _ => ?_)
      have hb1 : Blk w1 g 107 [.slice A k c, .bool false] := hb1
      have hf1 := SliceOf.kept Ru8.kept _ _ _ _ (hx0.own hc1) hf
      repeat (first | refine W_seq ?_ | refine W_region ?_ | refine W_skip ?_ | refine Then_n ?_ | refine WL_nil ?_ | refine W_condF rfl ?_ | refine WL_some rfl rfl rfl ?_ | refine op_move rfl rfl ?_ | refine op_nilCheck rfl rfl ?_ | refine op_fieldAddr T rfl rfl rfl rfl rfl rfl rfl rfl ?_ | refine op_loadB T rfl rfl rfl rfl (by assumption) (by exact rfl) ?_)
      refine op_cut T (l := n) (h' := l.length) rfl rfl rfl rfl rfl ⟨_, rfl⟩ hf1.len.1.symm hf1 hn (Nat.le_refl _) (fun A' hA' => ?_)
      repeat (first | refine WL_some rfl rfl rfl ?_ | refine WL_none rfl rfl ?_ | refine op_nilCheck rfl rfl ?_ | refine op_fieldAddr T rfl rfl rfl rfl rfl rfl rfl rfl ?_)
      refine op_store T rfl rfl rfl rfl rfl rfl hb1 (by simp) (fun w2 hc2 hb2 _ => ?_)
      repeat (refine WL_nil ?_)
      have hf0 := hA' w0 hf
      rw [List.take_length] at hf0
      exact post0 (.inr rfl) rfl ⟨hc1.trans hc2 (fun k hk _ => hk), ⟨A', _, _, hb2, hf0⟩, hx0.own (hc1.trans hc2 (fun k hk _ => hk)), hx0.ge⟩
theorem num_has (w0 : World) (g : Nat) (s : List UInt8 × Bool) (most : Nat) (w : World) (hx : RdAt w0 w g s) (hm : most < 9223372036854775808) :
    Has Go.Proofs.Tryd.prog 72 #[.pointer (some ⟨g, 0, none⟩), .int .i64 (most : Int)] w (fun v w' => Chg [g] w w' ∧ v = .int .i64 ((numM s most).1 : Int) ∧ RdAt w0 w' g (numM s most).2) := by
  refine enter Go.Proofs.Tryd.func72 rfl rfl (by decide) rfl (e := [(0, .pointer (some ⟨g, 0, none⟩)), (1, .int .i64 (most : Int))]) ⟨rfl, rfl, trivial⟩ ?_
  have hx0 := hx
  obtain ⟨A, k, c, hb, hf⟩ := hx.ex
  have hnow := SliceOf.kept Ru8.kept _ _ _ _ hx.chg hf
  repeat (first | refine W_seq ?_ | refine W_region ?_ | refine Then_n ?_ | refine WL_nil ?_ | refine WL_some rfl rfl rfl ?_ | refine op_move rfl rfl ?_ | refine op_assign rfl rfl ?_ | refine op_nilCheck rfl rfl ?_ | refine op_fieldAddr T rfl rfl rfl rfl rfl rfl rfl rfl ?_ | refine op_loadB T rfl rfl rfl rfl (by assumption) (by exact rfl) ?_)
  refine op_call rfl rfl rfl (get_has A k c s.1 w hnow) ?_
  rintro _ _ ⟨rfl, rfl⟩
  have hbd := getM_bound s.1
  unfold numM
  generalize getM s.1 = q at *
  obtain ⟨n, kk⟩ := q
  dsimp only at *
  by_cases hbig : most < n
  · rw [if_pos hbig]
    repeat (first | refine W_seq ?_ | refine W_region ?_ | refine Then_n ?_ | refine WL_nil ?_ | refine WL_some rfl rfl rfl ?_ | refine op_move rfl rfl ?_ | refine op_assign rfl rfl ?_ | refine op_extract rfl rfl rfl ?_)
    refine op_convert_fit T rfl rfl rfl rfl (wrap_u64_in (by omega) (by omega)) ?_
    repeat (first | refine W_seq ?_ | refine W_region ?_ | refine Then_n ?_ | refine WL_nil ?_ | refine W_condT rfl ?_ | refine WL_some rfl rfl rfl ?_ | refine op_move rfl rfl ?_ | refine op_assign rfl rfl ?_ | refine op_gtr rfl rfl rfl (fun hc => ?_) (fun hc => False.elim (by omega)))
    refine op_call rfl rfl rfl (step_has w0 g s 0 _ hx0 (Nat.zero_le _)) ?_
    rintro v w1 ⟨hc1, hx1⟩
    rw [show stepM s 0 = ([], true) from by unfold stepM; rw [if_pos (.inr rfl)]] at hx1 ⊢
    have hx2 := hx1
    obtain ⟨A1, k1, c1, hb1, hf1⟩ := hx1.ex
    rw [if_pos rfl]
    repeat (first | refine W_seq ?_ | refine W_region ?_ | refine W_ret ?_ | refine Then_n ?_ | refine Then_r ?_ | refine WL_nil ?_ | refine W_condT rfl ?_ | refine WL_some rfl rfl rfl ?_ | refine op_move rfl rfl ?_ | refine op_assign rfl rfl ?_ | refine op_nilCheck rfl rfl ?_ | refine op_fieldAddr T rfl rfl rfl rfl rfl rfl rfl rfl ?_ | refine op_loadB T rfl rfl rfl rfl (by assumption) (by exact rfl) ?_)
    exact post1 (.inl rfl) rfl rfl ⟨hc1, rfl, hx2⟩
  · rw [if_neg hbig]
    repeat (first | refine W_seq ?_ | refine W_region ?_ | refine Then_n ?_ | refine WL_nil ?_ | refine WL_some rfl rfl rfl ?_ | refine op_move rfl rfl ?_ | refine op_assign rfl rfl ?_ | refine op_extract rfl rfl rfl ?_)
    refine op_convert_fit T rfl rfl rfl rfl (wrap_u64_in (by omega) (by omega)) ?_
    repeat (first | refine W_seq ?_ | refine W_region ?_ | refine W_skip ?_ | refine Then_n ?_ | refine WL_nil ?_ | refine W_condF rfl ?_ | refine WL_some rfl rfl rfl ?_ | refine op_move rfl rfl ?_ | refine op_gtr rfl rfl rfl (fun hc => False.elim (by omega)) (fun hc => ?_))
    refine op_call rfl rfl rfl (step_has w0 g s kk _ hx0 (by omega)) ?_
    rintro v w1 ⟨hc1, hx1⟩
    have hx2 := hx1
    obtain ⟨A1, k1, c1, hb1, hf1⟩ := hx1.ex
    generalize stepM s kk = z at *
    obtain ⟨l', bad⟩ := z
    dsimp only at *
    cases bad with
    | true =>
      rw [if_pos rfl]
      repeat (first | refine W_seq ?_ | refine W_region ?_ | refine W_ret ?_ | refine Then_n ?_ | refine Then_r ?_ | refine WL_nil ?_ | refine W_condT rfl ?_ | refine WL_some rfl rfl rfl ?_ | refine op_move rfl rfl ?_ | refine op_assign rfl rfl ?_ | refine op_nilCheck rfl rfl ?_ | refine op_fieldAddr T rfl rfl rfl rfl rfl rfl rfl rfl ?_ | refine op_loadB T rfl rfl rfl rfl (by assumption) (by exact rfl) ?_)
      exact post1 (.inl rfl) rfl rfl ⟨hc1, rfl, hx2⟩
    | false =>
      rw [if_neg (by simp)]
      repeat (first | refine W_seq ?_ | refine W_region ?_ | refine W_skip ?_ | refine Then_n ?_ | refine WL_nil ?_ | refine W_condF rfl ?_ | refine WL_some rfl rfl rfl ?_ | refine op_move rfl rfl ?_ | refine op_nilCheck rfl rfl ?_ | refine op_fieldAddr T rfl rfl rfl rfl rfl rfl rfl rfl ?_ | refine op_loadB T rfl rfl rfl rfl (by assumption) (by exact rfl) ?_)
      refine op_convert_fit T rfl rfl rfl rfl (wrap_i64_in (by omega) (by omega)) ?_
      repeat (first | refine W_ret ?_ | refine Then_n ?_ | refine WL_nil ?_ | refine WL_some rfl rfl rfl ?_ | refine op_assign rfl rfl ?_)
      exact post1 (.inl rfl) rfl rfl ⟨hc1, rfl, hx2⟩
theorem rtext_has (w0 : World) (g : Nat) (s : List UInt8 × Bool) (w : World) (hx : RdAt w0 w g s) :
    Has Go.Proofs.Tryd.prog 73 #[.pointer (some ⟨g, 0, none⟩)] w (fun v w' => Chg [g] w w' ∧ v = .string (str (readM' s).1) ∧ RdAt w0 w' g (readM' s).2) := by
  refine enter Go.Proofs.Tryd.func73 rfl rfl (by decide) rfl (e := [(0, .pointer (some ⟨g, 0, none⟩))]) ⟨rfl, trivial⟩ ?_
  have hx0 := hx
  obtain ⟨A, k, c, hb, hf⟩ := hx.ex
  have hnow := SliceOf.kept Ru8.kept _ _ _ _ hx.chg hf
  repeat (first | refine W_seq ?_ | refine W_region ?_ | refine Then_n ?_ | refine WL_nil ?_ | refine WL_some rfl rfl rfl ?_ | refine op_move rfl rfl ?_ | refine op_assign rfl rfl ?_ | refine op_nilCheck rfl rfl ?_ | refine op_fieldAddr T rfl rfl rfl rfl rfl rfl rfl rfl ?_ | refine op_loadB T rfl rfl rfl rfl (by assumption) (by exact rfl) ?_)
  refine op_call rfl rfl rfl (getText_has A k c s.1 w hnow) ?_
  rintro _ _ ⟨rfl, rfl⟩
  have hbd := getTextM_bound s.1
  unfold readM'
  generalize getTextM s.1 = q at *
  obtain ⟨t, kk⟩ := q
  dsimp only at *
  repeat (first | refine W_seq ?_ | refine W_region ?_ | refine Then_n ?_ | refine WL_nil ?_ | refine WL_some rfl rfl rfl ?_ | refine op_move rfl rfl ?_ | refine op_assign rfl rfl ?_ | refine op_extract rfl rfl rfl ?_)
  refine op_call rfl rfl rfl (step_has w0 g s kk _ hx0 (by omega)) ?_
  rintro v w1 ⟨hc1, hx1⟩
  have hx2 := hx1
  obtain ⟨A1, k1, c1, hb1, hf1⟩ := hx1.ex
  generalize stepM s kk = z at *
  obtain ⟨l', bad⟩ := z
  dsimp only at *
  cases bad with
  | true =>
    rw [if_pos rfl]
    repeat (first | refine W_seq ?_ | refine W_region ?_ | refine W_ret ?_ | refine Then_n ?_ | refine Then_r ?_ | refine WL_nil ?_ | refine W_condT rfl ?_ | refine WL_some rfl rfl rfl ?_ | refine op_move rfl rfl ?_ | refine op_assign rfl rfl ?_ | refine op_nilCheck rfl rfl ?_ | refine op_fieldAddr T rfl rfl rfl rfl rfl rfl rfl rfl ?_ | refine op_loadB T rfl rfl rfl rfl (by assumption) (by exact rfl) ?_)
    exact post1 (.inl rfl) rfl rfl ⟨hc1, rfl, hx2⟩
  | false =>
    rw [if_neg (by simp)]
    repeat (first | refine W_seq ?_ | refine W_region ?_ | refine W_skip ?_ | refine W_ret ?_ | refine Then_n ?_ | refine WL_nil ?_ | refine W_condF rfl ?_ | refine WL_some rfl rfl rfl ?_ | refine op_move rfl rfl ?_ | refine op_assign rfl rfl ?_ | refine op_nilCheck rfl rfl ?_ | refine op_fieldAddr T rfl rfl rfl rfl rfl rfl rfl rfl ?_ | refine op_loadB T rfl rfl rfl rfl (by assumption) (by exact rfl) ?_)
    exact post1 (.inl rfl) rfl rfl ⟨hc1, rfl, hx2⟩
theorem done_has (w0 : World) (g : Nat) (s : List UInt8 × Bool) (w : World) (hx : RdAt w0 w g s) :
    Has Go.Proofs.Tryd.prog 74 #[.pointer (some ⟨g, 0, none⟩)] w (fun v w' => Chg [] w w' ∧ v = .bool (decide (s.2 = false ∧ s.1 = []))) := by
  refine enter Go.Proofs.Tryd.func74 rfl rfl (by decide) rfl (e := [(0, .pointer (some ⟨g, 0, none⟩))]) ⟨rfl, trivial⟩ ?_
  obtain ⟨A, k, c, hb, hf⟩ := hx.ex
  obtain ⟨l, bad⟩ := s
  dsimp only at *
  obtain ⟨rfl, _, _⟩ := hf.len
  cases bad with
  | true =>
    rw [decide_eq_false (by simp)]
    repeat (first | refine W_seq ?_ | refine W_region ?_ | refine W_ret ?_ | refine Then_n ?_ | refine WL_nil ?_ | refine WL_some rfl rfl rfl ?_ | refine WL_guardF rfl rfl rfl rfl rfl ?_ | refine op_move rfl rfl ?_ | refine op_assign rfl rfl ?_ | refine op_pick rfl rfl rfl rfl ?_ | refine op_notT rfl rfl ?_ | refine op_nilCheck rfl rfl ?_ | refine op_fieldAddr T rfl rfl rfl rfl rfl rfl rfl rfl ?_ | refine op_loadB T rfl rfl rfl rfl (by assumption) (by exact rfl) ?_)
    exact post1 (.inl rfl) rfl rfl ⟨Chg.refl _ _, rfl⟩
  | false =>
    by_cases hl : l.length = 0
    · rw [decide_eq_true ⟨rfl, List.eq_nil_of_length_eq_zero hl⟩]
      repeat (first | refine W_seq ?_ | refine W_region ?_ | refine W_ret ?_ | refine Then_n ?_ | refine WL_nil ?_ | refine WL_some rfl rfl rfl ?_ | refine WL_guardT rfl rfl rfl rfl ?_ | refine op_move rfl rfl ?_ | refine op_assign rfl rfl ?_ | refine op_pick rfl rfl rfl rfl ?_ | refine op_len_slice T rfl rfl rfl rfl ?_ | refine op_notF rfl rfl ?_ | refine op_nilCheck rfl rfl ?_ | refine op_eql rfl rfl rfl (fun hc => ?_) (fun hc => False.elim (by omega)) | refine op_fieldAddr T rfl rfl rfl rfl rfl rfl rfl rfl ?_ | refine op_loadB T rfl rfl rfl rfl (by assumption) (by exact rfl) ?_)
      exact post1 (.inl rfl) rfl rfl ⟨Chg.refl _ _, rfl⟩
    · rw [decide_eq_false (by rintro ⟨_, rfl⟩; exact hl rfl)]
      repeat (first | refine W_seq ?_ | refine W_region ?_ | refine W_ret ?_ | refine Then_n ?_ | refine WL_nil ?_ | refine WL_some rfl rfl rfl ?_ | refine WL_guardT rfl rfl rfl rfl ?_ | refine op_move rfl rfl ?_ | refine op_assign rfl rfl ?_ | refine op_pick rfl rfl rfl rfl ?_ | refine op_len_slice T rfl rfl rfl rfl ?_ | refine op_notF rfl rfl ?_ | refine op_nilCheck rfl rfl ?_ | refine op_eql rfl rfl rfl (fun hc => False.elim (by omega)) (fun hc => ?_) | refine op_fieldAddr T rfl rfl rfl rfl rfl rfl rfl rfl ?_ | refine op_loadB T rfl rfl rfl rfl (by assumption) (by exact rfl) ?_)
      exact post1 (.inl rfl) rfl rfl ⟨Chg.refl _ _, rfl⟩
end Go.Proofs.YtbhnplghnhafiaaDoor.Tryd
