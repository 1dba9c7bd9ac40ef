/- Part 3 of the texts that the law of the last one leans on: steps of the walk and contracts of functions. Its conditions stand in each theorem. -/
import Derived.Test.YtiadjkjlifnopaaGreatDoorScrubFailsK2
import Derived.Test.YtiadjkjlifnopaaGreatDoorScrubFailsK1
import Derived.Shelf.SlSortCmp.QuietGrown
set_option linter.unusedVariables false
set_option linter.unusedSimpArgs false
/-! Edits: decode. -/
namespace Go.Proofs.YtiadjkjlifnopaaGreatDoor.Tryz
open Go Go.Vc
set_option maxHeartbeats 8000000 in
theorem decode_has (A : Option Addr) (n c : Nat) (b : List UInt8) (w : World) (hl : SliceOf Ru8 w (.slice A n c) b) :
  Has Tryz.prog 110 #[.slice A n c] w (fun v w' => Chg [] w w' ∧ ∃ x : EdV, v = .tuple #[.agg (edL x).toArray, .bool (decE b).2] ∧ x.e = (decE b).1 ∧ EOwn w' x ∧ EdI x.e ∧ EFr w.heap.size x) := by
 obtain ⟨rfl, hl1, hl2⟩ := hl.len
 unfold maxLen at hl2
 refine enter Tryz.func110 rfl rfl (by decide) rfl (e := [(0, .slice A b.length c)]) ⟨rfl, trivial⟩ ?_
 refine run ?_
 refine go T 2 rfl ?_
 refine o1 rfl ?_
 refine op_alloc T rfl rfl (fun g2 w1 hs1 hc1 h2 => ?_)
 have h2 : Blk w1 g2 49 [.int .i64 0, .int .i64 0, .slice none 0 0, .slice none 0 0, .slice none 0 0, .slice none 0 0] := h2
 refine go T 6 rfl ?_
 refine o1 rfl (op_build T rfl rfl rfl rfl rfl rfl ?_)
 refine o1 rfl ?_
 refine op_box rfl rfl (fun g4 w2 hs2 hc2 h4 => ?_)
 have h4 : Blk w2 g4 204 [.slice A b.length c, .bool false] := h4
 have hc02 := hc1.trans' hc2
 have x2 : RdAt w w2 g4 (b, false) := ⟨⟨A, b.length, c, h4, hl⟩, hc02, by have := hc1.size; omega⟩
 replace h2 := h2.keep0 hc2
 clear h4 hc1 hc2 hs2
 have hE : editD b = editD b := rfl
 conv at hE => rhs; unfold editD
 dsimp only at hE
 have hdec : decE b = ((editD b).1, decide ((editD b).2.2 = false ∧ (editD b).2.1 = []) && (editB (editD b).1 && decide (textE (editD b).1 = b))) := rfl
 generalize decE b = qd at *
 generalize editD b = eD at *
 refine go T 6 rfl ?_
 refine o1 rfl ?_
 refine op_call rfl rfl rfl (num_has w g4 (b, false) 1125899906842624 w2 x2 (by decide)) ?_
 rintro _ w3 ⟨hc3, rfl, x3⟩
 replace h2 := h2.keep hc3 (x2.ne h2 (by decide))
 have hb1 := numM_le (b, false) 1125899906842624
 generalize numM (b, false) 1125899906842624 = N1 at *
 refine go T 1 rfl ?_
 refine o1 rfl ?_
 refine op_call rfl rfl rfl (num_has w g4 N1.2 1125899906842624 w3 x3 (by decide)) ?_
 rintro _ w4 ⟨hc4, rfl, x4⟩
 replace h2 := h2.keep hc4 (x3.ne h2 (by decide))
 have hb2 := numM_le N1.2 1125899906842624
 generalize numM N1.2 1125899906842624 = N2 at *
 refine o1 rfl (op_build T rfl rfl rfl rfl rfl rfl ?_)
 refine o1 rfl ?_
 refine op_alloc T rfl rfl (fun g5 w5 hs5 hc5 h5 => ?_)
 have h5 : Blk w5 g5 49 [.int .i64 0, .int .i64 0, .slice none 0 0, .slice none 0 0, .slice none 0 0, .slice none 0 0] := h5
 have hlt2 := h2.lt
 replace h2 := h2.keep0 hc5
 replace x4 := x4.keep0 hc5
 refine op0 rfl rfl ?_
 refine op_store_agg T rfl rfl rfl rfl rfl rfl h5 (by exact Nat.le_of_ble_eq_true rfl) (fun w6 hc6 h56 _ => ?_)
 have h56 : Blk w6 g5 49 [.int .i64 N1.1, .int .i64 N2.1, .slice none 0 0, .slice none 0 0, .slice none 0 0, .slice none 0 0] := h56
 have hf5 : w.heap.size ≤ g5 := by have := x4.chg.size; have := hc02.size; have := hc3.size; have := hc4.size; omega
 have hs1' : w.heap.size ≤ g2 := hs1
 have d6 : DcAt w w6 g2 g4 g5 N2.2 [.int .i64 N1.1, .int .i64 N2.1, .slice none 0 0, .slice none 0 0, .slice none 0 0, .slice none 0 0] :=
  ⟨x4.keep hc6 (fun k hk => by simp at hk; omega) (fun hm => by simp at hm; obtain ⟨cs, hr⟩ := x4.blk; subst hm; exact hr.ne_ h5 (by decide) rfl), h2.keep hc6 (by simp; omega), h56, by omega, hs1', hf5⟩
 clear h2 h5 h56 x4 x3 x2 hc02 hc3 hc4 hc5 hc6 hs1 hs5 hlt2
 refine go T 6 rfl ?_
 refine o1 rfl ?_
 refine op_call rfl rfl rfl (num_has w g4 N2.2 60 w6 d6.rd (by decide)) ?_
 rintro _ w7 ⟨hc7, rfl, x7⟩
 replace d6 := d6.read hc7 x7
 have hb3 := numM_le N2.2 60
 generalize numM N2.2 60 = N3 at *
 obtain ⟨nA, s3⟩ := N3
 dsimp only at d6 hb3 ⊢
 clear x7 hc7
 refine go T 4 rfl ?_
 refine W_loop (σ := Nat × List SegM × RS × Value) (fun q => [(0, .slice A b.length c), (2, .pointer (some ⟨g2, 0, none⟩)), (4, .pointer (some ⟨g4, 0, none⟩)), (5, .pointer (some ⟨g5, 0, none⟩)), (17, .int .i64 nA), (18, .int .i64 q.1)])
  (fun q w' => q.1 ≤ nA ∧ q.2.1.length = q.1 ∧ (∀ x ∈ q.2.1, SegI x) ∧ segsD nA s3 = (q.2.1 ++ (segsD (nA - q.1) q.2.2.1).1, (segsD (nA - q.1) q.2.2.1).2) ∧ DcAt w w' g2 g4 g5 q.2.2.1 [.int .i64 N1.1, .int .i64 N2.1, q.2.2.2, .slice none 0 0, .slice none 0 0, .slice none 0 0] ∧ Own w' 26 6 q.2.2.2 q.2.1.length (q.2.1.flatMap segL) ∧ (∀ h, q.2.2.2.ownBlock = some h → w.heap.size ≤ h))
  (fun q => nA - q.1) (0, [], s3, .slice none 0 0) ⟨rfl, rfl, rfl, rfl, rfl, rfl, trivial⟩ ⟨Nat.zero_le _, rfl, by simp, by simp, d6, Own.nil _ _ _, fun h hh => by simp [Value.ownBlock] at hh⟩ ?_
 clear d6
 rintro ⟨i, l, s, u⟩ w8 ⟨hi, hll, hlI, hD, d, ho, hf⟩
 dsimp only at hi hll hlI hD d ho hf ⊢
 refine run ?_
 refine go T 2 rfl ?_
 refine ltS rfl rfl rfl rfl (fun hcmp => ?_) (fun hcmp => ?_)
 ·rw [show nA - i = (nA - (i + 1)) + 1 from by omega, segsD] at hD
  unfold segD at hD
  dsimp only at hD
  refine go T 11 rfl ?_
  refine o1 rfl ?_
  refine op_call rfl rfl rfl (num_has w g4 s 1125899906842624 w8 d.rd (by decide)) ?_
  rintro _ w9 ⟨hc, rfl, xr⟩
  replace ho := ho.keep hc (d.rd.out ho (by decide))
  replace d := d.read hc xr
  have k1 := numM_le s 1125899906842624
  generalize numM s 1125899906842624 = M1 at *
  clear hc xr
  refine go T 1 rfl ?_
  refine o1 rfl ?_
  refine op_call rfl rfl rfl (num_has w g4 M1.2 1 w9 d.rd (by decide)) ?_
  rintro _ w10 ⟨hc, rfl, xr⟩
  replace ho := ho.keep hc (d.rd.out ho (by decide))
  replace d := d.read hc xr
  have k2 := numM_le M1.2 1
  generalize numM M1.2 1 = M2 at *
  clear hc xr
  skip
  refine o1 rfl ?_
  refine op_eql_d rfl rfl rfl ?_
  rw [show decide (((M2.1 : Nat) : Int) = 1) = decide (M2.1 = 1) from by congr 1; simp; omega]
  refine go T 1 rfl ?_
  refine o1 rfl ?_
  refine op_call rfl rfl rfl (num_has w g4 M2.2 1125899906842624 w10 d.rd (by decide)) ?_
  rintro _ w11 ⟨hc, rfl, xr⟩
  replace ho := ho.keep hc (d.rd.out ho (by decide))
  replace d := d.read hc xr
  have k3 := numM_le M2.2 1125899906842624
  generalize numM M2.2 1125899906842624 = M3 at *
  clear hc xr
  refine go T 1 rfl ?_
  refine o1 rfl ?_
  refine op_call rfl rfl rfl (num_has w g4 M3.2 3 w11 d.rd (by decide)) ?_
  rintro _ w12 ⟨hc, rfl, xr⟩
  replace ho := ho.keep hc (d.rd.out ho (by decide))
  replace d := d.read hc xr
  have k4 := numM_le M3.2 3
  generalize numM M3.2 3 = M4 at *
  clear hc xr
  refine go T 1 rfl ?_
  refine o1 rfl ?_
  refine op_call rfl rfl rfl (num_has w g4 M4.2 4194304 w12 d.rd (by decide)) ?_
  rintro _ w13 ⟨hc, rfl, xr⟩
  replace ho := ho.keep hc (d.rd.out ho (by decide))
  replace d := d.read hc xr
  have k5 := numM_le M4.2 4194304
  generalize numM M4.2 4194304 = M5 at *
  clear hc xr
  refine o1 rfl (op_build T rfl rfl rfl rfl rfl rfl ?_)
  refine o1 rfl ?_
  refine op_alloc T rfl rfl (fun g6 w14 hs6 hc6 h6 => ?_)
  have h6 : Blk w14 g6 26 [.int .i64 0, .bool false, .int .i64 0, .int .i64 0, .int .i64 0, .int .u32 0] := h6
  refine op0 rfl rfl ?_
  refine op_store_agg T rfl rfl rfl rfl rfl rfl h6 (by exact Nat.le_of_ble_eq_true rfl) (fun w15 hc7 h67 _ => ?_)
  have h67 : Blk w15 g6 26 [.int .i64 (M1.1 : Nat), .bool (decide (M2.1 = 1)), .int .i64 (M3.1 : Nat), .int .i64 (M4.1 : Nat), .int .i64 (M5.1 : Nat), .int .u32 0] := h67
  have hc67 : Chg [] w13 w15 := hc6.trans hc7 (fun k hk hlt => by simp at hk; subst hk; have : w13.heap.size ≤ k := hs6; omega)
  have h6u : g6 ∉ u.ownBlock.toList := out_lt ho hs6
  have h6w : w.heap.size ≤ g6 := by have := d.rd.chg.size; have : w13.heap.size ≤ g6 := hs6; omega
  replace ho := ho.keep0 hc67
  replace d := d.keep0 hc67
  clear h6 hc6 hc7 hs6 hc67
  refine go T 5 rfl ?_
  refine o1 rfl ?_
  refine op_call rfl rfl rfl (num_has w g4 M5.2 4294967295 w15 d.rd (by decide)) ?_
  rintro _ w16 ⟨hc, rfl, xr⟩
  replace ho := ho.keep hc (d.rd.out ho (by decide))
  replace h67 := h67.keep hc (d.rd.ne h67 (by decide))
  replace d := d.read hc xr
  have k6 := numM_le M5.2 4294967295
  generalize numM M5.2 4294967295 = M6 at *
  clear hc xr
  refine o1 rfl (op_convert_fit T rfl rfl rfl rfl (wrap_u32_in (by omega) (by omega)) ?_)
  refine go T 1 rfl ?_
  refine op0 rfl rfl ?_
  refine op_store T rfl rfl rfl rfl rfl rfl h67 (by simp) (fun w17 hc8 h68 _ => ?_)
  have h68 : Blk w17 g6 26 (segL ⟨(M1.1 : Nat), decide (M2.1 = 1), (M3.1 : Nat), (M4.1 : Nat), (M5.1 : Nat), M6.1⟩) := h68
  replace ho := ho.keep hc8 (fun k hk hm => by simp at hm; subst hm; exact h6u (by simpa using hk))
  obtain ⟨cr, hrb⟩ := d.rd.blk
  replace d := d.keepN hc8 (fun hm => by simp at hm; subst hm; exact d.b2.ne_ h67 (by decide) rfl) (fun hm => by simp at hm; subst hm; exact hrb.ne_ h67 (by decide) rfl) (fun hm => by simp at hm; subst hm; exact d.b5.ne_ h67 (by decide) rfl) (fun k hk => by simp at hk; omega)
  clear h67 hc8 h6u hrb
  have hzI : SegI (SegM.mk (M1.1 : Nat) (decide (M2.1 = 1)) (M3.1 : Nat) (M4.1 : Nat) (M5.1 : Nat) M6.1) := ⟨by unfold I64; dsimp only; omega, by unfold I64; dsimp only; omega, by unfold I64; dsimp only; omega, by unfold I64; dsimp only; omega, by dsimp only; omega⟩
  generalize (SegM.mk (M1.1 : Nat) (decide (M2.1 = 1)) (M3.1 : Nat) (M4.1 : Nat) (M5.1 : Nat) M6.1) = z at *
  have hb5 := d.b5
  unfold segL at h68
  refine go T 4 rfl ?_
  refine ldB T hb5 rfl rfl rfl rfl rfl rfl ?_
  refine o1 rfl (op_load_agg T rfl rfl rfl rfl h68 (by exact Nat.le_of_ble_eq_true rfl) (by exact rfl) ?_)
  refine o1 rfl ?_
  refine op_buildSlice T rfl rfl rfl rfl rfl rfl rfl (fun g7 w18 hs7 hc9 h7 => ?_)
  have h7 : Blk w18 g7 26 (segL z) := h7
  replace ho := ho.keep0 hc9
  replace d := d.keep0 hc9
  have hwsz := d.rd.chg.size
  clear hb5 hc9
  refine o1 rfl ?_
  refine op_appendK T segL_len rfl rfl rfl rfl rfl rfl rfl rfl rfl rfl ho h7 (segL_one z) (by omega) (fun u' w19 hu' hc10 hbu => ?_)
  replace d := d.row ho hf (by decide) (by decide) hc10
  have hfu := fresh_of hf hwsz hbu
  obtain ⟨Au, cu, rfl, _, _⟩ := hu'.form
  refine go T 1 rfl ?_
  refine op0 rfl rfl ?_
  refine op_store T rfl rfl rfl rfl rfl rfl d.b5 (by simp) (fun w20 hc11 h511 _ => ?_)
  have h511 : Blk w20 g5 49 [.int .i64 N1.1, .int .i64 N2.1, .slice Au (l ++ [z]).length cu, .slice none 0 0, .slice none 0 0, .slice none 0 0] := h511
  replace hu' := hu'.keep hc11 (fun k hk hm => by simp at hm; subst hm; exact out_of d.b5 hu' (by decide) (by simpa using hk))
  replace d := d.put hc11 h511
  refine go T 4 rfl ?_
  refine adI rfl rfl rfl rfl (by omega) (by omega) ?_
  refine go T 2 rfl ?_
  refine Round_n (i + 1, l ++ [z], M6.2, _) ⟨rfl, rfl, rfl, rfl, rfl, rfl, trivial⟩ ⟨by omega, by simp [hll], fun y hy => ?_, by dsimp only; rw [hD, List.append_assoc]; rfl, d, hu', hfu⟩ (by dsimp only; omega)
  rcases List.mem_append.1 hy with hy | hy
  ·exact hlI y hy
  ·simp at hy; subst hy; exact hzI
 obtain rfl : i = nA := by omega
 rw [Nat.sub_self, segsD, List.append_nil] at hD
 rw [hD] at hE
 dsimp only at hE
 clear hi hcmp hD
 obtain ⟨Aa, ca, rfl, _, _⟩ := ho.form
 refine go T 6 rfl ?_
 refine rndX ?_
 refine go T 5 rfl ?_
 refine o1 rfl ?_
 refine op_call rfl rfl rfl (list_has d.rd) ?_
 rintro vd w9 ⟨hc, xr, hod, hfd⟩
 have hsz8 := d.rd.chg.size
 replace ho := ho.keep hc (d.rd.out ho (by decide))
 replace d := d.read hc xr
 replace hfd : ∀ h, vd.ownBlock = some h → w.heap.size ≤ h := fun h hh => by have := hfd h hh; omega
 have hDI : ∀ n ∈ (listE s).1, I64 n := fun n hn => by have := listD_le _ _ n hn; unfold I64; omega
 clear hc xr hsz8
 generalize listE s = LD at *
 obtain ⟨ld, sd⟩ := LD
 dsimp only at d hod hDI hE ⊢
 obtain ⟨Ad, cd, rfl, _, _⟩ := hod.form
 refine go T 1 rfl ?_
 refine op0 rfl rfl ?_
 refine op_store T rfl rfl rfl rfl rfl rfl d.b5 (by simp) (fun w10 hc h5 _ => ?_)
 have h5 : Blk w10 g5 49 [.int .i64 N1.1, .int .i64 N2.1, .slice Aa l.length ca, .slice Ad ld.length cd, .slice none 0 0, .slice none 0 0] := h5
 have k5 : ∀ {t' : TypeId} {k n : Nat} {v : Value} {xs : List Value}, Own w9 t' k v n xs → 49 ≠ t' → ∀ b, v.ownBlock = some b → b ∉ [g5] := fun ho hne b hb' hm => by
  simp at hm; subst hm
  exact out_of d.b5 ho hne (by simpa using hb')
 replace ho := ho.keep hc (k5 ho (by decide))
 replace hod := hod.keep hc (k5 hod (by decide))
 replace d := d.put hc h5
 clear hc h5 k5
 refine go T 6 rfl ?_
 refine o1 rfl ?_
 refine op_call rfl rfl rfl (num_has w g4 sd 60 w10 d.rd (by decide)) ?_
 rintro _ w11 ⟨hc, rfl, xr⟩
 replace ho := ho.keep hc (d.rd.out ho (by decide))
 replace hod := hod.keep hc (d.rd.out hod (by decide))
 replace d := d.read hc xr
 have hb4 := numM_le sd 60
 generalize numM sd 60 = N4 at *
 obtain ⟨nP, s4⟩ := N4
 dsimp only at d hb4 hE ⊢
 clear hc xr
 refine go T 4 rfl ?_
 refine W_loop (σ := Nat × List ParV × RS × Value) (fun q => [(0, .slice A b.length c), (2, .pointer (some ⟨g2, 0, none⟩)), (4, .pointer (some ⟨g4, 0, none⟩)), (5, .pointer (some ⟨g5, 0, none⟩)), (47, .int .i64 nP), (48, .int .i64 q.1)])
  (fun q w' => q.1 ≤ nP ∧ q.2.1.length = q.1 ∧ (∀ x ∈ q.2.1, ParI x.p ∧ POwn w' x ∧ PFr w.heap.size x) ∧ parsD nP s4 = (q.2.1.map (·.p) ++ (parsD (nP - q.1) q.2.2.1).1, (parsD (nP - q.1) q.2.2.1).2) ∧ DcAt w w' g2 g4 g5 q.2.2.1 [.int .i64 N1.1, .int .i64 N2.1, .slice Aa l.length ca, .slice Ad ld.length cd, q.2.2.2, .slice none 0 0] ∧ Own w' 26 6 (.slice Aa l.length ca) l.length (l.flatMap segL) ∧ Own w' 2 1 (.slice Ad ld.length cd) ld.length (ld.map (Value.int .i64)) ∧ Own w' 70 5 q.2.2.2 q.2.1.length (q.2.1.flatMap parL) ∧ (∀ h, q.2.2.2.ownBlock = some h → w.heap.size ≤ h))
  (fun q => nP - q.1) (0, [], s4, .slice none 0 0) ⟨rfl, rfl, rfl, rfl, rfl, rfl, trivial⟩ ⟨Nat.zero_le _, rfl, by simp, by simp, d, ho, hod, Own.nil _ _ _, fun h hh => by simp [Value.ownBlock] at hh⟩ ?_
 clear d ho hod
 rintro ⟨i, pq, s', up⟩ w12 ⟨hi, hQl, hQI, hD, d, ho, hod, hop, hfp⟩
 dsimp only at hi hQl hQI hD d hop hfp ⊢
 refine run ?_
 refine go T 2 rfl ?_
 refine ltS rfl rfl rfl rfl (fun hcmp => ?_) (fun hcmp => ?_)
 ·rw [show nP - i = (nP - (i + 1)) + 1 from by omega, parsD] at hD
  unfold parD at hD
  dsimp only at hD
  have hsB := d.rd.chg.size
  refine go T 11 rfl ?_
  refine o1 rfl ?_
  refine op_call rfl rfl rfl (num_has w g4 s' 1125899906842624 w12 d.rd (by decide)) ?_
  rintro _ w13 ⟨hc13, rfl, x13⟩
  have k1 := numM_le s' 1125899906842624
  generalize numM s' 1125899906842624 = M1 at *
  refine o1 rfl (op_build T rfl rfl rfl rfl rfl rfl ?_)
  refine o1 rfl ?_
  refine op_alloc T rfl rfl (fun g7 w14 hs7 hc14 h7 => ?_)
  have h7 : Blk w14 g7 70 [.int .i64 0, .slice none 0 0, .slice none 0 0, .int .i64 0, .int .u32 0] := h7
  refine op0 rfl rfl ?_
  refine op_store_agg T rfl rfl rfl rfl rfl rfl h7 (by exact Nat.le_of_ble_eq_true rfl) (fun w15 hc15 h75 _ => ?_)
  have h75 : Blk w15 g7 70 [.int .i64 (M1.1 : Nat), .slice none 0 0, .slice none 0 0, .int .i64 0, .int .u32 0] := h75
  have hs7 : w13.heap.size ≤ g7 := hs7
  have h7B : w12.heap.size ≤ g7 := by have := hc13.size; omega
  have hcB : Chg [g4] w12 w15 := (hc13.trans hc14 (fun k hk _ => by cases hk)).trans hc15 (fun k hk hlt => by simp at hk; omega)
  have x15 := (x13.keep0 hc14).keep hc15 (fun k hk => by simp at hk; omega) (fun hm => by simp at hm; have := x13.lt; omega)
  clear h7 hc13 hc14 hc15 x13
  refine go T 6 rfl ?_
  refine o1 rfl ?_
  refine op_call rfl rfl rfl (num_has w g4 M1.2 3 w15 x15 (by decide)) ?_
  rintro _ w16 ⟨hc16, rfl, x16⟩
  replace h75 := h75.keep hc16 (x15.ne h75 (by decide))
  replace hcB := hcB.trans hc16 (fun k hk _ => hk)
  have k2 := numM_le M1.2 3
  generalize numM M1.2 3 = M2 at *
  obtain ⟨kk, s2⟩ := M2
  dsimp only at x16 k2 hD ⊢
  clear x15 hc16
  refine go T 4 rfl ?_
  refine W_loop (σ := Nat × List Int × List Int × RS × Value × Value) (fun q => [(0, .slice A b.length c), (2, .pointer (some ⟨g2, 0, none⟩)), (4, .pointer (some ⟨g4, 0, none⟩)), (5, .pointer (some ⟨g5, 0, none⟩)), (7, .pointer (some ⟨g7, 0, none⟩)), (47, .int .i64 nP), (48, .int .i64 i), (54, .int .i64 kk), (55, .int .i64 q.1)])
   (fun q w' => q.1 ≤ kk ∧ q.2.1.length = q.1 ∧ q.2.2.1.length = q.1 ∧ (∀ n ∈ q.2.1, I64 n) ∧ (∀ n ∈ q.2.2.1, I64 n) ∧ pairD kk s2 = ((q.2.1 ++ (pairD (kk - q.1) q.2.2.2.1).1.1, q.2.2.1 ++ (pairD (kk - q.1) q.2.2.2.1).1.2), (pairD (kk - q.1) q.2.2.2.1).2) ∧ Chg [g4] w12 w' ∧ RdAt w w' g4 q.2.2.2.1 ∧ Blk w' g7 70 [.int .i64 (M1.1 : Nat), q.2.2.2.2.1, q.2.2.2.2.2, .int .i64 0, .int .u32 0] ∧ Own w' 2 1 q.2.2.2.2.1 q.2.1.length (q.2.1.map (Value.int .i64)) ∧ Own w' 3 1 q.2.2.2.2.2 q.2.2.1.length (q.2.2.1.map (Value.int .i64)) ∧ (∀ h, q.2.2.2.2.1.ownBlock = some h → w12.heap.size ≤ h) ∧ (∀ h, q.2.2.2.2.2.ownBlock = some h → w12.heap.size ≤ h))
   (fun q => kk - q.1) (0, [], [], s2, .slice none 0 0, .slice none 0 0) ⟨rfl, rfl, rfl, rfl, rfl, rfl, rfl, rfl, rfl, trivial⟩ ⟨Nat.zero_le _, rfl, rfl, by simp, by simp, by simp, hcB, x16, h75, Own.nil _ _ _, Own.nil _ _ _, fun h hh => by simp [Value.ownBlock] at hh, fun h hh => by simp [Value.ownBlock] at hh⟩ ?_
  clear hcB x16 h75
  rintro ⟨j, ns, zs, s3, un, uz⟩ w17 ⟨hj, hnl, hzl, hnI, hzI, hDp, hcB, xr, h7, hon, hoz, hfn, hfz⟩
  dsimp only at hj hnl hzl hnI hzI hDp hcB xr h7 hon hoz hfn hfz ⊢
  refine run ?_
  refine go T 2 rfl ?_
  refine ltS rfl rfl rfl rfl (fun hcmp => ?_) (fun hcmp => ?_)
  ·rw [show kk - j = (kk - (j + 1)) + 1 from by omega, pairD] at hDp
   dsimp only at hDp
   have h74 : g7 ∉ [g4] := xr.ne h7 (by decide)
   have hszB := hcB.size
   refine go T 9 rfl ?_
   refine Q.W_walkq 5 3 [g4] fol (by kernel_rfl) (by kernel_rfl) ?_
   refine Q.Walk.plain rfl rfl (by intro val w_ hR hp; exact op_fieldAddr T rfl rfl rfl rfl rfl rfl rfl rfl ⟨Chg.refl _ _, rfl⟩) ?_; dsimp only [na1, na2]
   refine Q.Walk.plain rfl rfl (by intro val w_ hR hp; exact op_loadB T rfl rfl rfl rfl (h7.keep hR (by assumption)) (by exact rfl) ⟨Chg.refl _ _, rfl⟩) ?_; dsimp only [na1, na2]
   refine Q.Walk.plain rfl rfl (by intro val w_ hR hp; exact op_move rfl rfl ⟨Chg.refl _ _, rfl⟩) ?_; dsimp only [na1, na2]
   refine Q.Walk.turn rfl (fun u w' => u = .int .i64 ((numM s3 1125899906842624).1 : Int) ∧ RdAt w w' g4 (numM s3 1125899906842624).2) rfl (fun v a b h hab => ⟨h.1, h.2.keep0 hab⟩) ?_ ?_
   ·intro val w_ hR hp
    exact op_call rfl rfl rfl (num_has w g4 s3 1125899906842624 w_ (xr.keep0 hR) (by decide)) (fun v w' h => h)
   dsimp only [List.nil_append, List.cons_append]
   have k3 := numM_le s3 1125899906842624
   refine Q.Walk.rel rfl (fun v w' => ∃ g8, v = .slice (some ⟨g8, 0, none⟩) 1 1 ∧ Blk w' g8 2 [.int .i64 ((numM s3 1125899906842624).1 : Int)] ∧ w17.heap.size ≤ g8) rfl (fun v a b ⟨g8, h1, h2, h3⟩ hab => ⟨g8, h1, h2.keep hab (fun hm => by simp at hm; have := xr.lt; omega), h3⟩) ?_ ?_
   ·intro val w_ hR hp
    have h3 : val 3 = .int .i64 ((numM s3 1125899906842624).1 : Int) := (hp 3 rfl _ _ rfl rfl : val 3 = _ ∧ _).1
    refine op_buildSlice (vs := [(0, .int .i64 ((numM s3 1125899906842624).1 : Int))]) T rfl (by rw [← h3]; rfl) rfl rfl rfl rfl rfl (fun g8 w8 hs8 hc8 h8 => ⟨hc8, g8, rfl, h8, by have := hR.size; omega⟩)
   dsimp only [List.nil_append, List.cons_append]
   refine Q.Walk.fin ?_
   intro val w18 hc18 hp18
   obtain ⟨e3, x18⟩ : val 3 = .int .i64 ((numM s3 1125899906842624).1 : Int) ∧ RdAt w w18 g4 (numM s3 1125899906842624).2 := hp18 3 (by omega) _ _ rfl rfl
   obtain ⟨g8, e8, h8, hs8⟩ : ∃ g8, val 4 = .slice (some ⟨g8, 0, none⟩) 1 1 ∧ Blk w18 g8 2 [.int .i64 ((numM s3 1125899906842624).1 : Int)] ∧ w17.heap.size ≤ g8 := hp18 4 (by omega) _ _ rfl rfl
   clear hp18 e3
   refine WL_sub (e' := [(0, .slice A b.length c), (2, .pointer (some ⟨g2, 0, none⟩)), (4, .pointer (some ⟨g4, 0, none⟩)), (5, .pointer (some ⟨g5, 0, none⟩)), (7, .pointer (some ⟨g7, 0, none⟩)), (47, .int .i64 nP), (48, .int .i64 i), (54, .int .i64 kk), (55, .int .i64 j), (58, un), (61, .slice (some ⟨g8, 0, none⟩) 1 1)]) ⟨rfl, rfl, rfl, rfl, rfl, rfl, rfl, rfl, rfl, rfl, congrArg some e8, trivial⟩ ?_
   clear e8 val
   generalize numM s3 1125899906842624 = M3 at *
   replace h7 := h7.keep hc18 h74
   replace hon := hon.keep hc18 (xr.out hon (by decide))
   replace hoz := hoz.keep hc18 (xr.out hoz (by decide))
   replace hcB := hcB.trans hc18 (fun k hk _ => hk)
   replace hszB := hcB.size
   clear xr hc18 hs8
   refine runL ?_
   refine o1 rfl ?_
   refine op_append1 T rfl rfl rfl rfl rfl rfl rfl rfl rfl hon h8 rfl (by omega) (fun un' w19 hon' hc19 hbn => ?_)
   obtain ⟨crd, hrd⟩ := x18.blk
   have x19 := x18.keep hc19 (fun k hk => by have := hfn k (by simpa using hk); omega) (out_of hrd hon (by decide))
   replace h7 := h7.keep hc19 (out_of h7 hon (by decide))
   replace hoz := hoz.keep hc19 (out_own hoz hon (by decide))
   replace hcB := hcB.trans hc19 (fun k hk hlt => by have := hfn k (by simpa using hk); omega)
   replace hfn := fresh_of hfn hszB hbn
   clear x18 hc19 hrd h8 hon hbn
   obtain ⟨An, cn, rfl, _, _⟩ := hon'.form
   refine go T 1 rfl ?_
   refine op0 rfl rfl ?_
   refine op_store T rfl rfl rfl rfl rfl rfl h7 (by simp) (fun w20 hc20 h720 _ => ?_)
   have h720 : Blk w20 g7 70 [.int .i64 (M1.1 : Nat), .slice An (ns ++ [(M3.1 : Int)]).length cn, uz, .int .i64 0, .int .u32 0] := h720
   have x20 := x19.keep hc20 (fun k hk => by simp at hk; omega) (fun hm => by simp at hm; subst hm; obtain ⟨crd, hrd⟩ := x19.blk; exact hrd.ne_ h7 (by decide) rfl)
   replace hon' := hon'.keep hc20 (fun k hk hm => by simp at hm; subst hm; exact out_of h7 hon' (by decide) (by simpa using hk))
   replace hoz := hoz.keep hc20 (fun k hk hm => by simp at hm; subst hm; exact out_of h7 hoz (by decide) (by simpa using hk))
   replace hcB := hcB.trans hc20 (fun k hk hlt => by simp at hk; omega)
   clear h7 x19 hc20
   replace h74 : g7 ∉ [g4] := x20.ne h720 (by decide)
   refine go T 2 rfl ?_
   refine Q.W_walkq 5 3 [g4] fol (by kernel_rfl) (by kernel_rfl) ?_
   refine Q.Walk.plain rfl rfl (by intro val w_ hR hp; exact op_fieldAddr T rfl rfl rfl rfl rfl rfl rfl rfl ⟨Chg.refl _ _, rfl⟩) ?_; dsimp only [na1, na2]
   refine Q.Walk.plain rfl rfl (by intro val w_ hR hp; exact op_loadB T rfl rfl rfl rfl (h720.keep hR (by assumption)) (by exact rfl) ⟨Chg.refl _ _, rfl⟩) ?_; dsimp only [na1, na2]
   refine Q.Walk.plain rfl rfl (by intro val w_ hR hp; exact op_move rfl rfl ⟨Chg.refl _ _, rfl⟩) ?_; dsimp only [na1, na2]
   refine Q.Walk.turn rfl (fun u w' => u = .int .i64 ((numM M3.2 4194304).1 : Int) ∧ RdAt w w' g4 (numM M3.2 4194304).2) rfl (fun v a b h hab => ⟨h.1, h.2.keep0 hab⟩) ?_ ?_
   ·intro val w_ hR hp
    exact op_call rfl rfl rfl (num_has w g4 M3.2 4194304 w_ (x20.keep0 hR) (by decide)) (fun v w' h => h)
   dsimp only [List.nil_append, List.cons_append]
   have k4 := numM_le M3.2 4194304
   refine Q.Walk.rel rfl (fun v w' => ∃ g8, v = .slice (some ⟨g8, 0, none⟩) 1 1 ∧ Blk w' g8 3 [.int .i64 ((numM M3.2 4194304).1 : Int)] ∧ w20.heap.size ≤ g8) rfl (fun v a b ⟨g8, h1, h2, h3⟩ hab => ⟨g8, h1, h2.keep hab (fun hm => by simp at hm; have := x20.lt; omega), h3⟩) ?_ ?_
   ·intro val w_ hR hp
    have h3 : val 3 = .int .i64 ((numM M3.2 4194304).1 : Int) := (hp 3 rfl _ _ rfl rfl : val 3 = _ ∧ _).1
    refine op_buildSlice (vs := [(0, .int .i64 ((numM M3.2 4194304).1 : Int))]) T rfl (by rw [← h3]; rfl) rfl rfl rfl rfl rfl (fun g8 w8 hs8 hc8 h8 => ⟨hc8, g8, rfl, h8, by have := hR.size; omega⟩)
   dsimp only [List.nil_append, List.cons_append]
   refine Q.Walk.fin ?_
   intro val w21 hc21 hp21
   obtain ⟨e3, x21⟩ : val 3 = .int .i64 ((numM M3.2 4194304).1 : Int) ∧ RdAt w w21 g4 (numM M3.2 4194304).2 := hp21 3 (by omega) _ _ rfl rfl
   obtain ⟨g8, e8, h8, hs8⟩ : ∃ g8, val 4 = .slice (some ⟨g8, 0, none⟩) 1 1 ∧ Blk w21 g8 3 [.int .i64 ((numM M3.2 4194304).1 : Int)] ∧ w20.heap.size ≤ g8 := hp21 4 (by omega) _ _ rfl rfl
   clear hp21 e3
   refine WL_sub (e' := [(0, .slice A b.length c), (2, .pointer (some ⟨g2, 0, none⟩)), (4, .pointer (some ⟨g4, 0, none⟩)), (5, .pointer (some ⟨g5, 0, none⟩)), (7, .pointer (some ⟨g7, 0, none⟩)), (47, .int .i64 nP), (48, .int .i64 i), (54, .int .i64 kk), (55, .int .i64 j), (65, uz), (68, .slice (some ⟨g8, 0, none⟩) 1 1)]) ⟨rfl, rfl, rfl, rfl, rfl, rfl, rfl, rfl, rfl, rfl, congrArg some e8, trivial⟩ ?_
   clear e8 val
   generalize numM M3.2 4194304 = M4 at *
   replace h720 := h720.keep hc21 h74
   replace hon' := hon'.keep hc21 (x20.out hon' (by decide))
   replace hoz := hoz.keep hc21 (x20.out hoz (by decide))
   replace hcB := hcB.trans hc21 (fun k hk _ => hk)
   replace hszB := hcB.size
   clear x20 hc21 hs8
   refine runL ?_
   refine o1 rfl ?_
   refine op_append1 T rfl rfl rfl rfl rfl rfl rfl rfl rfl hoz h8 rfl (by omega) (fun uz' w22 hoz' hc22 hbz => ?_)
   obtain ⟨crd, hrd⟩ := x21.blk
   have x22 := x21.keep hc22 (fun k hk => by have := hfz k (by simpa using hk); omega) (out_of hrd hoz (by decide))
   replace h720 := h720.keep hc22 (out_of h720 hoz (by decide))
   replace hon' := hon'.keep hc22 (out_own hon' hoz (by decide))
   replace hcB := hcB.trans hc22 (fun k hk hlt => by have := hfz k (by simpa using hk); omega)
   replace hfz := fresh_of hfz hszB hbz
   clear x21 hc22 hrd h8 hoz hbz
   obtain ⟨Az, cz, rfl, _, _⟩ := hoz'.form
   refine go T 1 rfl ?_
   refine op0 rfl rfl ?_
   refine op_store T rfl rfl rfl rfl rfl rfl h720 (by simp) (fun w23 hc23 h723 _ => ?_)
   have h723 : Blk w23 g7 70 [.int .i64 (M1.1 : Nat), .slice An (ns ++ [(M3.1 : Int)]).length cn, .slice Az (zs ++ [(M4.1 : Int)]).length cz, .int .i64 0, .int .u32 0] := h723
   have x23 := x22.keep hc23 (fun k hk => by simp at hk; omega) (fun hm => by simp at hm; subst hm; obtain ⟨crd, hrd⟩ := x22.blk; exact hrd.ne_ h720 (by decide) rfl)
   replace hon' := hon'.keep hc23 (fun k hk hm => by simp at hm; subst hm; exact out_of h720 hon' (by decide) (by simpa using hk))
   replace hoz' := hoz'.keep hc23 (fun k hk hm => by simp at hm; subst hm; exact out_of h720 hoz' (by decide) (by simpa using hk))
   replace hcB := hcB.trans hc23 (fun k hk hlt => by simp at hk; omega)
   refine go T 4 rfl ?_
   refine adI rfl rfl rfl rfl (by omega) (by omega) ?_
   refine go T 2 rfl ?_
   refine Round_n (j + 1, ns ++ [(M3.1 : Int)], zs ++ [(M4.1 : Int)], M4.2, _, _) ⟨rfl, rfl, rfl, rfl, rfl, rfl, rfl, rfl, rfl, trivial⟩ ⟨by omega, by simp [hnl], by simp [hzl], fun y hy => ?_, fun y hy => ?_, by dsimp only; rw [hDp, List.append_assoc, List.append_assoc]; rfl, hcB, x23, h723, hon', hoz', hfn, hfz⟩ (by dsimp only; omega)
   ·rcases List.mem_append.1 hy with hy | hy
    ·exact hnI y hy
    ·simp at hy; subst hy; unfold I64; omega
   ·rcases List.mem_append.1 hy with hy | hy
    ·exact hzI y hy
    ·simp at hy; subst hy; unfold I64; omega
  obtain rfl : j = kk := by omega
  rw [Nat.sub_self, pairD, List.append_nil, List.append_nil] at hDp
  rw [hDp] at hD
  dsimp only at hD
  clear hj hcmp hDp
  obtain ⟨An, cn, rfl, _, _⟩ := hon.form
  obtain ⟨Az, cz, rfl, _, _⟩ := hoz.form
  refine go T 6 rfl ?_
  refine rndX ?_
  refine go T 5 rfl ?_
  refine o1 rfl ?_
  refine op_call rfl rfl rfl (num_has w g4 s3 4194304 w17 xr (by decide)) ?_
  rintro _ w18 ⟨hc, rfl, x18⟩
  replace h7 := h7.keep hc (xr.ne h7 (by decide))
  replace hon := hon.keep hc (xr.out hon (by decide))
  replace hoz := hoz.keep hc (xr.out hoz (by decide))
  replace hcB := hcB.trans hc (fun k hk _ => hk)
  have k5 := numM_le s3 4194304
  generalize numM s3 4194304 = M5 at *
  clear hc xr
  refine go T 1 rfl ?_
  refine o1 rfl ?_
  refine op_call rfl rfl rfl (num_has w g4 M5.2 4294967295 w18 x18 (by decide)) ?_
  rintro _ w19 ⟨hc, rfl, x19⟩
  replace h7 := h7.keep hc (x18.ne h7 (by decide))
  replace hon := hon.keep hc (x18.out hon (by decide))
  replace hoz := hoz.keep hc (x18.out hoz (by decide))
  replace hcB := hcB.trans hc (fun k hk _ => hk)
  have k6 := numM_le M5.2 4294967295
  generalize numM M5.2 4294967295 = M6 at *
  clear hc x18
  refine o1 rfl (op_convert_fit T rfl rfl rfl rfl (wrap_u32_in (by omega) (by omega)) ?_)
  refine go T 1 rfl ?_
  refine op0 rfl rfl ?_
  refine op_store T rfl rfl rfl rfl rfl rfl h7 (by simp) (fun w20 hc20 h720 _ => ?_)
  have h720 : Blk w20 g7 70 [.int .i64 (M1.1 : Nat), .slice An ns.length cn, .slice Az zs.length cz, .int .i64 (M5.1 : Nat), .int .u32 0] := h720
  refine go T 1 rfl ?_
  refine op0 rfl rfl ?_
  refine op_store T rfl rfl rfl rfl rfl rfl h720 (by simp) (fun w21 hc21 h721 _ => ?_)
  have h721 : Blk w21 g7 70 [.int .i64 (M1.1 : Nat), .slice An ns.length cn, .slice Az zs.length cz, .int .i64 (M5.1 : Nat), .int .u32 (M6.1 : Nat)] := h721
  have hc27 : Chg [g7] w19 w21 := hc20.trans hc21 (fun k hk _ => hk)
  have x21 := x19.keep hc27 (fun k hk => by simp at hk; omega) (fun hm => by simp at hm; subst hm; obtain ⟨crd, hrd⟩ := x19.blk; exact hrd.ne_ h7 (by decide) rfl)
  replace hon := hon.keep hc27 (fun k hk hm => by simp at hm; subst hm; exact out_of h7 hon (by decide) (by simpa using hk))
  replace hoz := hoz.keep hc27 (fun k hk hm => by simp at hm; subst hm; exact out_of h7 hoz (by decide) (by simpa using hk))
  replace hcB := hcB.trans hc27 (fun k hk hlt => by simp at hk; omega)
  clear h7 h720 hc20 hc21 hc27 x19
  -- what lay there at the turn's beginning
  replace ho := ho.keep hcB (d.rd.out ho (by decide))
  replace hod := hod.keep hcB (d.rd.out hod (by decide))
  replace hop := hop.keep hcB (d.rd.out hop (by decide))
  have kp : ∀ q ∈ pq, ParI q.p ∧ POwn w21 q ∧ PFr w.heap.size q := fun q hq => ⟨(hQI q hq).1, (hQI q hq).2.1.keep hcB (d.rd.out (hQI q hq).2.1.nums (by decide)) (d.rd.out (hQI q hq).2.1.sizes (by decide)), (hQI q hq).2.2⟩
  replace d := d.read hcB x21
  obtain ⟨q, hq⟩ : ∃ q : ParV, q = ⟨⟨(M1.1 : Nat), ns, zs, (M5.1 : Nat), M6.1⟩, .slice An ns.length cn, .slice Az zs.length cz⟩ := ⟨_, rfl⟩
  have hcells : ([.int .i64 (M1.1 : Nat), .slice An ns.length cn, .slice Az zs.length cz, .int .i64 (M5.1 : Nat), .int .u32 (M6.1 : Nat)] : List Value) = parL q := by rw [hq]; rfl
  have hqo : POwn w21 q := by rw [hq]; exact ⟨hon, hoz, hnI, hzI⟩
  have hqI : ParI q.p := by rw [hq]; exact ⟨by unfold I64; dsimp only; omega, by unfold I64; dsimp only; omega, by dsimp only; omega⟩
  have hqF : PFr w.heap.size q := by rw [hq]; exact ⟨fun h hh => by have := hfn h hh; omega, fun h hh => by have := hfz h hh; omega⟩
  have hqe : (ParM.mk (M1.1 : Nat) ns zs (M5.1 : Nat) M6.1) = q.p := by rw [hq]
  have hq1 : ∀ u ∈ parL q, u.oneCell' = true := by
   rw [hq]
   intro u hu
   simp only [parL, List.mem_cons, List.not_mem_nil, or_false] at hu
   rcases hu with rfl | rfl | rfl | rfl | rfl <;> rfl
  rw [hcells] at h721
  rw [hqe] at hD
  clear hcells hq hqe hon hoz hnI hzI hfn hfz x21 hcB hQI
  have hb5 := d.b5
  unfold parL at h721
  refine go T 4 rfl ?_
  refine ldB T hb5 rfl rfl rfl rfl rfl rfl ?_
  refine o1 rfl (op_load_agg T rfl rfl rfl rfl h721 (by exact Nat.le_of_ble_eq_true rfl) (by exact rfl) ?_)
  refine o1 rfl ?_
  refine op_buildSlice T rfl rfl rfl rfl rfl rfl rfl (fun g8 w22 hs8 hc22 h8 => ?_)
  have h8 : Blk w22 g8 70 (parL q) := h8
  replace ho := ho.keep0 hc22
  replace hod := hod.keep0 hc22
  replace hop := hop.keep0 hc22
  replace kp : ∀ q ∈ pq, ParI q.p ∧ POwn w22 q ∧ PFr w.heap.size q := fun q hq => ⟨(kp q hq).1, (kp q hq).2.1.keep0 hc22, (kp q hq).2.2⟩
  replace hqo := hqo.keep0 hc22
  replace d := d.keep0 hc22
  have hwsz := d.rd.chg.size
  clear hb5 hc22 hs8 h721
  refine o1 rfl ?_
  refine op_appendK T parL_len rfl rfl rfl rfl rfl rfl rfl rfl rfl rfl hop h8 hq1 (by omega) (fun up' w23 hop' hc23 hbp => ?_)
  replace ho := ho.keep hc23 (out_own ho hop (by decide))
  replace hod := hod.keep hc23 (out_own hod hop (by decide))
  replace kp : ∀ q ∈ pq, ParI q.p ∧ POwn w23 q ∧ PFr w.heap.size q := fun q hq => ⟨(kp q hq).1, (kp q hq).2.1.keep hc23 (out_own (kp q hq).2.1.nums hop (by decide)) (out_own (kp q hq).2.1.sizes hop (by decide)), (kp q hq).2.2⟩
  replace hqo := hqo.keep hc23 (out_own hqo.nums hop (by decide)) (out_own hqo.sizes hop (by decide))
  replace d := d.row hop hfp (by decide) (by decide) hc23
  have hfp' := fresh_of hfp hwsz hbp
  clear hop hc23 hbp hfp h8
  obtain ⟨Ap, cp, rfl, _, _⟩ := hop'.form
  refine go T 1 rfl ?_
  refine op0 rfl rfl ?_
  refine op_store T rfl rfl rfl rfl rfl rfl d.b5 (by simp) (fun w24 hc24 h5 _ => ?_)
  have h5 : Blk w24 g5 49 [.int .i64 N1.1, .int .i64 N2.1, .slice Aa l.length ca, .slice Ad ld.length cd, .slice Ap (pq ++ [q]).length cp, .slice none 0 0] := h5
  have k5 : ∀ {t' : TypeId} {k n : Nat} {v : Value} {xs : List Value}, Own w23 t' k v n xs → 49 ≠ t' → ∀ b, v.ownBlock = some b → b ∉ [g5] := fun ho hne b hb' hm => by
   simp at hm; subst hm
   exact out_of d.b5 ho hne (by simpa using hb')
  replace ho := ho.keep hc24 (k5 ho (by decide))
  replace hod := hod.keep hc24 (k5 hod (by decide))
  replace hop' := hop'.keep hc24 (k5 hop' (by decide))
  replace kp : ∀ q ∈ pq, ParI q.p ∧ POwn w24 q ∧ PFr w.heap.size q := fun q hq => ⟨(kp q hq).1, (kp q hq).2.1.keep hc24 (k5 (kp q hq).2.1.nums (by decide)) (k5 (kp q hq).2.1.sizes (by decide)), (kp q hq).2.2⟩
  replace hqo := hqo.keep hc24 (k5 hqo.nums (by decide)) (k5 hqo.sizes (by decide))
  replace d := d.put hc24 h5
  refine go T 4 rfl ?_
  refine adI rfl rfl rfl rfl (by omega) (by omega) ?_
  refine go T 2 rfl ?_
  refine Round_n (i + 1, pq ++ [q], M6.2, _) ⟨rfl, rfl, rfl, rfl, rfl, rfl, trivial⟩ ⟨by omega, by simp [hQl], fun y hy => ?_, by dsimp only; rw [hD, List.map_append, List.append_assoc]; rfl, d, ho, hod, hop', hfp'⟩ (by dsimp only; omega)
  rcases List.mem_append.1 hy with hy | hy
  ·exact kp y hy
  ·simp at hy; subst hy; exact ⟨hqI, hqo, hqF⟩
 obtain rfl : i = nP := by omega
 rw [Nat.sub_self, parsD, List.append_nil] at hD
 rw [hD] at hE
 dsimp only at hE
 clear hi hcmp hD
 obtain ⟨Ap, cp, rfl, _, _⟩ := hop.form
 refine go T 6 rfl ?_
 refine rndX ?_
 refine go T 5 rfl ?_
 refine o1 rfl ?_
 refine op_call rfl rfl rfl (list_has d.rd) ?_
 rintro vr w13 ⟨hc, xr, hor, hfr⟩
 have hsz8 := d.rd.chg.size
 have kp : ∀ q ∈ pq, POwn w13 q := fun q hq => (hQI q hq).2.1.keep hc (d.rd.out (hQI q hq).2.1.nums (by decide)) (d.rd.out (hQI q hq).2.1.sizes (by decide))
 replace ho := ho.keep hc (d.rd.out ho (by decide))
 replace hod := hod.keep hc (d.rd.out hod (by decide))
 replace hop := hop.keep hc (d.rd.out hop (by decide))
 replace d := d.read hc xr
 replace hfr : ∀ h, vr.ownBlock = some h → w.heap.size ≤ h := fun h hh => by have := hfr h hh; omega
 have hRI : ∀ n ∈ (listE s').1, I64 n := fun n hn => by have := listD_le _ _ n hn; unfold I64; omega
 clear hc xr hsz8
 generalize listE s' = LR at *
 obtain ⟨lr, sr⟩ := LR
 dsimp only at d hor hRI hE ⊢
 obtain ⟨Ar, cr, rfl, _, _⟩ := hor.form
 refine go T 1 rfl ?_
 refine op0 rfl rfl ?_
 refine op_store T rfl rfl rfl rfl rfl rfl d.b5 (by simp) (fun w14 hc h5 _ => ?_)
 have h5 : Blk w14 g5 49 [.int .i64 N1.1, .int .i64 N2.1, .slice Aa l.length ca, .slice Ad ld.length cd, .slice Ap pq.length cp, .slice Ar lr.length cr] := h5
 have k5 : ∀ {t' : TypeId} {k n : Nat} {v : Value} {xs : List Value}, Own w13 t' k v n xs → 49 ≠ t' → ∀ b, v.ownBlock = some b → b ∉ [g5] := fun ho hne b hb' hm => by
  simp at hm; subst hm
  exact out_of d.b5 ho hne (by simpa using hb')
 replace ho := ho.keep hc (k5 ho (by decide))
 replace hod := hod.keep hc (k5 hod (by decide))
 replace hop := hop.keep hc (k5 hop (by decide))
 replace hor := hor.keep hc (k5 hor (by decide))
 replace kp : ∀ q ∈ pq, POwn w14 q := fun q hq => (kp q hq).keep hc (k5 (kp q hq).nums (by decide)) (k5 (kp q hq).sizes (by decide))
 replace d := d.put hc h5
 clear hc h5 k5
 obtain ⟨x, hx⟩ : ∃ x : EdV, x = ⟨⟨N1.1, N2.1, l, ld, pq.map (·.p), lr⟩, .slice Aa l.length ca, .slice Ad ld.length cd, .slice Ap pq.length cp, .slice Ar lr.length cr, pq⟩ := ⟨_, rfl⟩
 have hcells : ([.int .i64 N1.1, .int .i64 N2.1, .slice Aa l.length ca, .slice Ad ld.length cd, .slice Ap pq.length cp, .slice Ar lr.length cr] : List Value) = edL x := by rw [hx]; rfl
 have ex : EOwn w14 x := by rw [hx]; exact ⟨ho, hod, hop, rfl, kp, hor, hDI, hRI⟩
 have exF : EFr w.heap.size x := by rw [hx]; exact ⟨hf, hfd, hfp, fun q hq => (hQI q hq).2.2, hfr⟩
 have exI : EdI x.e := by
  rw [hx]
  refine ⟨by unfold I64; dsimp only; omega, by unfold I64; dsimp only; omega, hlI, fun p hp => ?_⟩
  obtain ⟨q, hq, rfl⟩ := List.mem_map.1 hp
  exact (hQI q hq).1
 have hone : (edL x).toArray.toList.all (·.oneCell') = true := by rw [hx]; rfl
 have hxe : eD = (x.e, sr) := by rw [hx]; exact hE
 rw [hcells] at d
 subst hxe
 clear hE hcells ho hod hop hor kp hQI hx hlI hDI hRI hf hfd hfp hfr
 dsimp only at hdec
 have hcw := d.rd.chg
 have h5 := d.b5
 have h2 := d.b2
 have hne2 : g5 ∉ [g2] := by have := d.ne; simp; omega
 obtain ⟨crd, hrd⟩ := d.rd.blk
 have hner : g4 ∉ [g2] := fun hm => by simp at hm; subst hm; exact hrd.ne_ h2 (by decide) rfl
 have hS2 : ∀ k ∈ [g2], w.heap.size ≤ k := fun k hk => by simp at hk; have := d.f2; omega
 have xr := d.rd
 have ek : ∀ w_, Chg [g2] w14 w_ → EOwn w_ x := fun w_ h => ex.keepT h2 (by decide) (by decide) (by decide) (by decide) h
 clear d hrd
 unfold edL at h5
 refine go T 3 rfl ?_
 by_cases hd : sr.2 = false ∧ sr.1 = []
 rotate_left
 ·rw [decide_eq_false hd, Bool.false_and] at hdec
  refine Q.W_walkf 15 14 [g2] fol (by kernel_rfl) (by kernel_rfl) ?_
  refine Q.Walk.plain (v := .agg (edL x).toArray) rfl rfl (by intro val w_ hR hp; exact op_load_agg T rfl rfl rfl rfl (h5.keep hR hne2) (Nat.le_of_ble_eq_true rfl) rfl ⟨Chg.refl _ _, rfl⟩) ?_; dsimp only [na1, na2]
  refine Q.Walk.plain rfl rfl (by intro val w_ hR hp; exact op_move rfl rfl ⟨Chg.refl _ _, rfl⟩) ?_; dsimp only [na1, na2]
  refine Q.Walk.plain rfl rfl (by intro val w_ hR hp; exact op_call rfl rfl rfl (done_has w g4 _ w_ (xr.keep hR hS2 hner)) (fun v w' h => h)) ?_; dsimp only [na1, na2]
  rw [decide_eq_false hd]
  refine Q.Walk.plain rfl rfl (by intro val w_ hR hp; exact op_move rfl rfl ⟨Chg.refl _ _, rfl⟩) ?_; dsimp only [na1, na2]
  refine Q.Walk.guardF rfl rfl rfl (fun _ => rfl) rfl ?_; dsimp only [na1, na2]
  refine Q.Walk.guardF rfl rfl rfl (fun _ => rfl) rfl ?_; dsimp only [na1, na2]
  refine Q.Walk.guardF rfl rfl rfl (fun _ => rfl) rfl ?_; dsimp only [na1, na2]
  refine Q.Walk.plain rfl rfl (by intro val w_ hR hp; exact op_pick rfl rfl rfl rfl ⟨Chg.refl _ _, rfl⟩) ?_; dsimp only [na1, na2]
  refine Q.Walk.plain rfl rfl (by intro val w_ hR hp; exact op_move rfl rfl ⟨Chg.refl _ _, rfl⟩) ?_; dsimp only [na1, na2]
  refine Q.Walk.guardF rfl rfl rfl (fun _ => rfl) rfl ?_; dsimp only [na1, na2]
  refine Q.Walk.guardF rfl rfl rfl (fun _ => rfl) rfl ?_; dsimp only [na1, na2]
  refine Q.Walk.guardF rfl rfl rfl (fun _ => rfl) rfl ?_; dsimp only [na1, na2]
  refine Q.Walk.guardF rfl rfl rfl (fun _ => rfl) rfl ?_; dsimp only [na1, na2]
  refine Q.Walk.plain rfl rfl (by intro val w_ hR hp; exact op_pick rfl rfl rfl rfl ⟨Chg.refl _ _, rfl⟩) ?_; dsimp only [na1, na2]
  refine Q.Walk.turn rfl (fun _ w => Blk w g2 49 (edL x)) rfl (fun _ _ _ h hab => h.keep0 hab) ?_ ?_
  ·intro val w_ hR hp
   exact op_store_agg T rfl rfl rfl rfl rfl hone (h2.keep0 hR) (by exact Nat.le_of_ble_eq_true rfl) (fun w7 hc7 hg57 _ => ⟨hc7, hg57⟩)
  refine Q.Walk.fin ?_
  intro val w10 hc10 hp hn
  obtain ⟨_, hb10⟩ := hn 14 (by omega) _ rfl rfl
  have hb10 : Blk w10 g2 49 (edL x) := hb10
  have hcend := hcw.trans hc10 (S' := [g2]) (S := []) (fun k hk hlt => by have := hS2 k hk; omega)
  refine WL_sub (e' := [(2, .pointer (some ⟨g2, 0, none⟩)), (102, .bool false)]) ⟨rfl, rfl, trivial⟩ ?_
  refine runL ?_
  refine go T 4 rfl ?_
  refine post2c T (.inl rfl) rfl rfl rfl rfl rfl hb10 rfl ⟨hcend, x, ?_, by rw [hdec], ek _ hc10, exI, exF⟩
  rw [hdec]
 rw [decide_eq_true hd, Bool.true_and] at hdec
 by_cases he : editB x.e = true
 rotate_left
 ·rw [Bool.not_eq_true] at he
  rw [he, Bool.false_and] at hdec
  refine Q.W_walkf 15 14 [g2] fol (by kernel_rfl) (by kernel_rfl) ?_
  refine Q.Walk.plain (v := .agg (edL x).toArray) rfl rfl (by intro val w_ hR hp; exact op_load_agg T rfl rfl rfl rfl (h5.keep hR hne2) (Nat.le_of_ble_eq_true rfl) rfl ⟨Chg.refl _ _, rfl⟩) ?_; dsimp only [na1, na2]
  refine Q.Walk.plain rfl rfl (by intro val w_ hR hp; exact op_move rfl rfl ⟨Chg.refl _ _, rfl⟩) ?_; dsimp only [na1, na2]
  refine Q.Walk.plain rfl rfl (by intro val w_ hR hp; exact op_call rfl rfl rfl (done_has w g4 _ w_ (xr.keep hR hS2 hner)) (fun v w' h => h)) ?_; dsimp only [na1, na2]
  rw [decide_eq_true hd]
  refine Q.Walk.plain rfl rfl (by intro val w_ hR hp; exact op_move rfl rfl ⟨Chg.refl _ _, rfl⟩) ?_; dsimp only [na1, na2]
  refine Q.Walk.guardT (v := .agg (edL x).toArray) rfl rfl rfl rfl (fun _ => rfl) (by intro val w_ hR hp; exact op_load_agg T rfl rfl rfl rfl (h5.keep hR hne2) (Nat.le_of_ble_eq_true rfl) rfl ⟨Chg.refl _ _, rfl⟩) ?_; dsimp only [na1, na2]
  refine Q.Walk.guardT (v := .int .i64 (if editB x.e then 0 else 10)) rfl rfl rfl rfl (fun _ => rfl) (by intro val w_ hR hp; exact op_call rfl rfl rfl (checkE_has x exI (ek _ hR).rd) (fun v w' h => h)) ?_; dsimp only [na1, na2]
  rw [he, if_neg (by decide)]
  refine Q.Walk.guardT rfl rfl rfl rfl (fun _ => rfl) (by intro val w_ hR hp; exact op_eql rfl rfl rfl (fun hc => False.elim (by omega)) (fun hc => ⟨Chg.refl _ _, rfl⟩)) ?_; dsimp only [na1, na2]
  refine Q.Walk.plain rfl rfl (by intro val w_ hR hp; exact op_pick rfl rfl rfl rfl ⟨Chg.refl _ _, rfl⟩) ?_; dsimp only [na1, na2]
  refine Q.Walk.plain rfl rfl (by intro val w_ hR hp; exact op_move rfl rfl ⟨Chg.refl _ _, rfl⟩) ?_; dsimp only [na1, na2]
  refine Q.Walk.guardF rfl rfl rfl (fun _ => rfl) rfl ?_; dsimp only [na1, na2]
  refine Q.Walk.guardF rfl rfl rfl (fun _ => rfl) rfl ?_; dsimp only [na1, na2]
  refine Q.Walk.guardF rfl rfl rfl (fun _ => rfl) rfl ?_; dsimp only [na1, na2]
  refine Q.Walk.guardF rfl rfl rfl (fun _ => rfl) rfl ?_; dsimp only [na1, na2]
  refine Q.Walk.plain rfl rfl (by intro val w_ hR hp; exact op_pick rfl rfl rfl rfl ⟨Chg.refl _ _, rfl⟩) ?_; dsimp only [na1, na2]
  refine Q.Walk.turn rfl (fun _ w => Blk w g2 49 (edL x)) rfl (fun _ _ _ h hab => h.keep0 hab) ?_ ?_
  ·intro val w_ hR hp
   exact op_store_agg T rfl rfl rfl rfl rfl hone (h2.keep0 hR) (by exact Nat.le_of_ble_eq_true rfl) (fun w7 hc7 hg57 _ => ⟨hc7, hg57⟩)
  refine Q.Walk.fin ?_
  intro val w10 hc10 hp hn
  obtain ⟨_, hb10⟩ := hn 14 (by omega) _ rfl rfl
  have hb10 : Blk w10 g2 49 (edL x) := hb10
  have hcend := hcw.trans hc10 (S' := [g2]) (S := []) (fun k hk hlt => by have := hS2 k hk; omega)
  refine WL_sub (e' := [(2, .pointer (some ⟨g2, 0, none⟩)), (102, .bool false)]) ⟨rfl, rfl, trivial⟩ ?_
  refine runL ?_
  refine go T 4 rfl ?_
  refine post2c T (.inl rfl) rfl rfl rfl rfl rfl hb10 rfl ⟨hcend, x, ?_, by rw [hdec], ek _ hc10, exI, exF⟩
  rw [hdec]
 ·have hok := editB_ok.1 he
  rw [he, Bool.true_and] at hdec
  refine Q.W_walkf 15 14 [g2] fol (by kernel_rfl) (by kernel_rfl) ?_
  refine Q.Walk.plain (v := .agg (edL x).toArray) rfl rfl (by intro val w_ hR hp; exact op_load_agg T rfl rfl rfl rfl (h5.keep hR hne2) (Nat.le_of_ble_eq_true rfl) rfl ⟨Chg.refl _ _, rfl⟩) ?_; dsimp only [na1, na2]
  refine Q.Walk.plain rfl rfl (by intro val w_ hR hp; exact op_move rfl rfl ⟨Chg.refl _ _, rfl⟩) ?_; dsimp only [na1, na2]
  refine Q.Walk.plain rfl rfl (by intro val w_ hR hp; exact op_call rfl rfl rfl (done_has w g4 _ w_ (xr.keep hR hS2 hner)) (fun v w' h => h)) ?_; dsimp only [na1, na2]
  rw [decide_eq_true hd]
  refine Q.Walk.plain rfl rfl (by intro val w_ hR hp; exact op_move rfl rfl ⟨Chg.refl _ _, rfl⟩) ?_; dsimp only [na1, na2]
  refine Q.Walk.guardT (v := .agg (edL x).toArray) rfl rfl rfl rfl (fun _ => rfl) (by intro val w_ hR hp; exact op_load_agg T rfl rfl rfl rfl (h5.keep hR hne2) (Nat.le_of_ble_eq_true rfl) rfl ⟨Chg.refl _ _, rfl⟩) ?_; dsimp only [na1, na2]
  refine Q.Walk.guardT (v := .int .i64 (if editB x.e then 0 else 10)) rfl rfl rfl rfl (fun _ => rfl) (by intro val w_ hR hp; exact op_call rfl rfl rfl (checkE_has x exI (ek _ hR).rd) (fun v w' h => h)) ?_; dsimp only [na1, na2]
  rw [he, if_pos rfl]
  refine Q.Walk.guardT rfl rfl rfl rfl (fun _ => rfl) (by intro val w_ hR hp; exact op_eql rfl rfl rfl (fun hc => ⟨Chg.refl _ _, rfl⟩) (fun hc => False.elim (by omega))) ?_; dsimp only [na1, na2]
  refine Q.Walk.plain rfl rfl (by intro val w_ hR hp; exact op_pick rfl rfl rfl rfl ⟨Chg.refl _ _, rfl⟩) ?_; dsimp only [na1, na2]
  refine Q.Walk.plain rfl rfl (by intro val w_ hR hp; exact op_move rfl rfl ⟨Chg.refl _ _, rfl⟩) ?_; dsimp only [na1, na2]
  refine Q.Walk.guardT (v := .agg (edL x).toArray) rfl rfl rfl rfl (fun _ => rfl) (by intro val w_ hR hp; exact op_load_agg T rfl rfl rfl rfl (h5.keep hR hne2) (Nat.le_of_ble_eq_true rfl) rfl ⟨Chg.refl _ _, rfl⟩) ?_; dsimp only [na1, na2]
  refine Q.Walk.guardR rfl (fun u w' => (∃ A' n' c', u = .slice A' n' c') ∧ Firm [g2] w' (fun w => SliceOf Ru8 w u (textE x.e))) rfl rfl rfl (fun _ => rfl) (fun v a b' h hab => ⟨h.1, h.2.step hab (fun k hk _ => hk)⟩) ?_ ?_
  ·intro val w_ hR hp
   refine op_call rfl rfl rfl (etext_has x exI hok (ek _ hR).rd) (fun v w' h => ⟨h.1.chg, ?_, h.1.firm (fun k hk => ?_)⟩)
   ·obtain ⟨A', c', h', _⟩ := h.1.form
    exact ⟨A', _, c', h'⟩
   ·simp at hk; have := h2.lt; have := hR.size; omega
  dsimp only [List.nil_append, List.cons_append]
  refine Q.Walk.guardT rfl rfl rfl rfl (fun _ => rfl) (by intro val w_ hR hp; exact op_move rfl rfl ⟨Chg.refl _ _, rfl⟩) ?_; dsimp only [na1, na2]
  refine Q.Walk.guardT (v := .bool (decide (textE x.e = b))) rfl rfl rfl rfl (fun _ => rfl) ?_ ?_
  ·intro val w_ hR hp
   obtain ⟨⟨A', n', c', hv⟩, hf⟩ : (∃ A' n' c', val 10 = .slice A' n' c') ∧ Firm [g2] w_ (fun w => SliceOf Ru8 w (val 10) (textE x.e)) := hp 10 rfl _ _ rfl rfl
   have h1 := hf.now
   rw [hv] at h1
   have h2 := SliceOf.kept Ru8.kept _ _ _ _ (hcw.trans hR (S' := [g2]) (S := []) (fun k hk hlt => by have := hS2 k hk; omega)) hl
   exact op_call rfl rfl (by rw [← hv]; rfl) (equal_has A' n' c' _ _ _ _ _ w_ h1 h2) (fun v w' h => h)
  dsimp only [List.nil_append, List.cons_append]
  refine Q.Walk.plain rfl rfl (by intro val w_ hR hp; exact op_pick rfl rfl rfl rfl ⟨Chg.refl _ _, rfl⟩) ?_; dsimp only [na1, na2]
  refine Q.Walk.turn rfl (fun _ w => Blk w g2 49 (edL x)) rfl (fun _ _ _ h hab => h.keep0 hab) ?_ ?_
  ·intro val w_ hR hp
   exact op_store_agg T rfl rfl rfl rfl rfl hone (h2.keep0 hR) (by exact Nat.le_of_ble_eq_true rfl) (fun w7 hc7 hg57 _ => ⟨hc7, hg57⟩)
  refine Q.Walk.fin ?_
  intro val w10 hc10 hp hn
  obtain ⟨_, hb10⟩ := hn 14 (by omega) _ rfl rfl
  have hb10 : Blk w10 g2 49 (edL x) := hb10
  have hcend := hcw.trans hc10 (S' := [g2]) (S := []) (fun k hk hlt => by have := hS2 k hk; omega)
  refine WL_sub (e' := [(2, .pointer (some ⟨g2, 0, none⟩)), (102, .bool (decide (textE x.e = b)))]) ⟨rfl, rfl, trivial⟩ ?_
  refine runL ?_
  refine go T 4 rfl ?_
  refine post2c T (.inl rfl) rfl rfl rfl rfl rfl hb10 rfl ⟨hcend, x, ?_, by rw [hdec], ek _ hc10, exI, exF⟩
  rw [hdec]
end Go.Proofs.YtiadjkjlifnopaaGreatDoor.Tryz
/-! Edits, one behind the other. -/
namespace Go.Vc
open Go
theorem edGo_nth {seals : List (List UInt8)} {k at_ : Nat} {cut : Bool} {s : List UInt8} (h : seals[k]? = some s) : edGo (seals.drop k) at_ cut = if (decE s).2 then ((decE s).1 :: (edGo (seals.drop (k + 1)) (at_ + (sealM s).length) cut).1, (edGo (seals.drop (k + 1)) (at_ + (sealM s).length) cut).2) else ([], at_, false) := by
 have hi := (List.getElem?_eq_some_iff.1 h).1
 rw [List.drop_eq_getElem_cons hi]
 have : seals[k] = s := (List.getElem?_eq_some_iff.1 h).2
 rw [this, edGo]
end Go.Vc
namespace Go.Proofs.YtiadjkjlifnopaaGreatDoor.Tryz
open Go Go.Vc
section
variable {w w' : World} {x : EdV}
theorem slice_one {t : TypeId} {k n : Nat} {v : Value} {xs : List Value} (h : Own w t k v n xs) : v.oneCell' = true := by
 obtain ⟨A, c, rfl, _, _⟩ := h.form; rfl
theorem EOwn.one (h : EOwn w x) : ∀ u ∈ edL x, u.oneCell' = true := by
 intro u hu
 simp only [edL, List.mem_cons, List.not_mem_nil, or_false] at hu
 rcases hu with rfl | rfl | rfl | rfl | rfl | rfl
 ·rfl
 ·rfl
 ·exact slice_one h.adds
 ·exact slice_one h.dels
 ·exact slice_one h.pars
 ·exact slice_one h.drops
theorem EOwn.oneA (h : EOwn w x) : (edL x).toArray.toList.all (·.oneCell') = true := by
 simp only [List.all_eq_true]
 exact fun u hu => h.one u hu
theorem EOwn.keepV (h : EOwn w x) {t : TypeId} {k n : Nat} {v : Value} {xs : List Value} (hb : Own w t k v n xs) (h1 : 26 ≠ t) (h2 : 2 ≠ t) (h3 : 70 ≠ t) (h4 : 3 ≠ t) (hc : Chg v.ownBlock.toList w w') : EOwn w' x :=
 ⟨h.adds.keep hc (out_own h.adds hb h1), h.dels.keep hc (out_own h.dels hb h2), h.pars.keep hc (out_own h.pars hb h3), h.parsE, fun q hq => (h.prd q hq).keep hc (out_own (h.prd q hq).nums hb h2) (out_own (h.prd q hq).sizes hb h4), h.drops.keep hc (out_own h.drops hb h2), h.delsI, h.dropsI⟩
theorem EFr.le {b b' : Nat} (h : EFr b x) (hb : b' ≤ b) : EFr b' x := ⟨fun k hk => Nat.le_trans hb (h.adds k hk), fun k hk => Nat.le_trans hb (h.dels k hk), fun k hk => Nat.le_trans hb (h.pars k hk), fun q hq => ⟨fun k hk => Nat.le_trans hb ((h.prd q hq).1 k hk), fun k hk => Nat.le_trans hb ((h.prd q hq).2 k hk)⟩, fun k hk => Nat.le_trans hb (h.drops k hk)⟩
end
structure EsOwn (w0 w : World) (u : Value) (E : List EdV) : Prop where
 own : Own w 49 6 u E.length (E.flatMap edL)
 each : ∀ x ∈ E, EOwn w x ∧ EdI x.e ∧ EFr w0.heap.size x
 fresh : ∀ h, u.ownBlock = some h → w0.heap.size ≤ h
theorem EsOwn.keep0 {w0 w w' : World} {u : Value} {E : List EdV} (h : EsOwn w0 w u E) (hc : Chg [] w w') : EsOwn w0 w' u E := ⟨h.own.keep0 hc, fun x hx => ⟨(h.each x hx).1.keep0 hc, (h.each x hx).2⟩, h.fresh⟩
theorem EsOwn.le {w0 w1 w : World} {u : Value} {E : List EdV} (h : EsOwn w1 w u E) (hs : w0.heap.size ≤ w1.heap.size) : EsOwn w0 w u E := ⟨h.own, fun x hx => ⟨(h.each x hx).1, (h.each x hx).2.1, (h.each x hx).2.2.le hs⟩, fun k hk => Nat.le_trans hs (h.fresh k hk)⟩
set_option maxHeartbeats 4000000 in
theorem escan_has (A : Option Addr) (n c : Nat) (b : List UInt8) (w : World) (hl : SliceOf Ru8 w (.slice A n c) b) (hb : b.length ≤ 4194304) :
  Has Tryz.prog 64 #[.slice A n c] w (fun v w' => ∃ u E, v = .tuple #[u, .int .i64 ((scanE b).2.1 : Nat), .bool (scanE b).2.2] ∧ Chg [] w w' ∧ EsOwn w w' u E ∧ E.map (·.e) = (scanE b).1) := by
 refine enter Tryz.func64 rfl rfl (by decide) rfl (e := [(0, .slice A n c)]) ⟨rfl, trivial⟩ ?_
 refine run ?_
 refine go T 10 rfl ?_
 refine o1 rfl ?_
 refine op_call rfl rfl rfl (scan_has A n c b w hl (by omega)) ?_
 rintro _ w1 ⟨us, rfl, hc1, hos, hfs⟩
 obtain ⟨hn1, hn2⟩ := scanM_bound b.length b (Nat.le_refl _)
 unfold scanE
 generalize scanM b = q at *
 obtain ⟨seals, tot, cut⟩ := q
 dsimp only at *
 have hss := hos.reads
 obtain ⟨As, cs, rfl, hs1, hs2⟩ := hss.form
 clear hos hfs
 unfold maxLen at hs2
 have hsz1 := hc1.size
 refine go T 28 rfl ?_
 refine W_loop (σ := Nat × List EdV × Nat × Value) (fun s => [(7, .bool cut), (8, s.2.2.2), (9, .int .i64 s.2.2.1), (20, .slice As seals.length cs), (21, .int .i64 seals.length), (22, .int .i64 s.1)])
  (fun s w' => s.1 ≤ seals.length ∧ s.2.1.length ≤ s.1 ∧ s.2.2.1 ≤ s.1 * 1000000100 ∧ edGo seals 0 cut = (s.2.1.map (·.e) ++ (edGo (seals.drop s.1) s.2.2.1 cut).1, (edGo (seals.drop s.1) s.2.2.1 cut).2) ∧ Chg [] w1 w' ∧ EsOwn w1 w' s.2.2.2 s.2.1)
  (fun s => seals.length - s.1) (0, [], 0, .slice none 0 0) ⟨rfl, rfl, rfl, rfl, rfl, rfl, trivial⟩ ⟨Nat.zero_le _, Nat.zero_le _, Nat.zero_le _, by simp, Chg.refl _ _, ⟨Own.nil _ _ _, by simp, fun h hh => by simp [Value.ownBlock] at hh⟩⟩ ?_
 rintro ⟨k, E, at_, v⟩ w2 ⟨h1, h2, h3, h4, h5, h6⟩
 dsimp only at h1 h2 h3 h4 h5 h6 ⊢
 refine run ?_
 refine go T 2 rfl ?_
 refine ltS rfl rfl rfl rfl (fun hcmp => ?_) (fun hcmp => ?_)
 ·have hk : k < seals.length := by omega
  obtain ⟨ad, us, rfl, hus1, hrs1⟩ := hss.get (i := k) (List.getElem?_eq_getElem hk)
  have hus := h5.cell0 hus1
  have hstep := edGo_nth (at_ := at_) (cut := cut) (List.getElem?_eq_getElem hk)
  have hsl : seals[k].length ≤ b.length := hn2 _ (List.getElem_mem hk)
  generalize seals[k] = s at *
  obtain ⟨A3, c3, rfl, _, _⟩ := SliceOf.form hrs1
  have hrs1 : SliceOf Ru8 w1 (.slice A3 s.length c3) s := hrs1
  have hrs : SliceOf Ru8 w2 (.slice A3 s.length c3) s := SliceOf.kept Ru8.kept _ _ _ _ h5 hrs1
  have hsz2 := h5.size
  refine go T 10 rfl ?_
  refine o1 rfl (op_index_nat T rfl rfl rfl rfl rfl rfl (by omega) ?_)
  refine o1 rfl (op_load T rfl rfl rfl rfl (by assumption) ?_)
  refine go T 6 rfl ?_
  refine o1 rfl ?_
  refine op_call rfl rfl rfl (decode_has A3 _ c3 s w2 hrs) ?_
  rintro _ w3 ⟨hc3, x, rfl, hxe, hxo, hxI, hxF⟩
  rw [← hxe] at hstep
  have hone := hxo.oneA
  refine go T 3 rfl ?_
  refine o1 rfl ?_
  refine op_alloc T rfl rfl (fun g w4 hs4 hc4 hg4 => ?_)
  have hg4 : Blk w4 g 49 [.int .i64 0, .int .i64 0, .slice none 0 0, .slice none 0 0, .slice none 0 0, .slice none 0 0] := hg4
  have hs4 : w3.heap.size ≤ g := hs4
  refine op0 rfl rfl ?_
  refine op_store_agg T rfl rfl rfl rfl rfl hone hg4 (by exact Nat.le_of_ble_eq_true rfl) (fun w5 hc5 hg5 _ => ?_)
  have hg5 : Blk w5 g 49 (edL x) := hg5
  have hc35 : Chg [] w3 w5 := hc4.trans hc5 (fun k hk hlt => by simp at hk; omega)
  have hc25 : Chg [] w2 w5 := hc3.trans' hc35
  replace hxo := hxo.keep0 hc35
  replace h6 := h6.keep0 hc25
  clear hg4 hc4 hc5
  cases hok : (decE s).2 with
  | true =>
   rw [hok, if_pos rfl] at hstep
   unfold edL at hg5
   refine go T 16 rfl ?_
   refine o1 rfl (op_load_agg T rfl rfl rfl rfl hg5 (by exact Nat.le_of_ble_eq_true rfl) (by exact rfl) ?_)
   refine o1 rfl ?_
   refine op_buildSlice T rfl rfl rfl rfl rfl rfl rfl (fun g6 w6 hs6 hc6 hg6 => ?_)
   have hg6 : Blk w6 g6 49 (edL x) := hg6
   replace hxo := hxo.keep0 hc6
   replace h6 := h6.keep0 hc6
   have hc26 := hc25.trans' hc6
   have hsz6 := hc26.size
   obtain ⟨Av, cv, rfl, _, _⟩ := h6.own.form
   refine o1 rfl ?_
   refine op_appendK T edL_len rfl rfl rfl rfl rfl rfl rfl rfl rfl rfl h6.own hg6 hxo.one (by omega) (fun v7 w7 ho7 hc7 hb7 => ?_)
   have hfr := fresh_of h6.fresh (by omega) hb7
   have hc17 : Chg [] w1 w7 := (h5.trans' hc26).trans hc7 (fun k hk hlt => by
    have h8 := h6.fresh k (by simpa using hk)
    omega)
   have hxo7 := hxo.keepV h6.own (by decide) (by decide) (by decide) (by decide) hc7
   have heach : ∀ y ∈ E ++ [x], EOwn w7 y ∧ EdI y.e ∧ EFr w1.heap.size y := fun y hy => by
    rcases List.mem_append.1 hy with hy | hy
    ·exact ⟨(h6.each y hy).1.keepV h6.own (by decide) (by decide) (by decide) (by decide) hc7, (h6.each y hy).2⟩
    ·simp at hy; subst hy; exact ⟨hxo7, hxI, hxF.le (by omega)⟩
   have hrs7 := SliceOf.kept Ru8.kept _ _ _ _ hc17 hrs1
   refine go T 6 rfl ?_
   refine o1 rfl ?_
   refine op_call rfl rfl rfl (seal_has A3 _ c3 s w7 hrs7 (by omega)) ?_
   intro v8 w8 m8
   obtain ⟨A8, c8, rfl, _, _⟩ := m8.form
   have hsz := sealM_length s
   refine go T 1 rfl ?_
   refine adI rfl rfl rfl rfl (by omega) (by omega) ?_
   refine go T 5 rfl ?_
   refine adI rfl rfl rfl rfl (by omega) (by omega) ?_
   refine go T 2 rfl ?_
   refine Round_n (k + 1, E ++ [x], at_ + (sealM s).length, v7) ⟨rfl, rfl, some_int (by dsimp only; omega), rfl, rfl, rfl, trivial⟩ ⟨by dsimp only; omega, by dsimp only; simp; omega, by dsimp only; omega, ?_, hc17.trans' m8.chg, EsOwn.keep0 ⟨ho7, heach, hfr⟩ m8.chg⟩ (by dsimp only; omega)
   dsimp only
   rw [h4, hstep, List.map_append, List.append_assoc]; rfl
  | false =>
   rw [hok, if_neg (by decide)] at hstep
   rw [h4, hstep]
   refine go T 24 rfl ?_
   refine rndR ?_
   refine go T 2 rfl ?_
   exact post3 (.inl rfl) rfl rfl rfl rfl ⟨_, E, rfl, (hc1.trans' h5).trans' hc25, h6.le hsz1, by simp⟩
 ·obtain rfl : k = seals.length := by omega
  rw [List.drop_length, edGo, List.append_nil] at h4
  rw [h4]
  refine go T 6 rfl ?_
  refine rndX ?_
  refine go T 13 rfl ?_
  exact post3 (.inl rfl) rfl rfl rfl rfl ⟨_, E, rfl, hc1.trans' h5, h6.le hsz1, rfl⟩
end Go.Proofs.YtiadjkjlifnopaaGreatDoor.Tryz
/-! Ways that meet again, in a walk by evaluation. -/
namespace Go.Vc
open Go
section
variable {P : Program} {N : Nat} {Q : Post} {e : Env} {w : World}
theorem meetC {σ : Type} (E : σ → Env) (M : σ → World → Prop) {c : Code} {ks : List Fr} (h : Run P N (Meet E M (PostOf P N Q ks)) (.code c []) e w) (hk : ∀ s w, M s w → Run P N Q (.out .normal ks) (E s) w) : Run P N Q (.code c ks) e w := W_meet E M h hk
theorem meetN {σ : Type} {E : σ → Env} {M : σ → World → Prop} (s : σ) (hs : SubL e (E s)) (hm : M s w) : Run P N (Meet E M Q) (.out .normal []) e w := Meet_n s hs hm
end
end Go.Vc
/-! Scrub: Groups. -/
namespace Go.Vc
open Go
section
variable {P : Program} {N : Nat} {e : Env} {w : World} {o : Oper} {K : Value → World → Prop}
theorem add_zero0 (ad : Addr) : ad.add 0 = ad := by
 cases ad with
 | mk b o c => unfold Addr.add; cases c <;> simp
theorem op_slice3c (T : Types P) {x y z : Operand} {t el : TypeId} {A : Option Addr} {n c : Nat} {j : TInfo} {h' m : Nat} {k k' : IntKind}
  (hop : o.op = .slice t x none (some y) (some z)) (hx : ev e x = some (.slice A n c)) (ht : T.d t = some (.slice el)) (hel : T.tbl el = some j)
  (hy : ev e y = some (.int k (h' : Int))) (hz : ev e z = some (.int k' (m : Int))) (h0 : h' ≤ m) (h1 : m ≤ c) (h : K (.slice A h' m) w) : OpW P N o e w K := by
 obtain ⟨q, hq, _, hs, _⟩ := T.inf el j hel
 have hA : A.map (fun a => a.add (0 * j.size)) = A := by
  cases A with
  | none => rfl
  | some a => rw [Option.map_some, Nat.zero_mul, add_zero0]
 have hA0 : A.map (fun a => a.add 0) = A := by
  cases A with
  | none => rfl
  | some a => rw [Option.map_some, add_zero0]
 refine OpW_run (fun a ha => ?_) h
 simp [execOp, hop, ha.ev hx, ha.ev hy, ha.ev hz, Instr.sliceAt, Instr.slice, Instr.sliceBounds, Instr.sliceBound, asIntOf, run_underlying (T.und' ht), sizeOf, typeInfo, hq, h0, h1, hA0]
end
theorem SliceOf.room {α : Type} {R : World → Value → α → Prop} {w : World} {L : List α} {A : Option Addr} {n c c' : Nat} (h : SliceOf R w (.slice A n c) L) (h1 : L.length ≤ c') (h2 : c' ≤ c) : SliceOf R w (.slice A n c') L := by
 obtain ⟨hn, h3, h4⟩ := h.len
 exact SliceOf.mk hn h1 (by omega) fun i x hx => h.get hx
def freeN (L : List SegM) : List Int := (L.filter fun s => s.sealed && decide (s.group = 0)).map (·.num)
def chunk3 : List Int → List (List Int)
 | a :: b :: c :: l => [a, b, c] :: chunk3 l
 | _ => []
def groupsM (L : List SegM) : List (List Int) := chunk3 (sortI (freeN L))
theorem chunk3_step {l : List Int} (h : 3 ≤ l.length) : chunk3 l = l.take 3 :: chunk3 (l.drop 3) := by
 match l, h with
 | a :: b :: c :: l, _ => rfl
theorem chunk3_end {l : List Int} (h : ¬ 3 ≤ l.length) : chunk3 l = [] := by
 match l, h with
 | [], _ => rfl
 | [a], _ => rfl
 | [a, b], _ => rfl
 | a :: b :: c :: l, h => simp at h
theorem chunk3_len : ∀ (n : Nat) (l : List Int), l.length ≤ n → 3 * (chunk3 l).length ≤ l.length
 | 0, l, h => by
  obtain rfl : l = [] := List.eq_nil_of_length_eq_zero (by omega)
  simp [chunk3]
 | n + 1, l, h => by
  by_cases h3 : 3 ≤ l.length
  ·rw [chunk3_step h3, List.length_cons]
   have := chunk3_len n (l.drop 3) (by rw [List.length_drop]; omega)
   rw [List.length_drop] at this
   omega
  ·rw [chunk3_end h3]; simp
end Go.Vc
namespace Go.Proofs.YtiadjkjlifnopaaGreatDoor.Tryz
open Go Go.Vc
set_option maxHeartbeats 4000000 in
theorem groups_has (A : Option Addr) (n c : Nat) (L : List SegM) (w : World) (hs : SliceK 6 (RdL segL) w (.slice A n c) L) (hb : L.length ≤ 1000) (hnum : ∀ s ∈ L, -9223372036854775808 ≤ s.num ∧ s.num ≤ 9223372036854775807) :
  Has Tryz.prog 11 #[.slice A n c] w (fun v w' => Chg [] w w' ∧ OwnOf (SliceOf Ri64) 27 (List.range w.heap.size) w' v (groupsM L) ∧ ∀ h, v.ownBlock = some h → w.heap.size ≤ h) := by
 obtain ⟨rfl, hl1, hl2⟩ := hs.len
 unfold maxLen at hl2
 refine enter Tryz.func11 rfl rfl (by decide) rfl (e := [(0, .slice A L.length c)]) ⟨rfl, trivial⟩ ?_
 refine run ?_
 refine go T 19 rfl ?_
 refine W_loop (σ := Nat × Value) (fun t => [(0, .slice A L.length c), (3, t.2), (7, .slice A L.length c), (8, .int .i64 L.length), (9, .int .i64 t.1)])
  (fun t w' => t.1 ≤ L.length ∧ Chg [] w w' ∧ Own w' 2 1 t.2 (freeN (L.take t.1)).length ((freeN (L.take t.1)).map i64V) ∧ ∀ h, t.2.ownBlock = some h → w.heap.size ≤ h)
  (fun t => L.length - t.1) (0, .slice none 0 0) ⟨rfl, rfl, rfl, rfl, rfl, trivial⟩ ⟨Nat.zero_le _, Chg.refl _ _, Own.nil _ _ _, fun h hh => by simp [Value.ownBlock] at hh⟩ ?_
 rintro ⟨i, u⟩ w1 ⟨hi, hc1, ho, hf⟩
 dsimp only at hi ho hf ⊢
 refine run ?_
 refine go T 2 rfl ?_
 refine ltS rfl rfl rfl rfl (fun hcmp => ?_) (fun hcmp => ?_)
 ·have hlt : i < L.length := by omega
  have hx := List.getElem?_eq_getElem hlt
  obtain ⟨ad, rfl, he⟩ := (hs.keepR hc1).at hx
  have hfl : (freeN (L.take i)).length ≤ 1000 := by
   unfold freeN
   rw [List.length_map]
   have := List.length_filter_le (fun s : SegM => s.sealed && decide (s.group = 0)) (L.take i)
   rw [List.length_take] at this
   omega
  have hnx : freeN (L.take (i + 1)) = freeN (L.take i) ++ if (L[i].sealed && decide (L[i].group = 0)) = true then [L[i].num] else [] := by
   unfold freeN
   rw [List.take_add_one, hx, List.filter_append, List.map_append]
   congr 1
   simp only [Option.toList, List.filter_cons, List.filter_nil]
   split <;> rfl
  generalize L[i] = y at *
  refine go T 10 rfl ?_
  refine o1 rfl (op_indexK T rfl rfl rfl rfl rfl (by omega) ?_)
  refine o1 rfl (op_loadE T he rfl rfl rfl rfl rfl ?_)
  refine o1 rfl ?_
  refine op_alloc T rfl rfl (fun g5 w2 hs2 hc2 hg5 => ?_)
  have hs2 : w1.heap.size ≤ g5 := hs2
  refine op0 rfl rfl ?_
  refine op_store_agg T rfl rfl rfl rfl rfl rfl hg5 (by exact Nat.le_of_ble_eq_true rfl) (fun w3 hc3 hg5n _ => ?_)
  replace hg5 : Blk w3 g5 26 (segL y) := hg5n
  unfold segL at hg5
  have hc13 : Chg [] w1 w3 := hc2.trans hc3 (fun k hk hlt => by simp at hk; omega)
  have ho3 := ho.keep0 hc13
  have hc03 := hc1.trans' hc13
  have hz3 := hc03.size
  clear hg5n he
  refine go T 2 rfl ?_
  refine meetC (σ := Value) (fun u' => [(0, .slice (some ad) L.length c), (3, u'), (7, .slice (some ad) L.length c), (8, .int .i64 L.length), (9, .int .i64 i)])
   (fun u' w' => Chg [] w w' ∧ Own w' 2 1 u' (freeN (L.take (i + 1))).length ((freeN (L.take (i + 1))).map i64V) ∧ ∀ h, u'.ownBlock = some h → w.heap.size ≤ h) ?_ ?_
  ·have hout : ∀ b : Bool, (y.sealed && decide (y.group = 0)) = b → b = true ∨ freeN (L.take (i + 1)) = freeN (L.take i) := fun b hb => by
    cases b with
    | true => exact .inl rfl
    | false => refine .inr ?_; rw [hnx, hb]; simp
   cases hsl : y.sealed with
   | false =>
    rw [hsl] at hg5
    have := (hout false (by rw [hsl]; rfl)).resolve_left (by simp)
    rw [this]
    refine go T 3 rfl ?_
    refine ldB T hg5 rfl rfl rfl rfl rfl rfl ?_
    refine go T 9 rfl ?_
    exact meetN u ⟨rfl, rfl, rfl, rfl, rfl, trivial⟩ ⟨hc03, ho3, hf⟩
   | true =>
    rw [hsl] at hg5
    by_cases hgr : y.group = 0
    ·have hnx2 : freeN (L.take (i + 1)) = freeN (L.take i) ++ [y.num] := by rw [hnx, hsl, hgr]; simp
     rw [hnx2]
     refine go T 3 rfl ?_
     refine ldB T hg5 rfl rfl rfl rfl rfl rfl ?_
     refine go T 2 rfl ?_
     refine ldB T hg5 rfl rfl rfl rfl rfl rfl ?_
     refine eqT rfl rfl rfl rfl (by omega) ?_
     refine go T 7 rfl ?_
     refine ldB T hg5 rfl rfl rfl rfl rfl rfl ?_
     refine o1 rfl ?_
     refine op_buildSlice T rfl rfl rfl rfl rfl rfl rfl (fun g7 w4 hs4 hc4 hg7 => ?_)
     have hg7 : Blk w4 g7 2 [i64V y.num] := hg7
     refine o1 rfl ?_
     refine op_append1 T (f := i64V) rfl rfl rfl rfl rfl rfl rfl rfl rfl (ho3.keep0 hc4) hg7 rfl (by omega) (fun v w5 hu5 hc5 hb5 => ?_)
     refine go T 2 rfl ?_
     refine meetN v ⟨rfl, rfl, rfl, rfl, rfl, trivial⟩ ⟨(hc03.trans' hc4).trans hc5 (fun k hk hlt => by have := hf k (by simpa using hk); omega), hu5, fun h hh => ?_⟩
     rcases hb5 with h1 | ⟨h2, h3, h4⟩
     ·exact hf h (by rw [← h1]; exact hh)
     ·rw [h3] at hh; injection hh with hh; have := hc4.size; omega
    ·have := (hout false (by rw [hsl]; simp [hgr])).resolve_left (by simp)
     rw [this]
     refine go T 3 rfl ?_
     refine ldB T hg5 rfl rfl rfl rfl rfl rfl ?_
     refine go T 2 rfl ?_
     refine ldB T hg5 rfl rfl rfl rfl rfl rfl ?_
     refine eqF rfl rfl rfl rfl (by omega) ?_
     refine go T 5 rfl ?_
     exact meetN u ⟨rfl, rfl, rfl, rfl, rfl, trivial⟩ ⟨hc03, ho3, hf⟩
  rintro u' w4 ⟨hc4, ho4, hf4⟩
  refine go T 3 rfl ?_
  refine adI rfl rfl rfl rfl (by omega) (by omega) ?_
  refine go T 2 rfl ?_
  exact Round_n (i + 1, u') ⟨rfl, rfl, rfl, rfl, rfl, trivial⟩ ⟨by dsimp only; omega, hc4, ho4, hf4⟩ (by dsimp only; omega)
 obtain rfl : i = L.length := by omega
 rw [List.take_length] at ho
 have hfl : (freeN L).length ≤ L.length := by
  unfold freeN
  rw [List.length_map]
  exact List.length_filter_le _ _
 obtain ⟨Au, cu, rfl, _, _⟩ := ho.form
 refine go T 6 rfl ?_
 refine rndX ?_
 refine go T 5 rfl ?_
 refine o1 rfl ?_
 refine op_call rfl rfl rfl (sortI_has _ (freeN L) w1 ho (by omega)) ?_
 rintro _ w2 ⟨rfl, hc2, ho2⟩
 have hc02 : Chg [] w w2 := hc1.trans hc2 (fun k hk hlt => by have := hf k (by simpa using hk); omega)
 have hsl : (sortI (freeN L)).length = (freeN L).length := List.length_mergeSort _
 have hmem : ∀ x ∈ sortI (freeN L), -9223372036854775808 ≤ x ∧ x ≤ 9223372036854775807 := fun x hx => by
  unfold sortI at hx
  rw [List.mem_mergeSort] at hx
  unfold freeN at hx
  obtain ⟨s, hs1, rfl⟩ := List.mem_map.1 hx
  exact hnum s (List.mem_filter.1 hs1).1
 unfold groupsM
 rw [← hsl] at ho2 hf hfl hc2 ⊢
 generalize sortI (freeN L) = ns at *
 clear hsl
 have hrow : ∀ (S : List Nat) (w3 : World), Chg S w2 w3 → (∀ k, (Value.slice Au ns.length cu).ownBlock = some k → k ∉ S) → SliceOf Ri64 w3 (.slice Au ns.length cu) ns := fun S w3 hc hS => by
  refine (ho2.keep hc hS).reads rfl (fun i x u hx hu => ?_)
  rw [List.getElem?_map, hx] at hu
  injection hu with hu
  exact ⟨hu.symm, hmem x (List.mem_of_getElem? hx)⟩
 have hlen3 := (hrow [] w2 (Chg.refl _ _) (fun k _ => by simp)).len
 obtain ⟨_, hcu, hmx⟩ := hlen3
 unfold maxLen at hmx
 have h02 : w.heap.size ≤ w2.heap.size := hc02.size
 refine go T 9 rfl ?_
 refine W_loop (σ := List Int × List (List Int) × Option Addr × Nat × Value) (fun t => [(3, .slice t.2.2.1 t.1.length t.2.2.2.1), (6, t.2.2.2.2)])
  (fun t w' => chunk3 ns = t.2.1 ++ chunk3 t.1 ∧ t.1.length + 3 * t.2.1.length ≤ ns.length ∧ t.1.length ≤ t.2.2.2.1 ∧ t.2.2.2.1 ≤ cu ∧ Chg [] w2 w' ∧
   (∀ (S : List Nat) (w3 : World), Chg S w2 w3 → (∀ k, (Value.slice Au ns.length cu).ownBlock = some k → k ∉ S) → SliceOf Ri64 w3 (.slice t.2.2.1 t.1.length t.2.2.2.1) t.1) ∧
   OwnOf (SliceOf Ri64) 27 (List.range w.heap.size) w' t.2.2.2.2 t.2.1 ∧ ∀ h, t.2.2.2.2.ownBlock = some h → w2.heap.size ≤ h)
  (fun t => t.1.length) (ns, [], Au, cu, .slice none 0 0) ⟨rfl, rfl, trivial⟩ ⟨rfl, by simp, hcu, Nat.le_refl _, Chg.refl _ _, hrow, OwnOf.nil _ _ _ _, fun h hh => by simp [Value.ownBlock] at hh⟩ ?_
 rintro ⟨ms, gs, Am, cm, vl⟩ w3 ⟨hch, hln, hmc, hmu, hc3, hread, hown, hfl2⟩
 dsimp only at hch hln hmc hmu hread hown hfl2 ⊢
 have hmsl : ms.length ≤ 1000 := by omega
 refine run ?_
 refine go T 5 rfl ?_
 refine geS rfl rfl rfl rfl (fun hcmp => ?_) (fun hcmp => ?_)
 ·have h3 : 3 ≤ ms.length := by omega
  have hstep := chunk3_step h3
  refine go T 10 rfl ?_
  refine o1 rfl ?_
  refine op_slice3c T (h' := 3) (m := 3) (k := .i64) (k' := .i64) rfl rfl rfl rfl rfl rfl (by omega) (by omega) ?_
  refine o1 rfl ?_
  refine op_buildSlice T rfl rfl rfl rfl rfl rfl rfl (fun g7 w4 hs4 hc4 hg7 => ?_)
  have hg7 : Blk w4 g7 27 [.slice Am 3 3] := hg7
  have hc24 := hc3.trans' hc4
  refine o1 rfl ?_
  have hub : ∀ k, (Value.slice Au ns.length cu).ownBlock = some k → k ∉ vl.ownBlock.toList := fun k hk hm => by
   have h1 := hfl2 k (by simpa using hm)
   have h2 := ho2.lt hk
   omega
  have hown4 := hown.keep0 hc4
  refine op_push T (xa := ms.take 3) rfl rfl rfl rfl rfl rfl rfl rfl hown4 hg7 rfl (fun w5 hw5 => ?_) (by omega) rfl (fun v5 w5 ho5 hc5 hb5 => ?_)
  ·have hr := hread (vl.ownBlock.toList ++ List.range w.heap.size) w5 ((hc24.mono (fun k hk _ => by cases hk)).trans hw5 (fun k hk _ => hk)) (fun k hk hm => by
    rcases List.mem_append.1 hm with h | h
    ·exact hub k hk h
    ·have := List.mem_range.1 h
     have := hf k hk
     omega)
   have h4 := hr.take (k := 3) (m := 3) (by omega)
   exact SliceOf.room h4 (by rw [List.length_take]; omega) (by omega)
  refine go T 5 rfl ?_
  refine o1 rfl ?_
  refine op_slice (l := 3) (h' := ms.length) T rfl rfl rfl rfl ⟨_, rfl⟩ rfl (by omega) (by omega) ?_
  have hdl : ms.length - 3 = (ms.drop 3).length := by rw [List.length_drop]
  rw [hdl]
  refine go T 3 rfl ?_
  refine Round_n (ms.drop 3, gs ++ [ms.take 3], (if cm = 3 then Am else Am.map (·.add (3 * 1))), cm - 3, v5) ⟨rfl, rfl, trivial⟩ ⟨?_, ?_, ?_, ?_, hc24.trans hc5 (fun k hk hlt => by have := hfl2 k (by simpa using hk); omega), fun S w6 h6 hS => ?_, ho5, fun h hh => ?_⟩ (by dsimp only; rw [List.length_drop]; omega)
  ·rw [hch, hstep, List.append_assoc]; rfl
  ·dsimp only
   rw [List.length_drop, List.length_append, List.length_singleton]; omega
  ·dsimp only
   rw [List.length_drop]; omega
  ·dsimp only; omega
  ·have h7 := (hread S w6 h6 hS).cut (l := 3) (k := ms.length) (by omega) (Nat.le_refl _)
   rw [List.take_length] at h7
   rw [← hdl]
   exact h7
  ·rcases hb5 with h1 | ⟨h2, h3, h4⟩
   ·exact hfl2 h (by rw [← h1]; exact hh)
   ·rw [h3] at hh; injection hh with hh; have := hc24.size; omega
 ·rw [hch, chunk3_end (by omega), List.append_nil]
  refine go T 5 rfl ?_
  refine rndX ?_
  refine go T 9 rfl ?_
  exact post1 (.inl rfl) rfl rfl ⟨hc02.trans' hc3, hown, fun h hh => by have := hfl2 h hh; omega⟩
end Go.Proofs.YtiadjkjlifnopaaGreatDoor.Tryz
/-! Walks of package parity: Make, its row of the call's own. -/
namespace Go.Proofs.YtiadjkjlifnopaaGreatDoor.Tryz
open Go Go.Vc
/-! ### Plain -/
def xorInto (cs l : List UInt8) : List UInt8 := cs.mapIdx fun i c => c ^^^ (l[i]?.getD 0)
theorem xorInto_length (cs l : List UInt8) : (xorInto cs l).length = cs.length := by simp [xorInto]
theorem xorInto_get (cs l : List UInt8) (i : Nat) : (xorInto cs l)[i]? = cs[i]?.map (· ^^^ (l[i]?.getD 0)) := by simp [xorInto]
theorem xorInto_nil (cs : List UInt8) : xorInto cs [] = cs := by
 apply List.ext_getElem?
 intro i; rw [xorInto_get]; cases cs[i]? <;> simp
theorem xorInto_step (cs l : List UInt8) (k : Nat) (hk : k < cs.length) (hl : k < l.length) :
  xorInto cs (l.take (k + 1)) = (xorInto cs (l.take k)).set k (cs[k] ^^^ l[k]) := by
 apply List.ext_getElem?
 intro i
 rw [xorInto_get, List.getElem?_set]
 by_cases h : k = i
 ·subst h; simp [xorInto_length, hk, hl]
 ·rw [if_neg h, xorInto_get, List.getElem?_take, List.getElem?_take]
  by_cases h2 : i < k
  ·rw [if_pos h2, if_pos (by omega)]
  ·rw [if_neg h2, if_neg (by omega)]
theorem xorInto_stay (cs l : List UInt8) (k : Nat) (hk : cs.length ≤ k) : xorInto cs (l.take (k + 1)) = xorInto cs (l.take k) := by
 apply List.ext_getElem?
 intro i
 rw [xorInto_get, xorInto_get]
 by_cases h : i < cs.length
 ·rw [List.getElem?_take, List.getElem?_take, if_pos (by omega), if_pos (by omega)]
 ·have : cs[i]? = none := List.getElem?_eq_none (by omega)
  rw [this]; rfl
def maxOf (L : List (List UInt8)) : Nat := L.foldl (fun n b => max n b.length) 0
theorem maxOf_snoc (L : List (List UInt8)) (b : List UInt8) : maxOf (L ++ [b]) = max (maxOf L) b.length := by simp [maxOf, List.foldl_append]
theorem maxOf_take (L : List (List UInt8)) (k : Nat) (h : k < L.length) : maxOf (L.take (k + 1)) = max (maxOf (L.take k)) L[k].length := by
 rw [List.take_succ_eq_append_getElem h, maxOf_snoc]
theorem maxOf_le (L : List (List UInt8)) (m : Nat) (h : ∀ r ∈ L, r.length ≤ m) : maxOf L ≤ m := by
 have : ∀ (L : List (List UInt8)) (n : Nat), n ≤ m → (∀ r ∈ L, r.length ≤ m) → L.foldl (fun n b => max n b.length) n ≤ m := by
  intro L
  induction L with
  | nil => intro n hn _; exact hn
  | cons b L ih => intro n hn h; exact ih (max n b.length) (by have := h b (by simp); omega) (fun r hr => h r (by simp [hr]))
 exact this L 0 (Nat.zero_le _) h
def parity (L : List (List UInt8)) : List UInt8 := L.foldl xorInto (List.replicate (maxOf L) 0)
theorem foldl_xor_length (L : List (List UInt8)) : ∀ cs : List UInt8, (L.foldl xorInto cs).length = cs.length := by
 induction L with
 | nil => intro cs; rfl
 | cons b L ih => intro cs; rw [List.foldl_cons, ih, xorInto_length]
theorem parity_length (L : List (List UInt8)) : (parity L).length = maxOf L := by rw [parity, foldl_xor_length, List.length_replicate]
theorem made_one (v : Value) (n : Nat) : (madeCells #[v] n).toList = List.replicate n v := by
 apply List.ext_getElem?
 intro i
 by_cases h : i < n
 ·simp [madeCells, h, Nat.mod_one]
 ·simp [madeCells, h]
/-! ### Walks -/
theorem into_blk (g n cp : Nat) (cs l : List UInt8) (rest : List Value) (B : Option Addr) (nb cb : Nat) (w : World) (hn : n = cs.length)
  (hg : Blk w g 5 (u8s cs ++ rest)) (hb : Firm [g] w (fun w => SliceOf Ru8 w (.slice B nb cb) l)) (hm : n ≤ maxLen) :
  Has Tryz.prog 128 #[.slice (some ⟨g, 0, none⟩) n cp, .slice B nb cb] w (fun v w' => v = .tuple #[] ∧ Chg [g] w w' ∧ Blk w' g 5 (u8s (xorInto cs l) ++ rest)) := by
 obtain ⟨rfl, hl1, hl2⟩ := hb.now.len
 unfold maxLen at hm hl2
 refine enter Tryz.func128 rfl rfl (by decide) rfl (e := [(0, .slice (some ⟨g, 0, none⟩) n cp), (1, .slice B l.length cb)]) ⟨rfl, rfl, trivial⟩ ?_
 repeat (first | refine W_seq ?_ | refine W_block ?_ | refine W_region ?_ | refine Then_n ?_ | refine WL_nil ?_ | refine WL_some rfl rfl rfl ?_ | refine op_move rfl rfl ?_ | refine op_len_slice T rfl rfl rfl rfl ?_)
 refine W_loop (σ := Nat) (fun k => [(0, .slice (some ⟨g, 0, none⟩) n cp), (6, .slice B l.length cb), (7, .int .i64 l.length), (8, .int .i64 k)])
  (fun k w' => k ≤ l.length ∧ Chg [g] w w' ∧ Blk w' g 5 (u8s (xorInto cs (l.take k)) ++ rest)) (fun k => l.length - k) 0 ⟨rfl, rfl, rfl, rfl, trivial⟩ ⟨by omega, Chg.refl _ _, by rw [List.take_zero, xorInto_nil]; exact hg⟩ ?_
 rintro k w1 ⟨hk, hc1, hg1⟩
 repeat (first | refine W_seq ?_ | refine W_region ?_ | refine WL_some rfl rfl rfl ?_)
 (refine op_lss rfl rfl rfl (fun hc => ?_) (fun hc => ?_))
 ·have hlt : k < l.length := by omega
  obtain ⟨ad, u, rfl, hu, rfl⟩ := (hb w1 hc1).get (i := k) (x := l[k]) (List.getElem?_eq_getElem hlt)
  repeat (first | refine W_seq ?_ | refine W_block ?_ | refine W_region ?_ | refine W_skip ?_ | refine Then_n ?_ | refine WL_nil ?_ | refine W_condT rfl ?_ | refine WL_some rfl rfl rfl ?_ | refine op_move rfl rfl ?_ | refine op_assign rfl rfl ?_ | refine op_len_slice T rfl rfl rfl rfl ?_ | refine op_index_nat T rfl rfl rfl rfl rfl rfl (by omega) ?_ | refine op_load T rfl rfl rfl rfl (by assumption) ?_)
  (refine op_lss rfl rfl rfl (fun hc => ?_) (fun hc => ?_))
  ·have hkc : k < cs.length := by omega
   have hgk : (u8s (xorInto cs (l.take k)) ++ rest)[k]? = some (.int .u8 ((cs[k] : UInt8).toNat : Int)) := by
    rw [List.getElem?_append_left (by rw [u8s_length, xorInto_length]; exact hkc)]
    refine u8s_get ?_
    rw [xorInto_get, List.getElem?_eq_getElem hkc, List.getElem?_take_eq_none (Nat.le_refl k)]; simp
   have hu2 := hg1.cell hgk
   repeat (first | refine W_region ?_ | refine Then_n ?_ | refine WL_nil ?_ | refine W_condT rfl ?_ | refine WL_some rfl rfl rfl ?_ | refine op_move rfl rfl ?_ | refine op_index_own T rfl rfl rfl rfl rfl rfl (by omega) ?_ | refine op_load T rfl rfl rfl rfl (by assumption) ?_)
   refine op_xor_u8 rfl rfl rfl ?_
   repeat (first | refine WL_some rfl rfl rfl ?_ | refine WL_none rfl rfl ?_ | refine op_index_own T rfl rfl rfl rfl rfl rfl (by omega) ?_)
   refine op_store T rfl rfl rfl rfl rfl rfl hg1 (by rw [List.length_append, u8s_length, xorInto_length]; omega) (fun w2 hc2 hg2 _ => ?_)
   repeat (first | refine W_region ?_ | refine Then_n ?_ | refine InBlock_n ?_ | refine WL_nil ?_ | refine WL_some rfl rfl rfl ?_ | refine op_move rfl rfl ?_ | refine op_add rfl rfl rfl (wrap_i64_in (by omega) (by omega)) ?_)
   refine Round_n (k + 1) ⟨rfl, rfl, rfl, rfl, trivial⟩ ⟨by omega, hc1.trans hc2 (fun _ h _ => h), ?_⟩ (by omega)
   rw [xorInto_step _ _ _ hkc hlt, ← u8s_set]
   rw [List.set_append_left _ _ (by rw [u8s_length, xorInto_length]; exact hkc)] at hg2
   exact hg2
  ·repeat (first | refine W_region ?_ | refine W_skip ?_ | refine Then_n ?_ | refine InBlock_n ?_ | refine WL_nil ?_ | refine W_condF rfl ?_ | refine WL_some rfl rfl rfl ?_ | refine op_move rfl rfl ?_ | refine op_add rfl rfl rfl (wrap_i64_in (by omega) (by omega)) ?_)
   refine Round_n (k + 1) ⟨rfl, rfl, rfl, rfl, trivial⟩ ⟨by omega, hc1, ?_⟩ (by omega)
   rw [xorInto_stay _ _ _ (by omega)]; exact hg1
 ·repeat (first | refine W_seq ?_ | refine W_exit ?_ | refine Then_n ?_ | refine Then_x ?_ | refine InBlock_hit ?_ | refine Round_x ?_ | refine WL_nil ?_ | refine W_condF rfl ?_)
  refine post0 (.inr rfl) rfl ⟨rfl, hc1, ?_⟩
  rw [List.take_of_length_le (by omega)] at hg1
  exact hg1
theorem into_has (v : Value) (n : Nat) (cs l : List UInt8) (B : Option Addr) (nb cb : Nat) (w : World) (hown : Own w 5 1 v n (u8s cs))
  (hb : Firm v.ownBlock.toList w (fun w => SliceOf Ru8 w (.slice B nb cb) l)) :
  Has Tryz.prog 128 #[v, .slice B nb cb] w (fun r w' => r = .tuple #[] ∧ Chg v.ownBlock.toList w w' ∧ Own w' 5 1 v n (u8s (xorInto cs l))) := by
 have hlen : cs.length = n := by have := hown.length; rw [u8s_length] at this; omega
 rcases hown.cases with ⟨rfl, rfl, hx⟩ | ⟨g, cap, cur, rfl, hn, hm, hg, hcl, hct⟩
 ·have hcs : cs = [] := List.eq_nil_of_length_eq_zero hlen
  subst hcs
  obtain ⟨rfl, hl1, hl2⟩ := hb.now.len
  unfold maxLen at hl2
  refine enter Tryz.func128 rfl rfl (by decide) rfl (e := [(0, .slice none 0 0), (1, .slice B l.length cb)]) ⟨rfl, rfl, trivial⟩ ?_
  repeat (first | refine W_seq ?_ | refine W_block ?_ | refine W_region ?_ | refine Then_n ?_ | refine WL_nil ?_ | refine WL_some rfl rfl rfl ?_ | refine op_move rfl rfl ?_ | refine op_len_slice T rfl rfl rfl rfl ?_)
  refine W_loop (σ := Nat) (fun k => [(0, .slice none 0 0), (6, .slice B l.length cb), (7, .int .i64 l.length), (8, .int .i64 k)])
   (fun k w' => k ≤ l.length ∧ w' = w) (fun k => l.length - k) 0 ⟨rfl, rfl, rfl, rfl, trivial⟩ ⟨by omega, rfl⟩ ?_
  rintro k w1 ⟨hk, rfl⟩
  repeat (first | refine W_seq ?_ | refine W_region ?_ | refine WL_some rfl rfl rfl ?_)
  (refine op_lss rfl rfl rfl (fun hc => ?_) (fun hc => ?_))
  ·have hlt : k < l.length := by omega
   obtain ⟨ad, u, rfl, hu, rfl⟩ := hb.now.get (i := k) (x := l[k]) (List.getElem?_eq_getElem hlt)
   repeat (first | refine W_seq ?_ | refine W_block ?_ | refine W_region ?_ | refine W_skip ?_ | refine Then_n ?_ | refine InBlock_n ?_ | refine WL_nil ?_ | refine W_condT rfl ?_ | refine W_condF rfl ?_ | refine WL_some rfl rfl rfl ?_ | refine op_move rfl rfl ?_ | refine op_assign rfl rfl ?_ | refine op_len_slice T rfl rfl rfl rfl ?_ | refine op_add rfl rfl rfl (wrap_i64_in (by omega) (by omega)) ?_ | refine op_index_nat T rfl rfl rfl rfl rfl rfl (by omega) ?_ | refine op_load T rfl rfl rfl rfl (by assumption) ?_ | refine op_lss rfl rfl rfl (fun hc => False.elim (by omega)) (fun hc => ?_))
   exact Round_n (k + 1) ⟨rfl, rfl, rfl, rfl, trivial⟩ ⟨by omega, rfl⟩ (by omega)
  ·repeat (first | refine W_seq ?_ | refine W_exit ?_ | refine Then_n ?_ | refine Then_x ?_ | refine InBlock_hit ?_ | refine Round_x ?_ | refine WL_nil ?_ | refine W_condF rfl ?_)
   exact post0 (.inr rfl) rfl ⟨rfl, Chg.refl _ _, hown⟩
 ·simp only [Nat.mul_one] at hcl hct
  have hcur : cur = u8s cs ++ cur.drop n := by rw [← hct]; exact (List.take_append_drop n cur).symm
  rw [hcur] at hg
  refine (into_blk g n cap cs l (cur.drop n) B nb cb w hlen.symm hg hb (by omega)).mono ?_
  rintro r w' ⟨rfl, hc, hg'⟩
  refine ⟨rfl, hc, Own.mk hg' hn hm ?_ ?_⟩
  ·rw [Nat.mul_one, List.length_append, u8s_length, xorInto_length, hlen, List.length_drop]; omega
  ·rw [Nat.mul_one, List.take_append_of_le_length (by rw [u8s_length, xorInto_length]; omega)]
   exact List.take_of_length_le (by rw [u8s_length, xorInto_length]; omega)
theorem parMake_has (A : Option Addr) (n c : Nat) (L : List (List UInt8)) (w : World) (hl : SliceOf (SliceOf Ru8) w (.slice A n c) L) (hb : ∀ r ∈ L, r.length ≤ 1099511627776) :
  Has Tryz.prog 77 #[.slice A n c] w (fun v w' => Chg [] w w' ∧ Own w' 5 1 v (parity L).length (u8s (parity L)) ∧ ∀ h, v.ownBlock = some h → w.heap.size ≤ h) := by
 obtain ⟨rfl, hl1, hl2⟩ := hl.len
 unfold maxLen at hl2
 refine enter Tryz.func77 rfl rfl (by decide) rfl (e := [(0, .slice A L.length c)]) ⟨rfl, trivial⟩ ?_
 repeat (first | refine W_seq ?_ | refine W_region ?_ | refine Then_n ?_ | refine WL_nil ?_ | refine WL_some rfl rfl rfl ?_ | refine op_move rfl rfl ?_ | refine op_assign rfl rfl ?_ | refine op_len_slice T rfl rfl rfl rfl ?_)
 (refine op_eql rfl rfl rfl (fun hc => ?_) (fun hc => ?_))
 ·have hL : L = [] := List.eq_nil_of_length_eq_zero (by omega)
  subst hL
  repeat (first | refine W_seq ?_ | refine W_region ?_ | refine W_ret ?_ | refine Then_n ?_ | refine Then_r ?_ | refine WL_nil ?_ | refine W_condT rfl ?_ | refine WL_some rfl rfl rfl ?_ | refine op_assign rfl rfl ?_)
  exact post1 (.inl rfl) rfl rfl ⟨Chg.refl _ _, Own.nil _ _ _, fun h hh => by simp [Value.ownBlock] at hh⟩
 ·repeat (first | refine W_seq ?_ | refine W_block ?_ | refine W_region ?_ | refine W_skip ?_ | refine Then_n ?_ | refine WL_nil ?_ | refine W_condF rfl ?_ | refine WL_some rfl rfl rfl ?_ | refine op_move rfl rfl ?_ | refine op_assign rfl rfl ?_ | refine op_len_slice T rfl rfl rfl rfl ?_)
  refine W_loop (σ := Nat) (fun k => [(0, .slice A L.length c), (12, .slice A L.length c), (13, .int .i64 L.length), (14, .int .i64 k), (3, .int .i64 (maxOf (L.take k)))])
   (fun k w' => k ≤ L.length ∧ w' = w) (fun k => L.length - k) 0 ⟨rfl, rfl, rfl, rfl, rfl, trivial⟩ ⟨by omega, rfl⟩ ?_
  rintro k w1 ⟨hk, rfl⟩
  repeat (first | refine W_seq ?_ | refine W_region ?_ | refine WL_some rfl rfl rfl ?_)
  (refine op_lss rfl rfl rfl (fun hc => ?_) (fun hc => ?_))
  ·have hlt : k < L.length := by omega
   obtain ⟨ad, u, rfl, hu, hr⟩ := hl.get (i := k) (x := L[k]) (List.getElem?_eq_getElem hlt)
   obtain ⟨B, cb, rfl, _, _⟩ := hr.form
   repeat (first | refine W_seq ?_ | refine W_block ?_ | refine W_region ?_ | refine W_skip ?_ | refine Then_n ?_ | refine InBlock_n ?_ | refine WL_nil ?_ | refine W_condT rfl ?_ | refine WL_some rfl rfl rfl ?_ | refine op_move rfl rfl ?_ | refine op_assign rfl rfl ?_ | refine op_len_slice T rfl rfl rfl rfl ?_ | refine op_add rfl rfl rfl (wrap_i64_in (by omega) (by omega)) ?_ | refine op_max rfl rfl rfl ?_ | refine op_index_nat T rfl rfl rfl rfl rfl rfl (by omega) ?_ | refine op_load T rfl rfl rfl rfl (by assumption) ?_)
   exact Round_n (k + 1) ⟨rfl, rfl, rfl, rfl, some_int (by rw [maxOf_take _ _ hlt]; omega), trivial⟩ ⟨by omega, rfl⟩ (by omega)
  ·obtain rfl : k = L.length := by omega
   rw [List.take_length]
   have hmx := maxOf_le L _ hb
   repeat (first | refine W_seq ?_ | refine W_region ?_ | refine W_exit ?_ | refine Then_n ?_ | refine Then_x ?_ | refine InBlock_hit ?_ | refine Round_x ?_ | refine WL_nil ?_ | refine W_condF rfl ?_ | refine WL_some rfl rfl rfl ?_ | refine op_move rfl rfl ?_)
   refine op_make T rfl rfl rfl rfl rfl (by omega) (by omega) (by show (1 : Int) * _ ≤ _; omega) (by omega) (fun g w2 hgs hc2 hg2 => ?_)
   simp only [Int.toNat_natCast]
   have hg2' : Own w2 5 1 (.slice (some ⟨g, 0, none⟩) (maxOf L) (maxOf L)) (maxOf L) (u8s (List.replicate (maxOf L) 0)) := by
    have h1 : (madeCells (Value.int .u8 0).cells ((maxOf L : Int).toNat * 1)).toList = u8s (List.replicate (maxOf L) 0) := by
     rw [show (Value.int .u8 0).cells = #[Value.int .u8 0] from rfl, made_one]; simp [u8s]
    refine Own.mk hg2 (Nat.le_refl _) (by unfold maxLen; omega) ?_ ?_
    ·refine (congrArg List.length h1).trans ?_
     rw [u8s_length, List.length_replicate, Nat.mul_one]
    ·refine (congrArg (List.take _) h1).trans ?_
     exact List.take_of_length_le (by rw [u8s_length, List.length_replicate]; omega)
   clear hg2
   repeat (first | refine W_seq ?_ | refine W_block ?_ | refine W_region ?_ | refine Then_n ?_ | refine WL_nil ?_ | refine WL_some rfl rfl rfl ?_ | refine op_move rfl rfl ?_ | refine op_assign rfl rfl ?_ | refine op_len_slice T rfl rfl rfl rfl ?_)
   refine W_loop (σ := Nat) (fun k => [(0, .slice A L.length c), (6, .slice (some ⟨g, 0, none⟩) (maxOf L) (maxOf L)), (25, .slice A L.length c), (26, .int .i64 L.length), (27, .int .i64 k)])
    (fun k w' => k ≤ L.length ∧ Chg [] w1 w' ∧ Own w' 5 1 (.slice (some ⟨g, 0, none⟩) (maxOf L) (maxOf L)) (maxOf L) (u8s ((L.take k).foldl xorInto (List.replicate (maxOf L) 0)))) (fun k => L.length - k) 0 ⟨rfl, rfl, rfl, rfl, rfl, trivial⟩ ⟨by omega, hc2, hg2'⟩ ?_
   rintro k w3 ⟨hk, hc3, hg3⟩
   repeat (first | refine W_seq ?_ | refine W_region ?_ | refine WL_some rfl rfl rfl ?_)
   (refine op_lss rfl rfl rfl (fun hc => ?_) (fun hc => ?_))
   ·have hlt : k < L.length := by omega
    obtain ⟨ad, u, rfl, hu, hr⟩ := hl.get (i := k) (x := L[k]) (List.getElem?_eq_getElem hlt)
    have hF : Firm [g] w3 (fun w => SliceOf Ru8 w u L[k]) := Firm.old (fun _ _ h => SliceOf.kept Ru8.kept _ _ _ _ h) hr hc3 (by simp; exact hgs)
    obtain ⟨B, cb, rfl, _, _⟩ := hr.form
    have hu3 := hc3.cell0 hu
    repeat (first | refine W_seq ?_ | refine W_block ?_ | refine W_region ?_ | refine W_skip ?_ | refine Then_n ?_ | refine WL_nil ?_ | refine W_condT rfl ?_ | refine WL_some rfl rfl rfl ?_ | refine op_move rfl rfl ?_ | refine op_assign rfl rfl ?_ | refine op_index_nat T rfl rfl rfl rfl rfl rfl (by omega) ?_ | refine op_load T rfl rfl rfl rfl (by assumption) ?_)
    refine op_call rfl rfl rfl (into_has _ _ _ L[k] B _ cb w3 hg3 hF) ?_
    rintro _ w4 ⟨rfl, hc4, hg4⟩
    repeat (first | refine W_region ?_ | refine Then_n ?_ | refine InBlock_n ?_ | refine WL_nil ?_ | refine WL_some rfl rfl rfl ?_ | refine op_move rfl rfl ?_ | refine op_add rfl rfl rfl (wrap_i64_in (by omega) (by omega)) ?_)
    refine Round_n (k + 1) ⟨rfl, rfl, rfl, rfl, rfl, trivial⟩ ⟨by omega, hc3.trans hc4 (by simp [Value.ownBlock]; omega), ?_⟩ (by omega)
    rw [List.take_succ_eq_append_getElem hlt, List.foldl_append]
    exact hg4
   ·obtain rfl : k = L.length := by omega
    rw [List.take_length] at hg3
    repeat (first | refine W_seq ?_ | refine W_region ?_ | refine W_exit ?_ | refine W_ret ?_ | refine Then_n ?_ | refine Then_x ?_ | refine InBlock_hit ?_ | refine Round_x ?_ | refine WL_nil ?_ | refine W_condF rfl ?_ | refine WL_some rfl rfl rfl ?_ | refine op_move rfl rfl ?_ | refine op_assign rfl rfl ?_)
    refine post1 (.inl rfl) rfl rfl ⟨hc3, ?_, fun h hh => by simp [Value.ownBlock] at hh; omega⟩
    rw [parity_length]; exact hg3
end Go.Proofs.YtiadjkjlifnopaaGreatDoor.Tryz
/-! Manifests: the library's sort of segments by their numbers. -/
namespace Go.Vc
open Go Go.Sort Go.Proofs
instance : Inhabited SegM := ⟨⟨0, false, 0, 0, 0, 0⟩⟩
theorem ltSeg (x y : SegM) : ltOf (fun x y : SegM => Lib.compareInt x.num y.num) x y = decide (x.num < y.num) := by
 unfold ltOf Lib.compareInt
 by_cases h1 : x.num < y.num
 ·simp [h1]
 ·by_cases h2 : y.num < x.num <;> simp [h1, h2]
theorem swoSeg : SWO (ltOf fun x y : SegM => Lib.compareInt x.num y.num) where
 irrefl x := by rw [ltSeg]; simp
 trans x y z h1 h2 := by rw [ltSeg] at *; simp at *; omega
 ntrans x y z h1 h2 := by rw [ltSeg] at *; simp at *; omega
end Go.Vc
namespace Go.Proofs.YtiadjkjlifnopaaGreatDoor.Tryz
open Go Go.Vc Go.Sort Go.Proofs
set_option maxHeartbeats 1000000 in
theorem segNumC (x : SegM) (W : World) : Calls Tryz.prog 97 #[.agg (segL x).toArray] W fun e w' => e = .returned (.int .i64 x.num) ∧ ∃ q os', w' = Sort.grow (W.drewN q) os' := by
 unfold segL
 go_enter Tryz.func97, Tryz.ntmps97
 go_wp2
 go_ret
 exact ⟨rfl, 0, _, by rw [alloc_eq_grow]; rfl⟩
set_option maxHeartbeats 4000000 in
set_option maxRecDepth 100000 in
theorem closureSeg (gb : Nat) (x y : SegM) (W : World) (hW : W.cell? ⟨gb, 0, none⟩ = some (.func (.func 97) #[] #[])) : Calls Tryz.prog 143 #[.agg (segL x).toArray, .agg (segL y).toArray, .pointer (some ⟨gb, 0, none⟩)] W fun e w' => e = .returned (.int .i64 (Lib.compareInt x.num y.num)) ∧ ∃ q os', w' = Sort.grow (W.drewN q) os' := by
 have hcon := fun W' => AnyG.cmp_Compare_int Tryz.cmpA x.num y.num W'
 change ∀ W', Calls Tryz.prog 144 _ _ _ at hcon
 have hx := fun W' => segNumC x W'
 have hy := fun W' => segNumC y W'
 generalize Lib.compareInt x.num y.num = r at hcon ⊢
 have hb := World.block_lt_of_cell? _ _ hW
 unfold segL at *
 go_enter Tryz.func143, Tryz.ntmps143
 go_wp2
 have hcon2 : ∀ W', Calls Tryz.prog 144 #[.int .i64 x.num, .int .i64 y.num] W' fun e w' => e = .returned (.int .i64 r) ∧ ∃ q os', w' = Sort.grow (W'.drewN q) os' := fun W' => (hcon W').mono fun e w' ⟨h1, h2⟩ => ⟨h1, 0, #[], by rw [h2, grow_empty]; rfl⟩
 have hc1 := Chg.alloc W (.cells #[.int .i64 x.num, .bool x.sealed, .int .i64 x.group, .int .i64 x.member, .int .i64 x.size, .int .u32 (x.sum : Int)] 26)
 have hb1 := Blk.new W 26 #[.int .i64 x.num, .bool x.sealed, .int .i64 x.group, .int .i64 x.member, .int .i64 x.size, .int .u32 (x.sum : Int)]
 have hs1 : (W.alloc (.cells #[.int .i64 x.num, .bool x.sealed, .int .i64 x.group, .int .i64 x.member, .int .i64 x.size, .int .u32 (x.sum : Int)] 26)).heap.size = W.heap.size + 1 := by simp
 have hgr : ∃ os, (W.alloc (.cells #[.int .i64 x.num, .bool x.sealed, .int .i64 x.group, .int .i64 x.member, .int .i64 x.size, .int .u32 (x.sum : Int)] 26)) = Sort.grow (W.drewN 0) os := ⟨_, by rw [alloc_eq_grow]; rfl⟩
 generalize (W.alloc (.cells #[.int .i64 x.num, .bool x.sealed, .int .i64 x.group, .int .i64 x.member, .int .i64 x.size, .int .u32 (x.sum : Int)] 26)) = W1 at *
 have hc2 := Chg.alloc W1 (.cells #[.int .i64 y.num, .bool y.sealed, .int .i64 y.group, .int .i64 y.member, .int .i64 y.size, .int .u32 (y.sum : Int)] 26)
 have hb2 := Blk.new W1 26 #[.int .i64 y.num, .bool y.sealed, .int .i64 y.group, .int .i64 y.member, .int .i64 y.size, .int .u32 (y.sum : Int)]
 rw [hs1] at hb2
 replace hb1 := hb1.keep0 hc2
 replace hW := (hc1.trans' hc2).cell0 hW
 have hgr2 : ∃ os, (W1.alloc (.cells #[.int .i64 y.num, .bool y.sealed, .int .i64 y.group, .int .i64 y.member, .int .i64 y.size, .int .u32 (y.sum : Int)] 26)) = Sort.grow (W.drewN 0) os := by
  obtain ⟨os, e⟩ := hgr
  exact ⟨_, by rw [e, alloc_eq_grow, grow_grow]⟩
 generalize (W1.alloc (.cells #[.int .i64 y.num, .bool y.sealed, .int .i64 y.group, .int .i64 y.member, .int .i64 y.size, .int .u32 (y.sum : Int)] 26)) = W2 at *
 have hk : ∀ n os, Chg [] W2 (Sort.grow (W2.drewN n) os) := fun n os => ⟨rfl, rfl, rfl, by simp, fun k hk _ => by rw [heap_grow_old _ _ (by simpa using hk)]; rfl⟩
 have f2 : ∀ n os, (Sort.grow (W2.drewN n) os).cell? ⟨gb, 0, none⟩ = some (.func (.func 97) #[] #[]) := fun n os => (hk n os).cell0 hW
 have c0 : ∀ n os, (Sort.grow (W2.drewN n) os).cell? ⟨W.heap.size, 0, none⟩ = some (.int .i64 x.num) := fun n os => (hb1.keep0 (hk n os)).cell rfl
 have c1 : ∀ n os, (Sort.grow (W2.drewN n) os).cell? ⟨W.heap.size, 1, none⟩ = some (.bool x.sealed) := fun n os => (hb1.keep0 (hk n os)).cell rfl
 have c2 : ∀ n os, (Sort.grow (W2.drewN n) os).cell? ⟨W.heap.size, 2, none⟩ = some (.int .i64 x.group) := fun n os => (hb1.keep0 (hk n os)).cell rfl
 have c3 : ∀ n os, (Sort.grow (W2.drewN n) os).cell? ⟨W.heap.size, 3, none⟩ = some (.int .i64 x.member) := fun n os => (hb1.keep0 (hk n os)).cell rfl
 have c4 : ∀ n os, (Sort.grow (W2.drewN n) os).cell? ⟨W.heap.size, 4, none⟩ = some (.int .i64 x.size) := fun n os => (hb1.keep0 (hk n os)).cell rfl
 have c5 : ∀ n os, (Sort.grow (W2.drewN n) os).cell? ⟨W.heap.size, 5, none⟩ = some (.int .u32 (x.sum : Int)) := fun n os => (hb1.keep0 (hk n os)).cell rfl
 have d0 : ∀ n os, (Sort.grow (W2.drewN n) os).cell? ⟨W.heap.size + 1, 0, none⟩ = some (.int .i64 y.num) := fun n os => (hb2.keep0 (hk n os)).cell rfl
 have d1 : ∀ n os, (Sort.grow (W2.drewN n) os).cell? ⟨W.heap.size + 1, 1, none⟩ = some (.bool y.sealed) := fun n os => (hb2.keep0 (hk n os)).cell rfl
 have d2 : ∀ n os, (Sort.grow (W2.drewN n) os).cell? ⟨W.heap.size + 1, 2, none⟩ = some (.int .i64 y.group) := fun n os => (hb2.keep0 (hk n os)).cell rfl
 have d3 : ∀ n os, (Sort.grow (W2.drewN n) os).cell? ⟨W.heap.size + 1, 3, none⟩ = some (.int .i64 y.member) := fun n os => (hb2.keep0 (hk n os)).cell rfl
 have d4 : ∀ n os, (Sort.grow (W2.drewN n) os).cell? ⟨W.heap.size + 1, 4, none⟩ = some (.int .i64 y.size) := fun n os => (hb2.keep0 (hk n os)).cell rfl
 have d5 : ∀ n os, (Sort.grow (W2.drewN n) os).cell? ⟨W.heap.size + 1, 5, none⟩ = some (.int .u32 (y.sum : Int)) := fun n os => (hb2.keep0 (hk n os)).cell rfl
 have mixed := fol
 have ia := Tryz.isAgg26
 have sz := Tryz.sizeOf26
 clear hW hb1 hb2 hk hc1 hc2 hs1 hgr
 go_quiet_grown (first | exact Calls.grown_of (hx _) | exact Calls.grown_of (hy _) | exact Calls.grown_of (hcon2 _))
 go_wp2
 go_ret
 obtain ⟨os, e⟩ := hgr2
 refine ⟨rfl, nq, os ++ osq, ?_⟩
 rw [e]
 show Sort.grow (Sort.grow ((W.drewN 0).drewN nq) os) osq = _
 rw [grow_grow, World.drewN_drewN, Nat.zero_add]
set_option maxHeartbeats 1000000 in
theorem sortSeg_has (gb : Nat) (v : Value) (L : List SegM) (w : World) (hown : Own w 26 6 v L.length (L.flatMap segL)) (hlen : L.length ≤ 1000000) (hgb : w.cell? ⟨gb, 0, none⟩ = some (.func (.func 97) #[] #[])) (hne : gb ∉ v.ownBlock.toList) :
  Has Tryz.prog 142 #[v, .func (.func 143) #[] #[.pointer (some ⟨gb, 0, none⟩)]] w (fun u w' => u = .tuple #[] ∧ Chg v.ownBlock.toList w w' ∧ ∃ L' : List SegM, L'.Perm L ∧ L'.Pairwise (fun x y => x.num ≤ y.num) ∧ Own w' 26 6 v L'.length (L'.flatMap segL)) := by
 by_cases hpos : 0 < L.length
 ·obtain ⟨g, cap, cur, rfl, hn, hm, hb, hl, ht⟩ := hown.blk hpos
  have hb' := hb
  unfold Blk at hb'
  have hfl := flatK_eq segL_len L
  have hfs : (flatK segL 6 L.toArray).toList.length = L.length * 6 := by rw [hfl, rk_len segL_len]
  have hH : HoldsK segL 6 w g 0 L.toArray := by
   have := holds_of (ss := (flatK segL 6 L.toArray).toList) id hb' (by rw [hfs, show cur.toArray.toList = cur from by simp, ht, hfl, List.map_id])
   unfold HoldsK
   simpa using this
  have eg : ∀ args w, (callFunc 143 args).run Tryz.prog w = .ok (.enter 143 args) w := enters_of Tryz.func143 (by kernel_rfl) rfl
  have hcW : ∀ m os (dk : Array SegM), (sortWorldK segL 6 w g 0 m dk os).cell? ⟨gb, 0, none⟩ = some (.func (.func 97) #[] #[]) := fun m os dk => by
   have hc : Chg [g] w (sortWorldK segL 6 w g 0 m dk os) := by
    unfold sortWorldK putRowK
    exact chg_put _ _
   exact hc.cell hgb (by simpa [Value.ownBlock] using hne)
  have hc := AnyQ.slices_SortFunc Tryz.sortSeg 6 Tryz.isAgg26 Tryz.sizeOf26 segL segL_len segL_one (fun x y => Lib.compareInt x.num y.num) swoSeg 143 #[.pointer (some ⟨gb, 0, none⟩)] g 0 cap L.toArray w eg (fun m os dk _ x y => closureSeg gb x y _ (hcW m os dk)) hH hb.lt (by simp; omega)
  simp only [List.size_toArray] at hc
  change Calls Tryz.prog 142 _ _ _ at hc
  refine ⟨⟨_, Tryz.func142, rfl, by decide⟩, Calls.mono hc ?_⟩
  rintro e w' ⟨rfl, d', n, os, hp, hs, rfl⟩
  have hd : d' = d'.toList.toArray := by simp
  obtain ⟨hp1, _, hp3⟩ := hp
  have hsz : d'.toList.length = L.length := by simpa using hp1
  have hperm : d'.toList.Perm L := by
   have h1 : (d'.extract 0 L.length) = d' := Array.extract_eq_self_of_le (by simp at hp1; omega)
   have h2 : (L.toArray.extract 0 L.length) = L.toArray := Array.extract_eq_self_of_le (by simp)
   rw [h1, h2] at hp3
   simpa using hp3
  have hpw : d'.toList.Pairwise (fun x y => x.num ≤ y.num) := by
   rw [List.pairwise_iff_getElem]
   intro i j hi hj hij
   have := hs i j (Nat.zero_le _) hij (by simpa using (show j < L.length by omega))
   rw [ltSeg] at this
   have h3 : ¬ (d'[j]!).num < (d'[i]!).num := by simpa using this
   have hi' : i < d'.size := by simpa using hi
   have hj' : j < d'.size := by simpa using hj
   rw [getElem!_pos d' i hi', getElem!_pos d' j hj'] at h3
   simp only [Array.getElem_toList]
   omega
  refine ⟨_, rfl, rfl, chg_put _ _, d'.toList, hperm, hpw, ?_⟩
  have hfl' := flatK_eq segL_len d'.toList
  rw [← hd] at hfl'
  have hblk : Blk (sortWorldK segL 6 w g 0 n d' os) g 26 (putCells id 0 (flatK segL 6 d') cur.toArray).toList := by
   unfold Blk sortWorldK putRowK
   rw [heap_put _ _ hb']
  rw [show (Value.slice (some ⟨g, 0, none⟩) L.length cap) = .slice (some ⟨g, 0, none⟩) d'.toList.length cap from by rw [hsz]]
  refine Own.mk hblk (by omega) hm (by rw [Array.length_toList, put_size]; simpa using hl) ?_
  have hlen2 : (d'.toList.flatMap segL).length = d'.toList.length * 6 := rk_len segL_len _
  have := take_put id cur.toArray (d'.toList.flatMap segL) (by rw [hlen2, hsz, List.size_toArray, hl]; exact Nat.mul_le_mul_right 6 hn)
  rw [← hlen2, show flatK segL 6 d' = (d'.toList.flatMap segL).toArray from by rw [← hfl']]
  rw [this, List.map_id]
 ·obtain rfl : L = [] := List.eq_nil_of_length_eq_zero (by omega)
  obtain ⟨A, c, rfl, _, _⟩ := hown.form
  have hc := AnyF.slices_SortFunc_none Tryz.sortSeg A c (.func (.func 143) #[] #[.pointer (some ⟨gb, 0, none⟩)]) w
  change Calls Tryz.prog 142 _ _ _ at hc
  refine ⟨⟨_, Tryz.func142, rfl, by decide⟩, Calls.mono hc ?_⟩
  rintro e w' ⟨rfl, rfl⟩
  exact ⟨_, rfl, rfl, Chg.refl _ _, [], List.Perm.refl _, List.Pairwise.nil, hown⟩
end Go.Proofs.YtiadjkjlifnopaaGreatDoor.Tryz
/-! Manifests: the library's sort of parity segments by their groups. -/
namespace Go.Vc
open Go Go.Sort Go.Proofs
abbrev ParS : Type := { q : ParV // q.vn.oneCell' = true ∧ q.vs.oneCell' = true }
def parSL (x : ParS) : List Value := parL x.1
theorem parS_len (x : ParS) : (parSL x).length = 5 := rfl
theorem parS_one (x : ParS) : ∀ u ∈ parSL x, u.oneCell' = true := by
 intro u hu
 obtain ⟨q, h1, h2⟩ := x
 simp only [parSL, parL, List.mem_cons, List.not_mem_nil, or_false] at hu
 rcases hu with rfl | rfl | rfl | rfl | rfl
 ·rfl
 ·exact h1
 ·exact h2
 ·rfl
 ·rfl
instance : Inhabited ParS := ⟨⟨⟨⟨0, [], [], 0, 0⟩, .slice none 0 0, .slice none 0 0⟩, rfl, rfl⟩⟩
theorem ltPar (x y : ParS) : ltOf (fun x y : ParS => Lib.compareInt x.1.p.group y.1.p.group) x y = decide (x.1.p.group < y.1.p.group) := by
 unfold ltOf Lib.compareInt
 by_cases h1 : x.1.p.group < y.1.p.group
 ·simp [h1]
 ·by_cases h2 : y.1.p.group < x.1.p.group <;> simp [h1, h2]
theorem swoPar : SWO (ltOf fun x y : ParS => Lib.compareInt x.1.p.group y.1.p.group) where
 irrefl x := by rw [ltPar]; simp
 trans x y z h1 h2 := by rw [ltPar] at *; simp at *; omega
 ntrans x y z h1 h2 := by rw [ltPar] at *; simp at *; omega
theorem parS_of : ∀ (L : List ParV), (∀ q ∈ L, q.vn.oneCell' = true ∧ q.vs.oneCell' = true) → ∃ L' : List ParS, L'.map (·.1) = L
 | [], _ => ⟨[], rfl⟩
 | q :: L, h => by
  obtain ⟨L', e⟩ := parS_of L (fun x hx => h x (by simp [hx]))
  exact ⟨⟨q, h q (by simp)⟩ :: L', by rw [List.map_cons, e]⟩
end Go.Vc
namespace Go.Proofs.YtiadjkjlifnopaaGreatDoor.Tryz
open Go Go.Vc Go.Sort Go.Proofs
set_option maxHeartbeats 1000000 in
theorem parNumC (x : ParS) (W : World) : Calls Tryz.prog 100 #[.agg (parSL x).toArray] W fun e w' => e = .returned (.int .i64 x.1.p.group) ∧ ∃ q os', w' = Sort.grow (W.drewN q) os' := by
 unfold parSL parL
 go_enter Tryz.func100, Tryz.ntmps100
 go_wp2
 go_ret
 exact ⟨rfl, 0, _, by rw [alloc_eq_grow]; rfl⟩
set_option maxHeartbeats 4000000 in
set_option maxRecDepth 100000 in
theorem closurePar (gb : Nat) (x y : ParS) (W : World) (hW : W.cell? ⟨gb, 0, none⟩ = some (.func (.func 100) #[] #[])) : Calls Tryz.prog 151 #[.agg (parSL x).toArray, .agg (parSL y).toArray, .pointer (some ⟨gb, 0, none⟩)] W fun e w' => e = .returned (.int .i64 (Lib.compareInt x.1.p.group y.1.p.group)) ∧ ∃ q os', w' = Sort.grow (W.drewN q) os' := by
 have hcon := fun W' => AnyG.cmp_Compare_int Tryz.cmpA x.1.p.group y.1.p.group W'
 change ∀ W', Calls Tryz.prog 144 _ _ _ at hcon
 have hx := fun W' => parNumC x W'
 have hy := fun W' => parNumC y W'
 generalize Lib.compareInt x.1.p.group y.1.p.group = r at hcon ⊢
 have hb := World.block_lt_of_cell? _ _ hW
 unfold parSL parL at *
 go_enter Tryz.func151, Tryz.ntmps151
 go_wp2
 have hcon2 : ∀ W', Calls Tryz.prog 144 #[.int .i64 x.1.p.group, .int .i64 y.1.p.group] W' fun e w' => e = .returned (.int .i64 r) ∧ ∃ q os', w' = Sort.grow (W'.drewN q) os' := fun W' => (hcon W').mono fun e w' ⟨h1, h2⟩ => ⟨h1, 0, #[], by rw [h2, grow_empty]; rfl⟩
 have hc1 := Chg.alloc W (.cells #[.int .i64 x.1.p.group, x.1.vn, x.1.vs, .int .i64 x.1.p.size, .int .u32 (x.1.p.sum : Int)] 70)
 have hb1 := Blk.new W 70 #[.int .i64 x.1.p.group, x.1.vn, x.1.vs, .int .i64 x.1.p.size, .int .u32 (x.1.p.sum : Int)]
 have hs1 : (W.alloc (.cells #[.int .i64 x.1.p.group, x.1.vn, x.1.vs, .int .i64 x.1.p.size, .int .u32 (x.1.p.sum : Int)] 70)).heap.size = W.heap.size + 1 := by simp
 have hgr : ∃ os, (W.alloc (.cells #[.int .i64 x.1.p.group, x.1.vn, x.1.vs, .int .i64 x.1.p.size, .int .u32 (x.1.p.sum : Int)] 70)) = Sort.grow (W.drewN 0) os := ⟨_, by rw [alloc_eq_grow]; rfl⟩
 generalize (W.alloc (.cells #[.int .i64 x.1.p.group, x.1.vn, x.1.vs, .int .i64 x.1.p.size, .int .u32 (x.1.p.sum : Int)] 70)) = W1 at *
 have hc2 := Chg.alloc W1 (.cells #[.int .i64 y.1.p.group, y.1.vn, y.1.vs, .int .i64 y.1.p.size, .int .u32 (y.1.p.sum : Int)] 70)
 have hb2 := Blk.new W1 70 #[.int .i64 y.1.p.group, y.1.vn, y.1.vs, .int .i64 y.1.p.size, .int .u32 (y.1.p.sum : Int)]
 rw [hs1] at hb2
 replace hb1 := hb1.keep0 hc2
 replace hW := (hc1.trans' hc2).cell0 hW
 have hgr2 : ∃ os, (W1.alloc (.cells #[.int .i64 y.1.p.group, y.1.vn, y.1.vs, .int .i64 y.1.p.size, .int .u32 (y.1.p.sum : Int)] 70)) = Sort.grow (W.drewN 0) os := by
  obtain ⟨os, e⟩ := hgr
  exact ⟨_, by rw [e, alloc_eq_grow, grow_grow]⟩
 generalize (W1.alloc (.cells #[.int .i64 y.1.p.group, y.1.vn, y.1.vs, .int .i64 y.1.p.size, .int .u32 (y.1.p.sum : Int)] 70)) = W2 at *
 have hk : ∀ n os, Chg [] W2 (Sort.grow (W2.drewN n) os) := fun n os => ⟨rfl, rfl, rfl, by simp, fun k hk _ => by rw [heap_grow_old _ _ (by simpa using hk)]; rfl⟩
 have f2 : ∀ n os, (Sort.grow (W2.drewN n) os).cell? ⟨gb, 0, none⟩ = some (.func (.func 100) #[] #[]) := fun n os => (hk n os).cell0 hW
 have c0 : ∀ n os, (Sort.grow (W2.drewN n) os).cell? ⟨W.heap.size, 0, none⟩ = some (.int .i64 x.1.p.group) := fun n os => (hb1.keep0 (hk n os)).cell rfl
 have c1 : ∀ n os, (Sort.grow (W2.drewN n) os).cell? ⟨W.heap.size, 1, none⟩ = some x.1.vn := fun n os => (hb1.keep0 (hk n os)).cell rfl
 have c2 : ∀ n os, (Sort.grow (W2.drewN n) os).cell? ⟨W.heap.size, 2, none⟩ = some x.1.vs := fun n os => (hb1.keep0 (hk n os)).cell rfl
 have c3 : ∀ n os, (Sort.grow (W2.drewN n) os).cell? ⟨W.heap.size, 3, none⟩ = some (.int .i64 x.1.p.size) := fun n os => (hb1.keep0 (hk n os)).cell rfl
 have c4 : ∀ n os, (Sort.grow (W2.drewN n) os).cell? ⟨W.heap.size, 4, none⟩ = some (.int .u32 (x.1.p.sum : Int)) := fun n os => (hb1.keep0 (hk n os)).cell rfl
 have d0 : ∀ n os, (Sort.grow (W2.drewN n) os).cell? ⟨W.heap.size + 1, 0, none⟩ = some (.int .i64 y.1.p.group) := fun n os => (hb2.keep0 (hk n os)).cell rfl
 have d1 : ∀ n os, (Sort.grow (W2.drewN n) os).cell? ⟨W.heap.size + 1, 1, none⟩ = some y.1.vn := fun n os => (hb2.keep0 (hk n os)).cell rfl
 have d2 : ∀ n os, (Sort.grow (W2.drewN n) os).cell? ⟨W.heap.size + 1, 2, none⟩ = some y.1.vs := fun n os => (hb2.keep0 (hk n os)).cell rfl
 have d3 : ∀ n os, (Sort.grow (W2.drewN n) os).cell? ⟨W.heap.size + 1, 3, none⟩ = some (.int .i64 y.1.p.size) := fun n os => (hb2.keep0 (hk n os)).cell rfl
 have d4 : ∀ n os, (Sort.grow (W2.drewN n) os).cell? ⟨W.heap.size + 1, 4, none⟩ = some (.int .u32 (y.1.p.sum : Int)) := fun n os => (hb2.keep0 (hk n os)).cell rfl
 have mixed := fol
 have ia := Tryz.isAgg70
 have sz := Tryz.sizeOf70
 clear hW hb1 hb2 hk hc1 hc2 hs1 hgr
 go_quiet_grown (first | exact Calls.grown_of (hx _) | exact Calls.grown_of (hy _) | exact Calls.grown_of (hcon2 _))
 go_wp2
 go_ret
 obtain ⟨os, e⟩ := hgr2
 refine ⟨rfl, nq, os ++ osq, ?_⟩
 rw [e]
 show Sort.grow (Sort.grow ((W.drewN 0).drewN nq) os) osq = _
 rw [grow_grow, World.drewN_drewN, Nat.zero_add]
set_option maxHeartbeats 1000000 in
theorem sortPar0_has (gb : Nat) (v : Value) (L : List ParS) (w : World) (hown : Own w 70 5 v L.length (L.flatMap parSL)) (hlen : L.length ≤ 1000000) (hgb : w.cell? ⟨gb, 0, none⟩ = some (.func (.func 100) #[] #[])) (hne : gb ∉ v.ownBlock.toList) :
  Has Tryz.prog 150 #[v, .func (.func 151) #[] #[.pointer (some ⟨gb, 0, none⟩)]] w (fun u w' => u = .tuple #[] ∧ Chg v.ownBlock.toList w w' ∧ ∃ L' : List ParS, L'.Perm L ∧ L'.Pairwise (fun x y => x.1.p.group ≤ y.1.p.group) ∧ Own w' 70 5 v L'.length (L'.flatMap parSL)) := by
 by_cases hpos : 0 < L.length
 ·obtain ⟨g, cap, cur, rfl, hn, hm, hb, hl, ht⟩ := hown.blk hpos
  have hb' := hb
  unfold Blk at hb'
  have hfl := flatK_eq parS_len L
  have hfs : (flatK parSL 5 L.toArray).toList.length = L.length * 5 := by rw [hfl, rk_len parS_len]
  have hH : HoldsK parSL 5 w g 0 L.toArray := by
   have := holds_of (ss := (flatK parSL 5 L.toArray).toList) id hb' (by rw [hfs, show cur.toArray.toList = cur from by simp, ht, hfl, List.map_id])
   unfold HoldsK
   simpa using this
  have eg : ∀ args w, (callFunc 151 args).run Tryz.prog w = .ok (.enter 151 args) w := enters_of Tryz.func151 (by kernel_rfl) rfl
  have hcW : ∀ m os (dk : Array ParS), (sortWorldK parSL 5 w g 0 m dk os).cell? ⟨gb, 0, none⟩ = some (.func (.func 100) #[] #[]) := fun m os dk => by
   have hc : Chg [g] w (sortWorldK parSL 5 w g 0 m dk os) := by
    unfold sortWorldK putRowK
    exact chg_put _ _
   exact hc.cell hgb (by simpa [Value.ownBlock] using hne)
  have hc := AnyQ.slices_SortFunc Tryz.sortPar 5 Tryz.isAgg70 Tryz.sizeOf70 parSL parS_len parS_one (fun x y => Lib.compareInt x.1.p.group y.1.p.group) swoPar 151 #[.pointer (some ⟨gb, 0, none⟩)] g 0 cap L.toArray w eg (fun m os dk _ x y => closurePar gb x y _ (hcW m os dk)) hH hb.lt (by simp; omega)
  simp only [List.size_toArray] at hc
  change Calls Tryz.prog 150 _ _ _ at hc
  refine ⟨⟨_, Tryz.func150, rfl, by decide⟩, Calls.mono hc ?_⟩
  rintro e w' ⟨rfl, d', n, os, hp, hs, rfl⟩
  have hd : d' = d'.toList.toArray := by simp
  obtain ⟨hp1, _, hp3⟩ := hp
  have hsz : d'.toList.length = L.length := by simpa using hp1
  have hperm : d'.toList.Perm L := by
   have h1 : (d'.extract 0 L.length) = d' := Array.extract_eq_self_of_le (by simp at hp1; omega)
   have h2 : (L.toArray.extract 0 L.length) = L.toArray := Array.extract_eq_self_of_le (by simp)
   rw [h1, h2] at hp3
   simpa using hp3
  have hpw : d'.toList.Pairwise (fun x y => x.1.p.group ≤ y.1.p.group) := by
   rw [List.pairwise_iff_getElem]
   intro i j hi hj hij
   have := hs i j (Nat.zero_le _) hij (by simpa using (show j < L.length by omega))
   rw [ltPar] at this
   have h3 : ¬ (d'[j]!).1.p.group < (d'[i]!).1.p.group := by simpa using this
   have hi' : i < d'.size := by simpa using hi
   have hj' : j < d'.size := by simpa using hj
   rw [getElem!_pos d' i hi', getElem!_pos d' j hj'] at h3
   simp only [Array.getElem_toList]
   omega
  refine ⟨_, rfl, rfl, chg_put _ _, d'.toList, hperm, hpw, ?_⟩
  have hfl' := flatK_eq parS_len d'.toList
  rw [← hd] at hfl'
  have hblk : Blk (sortWorldK parSL 5 w g 0 n d' os) g 70 (putCells id 0 (flatK parSL 5 d') cur.toArray).toList := by
   unfold Blk sortWorldK putRowK
   rw [heap_put _ _ hb']
  rw [show (Value.slice (some ⟨g, 0, none⟩) L.length cap) = .slice (some ⟨g, 0, none⟩) d'.toList.length cap from by rw [hsz]]
  refine Own.mk hblk (by omega) hm (by rw [Array.length_toList, put_size]; simpa using hl) ?_
  have hlen2 : (d'.toList.flatMap parSL).length = d'.toList.length * 5 := rk_len parS_len _
  have := take_put id cur.toArray (d'.toList.flatMap parSL) (by rw [hlen2, hsz, List.size_toArray, hl]; exact Nat.mul_le_mul_right 5 hn)
  rw [← hlen2, show flatK parSL 5 d' = (d'.toList.flatMap parSL).toArray from by rw [← hfl']]
  rw [this, List.map_id]
 ·obtain rfl : L = [] := List.eq_nil_of_length_eq_zero (by omega)
  obtain ⟨A, c, rfl, _, _⟩ := hown.form
  have hc := AnyF.slices_SortFunc_none Tryz.sortPar A c (.func (.func 151) #[] #[.pointer (some ⟨gb, 0, none⟩)]) w
  change Calls Tryz.prog 150 _ _ _ at hc
  refine ⟨⟨_, Tryz.func150, rfl, by decide⟩, Calls.mono hc ?_⟩
  rintro e w' ⟨rfl, rfl⟩
  exact ⟨_, rfl, rfl, Chg.refl _ _, [], List.Perm.refl _, List.Pairwise.nil, hown⟩
end Go.Proofs.YtiadjkjlifnopaaGreatDoor.Tryz
/-! clear, at a part of a row of the call's own. -/
namespace Go.Vc
open Go
section
variable {P : Program} {N : Nat} {e : Env} {w : World} {o : Oper} {K : Value → World → Prop}
theorem op_clear (T : Types P) {x : Operand} {t el tb : TypeId} {d : TInfo} {A : Option Addr} {g off m c : Nat} {cs : List Value} {ts : Array TypeId}
  (hop : o.op = .call { callee := .builtin .clear, args := #[x], argTypes := ts }) (hts : ts = #[t]) (hx : ev e x = some (.slice A m c)) (ht : T.d t = some (.slice el)) (hel : T.tbl el = some d)
  (hz : Nat.beq d.zero.cells.size d.size = true) (h1 : d.zero.cells.toList.all (fun u => u.oneCell') = true) (hA : m = 0 ∨ A = some ⟨g, off, none⟩) (hb : Blk w g tb cs) (hfit : off + m * d.size ≤ cs.length)
  (h : ∀ w1 rest, Chg [g] w w1 → Blk w1 g tb (cs.take off ++ rest) → (cs.take off ++ rest).length = cs.length → K (.tuple #[]) w1) : OpW P N o e w K := by
 subst hts
 obtain ⟨q, hq, hzq, hs, hbq⟩ := T.inf el d hel
 have hz' : d.zero.cells.size = d.size := Nat.eq_of_beq_eq_true hz
 rcases Nat.eq_zero_or_pos m with hm | hm
 ·subst hm
  have := h w (cs.drop off) (Chg.refl _ _) (by rw [List.take_append_drop]; exact hb) (by rw [List.take_append_drop])
  refine OpW_run (v := .tuple #[]) (w' := w) (fun a ha => ?_) this
  cases A <;> simp [execOp, hop, resolve, invoke, builtin, ha.ev hx, Builtin.clear_, run_underlying (T.und' ht)]
 ·have hA' : A = some ⟨g, off, none⟩ := hA.resolve_left (by omega)
  subst hA'
  have hb' := hb
  unfold Blk at hb'
  have hzl : (Builtin.zeroCells d.zero.cells m).toList.length = m * d.size := by simp [Builtin.zeroCells, hz']
  have hall : ∀ v ∈ (Builtin.zeroCells d.zero.cells m).toList, v.oneCell' = true := fun v hv => by
   simp only [Builtin.zeroCells, Array.toList_map, List.mem_map] at hv
   obtain ⟨i, hi, rfl⟩ := hv
   by_cases hsz : 0 < d.zero.cells.size
   ·have hlt : i % d.zero.cells.size < d.zero.cells.size := Nat.mod_lt _ hsz
    rw [getElem!_pos d.zero.cells (i % d.zero.cells.size) hlt]
    exact List.all_eq_true.1 h1 _ (by rw [← Array.getElem_toList hlt]; exact List.getElem_mem _)
   ·simp at hi
    have : d.zero.cells.size = 0 := by omega
    rw [this] at hi; simp at hi
  have hr := run_storeCells_at (P := P) g off tb (Builtin.zeroCells d.zero.cells m).toList 0 cs.toArray w hb' (by simp only [Nat.add_zero, List.size_toArray]; omega) hall
  have hblk : Blk (w.setRow g (cs.toArray.toList.take (off + 0) ++ (Builtin.zeroCells d.zero.cells m).toList ++ cs.toArray.toList.drop (off + 0 + (Builtin.zeroCells d.zero.cells m).toList.length)).toArray) g tb (cs.take off ++ ((Builtin.zeroCells d.zero.cells m).toList ++ cs.drop (off + m * d.size))) := by
   unfold Blk
   rw [setRow_heap w g cs.toArray _ tb _ hb', Nat.add_zero, hzl]
   simp
  have := h (w.setRow g (cs.toArray.toList.take (off + 0) ++ (Builtin.zeroCells d.zero.cells m).toList ++ cs.toArray.toList.drop (off + 0 + (Builtin.zeroCells d.zero.cells m).toList.length)).toArray) _ ⟨rfl, rfl, rfl, by simp, fun k _ hk => setRow_other w g k _ (by simpa using hk)⟩ hblk (by simp only [List.length_append, hzl, List.length_take, List.length_drop]; omega)
  refine OpW_run (v := .tuple #[]) (fun a ha => ?_) this
  obtain ⟨n', rfl⟩ : ∃ n', m = n' + 1 := ⟨m - 1, by omega⟩
  have hzv : (zeroValue el).run P w = .ok d.zero w := by simp [zeroValue, typeInfo, hq, hzq]
  simp [execOp, hop, resolve, invoke, builtin, ha.ev hx, Builtin.clear_, run_underlying (T.und' ht), hzv, Result.andThen] at hr ⊢
  simp [hr]
end
end Go.Vc
/-! Sorting, in plain words. -/
namespace Go.Vc
open Go
section
variable {α : Type} {le : α → α → Bool}
def insM (le : α → α → Bool) (x : α) : List α → List α
 | [] => [x]
 | y :: l => if le x y = true then x :: y :: l else y :: insM le x l
def isM (le : α → α → Bool) : List α → List α
 | [] => []
 | x :: l => insM le x (isM le l)
theorem insM_perm (x : α) : ∀ l : List α, (insM le x l).Perm (x :: l)
 | [] => List.Perm.refl _
 | y :: l => by
  unfold insM
  split
  ·exact List.Perm.refl _
  ·exact ((insM_perm x l).cons y).trans (List.Perm.swap x y l)
theorem isM_perm : ∀ l : List α, (isM le l).Perm l
 | [] => List.Perm.refl _
 | x :: l => (insM_perm x _).trans ((isM_perm l).cons x)
theorem insM_sorted (ht : ∀ x y, le x y = true ∨ le y x = true) (htr : ∀ x y z, le x y = true → le y z = true → le x z = true) (x : α) : ∀ {l : List α}, l.Pairwise (fun a b => le a b = true) → (insM le x l).Pairwise (fun a b => le a b = true)
 | [], _ => by simp [insM]
 | y :: l, h => by
  rw [List.pairwise_cons] at h
  unfold insM
  split
  ·rename_i hxy
   rw [List.pairwise_cons]
   refine ⟨fun z hz => ?_, List.pairwise_cons.2 h⟩
   rcases List.mem_cons.1 hz with rfl | hz
   ·exact hxy
   ·exact htr _ _ _ hxy (h.1 z hz)
  ·rename_i hxy
   rw [List.pairwise_cons]
   refine ⟨fun z hz => ?_, insM_sorted ht htr x h.2⟩
   have hz' := (insM_perm x l).mem_iff.1 hz
   rcases List.mem_cons.1 hz' with rfl | hz'
   ·rcases ht z y with h1 | h1
    ·exact absurd h1 hxy
    ·exact h1
   ·exact h.1 z hz'
theorem isM_sorted (ht : ∀ x y, le x y = true ∨ le y x = true) (htr : ∀ x y z, le x y = true → le y z = true → le x z = true) : ∀ l : List α, (isM le l).Pairwise (fun a b => le a b = true)
 | [] => List.Pairwise.nil
 | x :: l => insM_sorted ht htr x (isM_sorted ht htr l)
theorem perm_sorted_eq {R : α → α → Prop} (ha : ∀ x y, R x y → R y x → x = y) : ∀ {l l' : List α}, l.Perm l' → l.Pairwise R → l'.Pairwise R → l = l'
 | [], l', hp, _, _ => (List.Perm.nil_eq hp)
 | x :: l, [], hp, _, _ => by have := hp.length_eq; simp at this
 | x :: l, y :: l', hp, h, h' => by
  rw [List.pairwise_cons] at h h'
  have hxy : x = y := by
   rcases List.mem_cons.1 (hp.mem_iff.1 (List.mem_cons_self ..)) with e | hx
   ·exact e
   rcases List.mem_cons.1 (hp.mem_iff.2 (List.mem_cons_self ..)) with e | hy
   ·exact e.symm
   exact ha _ _ (h.1 y hy) (h'.1 x hx)
  subst hxy
  rw [perm_sorted_eq ha ((List.perm_cons x).1 hp) h.2 h'.2]
end
end Go.Vc
/-! An append that has room, in place; rows of which one element goes; lists by keys, in plain words. -/
namespace Go.Vc
open Go
theorem op_appendIn {P : Program} {N : Nat} {e : Env} {w : World} {o : Oper} {K : Value → World → Prop} (T : Types P) {x y : Operand} {t el : TypeId} {d : TInfo} {g n cap m c : Nat} {a : Addr} {cur news : List Value} {ts : Array TypeId}
  (hop : o.op = .call { callee := .builtin .append, args := #[x, y], argTypes := ts }) (hts : ts = #[t, t]) (hx : ev e x = some (.slice (some ⟨g, 0, none⟩) n cap)) (hy : ev e y = some (.slice (some a) m c)) (ht : T.d t = some (.slice el)) (hel : T.tbl el = some d)
  (hb : Blk w g el cur) (hl : news.length = m * d.size) (hnews : ∀ j u, news[j]? = some u → w.cell? (a.add j) = some u) (h1 : ∀ u ∈ news, u.oneCell' = true) (hroom : n + m ≤ cap) (hfit : n * d.size + news.length ≤ cur.length)
  (h : ∀ w1, Chg [g] w w1 → Blk w1 g el (cur.take (n * d.size) ++ news ++ cur.drop (n * d.size + news.length)) → K (.slice (some ⟨g, 0, none⟩) (n + m) cap) w1) : OpW P N o e w K := by
 subst hts
 obtain ⟨q, hq, _, hs, _⟩ := T.inf el d hel
 have hb' := hb
 unfold Blk at hb'
 have hrun := run_append_room (P := P) w t o.type el q (T.und' ht) hq g n cap cur.toArray hb' a m c news (by rw [hs]; exact hl) hnews h1 hroom (by rw [hs]; simpa using hfit)
 rw [hs] at hrun
 have hblk : Blk (w.setRow g (cur.take (n * d.size) ++ news ++ cur.drop (n * d.size + news.length)).toArray) g el (cur.take (n * d.size) ++ news ++ cur.drop (n * d.size + news.length)) := by
  unfold Blk
  rw [setRow_heap w g cur.toArray _ el _ hb']
 refine OpW_run (w' := w.setRow g (cur.take (n * d.size) ++ news ++ cur.drop (n * d.size + news.length)).toArray) (v := .slice (some ⟨g, 0, none⟩) (n + m) cap) (fun f hf => ?_) (h _ ⟨rfl, rfl, rfl, by simp, fun k _ hk => setRow_other w g k _ (by simpa using hk)⟩ hblk)
 generalize hY : w.setRow g (cur.take (n * d.size) ++ news ++ cur.drop (n * d.size + news.length)).toArray = Y at hrun ⊢
 simp [execOp, hop, resolve, invoke, builtin, hf.ev hx, hf.ev hy, hrun]
theorem op_slice3 {P : Program} {N : Nat} {e : Env} {w : World} {o : Oper} {K : Value → World → Prop} (T : Types P) {x y z u : Operand} {t el : TypeId} {A : Option Addr} {n c : Nat} {j : TInfo} {l h' m : Nat} {k k' k2 : IntKind}
  (hop : o.op = .slice t x (some y) (some z) (some u)) (hx : ev e x = some (.slice A n c)) (ht : T.d t = some (.slice el)) (hel : T.tbl el = some j)
  (hy : ev e y = some (.int k (l : Int))) (hz : ev e z = some (.int k' (h' : Int))) (hu : ev e u = some (.int k2 (m : Int)))
  (h0 : l ≤ h') (h1 : h' ≤ m) (h2 : m ≤ c) (h : ∀ v, K v w) : OpW P N o e w K := by
 obtain ⟨q, hq, _, hs, _⟩ := T.inf el j hel
 refine OpW_run (v := .slice (if m = l then A else A.map (·.add (l * j.size))) (h' - l) (m - l)) (fun a ha => ?_) (h _)
 simp [execOp, hop, ha.ev hx, ha.ev hy, ha.ev hz, ha.ev hu, Instr.sliceAt, Instr.slice, Instr.sliceBounds, Instr.sliceBound, asIntOf, run_underlying (T.und' ht), sizeOf, typeInfo, hq, hs, h0, h1, h2]
theorem eraseIdx_split {α : Type} (L : List α) (i : Nat) (h : i < L.length) : L.eraseIdx i = L.take i ++ L.drop (i + 1) := by
 rw [List.eraseIdx_eq_take_drop_succ]
def takeK {α : Type} (key : α → Int) : List Int → List α → Option (List α)
 | [], L => some L
 | n :: ns, L => if idxM (fun x => decide (key x = n)) L < 0 then none else takeK key ns (L.eraseIdx (idxM (fun x => decide (key x = n)) L).toNat)
def putK {α : Type} (key : α → Int) : List α → List α → Option (List α)
 | [], L => some L
 | x :: xs, L => if (L.any fun y => decide (key x = key y)) = true then none else putK key xs (L ++ [x])
def leK {α : Type} (key : α → Int) (x y : α) : Bool := decide (key x ≤ key y)
def sortK {α : Type} (key : α → Int) (L : List α) : List α := isM (leK key) L
theorem sortK_unique {α : Type} {key : α → Int} {L L' : List α} (hn : (L.map key).Nodup) (hp : L'.Perm L) (hs : L'.Pairwise (fun x y => key x ≤ key y)) : L' = sortK key L := by
 have hn2 : (L'.map key).Nodup := (hp.map key).nodup_iff.2 hn
 have hp3 := isM_perm (le := leK key) L
 have hn3 : ((sortK key L).map key).Nodup := (hp3.map key).nodup_iff.2 hn
 have hs3 : (sortK key L).Pairwise (fun x y => key x ≤ key y) := (isM_sorted (le := leK key) (fun x y => by unfold leK; simp; omega) (fun x y z h1 h2 => by unfold leK at *; simp at *; omega) L).imp (fun h => by unfold leK at h; simpa using h)
 have strict : ∀ {M : List α}, (M.map key).Nodup → M.Pairwise (fun x y => key x ≤ key y) → M.Pairwise (fun x y => key x < key y) := fun {M} h1 h2 => by
  unfold List.Nodup at h1
  rw [List.pairwise_map] at h1
  exact (h1.and h2).imp (fun h => by omega)
 exact perm_sorted_eq (R := fun x y : α => key x < key y) (fun x y h1 h2 => by omega) (hp.trans hp3.symm) (strict hn2 hs) (strict hn3 hs3)
theorem takeK_sub {α : Type} {key : α → Int} : ∀ {ns : List Int} {L L' : List α}, takeK key ns L = some L' → L'.Sublist L
 | [], L, L', h => by simp [takeK] at h; subst h; exact List.Sublist.refl _
 | n :: ns, L, L', h => by
  rw [takeK] at h
  split at h
  ·cases h
  ·exact (takeK_sub h).trans (List.eraseIdx_sublist _ _)
theorem putK_eq {α : Type} {key : α → Int} : ∀ {xs L L' : List α}, putK key xs L = some L' → L' = L ++ xs ∧ ((L.map key).Nodup → (L'.map key).Nodup)
 | [], L, L', h => by simp [putK] at h; subst h; simp
 | x :: xs, L, L', h => by
  rw [putK] at h
  split at h
  ·cases h
  ·rename_i hno
   obtain ⟨h1, h2⟩ := putK_eq h
   refine ⟨by rw [h1, List.append_assoc]; rfl, fun hn => h2 ?_⟩
   rw [List.map_append, List.nodup_append]
   refine ⟨hn, by simp, fun a ha b hb e => ?_⟩
   simp at hb; subst hb
   obtain ⟨y, hy, rfl⟩ := List.mem_map.1 ha
   apply hno
   rw [List.any_eq_true]
   exact ⟨y, hy, by simp [e]⟩
end Go.Vc
/-! Manifests: the library's Clone and Delete of segments. -/
namespace Go.Proofs.YtiadjkjlifnopaaGreatDoor.Tryz
open Go Go.Vc
set_option maxHeartbeats 1000000 in
theorem cloneSeg_has (A : Option Addr) (n c : Nat) (L : List SegM) (w : World) (hl : SliceK 6 (RdL segL) w (.slice A n c) L) (hb : L.length ≤ 1000000) :
  Has Tryz.prog 69 #[.slice A n c] w (fun v w' => Chg [] w w' ∧ Own w' 26 6 v L.length (L.flatMap segL) ∧ ∀ g, v.ownBlock = some g → w.heap.size ≤ g) := by
 obtain ⟨rfl, hl1, hl2⟩ := hl.len
 refine enter Tryz.func69 rfl rfl (by decide) rfl (e := [(0, .slice A L.length c)]) ⟨rfl, trivial⟩ ?_
 refine run ?_
 refine go T 9 rfl ?_
 refine o1 rfl ?_
 refine op_eql_nil T rfl rfl rfl rfl (fun hA => ?_) (fun ad hA => ?_)
 ·have hl0 : L = [] := by
   cases L with
   | nil => rfl
   | cons c l => obtain ⟨ad, he, _⟩ := hl.at (i := 0) (x := c) rfl; rw [hA] at he; cases he
  subst hl0
  refine go T 10 rfl ?_
  exact post1 (.inl rfl) rfl rfl ⟨Chg.refl _ _, Own.nil _ _ _, fun g h => by simp [Value.ownBlock] at h⟩
 ·subst hA
  refine go T 7 rfl ?_
  refine o1 rfl ?_
  refine op_buildSlice T rfl rfl rfl rfl rfl rfl rfl (fun g w1 hgs hc1 hg1 => ?_)
  have ho : Own w1 26 6 (.slice (some ⟨g, 0, none⟩) 0 0) 0 [] := Own.mk hg1 (Nat.le_refl _) (Nat.zero_le _) rfl rfl
  have hl' := hl.keepR hc1
  refine go T 1 rfl ?_
  refine o1 rfl ?_
  refine op_append T (n := 0) (xs := []) (m := L.length) (news := L.flatMap segL) rfl rfl rfl rfl rfl rfl rfl rfl ho (rk_len segL_len L) ?_ (by unfold maxLen; omega) (by show (0 + _) * 48 ≤ _; omega) ?_
  ·intro j u hu
   have hjl := (List.getElem?_eq_some_iff.1 hu).1
   rw [rk_len segL_len] at hjl
   have hi : j / 6 < L.length := by omega
   have hm : j % 6 < 6 := by omega
   have hx : L[j / 6]? = some L[j / 6] := List.getElem?_eq_getElem hi
   have h1 := rk_get segL_len L hx hm
   rw [show j / 6 * 6 + j % 6 = j from by omega, hu] at h1
   obtain ⟨ad', he, hel⟩ := hl'.at hx
   have h2 := hel (j % 6) u h1.symm
   rw [show j / 6 * 6 + j % 6 = j from by omega] at h2
   exact ⟨⟨ad', he, h2⟩, segL_one _ u (List.mem_of_getElem? h1.symm)⟩
  ·intro v w2 hu2 hc2 hb2 _
   rw [Nat.zero_add, List.nil_append] at hu2
   have hgs : w.heap.size ≤ g := hgs
   refine go T 4 rfl ?_
   refine post1 (.inl rfl) rfl rfl ⟨hc1.trans hc2 (fun k hk hlt => by simp [Value.ownBlock] at hk; omega), hu2, fun h hh => ?_⟩
   rcases hb2 with hb2 | ⟨g', hb2, hge⟩
   ·rw [hb2] at hh; simp [Value.ownBlock] at hh; omega
   ·rw [hb2] at hh; injection hh with hh; have := hc1.size; omega
set_option maxHeartbeats 2000000 in
theorem deleteSeg_has (v : Value) (L : List SegM) (k : Nat) (w : World) (hown : Own w 26 6 v L.length (L.flatMap segL)) (hk : k < L.length) (hb : L.length ≤ 1000000) :
  Has Tryz.prog 140 #[v, .int .i64 (k : Int), .int .i64 ((k : Int) + 1)] w (fun v' w' => Chg v.ownBlock.toList w w' ∧ v'.ownBlock = v.ownBlock ∧ Own w' 26 6 v' (L.eraseIdx k).length ((L.eraseIdx k).flatMap segL)) := by
 obtain ⟨g, cap, cur, rfl, hn, hm, hblk, hl, ht⟩ := hown.blk (by omega)
 have hmm := hm
 unfold maxLen at hmm
 refine enter Tryz.func140 rfl rfl (by decide) rfl (e := [(0, .slice (some ⟨g, 0, none⟩) L.length cap), (1, .int .i64 (k : Int)), (2, .int .i64 ((k : Int) + 1))]) ⟨rfl, rfl, rfl, trivial⟩ ?_
 rw [show ((k : Int) + 1) = ((k + 1 : Nat) : Int) from by omega]
 refine run ?_
 refine go T 12 rfl ?_
 refine o1 rfl ?_
 refine op_slice3 T (l := k) (h' := k + 1) (m := L.length) rfl rfl rfl rfl rfl rfl rfl (by omega) (by omega) (by omega) (fun v13 => ?_)
 refine go T 7 rfl ?_
 refine eqF rfl rfl rfl rfl (by omega) ?_
 refine go T 13 rfl ?_
 refine W_walk 6 [] fol (by kernel_rfl) (by kernel_rfl) ?_
 refine Walk.plain rfl (by intro val w_ hR hp; exact op_move rfl rfl ⟨Chg.refl _ _, rfl⟩) ?_; dsimp only [na1, na2]
 refine Walk.plain rfl (by intro val w_ hR hp; exact op_move rfl rfl ⟨Chg.refl _ _, rfl⟩) ?_; dsimp only [na1, na2]
 refine Walk.plain (v := .slice (some ⟨g, 0, none⟩) k cap) rfl (by intro val w_ hR hp; exact op_slice_to T (h' := k) (k := .i64) rfl rfl rfl rfl rfl (by omega) ⟨Chg.refl _ _, rfl⟩) ?_; dsimp only [na1, na2]
 refine Walk.plain rfl (by intro val w_ hR hp; exact op_move rfl rfl ⟨Chg.refl _ _, rfl⟩) ?_; dsimp only [na1, na2]
 refine Walk.plain rfl (by intro val w_ hR hp; exact op_move rfl rfl ⟨Chg.refl _ _, rfl⟩) ?_; dsimp only [na1, na2]
 refine Walk.plain (v := .slice (if cap = k + 1 then some ⟨g, 0, none⟩ else (some (⟨g, 0, none⟩ : Addr)).map (·.add ((k + 1) * 6))) (L.length - (k + 1)) (cap - (k + 1))) rfl (by intro val w_ hR hp; exact op_slice T (l := k + 1) (h' := L.length) rfl rfl rfl rfl ⟨_, rfl⟩ rfl (by omega) (by omega) ⟨Chg.refl _ _, rfl⟩) ?_; dsimp only [na1, na2]
 skip
 refine Walk.fin ?_
 intro val w1 hc1 hp
 clear hp
 replace hown := hown.keep0 hc1
 replace hblk := hblk.keep0 hc1
 have hb1 := hblk
 obtain ⟨a, ha, hav⟩ : ∃ a, (if cap = k + 1 then some ⟨g, 0, none⟩ else (some (⟨g, 0, none⟩ : Addr)).map (·.add ((k + 1) * 6))) = some a ∧ (cap = k + 1 ∨ a = (⟨g, 0, none⟩ : Addr).add ((k + 1) * 6)) := by
  split
  ·rename_i h; exact ⟨_, rfl, .inl h⟩
  ·exact ⟨_, rfl, .inr rfl⟩
 rw [ha]
 have hcells : ∀ j u, ((L.drop (k + 1)).flatMap segL)[j]? = some u → w1.cell? (a.add j) = some u := fun j u hj => by
  rcases hav with h | h
  ·have : L.drop (k + 1) = [] := List.drop_eq_nil_of_le (by omega)
   rw [this] at hj; simp at hj
  ·rw [h, add_of_add, add_plain]
   have hlen : ((L.drop (k + 1)).flatMap segL).length = (L.length - (k + 1)) * 6 := by rw [rk_len segL_len, List.length_drop]
   have hjl := (List.getElem?_eq_some_iff.1 hj).1
   rw [hlen] at hjl
   refine hb1.cell ?_
   have e1 : (L.flatMap segL)[(k + 1) * 6 + j]? = some u := by
    have h2 : L.flatMap segL = (L.take (k + 1)).flatMap segL ++ (L.drop (k + 1)).flatMap segL := by rw [← List.flatMap_append, List.take_append_drop]
    rw [h2, List.getElem?_append_right (by rw [rk_len segL_len, List.length_take]; omega), rk_len segL_len, List.length_take, Nat.min_eq_left (by omega), Nat.add_sub_cancel_left]
    exact hj
   rw [← ht, List.getElem?_take] at e1
   split at e1
   ·exact e1
   ·cases e1
 have hnl : ((L.drop (k + 1)).flatMap segL).length = (L.length - (k + 1)) * 6 := by rw [rk_len segL_len, List.length_drop]
 have hfitl : k * 6 + ((L.drop (k + 1)).flatMap segL).length ≤ cur.length := by rw [hnl, hl]; omega
 have hone : ∀ u ∈ (L.drop (k + 1)).flatMap segL, u.oneCell' = true := fun u hu => by
  obtain ⟨x, _, hx⟩ := List.mem_flatMap.1 hu
  exact segL_one x u hx
 refine runL ?_
 refine o1 rfl ?_
 refine op_appendIn T (t := 22) (el := 26) (g := g) (a := a) (n := k) (cap := cap) (m := L.length - (k + 1)) (news := (L.drop (k + 1)).flatMap segL) rfl rfl rfl rfl rfl rfl hb1 hnl hcells hone (by omega) hfitl (fun w2 hc2 hb2 => ?_)
 have hb2 : Blk w2 g 26 (cur.take (k * 6) ++ (L.drop (k + 1)).flatMap segL ++ cur.drop (k * 6 + ((L.drop (k + 1)).flatMap segL).length)) := hb2
 have hkn : k + (L.length - (k + 1)) = L.length - 1 := by omega
 rw [hkn]
 have htk : cur.take (k * 6) = (L.take k).flatMap segL := by
  have : cur.take (k * 6) = (L.flatMap segL).take (k * 6) := by rw [← ht, List.take_take, Nat.min_eq_left (by omega)]
  rw [this]
  have h2 : L.flatMap segL = (L.take k).flatMap segL ++ (L.drop k).flatMap segL := by rw [← List.flatMap_append, List.take_append_drop]
  rw [h2]
  exact List.take_left' (by rw [rk_len segL_len, List.length_take, Nat.min_eq_left (by omega)])
 have her : cur.take (k * 6) ++ (L.drop (k + 1)).flatMap segL = (L.eraseIdx k).flatMap segL := by
  rw [htk, eraseIdx_split L k hk, List.flatMap_append]
 rw [her] at hb2
 have hel : (L.eraseIdx k).length = L.length - 1 := by rw [List.length_eraseIdx, if_pos hk]
 have hefl : ((L.eraseIdx k).flatMap segL).length = (L.length - 1) * 6 := by rw [rk_len segL_len, hel]
 have htot : ((L.eraseIdx k).flatMap segL ++ cur.drop (k * 6 + ((L.drop (k + 1)).flatMap segL).length)).length = cap * 6 := by
  rw [List.length_append, hefl, List.length_drop, hnl, hl]; omega
 generalize cur.drop (k * 6 + ((L.drop (k + 1)).flatMap segL).length) = back at *
 refine go T 9 rfl ?_
 refine o1 rfl ?_
 refine op_slice T (l := L.length - 1) (h' := L.length) rfl rfl rfl rfl ⟨_, rfl⟩ ⟨_, rfl⟩ (by omega) (by omega) ?_
 rw [if_neg (by omega)]
 refine op0 rfl rfl ?_
 refine op_clear T (A := some ⟨g, (L.length - 1) * 6, none⟩) (g := g) (off := (L.length - 1) * 6) (m := L.length - (L.length - 1)) (c := cap - (L.length - 1)) rfl rfl (by show some (Value.slice (some ((⟨g, 0, none⟩ : Addr).add ((L.length - 1) * 6))) _ _) = _; rw [add_plain]) rfl rfl rfl rfl (.inr rfl) hb2 (by rw [htot]; show (L.length - 1) * 6 + (L.length - (L.length - 1)) * 6 ≤ _; omega) (fun w3 rest hc3 hb3 hl3 => ?_)
 rw [List.take_left' hefl] at hb3 hl3
 rw [htot] at hl3
 refine go T 9 rfl ?_
 refine post1 (.inl rfl) rfl rfl ⟨(hc1.mono (fun k hk _ => by cases hk)).trans (hc2.trans hc3 (fun i hi _ => hi)) (fun i hi _ => by simpa [Value.ownBlock] using hi), rfl, ?_⟩
 rw [hel]
 exact Own.mk hb3 (by omega) hm hl3 (List.take_left' hefl)
end Go.Proofs.YtiadjkjlifnopaaGreatDoor.Tryz
/-! The library: a map's keys sorted; a map's copy. -/
namespace Go.Vc
open Go Go.RowKit Go.Maps Go.Proofs
theorem keyV_enc : keyV = Go.Proofs.encStr := funext fun _ => rfl
theorem MapAt.owns {P : Program} {β : Type} {bv : β → Value} {f : List UInt8 → Option β} {w : World} {r : Nat} {kt : TypeId} (hk : P.underlying kt = some .string) (hm : MapAt keyV bv w r f) (B : List (List UInt8))
  (hB : ∀ k, (f k).isSome = true → k ∈ B ∧ k.length ≤ maxLen) (hBl : B.length ≤ 1000000) :
  ∃ (D : DataW Unit) (nn : Nat), w.ownsMap P kt (fun _ => some (.lit (.bool true), [])) r nn D ∧ Maps.size D ≤ B.length ∧ ∀ ss : List (List UInt8), ss.Perm (strKeys D) → ss.Nodup ∧ ∀ k, k ∈ ss ↔ (f k).isSome = true := by
 obtain ⟨es, clk, h1, h2, h3, h4⟩ := hm
 let R : Value → Option (DataW Unit × List MemPlace) := fun _ => some (.lit (.bool true), [])
 have hrd : ∀ e ∈ es.toList, ∃ k, e.key = keyV k ∧ (f k).isSome = true ∧ WideElems.rd P kt R e = some (.string k, .lit (.bool true)) := fun e he => by
  obtain ⟨k, b, e1, e2, e3⟩ := h3 e he
  have hs : (f k).isSome = true := by rw [e3]; rfl
  refine ⟨k, e1, hs, ?_⟩
  have hl := (hB k hs).2
  unfold WideElems.rd keyOf
  rw [hk, e1]
  simp only
  unfold mapKey keyV
  rw [hk]
  simp only [str_size]
  rw [if_pos hl]
  simp [str, R]
 have hL : (es.toList.map fun e => strOf (WideElems.rg P kt R e).1).map keyV = es.toList.map (·.key) := by
  rw [List.map_map]
  refine List.map_congr_left fun e he => ?_
  obtain ⟨k, e1, _, e3⟩ := hrd e he
  simp only [Function.comp]
  rw [WideElems.rg_of e3, e1]
  rfl
 have hnd : (es.toList.map fun e => strOf (WideElems.rg P kt R e).1).Nodup := by
  have := h2.2.2
  rw [← hL] at this
  exact (List.pairwise_map.1 this).imp (fun hne e => hne (by rw [e]))
 have hmem : ∀ k, k ∈ (es.toList.map fun e => strOf (WideElems.rg P kt R e).1) ↔ (f k).isSome = true := fun k => by
  rw [List.mem_map]
  constructor
  ·rintro ⟨e, he, rfl⟩
   obtain ⟨k, e1, e2, e3⟩ := hrd e he
   rw [WideElems.rg_of e3]; exact e2
  ·intro hk'
   obtain ⟨b, hb⟩ := Option.isSome_iff_exists.1 hk'
   obtain ⟨e, he, hek⟩ := h4 k b hb
   obtain ⟨k', e1, e2, e3⟩ := hrd e he
   refine ⟨e, he, ?_⟩
   rw [WideElems.rg_of e3]
   exact strKey.inj _ _ (e1.symm.trans hek)
 have hlen : es.size ≤ B.length := by
  have := nodup_length _ B hnd (fun k hk' => (hB k ((hmem k).1 hk')).1)
  simpa using this
 refine ⟨.map ((es.toList.map (WideElems.rg P kt R)).foldr DataW.insert []), es.size, ⟨es, clk, h1, ⟨by unfold maxLen; omega, h2, fun x hx => by obtain ⟨k, _, _, e3⟩ := hrd x hx; exact ⟨_, e3⟩⟩, Nat.le_refl _, rfl⟩, ?_, fun ss hss => ?_⟩
 ·show List.length _ ≤ _
  rw [(WideShapes.sorted_perm _).length_eq]; simpa using hlen
 ·have hp : (strKeys (.map ((es.toList.map (WideElems.rg P kt R)).foldr DataW.insert []))).Perm (es.toList.map fun e => strOf (WideElems.rg P kt R e).1) := by
   show (List.map _ _).Perm _
   have := (WideShapes.sorted_perm (es.toList.map (WideElems.rg P kt R))).map (fun p => strOf p.1)
   rw [List.map_map] at this
   exact this
  have h5 := hss.trans hp
  exact ⟨h5.nodup_iff.2 hnd, fun k => by rw [h5.mem_iff]; exact hmem k⟩
end Go.Vc
namespace Go.Proofs.YtiadjkjlifnopaaGreatDoor.Tryz
open Go Go.Vc Go.RowKit Go.Maps Go.Sort Go.Shelf
theorem keysD_has (b : Nat) (w : World) : Has Tryz.prog 68 #[.map (some b)] w
  (fun v w' => v = .func (.func 114) #[] #[.pointer (some ⟨w.heap.size, 0, none⟩)] ∧ w' = w.alloc (.cells #[.map (some b)] 83)) := by
 refine ⟨⟨_, Tryz.func68, rfl, by decide⟩, (callsIn_wide.1 (AnyZ.keys_in Tryz.keysA Fence.wide 5 trivial rfl (some b) w)).mono ?_⟩
 rintro e w' ⟨rfl, rfl⟩
 exact ⟨_, rfl, rfl, rfl⟩
theorem sortsD (m : Nat) : AnyZ.SortsIn Tryz.prog Tryz.sortedA_ren Fence.wide m :=
 ⟨fun blk off cap ss W hH hblk hsz => callsIn_wide.2 (AnyM.slices_Sort_string Tryz.sortA blk off cap ss W hH hblk hsz),
  fun p cap W => callsIn_wide.2 (AnyM.slices_Sort_string_none Tryz.sortA p cap W)⟩
set_option maxHeartbeats 1000000 in
theorem sortedD_has {β : Type} {bv : β → Value} {f : List UInt8 → Option β} {w : World} {b : Nat} (hm : MapAt keyV bv w b f) (B : List (List UInt8)) (hB : ∀ k, (f k).isSome = true → k ∈ B ∧ k.length ≤ maxLen) (hBl : B.length ≤ 1000000) :
  Has Tryz.prog 67 #[.func (.func 114) #[] #[.pointer (some ⟨w.heap.size, 0, none⟩)]] (w.alloc (.cells #[.map (some b)] 83))
  (fun v w' => Chg [] w w' ∧ ∃ ss : List (List UInt8), ss.Nodup ∧ (∀ k, k ∈ ss ↔ (f k).isSome = true) ∧ Own w' 9 1 v ss.length ((sorted ss).map keyV) ∧ (∀ g, v.ownBlock = some g → w.heap.size ≤ g)) := by
 obtain ⟨D, nn, hown, hsize, hD⟩ := hm.owns (P := Tryz.prog) Tryz.underlying9 B hB hBl
 have hbl := hown.lt
 have hseq : SeqGives Fence.wide 2 Tryz.prog 114 #[.pointer (some ⟨w.heap.size, 0, none⟩)] encStr (fun ss => ss.Perm (strKeys D)) (Maps.size D) (w.alloc (.cells #[.map (some b)] 83)) :=
  AnyZ.keys_gives (ρ := Tryz.keysA_ren) { Tryz.keysA with } Fence.wide _ trivial rfl (by omega) w.heap.size b nn D _ (by simp) (by simp) (by
   obtain ⟨es, clock, hb, Ft, hs, hD⟩ := hown
   exact ⟨es, clock, (Below.heap_alloc _ _ b hbl).trans hb, Ft, hs, hD⟩)
 have hc := AnyZ.sorted_in Tryz.sortedA Fence.wide 5 trivial trivial trivial trivial rfl (by omega) (sortsD _) (enters_of Tryz.func113 (by kernel_rfl) rfl) 114 #[.pointer (some ⟨w.heap.size, 0, none⟩)] trivial (enters_of Tryz.func114 (by kernel_rfl) rfl) _ _ (by unfold maxLen; omega) (by omega) _ hseq
 refine ⟨⟨_, Tryz.func67, rfl, by decide⟩, (callsIn_wide.1 hc).mono ?_⟩
 rintro e w' ⟨v, ss, rfl, hp, hrow, hnil, hb⟩
 obtain ⟨h1, h2⟩ := hD ss hp
 have hf : ∀ g, v.ownBlock = some g → w.heap.size ≤ g := fun g hg => by
  have := (World.ownsRow.lt hrow g hg).1
  simp at this; omega
 refine ⟨v, rfl, (Chg.alloc w _).trans (Chg.of_below hb) (fun _ h _ => h), ss, h1, h2, ?_, hf⟩
 unfold Own
 rw [keyV_enc]
 exact ⟨hrow.1, hrow.2.imp id (fun ⟨g, cap, cur, e1, e2, e3⟩ => ⟨g, cap, cur, e1, Nat.zero_le _, e3⟩)⟩
theorem cloneD_has {κ β : Type} {kv : κ → Value} {bv : β → Value} {f : κ → Option β} {w : World} {b : Nat} (hm : MapAt kv bv w b f) :
  Has Tryz.prog 65 #[.map (some b)] w (fun v w' => ∃ b', v = .map (some b') ∧ w.heap.size ≤ b' ∧ Chg [] w w' ∧ MapAt kv bv w' b' f) := by
 obtain ⟨es, clk, h1, h2⟩ := hm
 refine ⟨⟨_, Tryz.func65, rfl, by decide⟩, (AnyW.maps_Clone Tryz.cloneM b es clk w h1).mono ?_⟩
 rintro e w' ⟨rfl, rfl⟩
 exact ⟨_, rfl, w.heap.size, rfl, Nat.le_refl _, Chg.alloc w _, es, clk, (MapKept.heap_alloc w _).1, h2⟩
end Go.Proofs.YtiadjkjlifnopaaGreatDoor.Tryz
/-! Files: how a file system lies in memory; its counts. -/
namespace Go.Vc
open Go
structure FsP where
 md : Nat
 ml : Nat
 wv : Value
 fb : List (Nat × Value)
def FsP.fp (p : FsP) (g : Nat) : List Nat := g :: p.md :: p.ml :: (p.wv.ownBlock.toList ++ p.fb.flatMap fun q => q.1 :: q.2.ownBlock.toList)
def ptrV (b : Nat) : Value := .pointer (some ⟨b, 0, none⟩)
def at2 (fb : List (Nat × Value)) (d : Dir) (k : Nm) : Option Nat := (looks d k).bind fun i => (fb[i]?).map (·.1)
def idV (fb : List (Nat × Value)) (o : Option Nat) : Value := match o.bind fun i => (fb[i]?).map (·.1) with
 | some b => ptrV b
 | none => .pointer none
def chV (fb : List (Nat × Value)) (c : ChM) : List Value := [.int .i64 c.kind, keyV c.name, keyV c.to, idV fb c.id]
theorem FsP.mem_fp {p : FsP} {g k : Nat} : k ∈ p.fp g ↔ k = g ∨ k = p.md ∨ k = p.ml ∨ p.wv.ownBlock = some k ∨ ∃ q ∈ p.fb, k = q.1 ∨ q.2.ownBlock = some k := by
 unfold FsP.fp
 simp [eq_comm]
end Go.Vc
namespace Go.Proofs.YtiadjkjlifnopaaGreatDoor.Tryz
open Go Go.Vc
structure FsAt (w : World) (g : Nat) (s : FsM) (p : FsP) : Prop where
 ok : FsOk s
 blk : Blk w g 86 [.int .i64 s.room, .map (some p.md), .map (some p.ml), p.wv, .int .i64 s.calls, .int .i64 s.fail]
 dirM : MapAt keyV ptrV w p.md (at2 p.fb s.dir)
 lastsM : MapAt keyV ptrV w p.ml (at2 p.fb s.lasts)
 waitsM : Own w 108 4 p.wv s.waits.length (s.waits.flatMap (chV p.fb))
 len : p.fb.length = s.files.length
 fblk : ∀ (i : Nat) q f, p.fb[i]? = some q → s.files[i]? = some f → Blk w q.1 106 [q.2, .int .i64 f.synced]
 fown : ∀ (i : Nat) q f, p.fb[i]? = some q → s.files[i]? = some f → Own w 5 1 q.2 f.b.length (u8s f.b)
 apart1 : p.md ≠ p.ml
 apart2 : (p.fb.map (·.1)).Nodup
 apart3 : ∀ (i j : Nat) q q' h, p.fb[i]? = some q → p.fb[j]? = some q' → q.2.ownBlock = some h → q'.2.ownBlock = some h → i = j
section
variable {w w' : World} {g : Nat} {s : FsM} {p : FsP} {S : List Nat}
theorem FsAt.file (x : FsAt w g s p) {q : Nat × Value} (hq : q ∈ p.fb) : ∃ (i : Nat) (f : FileM), p.fb[i]? = some q ∧ s.files[i]? = some f := by
 obtain ⟨i, hi⟩ := List.getElem?_of_mem hq
 have hil := (List.getElem?_eq_some_iff.1 hi).1
 rw [x.len] at hil
 exact ⟨i, _, hi, List.getElem?_eq_getElem hil⟩
theorem FsAt.lt (x : FsAt w g s p) : ∀ k ∈ p.fp g, k < w.heap.size := fun k hk => by
 rcases FsP.mem_fp.1 hk with rfl | rfl | rfl | h | ⟨q, hq, h⟩
 ·exact x.blk.lt
 ·exact x.dirM.lt
 ·exact x.lastsM.lt
 ·exact x.waitsM.lt h
 ·obtain ⟨i, f, hi, hf⟩ := x.file hq
  rcases h with rfl | h
  ·exact (x.fblk i q f hi hf).lt
  ·exact (x.fown i q f hi hf).lt h
theorem FsAt.keep (x : FsAt w g s p) (hc : Chg S w w') (hS : ∀ k ∈ p.fp g, k ∉ S) : FsAt w' g s p := by
 have hm := fun k h => hS k (FsP.mem_fp.2 h)
 exact ⟨x.ok, x.blk.keep hc (hm g (.inl rfl)), x.dirM.keep hc (hm _ (.inr (.inl rfl))), x.lastsM.keep hc (hm _ (.inr (.inr (.inl rfl)))), x.waitsM.keep hc (fun h hh => hm h (.inr (.inr (.inr (.inl hh))))), x.len,
  fun i q f hq hf => (x.fblk i q f hq hf).keep hc (hm _ (.inr (.inr (.inr (.inr ⟨q, List.mem_of_getElem? hq, .inl rfl⟩))))),
  fun i q f hq hf => (x.fown i q f hq hf).keep hc (fun h hh => hm h (.inr (.inr (.inr (.inr ⟨q, List.mem_of_getElem? hq, .inr hh⟩))))), x.apart1, x.apart2, x.apart3⟩
theorem FsAt.keep0 (x : FsAt w g s p) (hc : Chg [] w w') : FsAt w' g s p := x.keep hc (fun _ _ => by simp)
theorem FsAt.scalars (x : FsAt w g s p) (hc : Chg [g] w w') {room calls fail : Int} (hb : Blk w' g 86 [.int .i64 room, .map (some p.md), .map (some p.ml), p.wv, .int .i64 calls, .int .i64 fail])
  (hok : FsOk { s with room := room, calls := calls, fail := fail }) : FsAt w' g { s with room := room, calls := calls, fail := fail } p := by
 have hw : ∀ h, p.wv.ownBlock = some h → h ∉ [g] := fun h hh hm => by
  simp at hm
  obtain ⟨cur, hr⟩ := x.waitsM.row hh
  rw [hm] at hr
  exact x.blk.ne_ hr (by decide) rfl
 refine ⟨hok, hb, x.dirM.keep hc ?_, x.lastsM.keep hc ?_, x.waitsM.keep hc hw, x.len, fun i q f hq hf => (x.fblk i q f hq hf).keep hc ?_, fun i q f hq hf => (x.fown i q f hq hf).keep hc fun h hh hm => ?_, x.apart1, x.apart2, x.apart3⟩
 ·simpa using x.dirM.ne_blk x.blk
 ·simpa using x.lastsM.ne_blk x.blk
 ·have := (x.fblk i q f hq hf).ne_ x.blk (by decide)
  simpa using this
 ·simp at hm
  obtain ⟨cur, hr⟩ := (x.fown i q f hq hf).row hh
  rw [hm] at hr
  exact x.blk.ne_ hr (by decide) rfl
end
theorem room_has (n : Int) (w : World) : Has Tryz.prog 52 #[.int .i64 n] w (fun v w' => w' = w ∧ v = .int .i64 (roomM n)) := by
 refine enter Tryz.func52 rfl rfl (by decide) rfl (e := [(0, .int .i64 n)]) ⟨rfl, trivial⟩ ?_
 repeat (first | refine W_seq ?_ | refine W_region ?_ | refine W_ret ?_ | refine Then_n ?_ | refine WL_nil ?_ | refine WL_some rfl rfl rfl ?_ | refine op_move rfl rfl ?_ | refine op_assign rfl rfl ?_ | refine op_max rfl rfl rfl ?_ | refine op_min rfl rfl rfl ?_)
 exact post1 (.inl rfl) rfl rfl ⟨rfl, rfl⟩
theorem call_has (g : Nat) (s : FsM) (p : FsP) (w : World) (x : FsAt w g s p) (hcalls : s.calls < 1000000000) :
  Has Tryz.prog 54 #[ptrV g] w (fun v w' => Chg [g] w w' ∧ v = .int .i64 (if failsM s then 5 else 0) ∧ FsAt w' g (callM s) p) := by
 have hc0 := x.ok.calls0
 have hf0 := x.ok.fail0
 have hf1 := x.ok.fail1
 have hok := callM_ok x.ok
 refine enter Tryz.func54 rfl rfl (by decide) rfl (e := [(0, ptrV g)]) ⟨rfl, trivial⟩ ?_
 unfold ptrV
 have hb := x.blk
 repeat (first | refine W_seq ?_ | refine W_region ?_ | refine W_skip ?_ | refine Then_n ?_ | refine WL_nil ?_ | refine W_condF rfl ?_ | refine WL_some rfl rfl rfl ?_ | refine WL_none rfl rfl ?_ | refine op_move rfl rfl ?_ | refine op_assign rfl rfl ?_ | refine op_add rfl rfl rfl (wrap_i64_in (by omega) (by omega)) ?_ | refine op_nilCheck rfl rfl ?_ | refine op_fieldAddr T rfl rfl rfl rfl rfl rfl rfl rfl ?_ | refine op_eql_nilptr T rfl rfl rfl rfl rfl ?_ | refine op_loadB T rfl rfl rfl rfl (by assumption) (by exact rfl) ?_)
 refine op_store T rfl rfl rfl rfl rfl rfl hb (Nat.le_of_ble_eq_true rfl) (fun w1 hc1 hb1 _ => ?_)
 have hb1 : Blk w1 g 86 [.int .i64 s.room, .map (some p.md), .map (some p.ml), p.wv, .int .i64 (s.calls + 1), .int .i64 s.fail] := hb1
 repeat (first | refine W_seq ?_ | refine W_region ?_ | refine Then_n ?_ | refine WL_nil ?_ | refine WL_some rfl rfl rfl ?_ | refine WL_none rfl rfl ?_ | refine op_move rfl rfl ?_ | refine op_subt rfl rfl rfl (wrap_i64_in (by omega) (by omega)) ?_ | refine op_nilCheck rfl rfl ?_ | refine op_fieldAddr T rfl rfl rfl rfl rfl rfl rfl rfl ?_ | refine op_loadB T rfl rfl rfl rfl (by assumption) (by exact rfl) ?_)
 refine op_store T rfl rfl rfl rfl rfl rfl hb1 (Nat.le_of_ble_eq_true rfl) (fun w2 hc2 hb2 _ => ?_)
 have hb2 : Blk w2 g 86 [.int .i64 s.room, .map (some p.md), .map (some p.ml), p.wv, .int .i64 (s.calls + 1), .int .i64 (s.fail - 1)] := hb2
 have hc02 : Chg [g] w w2 := hc1.trans hc2 (fun _ h _ => h)
 by_cases hz : s.fail = 0
 ·have hfm : failsM s = true := by unfold failsM; rw [hz]; rfl
  repeat (first | refine W_seq ?_ | refine W_region ?_ | refine W_ret ?_ | refine Then_n ?_ | refine Then_r ?_ | refine WL_nil ?_ | refine W_condT rfl ?_ | refine WL_some rfl rfl rfl ?_ | refine op_move rfl rfl ?_ | refine op_assign rfl rfl ?_ | refine op_nilCheck rfl rfl ?_ | refine op_eql rfl rfl rfl (fun hc => ?_) (fun hc => False.elim (by omega)) | refine op_fieldAddr T rfl rfl rfl rfl rfl rfl rfl rfl ?_ | refine op_loadB T rfl rfl rfl rfl (by assumption) (by exact rfl) ?_)
  refine post1 (.inl rfl) rfl rfl ⟨hc02, by rw [hfm]; rfl, x.scalars hc02 ?_ hok⟩
  rw [show max (s.fail - 1) (-1) = s.fail - 1 by omega]; exact hb2
 ·have hfm : failsM s = false := by unfold failsM; simpa using hz
  repeat (first | refine W_seq ?_ | refine W_region ?_ | refine W_skip ?_ | refine Then_n ?_ | refine WL_nil ?_ | refine W_condF rfl ?_ | refine WL_some rfl rfl rfl ?_ | refine WL_none rfl rfl ?_ | refine op_move rfl rfl ?_ | refine op_max rfl rfl rfl ?_ | refine op_nilCheck rfl rfl ?_ | refine op_eql rfl rfl rfl (fun hc => False.elim (by omega)) (fun hc => ?_) | refine op_fieldAddr T rfl rfl rfl rfl rfl rfl rfl rfl ?_ | refine op_loadB T rfl rfl rfl rfl (by assumption) (by exact rfl) ?_)
  refine op_store T rfl rfl rfl rfl rfl rfl hb2 (Nat.le_of_ble_eq_true rfl) (fun w3 hc3 hb3 _ => ?_)
  have hc03 : Chg [g] w w3 := hc02.trans hc3 (fun _ h _ => h)
  repeat (first | refine W_seq ?_ | refine W_region ?_ | refine W_ret ?_ | refine Then_n ?_ | refine WL_nil ?_ | refine WL_some rfl rfl rfl ?_ | refine op_assign rfl rfl ?_)
  exact post1 (.inl rfl) rfl rfl ⟨hc03, by rw [hfm]; rfl, x.scalars hc03 hb3 hok⟩
end Go.Proofs.YtiadjkjlifnopaaGreatDoor.Tryz
/-! Files: names; changes of a directory. -/
namespace Go.Vc
open Go
def goodC (c : UInt8) : Bool := (decide (97 ≤ c.toNat) && decide (c.toNat ≤ 122)) || (decide (65 ≤ c.toNat) && decide (c.toNat ≤ 90)) || (decide (48 ≤ c.toNat) && decide (c.toNat ≤ 57)) || decide (c.toNat = 46)
theorem mayM_eq (k : Nm) : mayM k = (k.all goodC && decide (1 ≤ k.length) && decide (k.length ≤ 20)) := rfl
theorem goodC_of {c : UInt8} (h : (97 ≤ c.toNat ∧ c.toNat ≤ 122) ∨ (65 ≤ c.toNat ∧ c.toNat ≤ 90) ∨ (48 ≤ c.toNat ∧ c.toNat ≤ 57) ∨ c.toNat = 46) : goodC c = true := by
 unfold goodC
 simp only [Bool.or_eq_true, Bool.and_eq_true, decide_eq_true_eq]
 omega
theorem goodC_not {c : UInt8} (h : ¬ (97 ≤ c.toNat ∧ c.toNat ≤ 122) ∧ ¬ (65 ≤ c.toNat ∧ c.toNat ≤ 90) ∧ ¬ (48 ≤ c.toNat ∧ c.toNat ≤ 57) ∧ ¬ c.toNat = 46) : goodC c = false := by
 rw [← Bool.not_eq_true]
 unfold goodC
 simp only [Bool.or_eq_true, Bool.and_eq_true, decide_eq_true_eq]
 omega
theorem at2_ins {fb : List (Nat × Value)} {d : Dir} (hr : Rising d) {k : Nm} {i : Nat} {q : Nat × Value} (hq : fb[i]? = some q) (k' : Nm) : at2 fb (ins d k i) k' = upd (at2 fb d) k q.1 k' := by
 unfold at2 upd
 rw [looks_ins hr]
 by_cases h : k' = k
 ·rw [if_pos h, if_pos h]; simp [hq]
 ·rw [if_neg h, if_neg h]
theorem at2_del (fb : List (Nat × Value)) (d : Dir) (k k' : Nm) : at2 fb (del d k) k' = rid (at2 fb d) k k' := by
 unfold at2 rid
 rw [looks_del]
 by_cases h : k' = k
 ·rw [if_pos h, if_pos h]; rfl
 ·rw [if_neg h, if_neg h]
theorem at2_some {fb : List (Nat × Value)} {d : Dir} {k : Nm} {i : Nat} {q : Nat × Value} (hl : looks d k = some i) (hq : fb[i]? = some q) : at2 fb d k = some q.1 := by
 unfold at2; rw [hl]; simp [hq]
theorem at2_none {fb : List (Nat × Value)} {d : Dir} {k : Nm} (hl : looks d k = none) : at2 fb d k = none := by
 unfold at2; rw [hl]; rfl
theorem idV_some {fb : List (Nat × Value)} {o : Option Nat} {i : Nat} {q : Nat × Value} (ho : o = some i) (hq : fb[i]? = some q) : idV fb o = ptrV q.1 := by
 unfold idV; rw [ho]; simp [hq]
theorem idV_form (fb : List (Nat × Value)) (o : Option Nat) : ∃ p, idV fb o = .pointer p := by
 unfold idV ptrV
 split <;> exact ⟨_, rfl⟩
end Go.Vc
namespace Go.Proofs.YtiadjkjlifnopaaGreatDoor.Tryz
open Go Go.Vc
set_option maxHeartbeats 1000000 in
theorem may_has (k : Nm) (w : World) (hk : k.length ≤ maxLen) : Has Tryz.prog 55 #[.string (str k)] w (fun v w' => w' = w ∧ v = .bool (mayM k)) := by
 unfold maxLen at hk
 refine enter Tryz.func55 rfl rfl (by decide) rfl (e := [(0, .string (str k))]) ⟨rfl, trivial⟩ ?_
 repeat (first | refine W_seq ?_ | refine W_block ?_ | refine W_region ?_ | refine Then_n ?_ | refine WL_nil ?_ | refine WL_some rfl rfl rfl ?_ | refine op_len_str T rfl rfl rfl rfl ?_ | refine op_move rfl rfl ?_ | refine op_assign rfl rfl ?_)
 refine W_loop (σ := Nat) (fun i => [(0, .string (str k)), (2, .bool false), (6, .int .i64 k.length), (7, .int .i64 i)])
  (fun (i : Nat) w' => i ≤ k.length ∧ w' = w ∧ ∀ (j : Nat) c, j < i → k[j]? = some c → goodC c = true) (fun i => k.length - i) 0 ⟨rfl, rfl, rfl, rfl, trivial⟩ ⟨by omega, rfl, fun j c h => by omega⟩ ?_
 rintro i w1 ⟨hi, rfl, hgood⟩
 by_cases hil : i < k.length
 ·have hkc : k[i]? = some k[i] := List.getElem?_eq_getElem hil
  generalize k[i] = c at hkc
  have hgo : goodC c = true → ∀ (j : Nat) d, j < i + 1 → k[j]? = some d → goodC d = true := fun hg j d hj hd => by
   by_cases e : j = i
   ·subst e; rw [hkc] at hd; injection hd with hd; subst hd; exact hg
   ·exact hgood j d (by omega) hd
  have hbad : goodC c = false → mayM k = false := fun hg => by
   rw [mayM_eq]
   have : k.all goodC = false := by
    rw [← Bool.not_eq_true, List.all_eq_true]
    intro h
    have := h c (List.mem_of_getElem? hkc)
    rw [hg] at this; cases this
   rw [this]; rfl
  have hways : (97 ≤ c.toNat ∧ c.toNat ≤ 122) ∨ (122 < c.toNat) ∨ (90 < c.toNat ∧ c.toNat < 97) ∨ (65 ≤ c.toNat ∧ c.toNat ≤ 90) ∨ (57 < c.toNat ∧ c.toNat < 65) ∨ (48 ≤ c.toNat ∧ c.toNat ≤ 57) ∨ (c.toNat = 46) ∨ (c.toNat < 48 ∧ c.toNat ≠ 46) := by omega
  repeat (first | refine W_seq ?_ | refine W_block ?_ | refine W_region ?_ | refine W_skip ?_ | refine Then_n ?_ | refine WL_nil ?_ | refine W_condT rfl ?_ | refine WL_some rfl rfl rfl ?_ | refine op_move rfl rfl ?_ | refine op_assign rfl rfl ?_ | refine op_lss rfl rfl rfl (fun hc => ?_) (fun hc => False.elim (by omega)))
  refine op_index_str T rfl rfl rfl rfl hkc ?_
  rcases hways with h | h | h | h | h | h | h | h
  ·repeat (first | refine W_seq ?_ | refine W_region ?_ | refine W_skip ?_ | refine Then_n ?_ | refine InBlock_n ?_ | refine WL_nil ?_ | refine W_condF rfl ?_ | refine WL_some rfl rfl rfl ?_ | refine WL_guardT rfl rfl rfl rfl ?_ | refine WL_guardF rfl rfl rfl rfl rfl ?_ | refine WL_guardU rfl rfl rfl rfl ?_ | refine op_move rfl rfl ?_ | refine op_assign rfl rfl ?_ | refine op_pick rfl rfl rfl rfl ?_ | refine op_add rfl rfl rfl (wrap_i64_in (by omega) (by omega)) ?_ | refine op_lss rfl rfl rfl (fun hc => False.elim (by omega)) (fun hc => ?_) | refine op_gtr rfl rfl rfl (fun hc => False.elim (by omega)) (fun hc => ?_))
   exact Round_n (i + 1) ⟨rfl, rfl, rfl, rfl, trivial⟩ ⟨by omega, rfl, hgo (goodC_of (by omega))⟩ (by omega)
  ·repeat (first | refine W_seq ?_ | refine W_region ?_ | refine W_ret ?_ | refine Then_n ?_ | refine Then_r ?_ | refine InBlock_r ?_ | refine Round_r ?_ | refine WL_nil ?_ | refine W_condT rfl ?_ | refine WL_some rfl rfl rfl ?_ | refine WL_guardT rfl rfl rfl rfl ?_ | refine op_move rfl rfl ?_ | refine op_assign rfl rfl ?_ | refine op_pick rfl rfl rfl rfl ?_ | refine op_lss rfl rfl rfl (fun hc => False.elim (by omega)) (fun hc => ?_) | refine op_gtr rfl rfl rfl (fun hc => ?_) (fun hc => False.elim (by omega)) | refine op_neq rfl rfl rfl (fun hc => ?_) (fun hc => False.elim (by omega)))
   exact post1 (.inl rfl) rfl rfl ⟨rfl, by rw [hbad (goodC_not (by omega))]⟩
  ·repeat (first | refine W_seq ?_ | refine W_region ?_ | refine W_ret ?_ | refine Then_n ?_ | refine Then_r ?_ | refine InBlock_r ?_ | refine Round_r ?_ | refine WL_nil ?_ | refine W_condT rfl ?_ | refine WL_some rfl rfl rfl ?_ | refine WL_guardT rfl rfl rfl rfl ?_ | refine WL_guardF rfl rfl rfl rfl rfl ?_ | refine op_move rfl rfl ?_ | refine op_assign rfl rfl ?_ | refine op_pick rfl rfl rfl rfl ?_ | refine op_lss rfl rfl rfl (fun hc => ?_) (fun hc => False.elim (by omega)) | refine op_lss rfl rfl rfl (fun hc => False.elim (by omega)) (fun hc => ?_) | refine op_gtr rfl rfl rfl (fun hc => ?_) (fun hc => False.elim (by omega)) | refine op_neq rfl rfl rfl (fun hc => ?_) (fun hc => False.elim (by omega)))
   exact post1 (.inl rfl) rfl rfl ⟨rfl, by rw [hbad (goodC_not (by omega))]⟩
  ·repeat (first | refine W_seq ?_ | refine W_region ?_ | refine W_skip ?_ | refine Then_n ?_ | refine InBlock_n ?_ | refine WL_nil ?_ | refine W_condF rfl ?_ | refine WL_some rfl rfl rfl ?_ | refine WL_guardT rfl rfl rfl rfl ?_ | refine WL_guardF rfl rfl rfl rfl rfl ?_ | refine WL_guardU rfl rfl rfl rfl ?_ | refine op_move rfl rfl ?_ | refine op_assign rfl rfl ?_ | refine op_pick rfl rfl rfl rfl ?_ | refine op_add rfl rfl rfl (wrap_i64_in (by omega) (by omega)) ?_ | refine op_lss rfl rfl rfl (fun hc => ?_) (fun hc => False.elim (by omega)) | refine op_lss rfl rfl rfl (fun hc => False.elim (by omega)) (fun hc => ?_) | refine op_gtr rfl rfl rfl (fun hc => False.elim (by omega)) (fun hc => ?_))
   exact Round_n (i + 1) ⟨rfl, rfl, rfl, rfl, trivial⟩ ⟨by omega, rfl, hgo (goodC_of (by omega))⟩ (by omega)
  ·repeat (first | refine W_seq ?_ | refine W_region ?_ | refine W_ret ?_ | refine Then_n ?_ | refine Then_r ?_ | refine InBlock_r ?_ | refine Round_r ?_ | refine WL_nil ?_ | refine W_condT rfl ?_ | refine WL_some rfl rfl rfl ?_ | refine WL_guardT rfl rfl rfl rfl ?_ | refine WL_guardF rfl rfl rfl rfl rfl ?_ | refine op_move rfl rfl ?_ | refine op_assign rfl rfl ?_ | refine op_pick rfl rfl rfl rfl ?_ | refine op_lss rfl rfl rfl (fun hc => ?_) (fun hc => False.elim (by omega)) | refine op_lss rfl rfl rfl (fun hc => False.elim (by omega)) (fun hc => ?_) | refine op_gtr rfl rfl rfl (fun hc => ?_) (fun hc => False.elim (by omega)) | refine op_neq rfl rfl rfl (fun hc => ?_) (fun hc => False.elim (by omega)))
   exact post1 (.inl rfl) rfl rfl ⟨rfl, by rw [hbad (goodC_not (by omega))]⟩
  ·repeat (first | refine W_seq ?_ | refine W_region ?_ | refine W_skip ?_ | refine Then_n ?_ | refine InBlock_n ?_ | refine WL_nil ?_ | refine W_condF rfl ?_ | refine WL_some rfl rfl rfl ?_ | refine WL_guardT rfl rfl rfl rfl ?_ | refine WL_guardF rfl rfl rfl rfl rfl ?_ | refine op_move rfl rfl ?_ | refine op_assign rfl rfl ?_ | refine op_pick rfl rfl rfl rfl ?_ | refine op_add rfl rfl rfl (wrap_i64_in (by omega) (by omega)) ?_ | refine op_lss rfl rfl rfl (fun hc => ?_) (fun hc => False.elim (by omega)) | refine op_lss rfl rfl rfl (fun hc => False.elim (by omega)) (fun hc => ?_) | refine op_gtr rfl rfl rfl (fun hc => False.elim (by omega)) (fun hc => ?_))
   exact Round_n (i + 1) ⟨rfl, rfl, rfl, rfl, trivial⟩ ⟨by omega, rfl, hgo (goodC_of (by omega))⟩ (by omega)
  ·repeat (first | refine W_seq ?_ | refine W_region ?_ | refine W_skip ?_ | refine Then_n ?_ | refine InBlock_n ?_ | refine WL_nil ?_ | refine W_condF rfl ?_ | refine WL_some rfl rfl rfl ?_ | refine WL_guardT rfl rfl rfl rfl ?_ | refine WL_guardF rfl rfl rfl rfl rfl ?_ | refine op_move rfl rfl ?_ | refine op_assign rfl rfl ?_ | refine op_pick rfl rfl rfl rfl ?_ | refine op_add rfl rfl rfl (wrap_i64_in (by omega) (by omega)) ?_ | refine op_lss rfl rfl rfl (fun hc => ?_) (fun hc => False.elim (by omega)) | refine op_neq rfl rfl rfl (fun hc => False.elim (by omega)) (fun hc => ?_))
   exact Round_n (i + 1) ⟨rfl, rfl, rfl, rfl, trivial⟩ ⟨by omega, rfl, hgo (goodC_of (by omega))⟩ (by omega)
  ·repeat (first | refine W_seq ?_ | refine W_region ?_ | refine W_ret ?_ | refine Then_n ?_ | refine Then_r ?_ | refine InBlock_r ?_ | refine Round_r ?_ | refine WL_nil ?_ | refine W_condT rfl ?_ | refine WL_some rfl rfl rfl ?_ | refine WL_guardT rfl rfl rfl rfl ?_ | refine WL_guardF rfl rfl rfl rfl rfl ?_ | refine op_move rfl rfl ?_ | refine op_assign rfl rfl ?_ | refine op_pick rfl rfl rfl rfl ?_ | refine op_lss rfl rfl rfl (fun hc => ?_) (fun hc => False.elim (by omega)) | refine op_neq rfl rfl rfl (fun hc => ?_) (fun hc => False.elim (by omega)))
   exact post1 (.inl rfl) rfl rfl ⟨rfl, by rw [hbad (goodC_not (by omega))]⟩
 ·obtain rfl : i = k.length := by omega
  have hall : k.all goodC = true := List.all_eq_true.2 fun c hc => by
   obtain ⟨j, hj⟩ := List.getElem?_of_mem hc
   exact hgood j c (List.getElem?_eq_some_iff.1 hj).1 hj
  have hm : mayM k = (decide (1 ≤ k.length) && decide (k.length ≤ 20)) := by rw [mayM_eq, hall]; rfl
  repeat (first | refine W_seq ?_ | refine W_region ?_ | refine W_exit ?_ | refine Then_n ?_ | refine Then_x ?_ | refine InBlock_hit ?_ | refine Round_x ?_ | refine WL_nil ?_ | refine W_condF rfl ?_ | refine WL_some rfl rfl rfl ?_ | refine op_move rfl rfl ?_ | refine op_lss rfl rfl rfl (fun hc => False.elim (by omega)) (fun hc => ?_))
  refine op_str_neq (b := []) rfl rfl rfl (fun hne => ?_) (fun he => ?_)
  ·have h1 : 1 ≤ k.length := List.length_pos_iff.2 hne
   by_cases h20 : k.length ≤ 20
   ·repeat (first | refine W_ret ?_ | refine Then_n ?_ | refine WL_nil ?_ | refine WL_some rfl rfl rfl ?_ | refine WL_guardT rfl rfl rfl rfl ?_ | refine op_len_str T rfl rfl rfl rfl ?_ | refine op_move rfl rfl ?_ | refine op_assign rfl rfl ?_ | refine op_pick rfl rfl rfl rfl ?_ | refine op_leq rfl rfl rfl (fun hc => ?_) (fun hc => False.elim (by omega)))
    exact post1 (.inl rfl) rfl rfl ⟨rfl, by rw [hm]; simp [h1, h20]⟩
   ·repeat (first | refine W_ret ?_ | refine Then_n ?_ | refine WL_nil ?_ | refine WL_some rfl rfl rfl ?_ | refine WL_guardT rfl rfl rfl rfl ?_ | refine op_len_str T rfl rfl rfl rfl ?_ | refine op_move rfl rfl ?_ | refine op_assign rfl rfl ?_ | refine op_pick rfl rfl rfl rfl ?_ | refine op_leq rfl rfl rfl (fun hc => False.elim (by omega)) (fun hc => ?_))
    exact post1 (.inl rfl) rfl rfl ⟨rfl, by rw [hm]; simp [h20]⟩
  ·subst he
   repeat (first | refine W_ret ?_ | refine Then_n ?_ | refine WL_nil ?_ | refine WL_some rfl rfl rfl ?_ | refine WL_guardF rfl rfl rfl rfl rfl ?_ | refine op_move rfl rfl ?_ | refine op_assign rfl rfl ?_ | refine op_pick rfl rfl rfl rfl ?_)
   exact post1 (.inl rfl) rfl rfl ⟨rfl, rfl⟩
set_option maxHeartbeats 1000000 in
theorem do_has (r : Nat) (fb : List (Nat × Value)) (d : Dir) (c : ChM) (w : World) (hm : MapAt keyV ptrV w r (at2 fb d)) (hd : DirOk fb.length d) (hf : Fit1 d c) (hi : ∀ i, c.id = some i → i < fb.length) :
  Has Tryz.prog 66 #[.map (some r), .agg (chV fb c).toArray] w (fun v w' => Chg [r] w w' ∧ MapAt keyV ptrV w' r (at2 fb (doM d c))) := by
 have hr := hd.up
 refine enter Tryz.func66 rfl rfl (by decide) rfl (e := [(0, .map (some r)), (1, .agg (chV fb c).toArray)]) ⟨rfl, rfl, trivial⟩ ?_
 repeat (first | refine W_seq ?_ | refine W_region ?_ | refine WL_some rfl rfl rfl ?_)
 refine op_box rfl rfl (fun g1 w1 hs1 hc1 hg1 => ?_)
 have hg1 : Blk w1 g1 108 [.int .i64 c.kind, .string (str c.name), .string (str c.to), idV fb c.id] := hg1
 have hm1 := hm.keep0 hc1
 by_cases h0 : c.kind = 0
 ·obtain ⟨i, hci⟩ := Option.ne_none_iff_exists'.1 (hf.1 h0)
  have hil := hi i hci
  have hq : fb[i]? = some fb[i] := List.getElem?_eq_getElem hil
  rw [idV_some hci hq] at hg1
  generalize fb[i] = q at hq hg1
  have hdo : doM d c = ins d c.name i := by unfold doM; rw [if_pos h0, hci]
  repeat (first | refine W_seq ?_ | refine W_block ?_ | refine W_region ?_ | refine Then_n ?_ | refine WL_nil ?_ | refine W_condT rfl ?_ | refine WL_some rfl rfl rfl ?_ | refine WL_none rfl rfl ?_ | refine op_move rfl rfl ?_ | refine op_assign rfl rfl ?_ | refine op_eql rfl rfl rfl (fun hc => ?_) (fun hc => False.elim (by omega)) | refine op_fieldAddr T rfl rfl rfl rfl rfl rfl rfl rfl ?_ | refine op_loadB T rfl rfl rfl rfl (by assumption) (by exact rfl) ?_)
  refine op_mapUpdate T strKey (bv := ptrV) (b := q.1) rfl rfl rfl rfl rfl rfl hm1 (fun w2 hc2 hm2 _ => ?_)
  repeat (first | refine InBlock_n ?_ | refine WL_nil ?_)
  refine post0 (.inr rfl) rfl ⟨((hc1.mono (fun k hk _ => by cases hk)).trans hc2 (fun _ h _ => h)), ?_⟩
  rw [hdo]
  exact hm2.congr (fun k => (at2_ins hr hq k).symm)
 by_cases h1 : c.kind = 1
 ·obtain ⟨i, hli⟩ := Option.ne_none_iff_exists'.1 (hf.2 h1)
  have hil := (hd.name _ (looks_mem hli)).2
  have hq : fb[i]? = some fb[i] := List.getElem?_eq_getElem hil
  generalize fb[i] = q at hq
  have hat := at2_some hli hq
  have hdo : doM d c = ins (del d c.name) c.to i := by unfold doM; rw [if_neg h0, if_pos h1, hli]
  repeat (first | refine W_seq ?_ | refine W_block ?_ | refine W_region ?_ | refine Then_n ?_ | refine WL_nil ?_ | refine W_condT rfl ?_ | refine W_condF rfl ?_ | refine WL_some rfl rfl rfl ?_ | refine op_move rfl rfl ?_ | refine op_assign rfl rfl ?_ | refine op_eql rfl rfl rfl (fun hc => ?_) (fun hc => False.elim (by omega)) | refine op_eql rfl rfl rfl (fun hc => False.elim (by omega)) (fun hc => ?_) | refine op_fieldAddr T rfl rfl rfl rfl rfl rfl rfl rfl ?_ | refine op_loadB T rfl rfl rfl rfl (by assumption) (by exact rfl) ?_)
  refine op_lookup_v T strKey rfl rfl rfl rfl rfl rfl hm1 (v := ptrV q.1) (fun b hb => by rw [hat] at hb; injection hb with hb; rw [hb]) (fun hn => by rw [hat] at hn; cases hn) ?_
  repeat (first | refine W_seq ?_ | refine W_region ?_ | refine Then_n ?_ | refine WL_nil ?_ | refine WL_some rfl rfl rfl ?_ | refine WL_none rfl rfl ?_ | refine op_move rfl rfl ?_ | refine op_assign rfl rfl ?_ | refine op_fieldAddr T rfl rfl rfl rfl rfl rfl rfl rfl ?_ | refine op_loadB T rfl rfl rfl rfl (by assumption) (by exact rfl) ?_)
  refine op_delete T strKey rfl rfl rfl rfl rfl rfl hm1 (fun w2 hc2 hm2 _ => ?_)
  have hg2 := hg1.keep hc2 (by simpa using fun e => hm1.ne_blk hg1 e.symm)
  repeat (first | refine W_region ?_ | refine Then_n ?_ | refine WL_nil ?_ | refine WL_some rfl rfl rfl ?_ | refine WL_none rfl rfl ?_ | refine op_move rfl rfl ?_ | refine op_fieldAddr T rfl rfl rfl rfl rfl rfl rfl rfl ?_ | refine op_loadB T rfl rfl rfl rfl (by assumption) (by exact rfl) ?_)
  refine op_mapUpdate T strKey (bv := ptrV) (b := q.1) rfl rfl rfl rfl rfl rfl hm2 (fun w3 hc3 hm3 _ => ?_)
  repeat (first | refine InBlock_n ?_ | refine WL_nil ?_)
  refine post0 (.inr rfl) rfl ⟨((hc1.mono (fun k hk _ => by cases hk)).trans (hc2.trans hc3 (fun _ h _ => h)) (fun _ h _ => h)), ?_⟩
  rw [hdo]
  refine hm3.congr (fun k => ?_)
  rw [at2_ins (del_rising hr c.name) hq k]
  unfold upd
  rw [at2_del]
 ·have hdo : doM d c = del d c.name := by unfold doM; rw [if_neg h0, if_neg h1]
  have h0' : ¬ (c.kind : Int) = 0 := by omega
  repeat (first | refine W_seq ?_ | refine W_block ?_ | refine W_region ?_ | refine Then_n ?_ | refine WL_nil ?_ | refine W_condF rfl ?_ | refine WL_some rfl rfl rfl ?_ | refine WL_none rfl rfl ?_ | refine op_move rfl rfl ?_ | refine op_assign rfl rfl ?_ | refine op_eql rfl rfl rfl (fun hc => False.elim (by omega)) (fun hc => ?_) | refine op_fieldAddr T rfl rfl rfl rfl rfl rfl rfl rfl ?_ | refine op_loadB T rfl rfl rfl rfl (by assumption) (by exact rfl) ?_)
  refine op_delete T strKey rfl rfl rfl rfl rfl rfl hm1 (fun w2 hc2 hm2 _ => ?_)
  repeat (first | refine InBlock_n ?_ | refine WL_nil ?_)
  refine post0 (.inr rfl) rfl ⟨((hc1.mono (fun k hk _ => by cases hk)).trans hc2 (fun _ h _ => h)), ?_⟩
  rw [hdo]
  exact hm2.congr (fun k => (at2_del fb d c.name k).symm)
end Go.Proofs.YtiadjkjlifnopaaGreatDoor.Tryz
/-! Files: a change of the directory; new ones. -/
namespace Go.Vc
open Go
theorem Replay.ids {n : Nat} : ∀ {cs : List ChM} {d d' : Dir}, Replay n d cs d' → ∀ c ∈ cs, ∀ i, c.id = some i → i < n
 | [], d, d', h, c, hc => by cases hc
 | c' :: cs, d, d', h, c, hc => by
  rcases List.mem_cons.1 hc with rfl | hc
  ·exact h.2.2.1
  ·exact Replay.ids h.2.2.2.2.2 c hc
theorem at2_more {fb : List (Nat × Value)} (q : Nat × Value) {d : Dir} (hd : DirOk fb.length d) (k : Nm) : at2 (fb ++ [q]) d k = at2 fb d k := by
 unfold at2
 cases hl : looks d k with
 | none => rfl
 | some i =>
  have := (hd.name _ (looks_mem hl)).2
  show ((fb ++ [q])[i]?).map _ = (fb[i]?).map _
  rw [List.getElem?_append_left this]
theorem idV_more {fb : List (Nat × Value)} (q : Nat × Value) {o : Option Nat} (h : ∀ i, o = some i → i < fb.length) : idV (fb ++ [q]) o = idV fb o := by
 unfold idV
 cases o with
 | none => rfl
 | some i =>
  simp only [Option.bind_some]
  rw [List.getElem?_append_left (h i rfl)]
theorem chV_more {fb : List (Nat × Value)} (q : Nat × Value) {c : ChM} (h : ∀ i, c.id = some i → i < fb.length) : chV (fb ++ [q]) c = chV fb c := by
 unfold chV; rw [idV_more q h]
theorem flatMap_congr' {α β : Type} {f g : α → List β} : ∀ {l : List α}, (∀ x ∈ l, f x = g x) → l.flatMap f = l.flatMap g
 | [], _ => rfl
 | a :: l, h => by rw [List.flatMap_cons, List.flatMap_cons, h a (by simp), flatMap_congr' (fun x hx => h x (by simp [hx]))]
def Grows (w : World) (g : Nat) (p p' : FsP) : Prop := ∀ k ∈ p'.fp g, k ∈ p.fp g ∨ w.heap.size ≤ k
theorem Grows.refl (w : World) (g : Nat) (p : FsP) : Grows w g p p := fun _ h => .inl h
theorem Grows.trans {w w' : World} {g : Nat} {p p' p'' : FsP} (h : Grows w g p p') (k : Grows w' g p' p'') (hs : w.heap.size ≤ w'.heap.size) : Grows w g p p'' := fun i hi => by
 rcases k i hi with h1 | h1
 ·exact h i h1
 ·exact .inr (Nat.le_trans hs h1)
theorem Chg.fps {w w1 w2 : World} {g : Nat} {p p' : FsP} (h1 : Chg (p.fp g) w w1) (hg : Grows w g p p') (h2 : Chg (p'.fp g) w1 w2) : Chg (p.fp g) w w2 :=
 h1.trans h2 (fun k hk hlt => by rcases hg k hk with h | h; exact h; omega)
end Go.Vc
namespace Go.Proofs.YtiadjkjlifnopaaGreatDoor.Tryz
open Go Go.Vc
section
variable {w w' : World} {g : Nat} {s : FsM} {p : FsP} {S : List Nat}
theorem FsAt.addFile (x : FsAt w g s p) {gf : Nat} (hb : Blk w gf 106 [.slice none 0 0, .int .i64 0]) (hf : gf ∉ p.fp g) (hok : FsOk { s with files := s.files ++ [⟨[], 0⟩] }) :
  FsAt w g { s with files := s.files ++ [⟨[], 0⟩] } { p with fb := p.fb ++ [(gf, .slice none 0 0)] } := by
 have hd : DirOk p.fb.length s.dir := by rw [x.len]; exact x.ok.dir
 have hl : DirOk p.fb.length s.lasts := by rw [x.len]; exact x.ok.lasts
 have hget : ∀ (i : Nat) q, (p.fb ++ [(gf, Value.slice none 0 0)])[i]? = some q → (i < p.fb.length ∧ p.fb[i]? = some q) ∨ (i = p.fb.length ∧ q = (gf, .slice none 0 0)) := fun i q hq => by
  by_cases hi : i < p.fb.length
  ·rw [List.getElem?_append_left hi] at hq; exact .inl ⟨hi, hq⟩
  ·rw [List.getElem?_append_right (by omega)] at hq
   have := (List.getElem?_eq_some_iff.1 hq).1
   simp at this
   obtain rfl : i = p.fb.length := by omega
   simp at hq
   exact .inr ⟨rfl, hq.symm⟩
 have hgf : ∀ (i : Nat) f, (s.files ++ [(⟨[], 0⟩ : FileM)])[i]? = some f → i < p.fb.length → s.files[i]? = some f := fun i f hf hi => by
  rw [List.getElem?_append_left (by rw [← x.len]; exact hi)] at hf; exact hf
 have hgl : ∀ f, (s.files ++ [(⟨[], 0⟩ : FileM)])[p.fb.length]? = some f → f = ⟨[], 0⟩ := fun f hf => by
  rw [x.len, List.getElem?_append_right (Nat.le_refl _)] at hf
  simp at hf; exact hf.symm
 refine ⟨hok, x.blk, x.dirM.congr (fun k => (at2_more _ hd k).symm), x.lastsM.congr (fun k => (at2_more _ hl k).symm), ?_, by simp [x.len], fun i q f hq hf' => ?_, fun i q f hq hf' => ?_, x.apart1, ?_, fun i j q q' h hq hq' h1 h2 => ?_⟩
 ·show Own w _ 4 p.wv s.waits.length (s.waits.flatMap (chV (p.fb ++ [_])))
  rw [flatMap_congr' (g := chV p.fb) (fun c hc => chV_more _ (by rw [x.len]; exact x.ok.replay.ids c hc))]
  exact x.waitsM
 ·rcases hget i q hq with ⟨hi, hq⟩ | ⟨rfl, rfl⟩
  ·exact x.fblk i q f hq (hgf i f hf' hi)
  ·obtain rfl := hgl f hf'; exact hb
 ·rcases hget i q hq with ⟨hi, hq⟩ | ⟨rfl, rfl⟩
  ·exact x.fown i q f hq (hgf i f hf' hi)
  ·obtain rfl := hgl f hf'; exact Own.nil _ _ _
 ·rw [List.map_append]
  refine List.nodup_append.2 ⟨x.apart2, by simp, fun a ha b hb e => ?_⟩
  obtain ⟨q, hq, rfl⟩ := List.mem_map.1 ha
  simp at hb
  subst hb
  exact hf (FsP.mem_fp.2 (.inr (.inr (.inr (.inr ⟨q, hq, .inl e.symm⟩)))))
 ·rcases hget i q hq with ⟨hi, hq⟩ | ⟨rfl, rfl⟩
  ·rcases hget j q' hq' with ⟨hj, hq'⟩ | ⟨rfl, rfl⟩
   ·exact x.apart3 i j q q' h hq hq' h1 h2
   ·cases h2
  ·cases h1
theorem FsAt.rest (x : FsAt w g s p) (hc : Chg S w w') (hS : ∀ k ∈ S, k < w.heap.size → k = g ∨ k = p.md ∨ p.wv.ownBlock = some k) {s' : FsM} {wv' : Value} (hfiles : s'.files = s.files) (hl : s'.lasts = s.lasts)
  (hb : Blk w' g 86 [.int .i64 s'.room, .map (some p.md), .map (some p.ml), wv', .int .i64 s'.calls, .int .i64 s'.fail]) (hdir : MapAt keyV ptrV w' p.md (at2 p.fb s'.dir))
  (hw : Own w' 108 4 wv' s'.waits.length (s'.waits.flatMap (chV p.fb))) (hok : FsOk s') : FsAt w' g s' { p with wv := wv' } := by
 have hc := hc.mono (S' := g :: p.md :: p.wv.ownBlock.toList) (fun k hk hlt => by
  rcases hS k hk hlt with h | h | h
  ·simp [h]
  ·simp [h]
  ·simp [h])
 have hrow : ∀ k t cs, Blk w k t cs → t ≠ 86 → t ≠ 108 → k ∉ g :: p.md :: p.wv.ownBlock.toList := fun k t cs hk h1 h2 hm => by
  rcases List.mem_cons.1 hm with rfl | hm
  ·exact hk.ne_ x.blk h1 rfl
  ·rcases List.mem_cons.1 hm with rfl | hm
   ·exact x.dirM.ne_blk hk rfl
   ·obtain ⟨cur, hr⟩ := x.waitsM.row (by simpa using hm)
    exact hk.ne_ hr h2 rfl
 refine ⟨hok, hb, hdir, ?_, hw, by rw [hfiles]; exact x.len, fun i q f hq hf => ?_, fun i q f hq hf => ?_, x.apart1, x.apart2, x.apart3⟩
 ·rw [hl]
  refine x.lastsM.keep hc (fun hm => ?_)
  rcases List.mem_cons.1 hm with h | hm
  ·exact x.lastsM.ne_blk x.blk h
  ·rcases List.mem_cons.1 hm with h | hm
   ·exact x.apart1 h.symm
   ·obtain ⟨cur, hr⟩ := x.waitsM.row (show p.wv.ownBlock = some p.ml by simpa using hm)
    exact x.lastsM.ne_blk hr rfl
 ·rw [hfiles] at hf
  have h1 := x.fblk i q f hq hf
  exact h1.keep hc (hrow _ _ _ h1 (by decide) (by decide))
 ·rw [hfiles] at hf
  refine (x.fown i q f hq hf).keep hc (fun h hh => ?_)
  obtain ⟨cur, hr⟩ := (x.fown i q f hq hf).row hh
  exact hrow _ _ _ hr (by decide) (by decide)
end
set_option maxHeartbeats 4000000 in
theorem change_has (g : Nat) (s : FsM) (p : FsP) (c : ChM) (w : World) (x : FsAt w g s p) (hf : Fit1 s.dir c) (hi : ∀ i, c.id = some i → i < s.files.length) (hok : FsOk (changeM s c)) (hcalls : s.calls < 1000000000) :
  Has Tryz.prog 56 #[ptrV g, .agg (chV p.fb c).toArray] w
  (fun v w' => Chg (p.fp g) w w' ∧ v = .int .i64 0 ∧ ∃ wv', FsAt w' g (changeM s c) { p with wv := wv' } ∧ Grows w g p { p with wv := wv' }) := by
 refine enter Tryz.func56 rfl rfl (by decide) rfl (e := [(0, ptrV g), (1, .agg (chV p.fb c).toArray)]) ⟨rfl, rfl, trivial⟩ ?_
 unfold ptrV
 have hwl := x.ok.waits
 have hwl2 : s.waits.length < 1000000000 := by omega
 repeat (first | refine W_seq ?_ | refine W_region ?_ | refine WL_some rfl rfl rfl ?_)
 refine op_box rfl rfl (fun g1 w1 hs1 hc1 hg1 => ?_)
 have hg1 : Blk w1 g1 108 [.int .i64 c.kind, .string (str c.name), .string (str c.to), idV p.fb c.id] := hg1
 have x1 := x.keep0 hc1
 have hb1 := x1.blk
 repeat (first | refine W_seq ?_ | refine Then_n ?_ | refine WL_nil ?_ | refine WL_some rfl rfl rfl ?_ | refine op_assign rfl rfl ?_)
 refine W_walk 5 [] fol (by kernel_rfl) (by kernel_rfl) ?_
 refine Walk.plain rfl (by intro val w_ hR hp; exact op_move rfl rfl ⟨Chg.refl _ _, rfl⟩) ?_; dsimp only [na1, na2]
 refine Walk.plain rfl (by intro val w_ hR hp; exact op_nilCheck rfl rfl ⟨Chg.refl _ _, rfl⟩) ?_; dsimp only [na1, na2]
 refine Walk.plain rfl (by intro val w_ hR hp; exact op_fieldAddr T rfl rfl rfl rfl rfl rfl rfl rfl ⟨Chg.refl _ _, rfl⟩) ?_; dsimp only [na1, na2]
 refine Walk.plain rfl (by intro val w_ hR hp; exact op_load T rfl rfl rfl rfl ((Blk.keep0 hb1 hR).cell rfl) ⟨Chg.refl _ _, rfl⟩) ?_; dsimp only [na1, na2]
 refine Walk.plain rfl (by intro val w_ hR hp; exact op_load_agg T rfl rfl rfl rfl (Blk.keep0 hg1 hR) (Nat.le_of_ble_eq_true rfl) rfl ⟨Chg.refl _ _, rfl⟩) ?_; dsimp only [na1, na2]
 refine Walk.fin ?_
 intro val w2 hc2 _
 have x2 := x1.keep0 hc2
 have hg2 := hg1.keep0 hc2
 refine WL_sub (e' := [(0, .pointer (some ⟨g, 0, none⟩)), (3, .pointer (some ⟨g1, 0, none⟩)), (8, .map (some p.md)), (9, .agg (chV p.fb c).toArray)]) ⟨rfl, rfl, rfl, rfl, trivial⟩ ?_
 repeat (refine WL_some rfl rfl rfl ?_)
 refine op_call rfl rfl rfl (do_has p.md p.fb s.dir c w2 x2.dirM (by rw [x2.len]; exact x2.ok.dir) hf (by rw [x2.len]; exact hi)) ?_
 rintro v w3 ⟨hc3, hm3⟩
 have hmdb : ∀ k t cs, Blk w2 k t cs → k ∉ [p.md] := fun k t cs hk hm => by
  simp at hm; subst hm; exact x2.dirM.ne_blk hk rfl
 have hb3 := x2.blk.keep hc3 (hmdb _ _ _ x2.blk)
 have hg3 := hg2.keep hc3 (hmdb _ _ _ hg2)
 have hw3 : Own w3 108 4 p.wv s.waits.length (s.waits.flatMap (chV p.fb)) := x2.waitsM.keep hc3 (fun h hh => by
  obtain ⟨cur, hr⟩ := x2.waitsM.row hh
  exact hmdb _ _ _ hr)
 obtain ⟨Aw, cw, hwf, _, _⟩ := hw3.form
 have hS : ∀ k ∈ p.wv.ownBlock.toList, k < w3.heap.size ∧ k ∈ p.fp g := fun k hk => ⟨hw3.lt (by simpa using hk), FsP.mem_fp.2 (.inr (.inr (.inr (.inl (by simpa using hk)))))⟩
 have hne1 : g ∉ p.wv.ownBlock.toList := fun hm => by
  obtain ⟨cur, hr⟩ := hw3.row (show p.wv.ownBlock = some g by simpa using hm)
  exact hb3.ne_ hr (by decide) rfl
 have hsz1 : w.heap.size ≤ g1 := hs1
 have hne2 : g1 ∉ p.wv.ownBlock.toList := fun hm => by
  have := x.waitsM.lt (show p.wv.ownBlock = some g1 by simpa using hm)
  omega
 repeat (first | refine W_seq ?_ | refine Then_n ?_ | refine WL_nil ?_)
 refine Q.W_walkq 8 7 p.wv.ownBlock.toList fol (by kernel_rfl) (by kernel_rfl) ?_
 refine Q.Walk.plain rfl rfl (by intro val w_ hR hp; exact op_move rfl rfl ⟨Chg.refl _ _, rfl⟩) ?_; dsimp only [na1, na2]
 refine Q.Walk.plain rfl rfl (by intro val w_ hR hp; exact op_move rfl rfl ⟨Chg.refl _ _, rfl⟩) ?_; dsimp only [na1, na2]
 refine Q.Walk.plain rfl rfl (by intro val w_ hR hp; exact op_nilCheck rfl rfl ⟨Chg.refl _ _, rfl⟩) ?_; dsimp only [na1, na2]
 refine Q.Walk.plain rfl rfl (by intro val w_ hR hp; exact op_fieldAddr T rfl rfl rfl rfl rfl rfl rfl rfl ⟨Chg.refl _ _, rfl⟩) ?_; dsimp only [na1, na2]
 refine Q.Walk.plain (v := p.wv) rfl rfl (by intro val w_ hR hp; exact op_load T rfl rfl rfl rfl ((hb3.keep hR hne1).cell rfl) ⟨Chg.refl _ _, rfl⟩) ?_; dsimp only [na1, na2]
 refine Q.Walk.plain (v := .agg (chV p.fb c).toArray) rfl rfl (by intro val w_ hR hp; exact op_load_agg T rfl rfl rfl rfl (hg3.keep hR hne2) (Nat.le_of_ble_eq_true rfl) rfl ⟨Chg.refl _ _, rfl⟩) ?_; dsimp only [na1, na2]
 refine Q.Walk.rel rfl (fun u w => ∃ g5, u = .slice (some ⟨g5, 0, none⟩) 1 1 ∧ Blk w g5 108 (chV p.fb c) ∧ w3.heap.size ≤ g5) rfl (fun u a b ⟨g5, h1, h2, h3⟩ hab => ⟨g5, h1, h2.keep hab (fun hm => by have := (hS _ hm).1; omega), h3⟩) ?_ ?_
 ·intro val w_ hR hp
  refine op_buildSlice T rfl rfl rfl rfl rfl rfl rfl (fun g5 w5 hs5 hc5 hg5 => ⟨hc5, g5, rfl, hg5, by have := hR.size; omega⟩)
 dsimp only [List.nil_append, List.cons_append]
 refine Q.Walk.turn rfl (fun u w => Own w 108 4 u (s.waits.length + 1) ((s.waits ++ [c]).flatMap (chV p.fb)) ∧ (u.ownBlock = p.wv.ownBlock ∨ ∃ h, u.ownBlock = some h ∧ w3.heap.size ≤ h)) rfl (fun u a b h hab => ⟨h.1.keep0 hab, h.2⟩) ?_ ?_
 ·intro val w_ hR hp
  obtain ⟨g5, he, hg5, hs5⟩ : ∃ g5, val 6 = .slice (some ⟨g5, 0, none⟩) 1 1 ∧ Blk w_ g5 108 (chV p.fb c) ∧ w3.heap.size ≤ g5 := hp 6 rfl _ _ rfl rfl
  have hw_ := hw3.keep0 hR
  refine op_append T (n := s.waits.length) (xs := s.waits.flatMap (chV p.fb)) (m := 1) (news := chV p.fb c) rfl rfl rfl (congrArg some he) rfl rfl rfl rfl hw_ rfl ?_ (by unfold maxLen; omega) (by show (s.waits.length + 1) * _ ≤ _; exact Nat.le_trans (Nat.mul_le_mul_right _ (show s.waits.length + 1 ≤ 1000000000 by omega)) (by decide)) ?_
  ·intro j u hj
   refine ⟨⟨_, rfl, by rw [add_plain]; exact hg5.cell hj⟩, ?_⟩
   obtain ⟨ip, hip⟩ := idV_form p.fb c.id
   unfold chV at hj
   rw [hip] at hj
   match j, hj with
   | 0, hj => cases hj; rfl
   | 1, hj => cases hj; rfl
   | 2, hj => cases hj; rfl
   | 3, hj => cases hj; rfl
  ·intro u w6 hu hc6 hb6 _
   refine ⟨hc6, ?_, hb6.imp id (fun ⟨h, h1, h2⟩ => ⟨h, h1, by have := hR.size; omega⟩)⟩
   rw [List.flatMap_append]
   simpa using hu
 dsimp only [List.nil_append, List.cons_append]
 refine Q.Walk.fin ?_
 intro val w6 hc6 hp
 obtain ⟨hw6, hwb6⟩ : Own w6 108 4 (val 7) (s.waits.length + 1) ((s.waits ++ [c]).flatMap (chV p.fb)) ∧ ((val 7).ownBlock = p.wv.ownBlock ∨ ∃ h, (val 7).ownBlock = some h ∧ w3.heap.size ≤ h) := hp 7 (by omega) _ _ rfl rfl
 clear hp
 refine WL_sub (e' := [(0, .pointer (some ⟨g, 0, none⟩)), (11, .pointer (some ⟨g, 0, none⟩)), (18, val 7)]) ⟨rfl, rfl, rfl, trivial⟩ ?_
 generalize val 7 = wv6 at hw6 hwb6
 obtain ⟨A6, c6, rfl, _, _⟩ := hw6.form
 have hb6 := hb3.keep hc6 hne1
 have hm6 := hm3.keep hc6 (fun hm => by
  obtain ⟨cur, hr⟩ := hw3.row (show p.wv.ownBlock = some p.md by simpa using hm)
  exact hm3.ne_blk hr rfl)
 repeat (first | refine WL_some rfl rfl rfl ?_ | refine WL_none rfl rfl ?_ | refine op_nilCheck rfl rfl ?_ | refine op_fieldAddr T rfl rfl rfl rfl rfl rfl rfl rfl ?_)
 refine op_store T rfl rfl rfl rfl rfl rfl hb6 (Nat.le_of_ble_eq_true rfl) (fun w7 hc7 hb7 _ => ?_)
 repeat (first | refine W_seq ?_ | refine W_region ?_ | refine W_ret ?_ | refine Then_n ?_ | refine WL_nil ?_ | refine WL_some rfl rfl rfl ?_ | refine op_assign rfl rfl ?_)
 have hc02 : Chg [] w w2 := hc1.trans' hc2
 have hc07 : Chg (g :: p.md :: p.wv.ownBlock.toList) w w7 := (((hc02.mono (fun k hk _ => by cases hk)).trans hc3 (fun k hk _ => by simp at hk; simp [hk])).trans hc6 (fun k hk _ => by simp at hk; simp [hk])).trans hc7 (fun k hk _ => by simp at hk; simp [hk])
 have hsz : w.heap.size ≤ w3.heap.size := Nat.le_trans hc02.size hc3.size
 refine post1 (.inl rfl) rfl rfl ⟨hc07.mono (fun k hk _ => ?_), rfl, _, x.rest hc07 (fun k hk _ => by simpa using hk) rfl rfl hb7 (hm6.keep hc7 (by simpa using hm6.ne_blk hb6)) ?_ hok, ?_⟩
 ·simp at hk
  rcases hk with h | h | h
  ·exact FsP.mem_fp.2 (.inl h)
  ·exact FsP.mem_fp.2 (.inr (.inl h))
  ·exact FsP.mem_fp.2 (.inr (.inr (.inr (.inl h))))
 ·show Own w7 _ 4 _ (s.waits ++ [c]).length _
  rw [List.length_append]
  refine hw6.keep hc7 (fun h hh hm => ?_)
  simp at hm
  obtain ⟨cur, hr⟩ := hw6.row hh
  rw [hm] at hr
  exact hb6.ne_ hr (by decide) rfl
 ·intro k hk
  rcases FsP.mem_fp.1 hk with h | h | h | h | h
  ·exact .inl (FsP.mem_fp.2 (.inl h))
  ·exact .inl (FsP.mem_fp.2 (.inr (.inl h)))
  ·exact .inl (FsP.mem_fp.2 (.inr (.inr (.inl h))))
  ·rcases hwb6 with h1 | ⟨i, h1, h2⟩
   ·exact .inl (FsP.mem_fp.2 (.inr (.inr (.inr (.inl (h1.symm.trans h))))))
   ·have h : Value.ownBlock _ = some k := h
    rw [h1] at h; injection h with h; exact .inr (by omega)
  ·exact .inl (FsP.mem_fp.2 (.inr (.inr (.inr (.inr h)))))
end Go.Proofs.YtiadjkjlifnopaaGreatDoor.Tryz
/-! Files: how many bytes; names; Create, Rename, Remove; the scalars. -/
namespace Go.Vc
open Go
def lenAt (s : FsM) (k : Nm) : Nat := match looks s.dir k with
 | some i => lenOf s i
 | none => 0
theorem usedM_eq {s : FsM} (h : FsOk s) : usedM s = ((s.dir.map (·.1)).map (lenAt s)).sum := by
 unfold usedM
 rw [List.map_map]
 congr 1
 refine List.map_congr_left fun p hp => ?_
 simp only [Function.comp, lenAt, looks_of_mem h.dir.up (k := p.1) (i := p.2) hp]
theorem lenAt_le {s : FsM} (h : FsOk s) (k : Nm) : lenAt s k ≤ 4194304 := by
 unfold lenAt
 split
 ·exact lenOf_le h _
 ·omega
theorem at2_isSome {fb : List (Nat × Value)} {d : Dir} (hd : DirOk fb.length d) (k : Nm) : (at2 fb d k).isSome = true ↔ k ∈ d.map (·.1) := by
 rw [← looks_isSome]
 unfold at2
 cases hl : looks d k with
 | none => simp
 | some i =>
  have := (hd.name _ (looks_mem hl)).2
  simp [List.getElem?_eq_getElem this]
theorem at2_inv {fb : List (Nat × Value)} {d : Dir} {k : Nm} {b : Nat} (h : at2 fb d k = some b) : ∃ (i : Nat) (q : Nat × Value), looks d k = some i ∧ fb[i]? = some q ∧ b = q.1 := by
 unfold at2 at h
 cases hl : looks d k with
 | none => rw [hl] at h; cases h
 | some i =>
  rw [hl] at h
  cases hq : fb[i]? with
  | none => simp [hq] at h
  | some q => simp [hq] at h; exact ⟨i, q, rfl, hq, h.symm⟩
end Go.Vc
namespace Go.Proofs.YtiadjkjlifnopaaGreatDoor.Tryz
open Go Go.Vc
theorem FsAt.dirOk {w : World} {g : Nat} {s : FsM} {p : FsP} (x : FsAt w g s p) : DirOk p.fb.length s.dir := by rw [x.len]; exact x.ok.dir
theorem FsAt.get {w : World} {g : Nat} {s : FsM} {p : FsP} (x : FsAt w g s p) {k : Nm} {i : Nat} (hl : looks s.dir k = some i) : ∃ (q : Nat × Value) (f : FileM), p.fb[i]? = some q ∧ s.files[i]? = some f := by
 have h := (x.dirOk.name _ (looks_mem hl)).2
 have h2 := h
 rw [x.len] at h2
 exact ⟨_, _, List.getElem?_eq_getElem h, List.getElem?_eq_getElem h2⟩
set_option maxHeartbeats 1000000 in
theorem used_has (g : Nat) (s : FsM) (p : FsP) (w : World) (x : FsAt w g s p) : Has Tryz.prog 70 #[ptrV g] w (fun v w' => Chg [] w w' ∧ v = .int .i64 (usedM s)) := by
 refine enter Tryz.func70 rfl rfl (by decide) rfl (e := [(0, ptrV g)]) ⟨rfl, trivial⟩ ?_
 unfold ptrV
 have hb := x.blk
 have hd := x.dirOk
 have hnd := hd.up.nodup
 repeat (first | refine W_seq ?_ | refine W_region ?_ | refine Then_n ?_ | refine WL_nil ?_ | refine W_condT rfl ?_ | refine WL_some rfl rfl rfl ?_ | refine op_move rfl rfl ?_ | refine op_assign rfl rfl ?_ | refine op_nilCheck rfl rfl ?_ | refine op_fieldAddr T rfl rfl rfl rfl rfl rfl rfl rfl ?_ | refine op_neq_nilptr T rfl rfl rfl rfl rfl ?_ | refine op_loadB T rfl rfl rfl rfl (by assumption) (by exact rfl) ?_)
 refine op_range T strKey rfl rfl rfl x.dirM (fun it w1 hsi hc1 hI1 => ?_)
 repeat (first | refine W_block ?_ | refine Then_n ?_ | refine WL_nil ?_)
 refine W_loop (σ := List Nm) (fun ks => [(0, .pointer (some ⟨g, 0, none⟩)), (3, .int .i64 ((ks.map (lenAt s)).sum : Nat)), (12, .pointer (some ⟨it, 0, none⟩))])
  (fun (ks : List Nm) w' => Chg [] w w' ∧ IterAt keyV ptrV w' it p.md (at2 p.fb s.dir) ks) (fun ks => 151 - ks.length) [] ⟨rfl, rfl, rfl, trivial⟩ ⟨hc1, hI1⟩ ?_
 rintro ks w2 ⟨hc2, hI2⟩
 have hin : ∀ k ∈ ks, k ∈ s.dir.map (·.1) := fun k hk => by
  obtain ⟨b, hb⟩ := hI2.mem k hk
  exact (at2_isSome hd k).1 (by rw [hb]; rfl)
 have hkl := nodup_length ks _ hI2.nodup hin
 have hfew := hd.few
 rw [List.length_map] at hkl
 have hsum := sum_le (lenAt s) 4194304 (lenAt_le x.ok) ks
 repeat (first | refine W_seq ?_ | refine W_region ?_ | refine WL_some rfl rfl rfl ?_)
 refine op_next strKey rfl rfl hI2 (fun hall => ?_) (fun k b w3 hf hkn hc3 hs3 hI3 => ?_)
 ·have hp : ks.Perm (s.dir.map (·.1)) := (List.perm_ext_iff_of_nodup hI2.nodup hnd).2 fun k => ⟨hin k, fun hk => by
   obtain ⟨b, hb⟩ := Option.isSome_iff_exists.1 ((at2_isSome hd k).2 hk)
   exact hall k b hb⟩
  have hu : (ks.map (lenAt s)).sum = usedM s := by rw [usedM_eq x.ok]; exact (hp.map (lenAt s)).sum_nat
  rw [hu]
  repeat (first | refine W_seq ?_ | refine W_region ?_ | refine W_exit ?_ | refine W_ret ?_ | refine Then_n ?_ | refine Then_x ?_ | refine InBlock_hit ?_ | refine Round_x ?_ | refine WL_nil ?_ | refine W_condF rfl ?_ | refine WL_some rfl rfl rfl ?_ | refine op_move rfl rfl ?_ | refine op_assign rfl rfl ?_ | refine op_extract rfl rfl rfl ?_)
  exact post1 (.inl rfl) rfl rfl ⟨hc2, rfl⟩
 ·obtain ⟨i, q, hl, hq, rfl⟩ := at2_inv hf
  obtain ⟨q', f, hq', hfi⟩ := x.get hl
  rw [hq] at hq'; injection hq' with hq'; subst hq'
  have hc03 : Chg [] w w3 := hc2.trans hc3 (fun j hj hlt => by simp at hj; omega)
  have hbf := (x.fblk i q f hq hfi).keep0 hc03
  obtain ⟨A, c, hv, hv1, hv2⟩ := (x.fown i q f hq hfi).form
  rw [hv] at hbf
  have hla : lenAt s k = f.b.length := by unfold lenAt lenOf; rw [hl]; simp [hfi]
  have hfl := (x.ok.files f (List.mem_of_getElem? hfi)).2
  repeat (first | refine W_seq ?_ | refine W_block ?_ | refine W_region ?_ | refine W_skip ?_ | refine Then_n ?_ | refine WL_nil ?_ | refine W_condT rfl ?_ | refine WL_some rfl rfl rfl ?_ | refine op_extract rfl rfl rfl ?_)
  refine op_entry strKey rfl rfl hI3 hf ?_
  unfold ptrV
  repeat (first | refine W_region ?_ | refine Then_n ?_ | refine InBlock_n ?_ | refine WL_nil ?_ | refine WL_some rfl rfl rfl ?_ | refine op_move rfl rfl ?_ | refine op_assign rfl rfl ?_ | refine op_len_slice T rfl rfl rfl rfl ?_ | refine op_add rfl rfl rfl (wrap_i64_in (by omega) (by omega)) ?_ | refine op_extract rfl rfl rfl ?_ | refine op_nilCheck rfl rfl ?_ | refine op_fieldAddr T rfl rfl rfl rfl rfl rfl rfl rfl ?_ | refine op_loadB T rfl rfl rfl rfl (by assumption) (by exact rfl) ?_)
  have hin3 : ∀ k' ∈ ks ++ [k], k' ∈ s.dir.map (·.1) := fun k' hk' => by
   obtain ⟨b, hb⟩ := hI3.mem k' hk'
   exact (at2_isSome hd k').1 (by rw [hb]; rfl)
  have hkl3 := nodup_length (ks ++ [k]) _ hI3.nodup hin3
  rw [List.length_map, List.length_append] at hkl3
  simp at hkl3
  refine Round_n (ks ++ [k]) ⟨rfl, ?_, rfl, trivial⟩ ⟨hc03, hI3⟩ (by simp; omega)
  rw [List.map_append, List.sum_append]
  simp only [List.map_cons, List.map_nil, List.sum_cons, List.sum_nil, hla]
  exact some_int (by omega)
theorem fail_has (g : Nat) (s : FsM) (p : FsP) (n : Int) (w : World) (x : FsAt w g s p) (hn : n ≤ 9223372036854775807) : Has Tryz.prog 37 #[ptrV g, .int .i64 n] w (fun v w' => Chg [g] w w' ∧ FsAt w' g { s with fail := max n (-1) } p) := by
 refine enter Tryz.func37 rfl rfl (by decide) rfl (e := [(0, ptrV g), (1, .int .i64 n)]) ⟨rfl, rfl, trivial⟩ ?_
 unfold ptrV
 have hb := x.blk
 repeat (first | refine W_seq ?_ | refine W_region ?_ | refine Then_n ?_ | refine WL_nil ?_ | refine W_condT rfl ?_ | refine WL_some rfl rfl rfl ?_ | refine WL_none rfl rfl ?_ | refine op_move rfl rfl ?_ | refine op_max rfl rfl rfl ?_ | refine op_nilCheck rfl rfl ?_ | refine op_fieldAddr T rfl rfl rfl rfl rfl rfl rfl rfl ?_ | refine op_neq_nilptr T rfl rfl rfl rfl rfl ?_)
 refine op_store T rfl rfl rfl rfl rfl rfl hb (Nat.le_of_ble_eq_true rfl) (fun w1 hc1 hb1 _ => ?_)
 repeat (refine WL_nil ?_)
 exact post0 (.inr rfl) rfl ⟨hc1, x.scalars hc1 hb1 (failM_ok x.ok n hn)⟩
theorem newFs_has (n : Int) (w : World) : Has Tryz.prog 18 #[.int .i64 n] w (fun v w' => Chg [] w w' ∧ ∃ g p, v = ptrV g ∧ FsAt w' g (newM n) p ∧ ∀ k ∈ p.fp g, w.heap.size ≤ k) := by
 refine enter Tryz.func18 rfl rfl (by decide) rfl (e := [(0, .int .i64 n)]) ⟨rfl, trivial⟩ ?_
 repeat (first | refine W_seq ?_ | refine W_region ?_ | refine Then_n ?_ | refine WL_nil ?_ | refine WL_some rfl rfl rfl ?_ | refine op_move rfl rfl ?_ | refine op_assign rfl rfl ?_)
 refine op_call rfl rfl rfl (room_has n w) ?_
 rintro _ w1 ⟨rfl, rfl⟩
 repeat (refine WL_some rfl rfl rfl ?_)
 refine op_makeMap keyV ptrV rfl (fun md w2 hs2 hc2 hm2 => ?_)
 repeat (refine WL_some rfl rfl rfl ?_)
 refine op_makeMap keyV ptrV rfl (fun ml w3 hs3 hc3 hm3 => ?_)
 repeat (first | refine WL_some rfl rfl rfl ?_ | refine op_build T rfl rfl rfl rfl rfl rfl ?_)
 refine op_box rfl rfl (fun g w4 hs4 hc4 hg4 => ?_)
 repeat (first | refine W_ret ?_ | refine Then_n ?_ | refine WL_nil ?_ | refine WL_some rfl rfl rfl ?_ | refine op_assign rfl rfl ?_)
 have hml := hm2.lt
 have h2 := hc2.size
 have h3 := hc3.size
 refine post1 (.inl rfl) rfl rfl ⟨(hc2.trans' hc3).trans' hc4, g, ⟨md, ml, .slice none 0 0, []⟩, rfl, ⟨newM_ok n, hg4, (hm2.keep0 (hc3.trans' hc4)).congr (fun k => rfl), (hm3.keep0 hc4).congr (fun k => rfl), Own.nil _ _ _, rfl, fun i q f h => by simp at h, fun i q f h => by simp at h, (show md ≠ ml by omega), List.nodup_nil, fun i j q q' h h1 => by simp at h1⟩, fun k hk => ?_⟩
 rcases FsP.mem_fp.1 hk with h | h | h | h | ⟨q, hq, h⟩
 ·omega
 ·have h : k = md := h
  omega
 ·have h : k = ml := h
  omega
 ·cases h
 ·cases hq
def FsDone (w : World) (g : Nat) (p : FsP) (r : FsM × Int) (v : Value) (w' : World) : Prop := Chg (p.fp g) w w' ∧ v = .int .i64 r.2 ∧ ∃ p', FsAt w' g r.1 p' ∧ Grows w g p p'
theorem mem_fp_self (p : FsP) (g : Nat) : g ∈ p.fp g := FsP.mem_fp.2 (.inl rfl)
theorem chg_self {w w' : World} {p : FsP} {g : Nat} (h : Chg [g] w w') : Chg (p.fp g) w w' := h.mono (fun k hk _ => by simp at hk; subst hk; exact mem_fp_self p k)
end Go.Proofs.YtiadjkjlifnopaaGreatDoor.Tryz
/-! Files: Create. -/
namespace Go.Proofs.YtiadjkjlifnopaaGreatDoor.Tryz
open Go Go.Vc
set_option maxHeartbeats 8000000 in
theorem create_has (g : Nat) (s : FsM) (p : FsP) (k : Nm) (w : World) (x : FsAt w g s p) (hk : k.length ≤ maxLen) (hcalls : s.calls < 1000000000 - 1) :
  Has Tryz.prog 20 #[ptrV g, .string (str k)] w (FsDone w g p (createM s k)) := by
 refine enter Tryz.func20 rfl rfl (by decide) rfl (e := [(0, ptrV g), (1, .string (str k))]) ⟨rfl, rfl, trivial⟩ ?_
 unfold ptrV
 repeat (first | refine W_seq ?_ | refine W_region ?_ | refine Then_n ?_ | refine WL_nil ?_ | refine WL_some rfl rfl rfl ?_ | refine op_move rfl rfl ?_ | refine op_assign rfl rfl ?_)
 refine op_call rfl rfl rfl (call_has g s p w x (by omega)) ?_
 rintro _ w1 ⟨hc1, rfl, x1⟩
 have hcc : (callM s).calls < 1000000000 := by show s.calls + 1 < _; omega
 cases hfm : failsM s with
 | true =>
  have hr : createM s k = (callM s, 5) := by unfold createM; simp [hfm]
  rw [if_pos rfl]
  repeat (first | refine W_seq ?_ | refine W_region ?_ | refine W_ret ?_ | refine Then_n ?_ | refine Then_r ?_ | refine WL_nil ?_ | refine W_condT rfl ?_ | refine WL_some rfl rfl rfl ?_ | refine op_move rfl rfl ?_ | refine op_assign rfl rfl ?_ | refine op_neq rfl rfl rfl (fun hc => ?_) (fun hc => False.elim (by omega)))
  refine post1 (.inl rfl) rfl rfl ?_
  rw [hr]; exact ⟨chg_self hc1, rfl, p, x1, Grows.refl _ _ _⟩
 | false =>
 rw [if_neg (by simp)]
 repeat (first | refine W_seq ?_ | refine W_block ?_ | refine W_region ?_ | refine W_skip ?_ | refine Then_n ?_ | refine WL_nil ?_ | refine W_condF rfl ?_ | refine WL_some rfl rfl rfl ?_ | refine op_move rfl rfl ?_ | refine op_assign rfl rfl ?_ | refine op_neq rfl rfl rfl (fun hc => False.elim (by omega)) (fun hc => ?_))
 refine op_call rfl rfl rfl (may_has k w1 hk) ?_
 rintro _ w1 ⟨rfl, rfl⟩
 cases hmay : mayM k with
 | false =>
  have hr : createM s k = (callM s, 10) := by unfold createM; simp [hfm, hmay]
  repeat (first | refine W_seq ?_ | refine W_region ?_ | refine W_ret ?_ | refine Then_n ?_ | refine Then_r ?_ | refine InBlock_r ?_ | refine WL_nil ?_ | refine W_condT rfl ?_ | refine WL_some rfl rfl rfl ?_ | refine op_assign rfl rfl ?_ | refine op_notF rfl rfl ?_)
  refine post1 (.inl rfl) rfl rfl ?_
  rw [hr]; exact ⟨chg_self hc1, rfl, p, x1, Grows.refl _ _ _⟩
 | true =>
 have hb1 := x1.blk
 have hd1 := x1.dirOk
 have hend : ∀ w2, Chg [] w1 w2 → ((looks (callM s).dir k).isNone && decide (150 ≤ (callM s).dir.length)) = false →
   createM s k = (changeM { callM s with files := (callM s).files ++ [⟨[], 0⟩] } ⟨0, k, [], some (callM s).files.length⟩, 0) := fun w2 hc2 hn => by
  unfold createM
  simp only [hfm, hmay]
  rw [hn]
  simp
 have hok : ((looks (callM s).dir k).isNone && decide (150 ≤ (callM s).dir.length)) = false → FsOk (changeM { callM s with files := (callM s).files ++ [⟨[], 0⟩] } ⟨0, k, [], some (callM s).files.length⟩) := fun hn => by
  have := createM_ok x.ok k
  rw [hend w1 (Chg.refl _ _) hn] at this; exact this
 have hfile : FsOk { callM s with files := (callM s).files ++ [⟨[], 0⟩] } := by
  have h1 := x1.ok
  exact ⟨h1.room0, h1.room1, h1.calls0, h1.fail0, h1.fail1, fun f hf => by
   rcases List.mem_append.1 hf with hf | hf
   ·exact h1.files f hf
   ·simp at hf; subst hf; simp, h1.replay.more (by simp), h1.waits⟩
 cases hl : looks (callM s).dir k with
 | none =>
  repeat (first | refine W_seq ?_ | refine W_region ?_ | refine Then_n ?_ | refine WL_nil ?_ | refine W_condF rfl ?_ | refine WL_some rfl rfl rfl ?_ | refine op_move rfl rfl ?_ | refine op_assign rfl rfl ?_ | refine op_notT rfl rfl ?_ | refine op_nilCheck rfl rfl ?_ | refine op_fieldAddr T rfl rfl rfl rfl rfl rfl rfl rfl ?_ | refine op_loadB T rfl rfl rfl rfl (by assumption) (by exact rfl) ?_)
  refine op_lookup_v T strKey rfl rfl rfl rfl rfl rfl x1.dirM (v := .pointer none) (fun b hb => by rw [at2_none hl] at hb; cases hb) (fun _ => rfl) ?_
  repeat (first | refine WL_some rfl rfl rfl ?_ | refine WL_guardT rfl rfl rfl rfl ?_ | refine op_move rfl rfl ?_ | refine op_nilCheck rfl rfl ?_ | refine op_fieldAddr T rfl rfl rfl rfl rfl rfl rfl rfl ?_ | refine op_eql_nilptr T rfl rfl rfl rfl rfl ?_ | refine op_loadB T rfl rfl rfl rfl (by assumption) (by exact rfl) ?_)
  refine op_len_map T strKey (ks := (callM s).dir.map (·.1)) rfl rfl rfl rfl x1.dirM hd1.up.nodup (fun k' => (at2_isSome hd1 k').symm) ?_
  rw [List.length_map]
  by_cases hfull : 150 ≤ (callM s).dir.length
  ·have hr : createM s k = (callM s, 4) := by unfold createM; simp [hfm, hmay, hl, hfull]
   repeat (first | refine W_seq ?_ | refine W_region ?_ | refine W_ret ?_ | refine Then_n ?_ | refine Then_r ?_ | refine InBlock_r ?_ | refine WL_nil ?_ | refine W_condT rfl ?_ | refine WL_some rfl rfl rfl ?_ | refine WL_guardT rfl rfl rfl rfl ?_ | refine op_assign rfl rfl ?_ | refine op_pick rfl rfl rfl rfl ?_ | refine op_geq rfl rfl rfl (fun hc => ?_) (fun hc => False.elim (by omega)))
   refine post1 (.inl rfl) rfl rfl ?_
   rw [hr]; exact ⟨chg_self hc1, rfl, p, x1, Grows.refl _ _ _⟩
  have hn : ((looks (callM s).dir k).isNone && decide (150 ≤ (callM s).dir.length)) = false := by simp [hfull]
  rw [hend w1 (Chg.refl _ _) hn]
  have hok := hok hn
  repeat (first | refine W_seq ?_ | refine W_region ?_ | refine W_skip ?_ | refine Then_n ?_ | refine InBlock_n ?_ | refine WL_nil ?_ | refine W_condF rfl ?_ | refine WL_some rfl rfl rfl ?_ | refine WL_guardT rfl rfl rfl rfl ?_ | refine op_move rfl rfl ?_ | refine op_assign rfl rfl ?_ | refine op_pick rfl rfl rfl rfl ?_ | refine op_geq rfl rfl rfl (fun hc => False.elim (by omega)) (fun hc => ?_) | refine op_build T rfl rfl rfl rfl rfl rfl ?_)
  refine op_box rfl rfl (fun gf w2 hs2 hc2 hg2 => ?_)
  have x2 := (x1.keep0 hc2).addFile hg2 (fun hm => by have := x1.lt gf hm; omega) hfile
  have hid : idV (p.fb ++ [(gf, Value.slice none 0 0)]) (some (callM s).files.length) = ptrV gf := idV_some (i := (callM s).files.length) (q := (gf, .slice none 0 0)) rfl (by rw [← x1.len]; simp)
  have hcv : chV (p.fb ++ [(gf, Value.slice none 0 0)]) ⟨0, k, [], some (callM s).files.length⟩ = [.int .i64 ((0 : Nat) : Int), .string (str k), .string (str []), .pointer (some ⟨gf, 0, none⟩)] := by unfold chV; rw [hid]; rfl
  repeat (first | refine WL_some rfl rfl rfl ?_ | refine op_build T rfl rfl rfl rfl rfl rfl ?_)
  have hcall := change_has g _ _ ⟨0, k, [], some (callM s).files.length⟩ w2 x2 ⟨fun _ => by simp, fun e => by simp at e⟩ (fun i hi => by simp at hi; subst hi; simp) hok hcc
  rw [hcv] at hcall
  refine op_call rfl rfl rfl hcall ?_
  rintro _ w3 ⟨hc3, rfl, wv', x3, hgr⟩
  repeat (first | refine W_ret ?_ | refine Then_n ?_ | refine WL_nil ?_ | refine WL_some rfl rfl rfl ?_ | refine op_assign rfl rfl ?_)
  have hg2 : Grows w g p { p with fb := p.fb ++ [(gf, Value.slice none 0 0)] } := fun j hj => by
   rcases FsP.mem_fp.1 hj with h | h | h | h | ⟨q, hq, h⟩
   ·exact .inl (FsP.mem_fp.2 (.inl h))
   ·exact .inl (FsP.mem_fp.2 (.inr (.inl h)))
   ·exact .inl (FsP.mem_fp.2 (.inr (.inr (.inl h))))
   ·exact .inl (FsP.mem_fp.2 (.inr (.inr (.inr (.inl h)))))
   ·rcases List.mem_append.1 hq with hq | hq
    ·exact .inl (FsP.mem_fp.2 (.inr (.inr (.inr (.inr ⟨q, hq, h⟩)))))
    ·simp at hq
     subst hq
     rcases h with rfl | h
     ·exact .inr (by have := hc1.size; omega)
     ·cases h
  have hc02 := (chg_self (p := p) hc1).trans' hc2
  exact post1 (.inl rfl) rfl rfl ⟨hc02.fps hg2 hc3, rfl, _, x3, hg2.trans hgr hc02.size⟩
 | some i =>
  obtain ⟨q, f, hq, hfi⟩ := x1.get hl
  repeat (first | refine W_seq ?_ | refine W_region ?_ | refine Then_n ?_ | refine WL_nil ?_ | refine W_condF rfl ?_ | refine WL_some rfl rfl rfl ?_ | refine op_move rfl rfl ?_ | refine op_assign rfl rfl ?_ | refine op_notT rfl rfl ?_ | refine op_nilCheck rfl rfl ?_ | refine op_fieldAddr T rfl rfl rfl rfl rfl rfl rfl rfl ?_ | refine op_loadB T rfl rfl rfl rfl (by assumption) (by exact rfl) ?_)
  refine op_lookup_v T strKey rfl rfl rfl rfl rfl rfl x1.dirM (v := ptrV q.1) (fun b hb => by rw [at2_some hl hq] at hb; injection hb with hb; rw [hb]) (fun hn => by rw [at2_some hl hq] at hn; cases hn) ?_
  unfold ptrV
  have hn : ((looks (callM s).dir k).isNone && decide (150 ≤ (callM s).dir.length)) = false := by simp [hl]
  rw [hend w1 (Chg.refl _ _) hn]
  have hok := hok hn
  repeat (first | refine W_seq ?_ | refine W_region ?_ | refine W_skip ?_ | refine Then_n ?_ | refine InBlock_n ?_ | refine WL_nil ?_ | refine W_condF rfl ?_ | refine WL_some rfl rfl rfl ?_ | refine WL_guardF rfl rfl rfl rfl rfl ?_ | refine op_move rfl rfl ?_ | refine op_assign rfl rfl ?_ | refine op_pick rfl rfl rfl rfl ?_ | refine op_eql_nilptr T rfl rfl rfl rfl rfl ?_ | refine op_build T rfl rfl rfl rfl rfl rfl ?_)
  refine op_box rfl rfl (fun gf w2 hs2 hc2 hg2 => ?_)
  have x2 := (x1.keep0 hc2).addFile hg2 (fun hm => by have := x1.lt gf hm; omega) hfile
  have hid : idV (p.fb ++ [(gf, Value.slice none 0 0)]) (some (callM s).files.length) = ptrV gf := idV_some (i := (callM s).files.length) (q := (gf, .slice none 0 0)) rfl (by rw [← x1.len]; simp)
  have hcv : chV (p.fb ++ [(gf, Value.slice none 0 0)]) ⟨0, k, [], some (callM s).files.length⟩ = [.int .i64 ((0 : Nat) : Int), .string (str k), .string (str []), .pointer (some ⟨gf, 0, none⟩)] := by unfold chV; rw [hid]; rfl
  repeat (first | refine WL_some rfl rfl rfl ?_ | refine op_build T rfl rfl rfl rfl rfl rfl ?_)
  have hcall := change_has g _ _ ⟨0, k, [], some (callM s).files.length⟩ w2 x2 ⟨fun _ => by simp, fun e => by simp at e⟩ (fun i hi => by simp at hi; subst hi; simp) hok hcc
  rw [hcv] at hcall
  refine op_call rfl rfl rfl hcall ?_
  rintro _ w3 ⟨hc3, rfl, wv', x3, hgr⟩
  repeat (first | refine W_ret ?_ | refine Then_n ?_ | refine WL_nil ?_ | refine WL_some rfl rfl rfl ?_ | refine op_assign rfl rfl ?_)
  have hg2 : Grows w g p { p with fb := p.fb ++ [(gf, Value.slice none 0 0)] } := fun j hj => by
   rcases FsP.mem_fp.1 hj with h | h | h | h | ⟨q, hq, h⟩
   ·exact .inl (FsP.mem_fp.2 (.inl h))
   ·exact .inl (FsP.mem_fp.2 (.inr (.inl h)))
   ·exact .inl (FsP.mem_fp.2 (.inr (.inr (.inl h))))
   ·exact .inl (FsP.mem_fp.2 (.inr (.inr (.inr (.inl h)))))
   ·rcases List.mem_append.1 hq with hq | hq
    ·exact .inl (FsP.mem_fp.2 (.inr (.inr (.inr (.inr ⟨q, hq, h⟩)))))
    ·simp at hq
     subst hq
     rcases h with rfl | h
     ·exact .inr (by have := hc1.size; omega)
     ·cases h
  have hc02 := (chg_self (p := p) hc1).trans' hc2
  exact post1 (.inl rfl) rfl rfl ⟨hc02.fps hg2 hc3, rfl, _, x3, hg2.trans hgr hc02.size⟩
end Go.Proofs.YtiadjkjlifnopaaGreatDoor.Tryz
/-! Files: Rename, Remove, SyncDir. -/
namespace Go.Proofs.YtiadjkjlifnopaaGreatDoor.Tryz
open Go Go.Vc
set_option maxHeartbeats 4000000 in
theorem rename_has (g : Nat) (s : FsM) (p : FsP) (k k' : Nm) (w : World) (x : FsAt w g s p) (hk : k'.length ≤ maxLen) (hcalls : s.calls < 1000000000 - 1) :
  Has Tryz.prog 93 #[ptrV g, .string (str k), .string (str k')] w (FsDone w g p (renameM s k k')) := by
 refine enter Tryz.func93 rfl rfl (by decide) rfl (e := [(0, ptrV g), (1, .string (str k)), (2, .string (str k'))]) ⟨rfl, rfl, rfl, trivial⟩ ?_
 unfold ptrV
 repeat (first | refine W_seq ?_ | refine W_region ?_ | refine Then_n ?_ | refine WL_nil ?_ | refine WL_some rfl rfl rfl ?_ | refine op_move rfl rfl ?_ | refine op_assign rfl rfl ?_)
 refine op_call rfl rfl rfl (call_has g s p w x (by omega)) ?_
 rintro _ w1 ⟨hc1, rfl, x1⟩
 have hcc : (callM s).calls < 1000000000 := by show s.calls + 1 < _; omega
 cases hfm : failsM s with
 | true =>
  have hr : renameM s k k' = (callM s, 5) := by unfold renameM; simp [hfm]
  rw [if_pos rfl]
  repeat (first | refine W_seq ?_ | refine W_region ?_ | refine W_ret ?_ | refine Then_n ?_ | refine Then_r ?_ | refine WL_nil ?_ | refine W_condT rfl ?_ | refine WL_some rfl rfl rfl ?_ | refine op_move rfl rfl ?_ | refine op_assign rfl rfl ?_ | refine op_neq rfl rfl rfl (fun hc => ?_) (fun hc => False.elim (by omega)))
  refine post1 (.inl rfl) rfl rfl ?_
  rw [hr]; exact ⟨chg_self hc1, rfl, p, x1, Grows.refl _ _ _⟩
 | false =>
 rw [if_neg (by simp)]
 have hb1 := x1.blk
 cases hl : looks (callM s).dir k with
 | none =>
  have hr : renameM s k k' = (callM s, 3) := by unfold renameM; simp [hfm, hl]
  repeat (first | refine W_seq ?_ | refine W_block ?_ | refine W_region ?_ | refine W_skip ?_ | refine Then_n ?_ | refine WL_nil ?_ | refine W_condF rfl ?_ | refine WL_some rfl rfl rfl ?_ | refine op_move rfl rfl ?_ | refine op_assign rfl rfl ?_ | refine op_nilCheck rfl rfl ?_ | refine op_neq rfl rfl rfl (fun hc => False.elim (by omega)) (fun hc => ?_) | refine op_fieldAddr T rfl rfl rfl rfl rfl rfl rfl rfl ?_ | refine op_loadB T rfl rfl rfl rfl (by assumption) (by exact rfl) ?_)
  refine op_lookup_v T strKey rfl rfl rfl rfl rfl rfl x1.dirM (v := .pointer none) (fun b hb => by rw [at2_none hl] at hb; cases hb) (fun _ => rfl) ?_
  repeat (first | refine W_seq ?_ | refine W_region ?_ | refine W_ret ?_ | refine Then_n ?_ | refine Then_r ?_ | refine InBlock_r ?_ | refine WL_nil ?_ | refine W_condT rfl ?_ | refine WL_some rfl rfl rfl ?_ | refine op_assign rfl rfl ?_ | refine op_eql_nilptr T rfl rfl rfl rfl rfl ?_)
  refine post1 (.inl rfl) rfl rfl ?_
  rw [hr]; exact ⟨chg_self hc1, rfl, p, x1, Grows.refl _ _ _⟩
 | some i =>
 obtain ⟨q, f, hq, hfi⟩ := x1.get hl
 repeat (first | refine W_seq ?_ | refine W_block ?_ | refine W_region ?_ | refine W_skip ?_ | refine Then_n ?_ | refine WL_nil ?_ | refine W_condF rfl ?_ | refine WL_some rfl rfl rfl ?_ | refine op_move rfl rfl ?_ | refine op_assign rfl rfl ?_ | refine op_nilCheck rfl rfl ?_ | refine op_neq rfl rfl rfl (fun hc => False.elim (by omega)) (fun hc => ?_) | refine op_fieldAddr T rfl rfl rfl rfl rfl rfl rfl rfl ?_ | refine op_loadB T rfl rfl rfl rfl (by assumption) (by exact rfl) ?_)
 refine op_lookup_v T strKey rfl rfl rfl rfl rfl rfl x1.dirM (v := ptrV q.1) (fun b hb => by rw [at2_some hl hq] at hb; injection hb with hb; rw [hb]) (fun hn => by rw [at2_some hl hq] at hn; cases hn) ?_
 unfold ptrV
 repeat (first | refine W_seq ?_ | refine W_region ?_ | refine Then_n ?_ | refine WL_nil ?_ | refine W_condF rfl ?_ | refine WL_some rfl rfl rfl ?_ | refine op_move rfl rfl ?_ | refine op_assign rfl rfl ?_ | refine op_eql_nilptr T rfl rfl rfl rfl rfl ?_)
 refine op_call rfl rfl rfl (may_has k' w1 hk) ?_
 rintro _ w1 ⟨rfl, rfl⟩
 cases hmay : mayM k' with
 | false =>
  have hr : renameM s k k' = (callM s, 10) := by unfold renameM; simp [hfm, hl, hmay]
  repeat (first | refine W_seq ?_ | refine W_region ?_ | refine W_ret ?_ | refine Then_n ?_ | refine Then_r ?_ | refine InBlock_r ?_ | refine WL_nil ?_ | refine W_condT rfl ?_ | refine WL_some rfl rfl rfl ?_ | refine op_assign rfl rfl ?_ | refine op_notF rfl rfl ?_)
  refine post1 (.inl rfl) rfl rfl ?_
  rw [hr]; exact ⟨chg_self hc1, rfl, p, x1, Grows.refl _ _ _⟩
 | true =>
 have hr : renameM s k k' = (changeM (callM s) ⟨1, k, k', none⟩, 0) := by unfold renameM; simp [hfm, hl, hmay]
 have hok := renameM_ok x.ok k k'
 rw [hr] at hok
 have hcv : chV p.fb ⟨1, k, k', none⟩ = [.int .i64 ((1 : Nat) : Int), .string (str k), .string (str k'), .pointer none] := rfl
 have hcall := change_has g _ _ ⟨1, k, k', none⟩ w1 x1 ⟨fun e => by simp at e, fun _ => by simp [hl]⟩ (fun i hi => by cases hi) hok hcc
 rw [hcv] at hcall
 repeat (first | refine W_seq ?_ | refine W_region ?_ | refine W_skip ?_ | refine Then_n ?_ | refine InBlock_n ?_ | refine WL_nil ?_ | refine W_condF rfl ?_ | refine WL_some rfl rfl rfl ?_ | refine op_move rfl rfl ?_ | refine op_assign rfl rfl ?_ | refine op_notT rfl rfl ?_ | refine op_build T rfl rfl rfl rfl rfl rfl ?_)
 refine op_call rfl rfl rfl hcall ?_
 rintro _ w2 ⟨hc2, rfl, wv', x2, hgr⟩
 repeat (first | refine W_ret ?_ | refine Then_n ?_ | refine WL_nil ?_ | refine WL_some rfl rfl rfl ?_ | refine op_assign rfl rfl ?_)
 refine post1 (.inl rfl) rfl rfl ?_
 rw [hr]
 exact ⟨(chg_self hc1).fps (Grows.refl _ _ _) hc2, rfl, _, x2, (Grows.refl _ _ _).trans hgr hc1.size⟩
set_option maxHeartbeats 4000000 in
theorem remove_has (g : Nat) (s : FsM) (p : FsP) (k : Nm) (w : World) (x : FsAt w g s p) (hcalls : s.calls < 1000000000 - 1) :
  Has Tryz.prog 129 #[ptrV g, .string (str k)] w (FsDone w g p (removeM s k)) := by
 refine enter Tryz.func129 rfl rfl (by decide) rfl (e := [(0, ptrV g), (1, .string (str k))]) ⟨rfl, rfl, trivial⟩ ?_
 unfold ptrV
 repeat (first | refine W_seq ?_ | refine W_region ?_ | refine Then_n ?_ | refine WL_nil ?_ | refine WL_some rfl rfl rfl ?_ | refine op_move rfl rfl ?_ | refine op_assign rfl rfl ?_)
 refine op_call rfl rfl rfl (call_has g s p w x (by omega)) ?_
 rintro _ w1 ⟨hc1, rfl, x1⟩
 have hcc : (callM s).calls < 1000000000 := by show s.calls + 1 < _; omega
 cases hfm : failsM s with
 | true =>
  have hr : removeM s k = (callM s, 5) := by unfold removeM; simp [hfm]
  rw [if_pos rfl]
  repeat (first | refine W_seq ?_ | refine W_region ?_ | refine W_ret ?_ | refine Then_n ?_ | refine Then_r ?_ | refine WL_nil ?_ | refine W_condT rfl ?_ | refine WL_some rfl rfl rfl ?_ | refine op_move rfl rfl ?_ | refine op_assign rfl rfl ?_ | refine op_neq rfl rfl rfl (fun hc => ?_) (fun hc => False.elim (by omega)))
  refine post1 (.inl rfl) rfl rfl ?_
  rw [hr]; exact ⟨chg_self hc1, rfl, p, x1, Grows.refl _ _ _⟩
 | false =>
 rw [if_neg (by simp)]
 have hb1 := x1.blk
 cases hl : looks (callM s).dir k with
 | none =>
  have hr : removeM s k = (callM s, 3) := by unfold removeM; simp [hfm, hl]
  repeat (first | refine W_seq ?_ | refine W_region ?_ | refine W_skip ?_ | refine Then_n ?_ | refine WL_nil ?_ | refine W_condF rfl ?_ | refine WL_some rfl rfl rfl ?_ | refine op_move rfl rfl ?_ | refine op_assign rfl rfl ?_ | refine op_nilCheck rfl rfl ?_ | refine op_neq rfl rfl rfl (fun hc => False.elim (by omega)) (fun hc => ?_) | refine op_fieldAddr T rfl rfl rfl rfl rfl rfl rfl rfl ?_ | refine op_loadB T rfl rfl rfl rfl (by assumption) (by exact rfl) ?_)
  refine op_lookup_v T strKey rfl rfl rfl rfl rfl rfl x1.dirM (v := .pointer none) (fun b hb => by rw [at2_none hl] at hb; cases hb) (fun _ => rfl) ?_
  repeat (first | refine W_seq ?_ | refine W_region ?_ | refine W_ret ?_ | refine Then_n ?_ | refine Then_r ?_ | refine WL_nil ?_ | refine W_condT rfl ?_ | refine WL_some rfl rfl rfl ?_ | refine op_assign rfl rfl ?_ | refine op_eql_nilptr T rfl rfl rfl rfl rfl ?_)
  refine post1 (.inl rfl) rfl rfl ?_
  rw [hr]; exact ⟨chg_self hc1, rfl, p, x1, Grows.refl _ _ _⟩
 | some i =>
 obtain ⟨q, f, hq, hfi⟩ := x1.get hl
 repeat (first | refine W_seq ?_ | refine W_region ?_ | refine W_skip ?_ | refine Then_n ?_ | refine WL_nil ?_ | refine W_condF rfl ?_ | refine WL_some rfl rfl rfl ?_ | refine op_move rfl rfl ?_ | refine op_assign rfl rfl ?_ | refine op_nilCheck rfl rfl ?_ | refine op_neq rfl rfl rfl (fun hc => False.elim (by omega)) (fun hc => ?_) | refine op_fieldAddr T rfl rfl rfl rfl rfl rfl rfl rfl ?_ | refine op_loadB T rfl rfl rfl rfl (by assumption) (by exact rfl) ?_)
 refine op_lookup_v T strKey rfl rfl rfl rfl rfl rfl x1.dirM (v := ptrV q.1) (fun b hb => by rw [at2_some hl hq] at hb; injection hb with hb; rw [hb]) (fun hn => by rw [at2_some hl hq] at hn; cases hn) ?_
 unfold ptrV
 have hr : removeM s k = (changeM (callM s) ⟨2, k, [], none⟩, 0) := by unfold removeM; simp [hfm, hl]
 have hok := removeM_ok x.ok k
 rw [hr] at hok
 have hcv : chV p.fb ⟨2, k, [], none⟩ = [.int .i64 ((2 : Nat) : Int), .string (str k), .string (str []), .pointer none] := rfl
 have hcall := change_has g _ _ ⟨2, k, [], none⟩ w1 x1 ⟨fun e => by simp at e, fun e => by simp at e⟩ (fun i hi => by cases hi) hok hcc
 rw [hcv] at hcall
 repeat (first | refine W_seq ?_ | refine W_region ?_ | refine W_skip ?_ | refine Then_n ?_ | refine WL_nil ?_ | refine W_condF rfl ?_ | refine WL_some rfl rfl rfl ?_ | refine op_move rfl rfl ?_ | refine op_eql_nilptr T rfl rfl rfl rfl rfl ?_ | refine op_build T rfl rfl rfl rfl rfl rfl ?_)
 refine op_call rfl rfl rfl hcall ?_
 rintro _ w2 ⟨hc2, rfl, wv', x2, hgr⟩
 repeat (first | refine W_ret ?_ | refine Then_n ?_ | refine WL_nil ?_ | refine WL_some rfl rfl rfl ?_ | refine op_assign rfl rfl ?_)
 refine post1 (.inl rfl) rfl rfl ?_
 rw [hr]
 exact ⟨(chg_self hc1).fps (Grows.refl _ _ _) hc2, rfl, _, x2, (Grows.refl _ _ _).trans hgr hc1.size⟩
theorem FsAt.syncD {w w' : World} {g : Nat} {s : FsM} {p : FsP} (x : FsAt w g s p) (hc : Chg [g] w w') {ml : Nat} (hb : Blk w' g 86 [.int .i64 s.room, .map (some p.md), .map (some ml), .slice none 0 0, .int .i64 s.calls, .int .i64 s.fail])
  (hm : MapAt keyV ptrV w' ml (at2 p.fb s.dir)) (hne : p.md ≠ ml) (hok : FsOk { s with lasts := s.dir, waits := [] }) : FsAt w' g { s with lasts := s.dir, waits := [] } { p with ml := ml, wv := .slice none 0 0 } := by
 have hrow : ∀ k t cs, Blk w k t cs → t ≠ 86 → k ∉ [g] := fun k t cs hk h1 hm => by
  simp at hm; subst hm
  exact hk.ne_ x.blk h1 rfl
 refine ⟨hok, hb, x.dirM.keep hc (by simpa using x.dirM.ne_blk x.blk), hm, Own.nil _ _ _, x.len, fun i q f hq hf => ?_, fun i q f hq hf => ?_, hne, x.apart2, x.apart3⟩
 ·have h1 := x.fblk i q f hq hf
  exact h1.keep hc (hrow _ _ _ h1 (by decide))
 ·refine (x.fown i q f hq hf).keep hc (fun h hh => ?_)
  obtain ⟨cur, hr⟩ := (x.fown i q f hq hf).row hh
  exact hrow _ _ _ hr (by decide)
set_option maxHeartbeats 2000000 in
theorem syncDir_has (g : Nat) (s : FsM) (p : FsP) (w : World) (x : FsAt w g s p) (hcalls : s.calls < 1000000000 - 1) :
  Has Tryz.prog 41 #[ptrV g] w (FsDone w g p (syncDirM s)) := by
 refine enter Tryz.func41 rfl rfl (by decide) rfl (e := [(0, ptrV g)]) ⟨rfl, trivial⟩ ?_
 unfold ptrV
 repeat (first | refine W_seq ?_ | refine W_region ?_ | refine Then_n ?_ | refine WL_nil ?_ | refine WL_some rfl rfl rfl ?_ | refine op_move rfl rfl ?_ | refine op_assign rfl rfl ?_)
 refine op_call rfl rfl rfl (call_has g s p w x (by omega)) ?_
 rintro _ w1 ⟨hc1, rfl, x1⟩
 cases hfm : failsM s with
 | true =>
  have hr : syncDirM s = (callM s, 5) := by unfold syncDirM; simp [hfm]
  rw [if_pos rfl]
  repeat (first | refine W_seq ?_ | refine W_region ?_ | refine W_ret ?_ | refine Then_n ?_ | refine Then_r ?_ | refine WL_nil ?_ | refine W_condT rfl ?_ | refine WL_some rfl rfl rfl ?_ | refine op_move rfl rfl ?_ | refine op_assign rfl rfl ?_ | refine op_neq rfl rfl rfl (fun hc => ?_) (fun hc => False.elim (by omega)))
  refine post1 (.inl rfl) rfl rfl ?_
  rw [hr]; exact ⟨chg_self hc1, rfl, p, x1, Grows.refl _ _ _⟩
 | false =>
 rw [if_neg (by simp)]
 have hb1 := x1.blk
 have hr : syncDirM s = ({ callM s with lasts := (callM s).dir, waits := [] }, 0) := by unfold syncDirM; simp [hfm]
 have hok := syncDirM_ok x.ok
 rw [hr] at hok
 repeat (first | refine W_seq ?_ | refine W_region ?_ | refine W_skip ?_ | refine Then_n ?_ | refine WL_nil ?_ | refine W_condF rfl ?_ | refine WL_some rfl rfl rfl ?_ | refine op_move rfl rfl ?_ | refine op_assign rfl rfl ?_ | refine op_nilCheck rfl rfl ?_ | refine op_neq rfl rfl rfl (fun hc => False.elim (by omega)) (fun hc => ?_) | refine op_fieldAddr T rfl rfl rfl rfl rfl rfl rfl rfl ?_ | refine op_loadB T rfl rfl rfl rfl (by assumption) (by exact rfl) ?_)
 refine op_call rfl rfl rfl (cloneD_has x1.dirM) ?_
 rintro _ w2 ⟨ml, rfl, hml, hc2, hm2⟩
 have x2 := x1.keep0 hc2
 have hb2 := x2.blk
 repeat (first | refine WL_some rfl rfl rfl ?_ | refine WL_none rfl rfl ?_ | refine op_nilCheck rfl rfl ?_ | refine op_fieldAddr T rfl rfl rfl rfl rfl rfl rfl rfl ?_)
 refine op_store T rfl rfl rfl rfl rfl rfl hb2 (Nat.le_of_ble_eq_true rfl) (fun w3 hc3 hb3 _ => ?_)
 have hb3 : Blk w3 g 86 [.int .i64 (callM s).room, .map (some p.md), .map (some ml), p.wv, .int .i64 (callM s).calls, .int .i64 (callM s).fail] := hb3
 repeat (first | refine WL_some rfl rfl rfl ?_ | refine WL_none rfl rfl ?_ | refine op_nilCheck rfl rfl ?_ | refine op_fieldAddr T rfl rfl rfl rfl rfl rfl rfl rfl ?_)
 refine op_store T rfl rfl rfl rfl rfl rfl hb3 (Nat.le_of_ble_eq_true rfl) (fun w4 hc4 hb4 _ => ?_)
 have hb4 : Blk w4 g 86 [.int .i64 (callM s).room, .map (some p.md), .map (some ml), .slice none 0 0, .int .i64 (callM s).calls, .int .i64 (callM s).fail] := hb4
 repeat (first | refine W_seq ?_ | refine W_region ?_ | refine W_ret ?_ | refine Then_n ?_ | refine WL_nil ?_ | refine WL_some rfl rfl rfl ?_ | refine op_assign rfl rfl ?_)
 have hc24 : Chg [g] w2 w4 := hc3.trans hc4 (fun _ h _ => h)
 have hmd := x1.dirM.lt
 have x4 := x2.syncD hc24 hb4 (hm2.keep hc24 (by simpa using hm2.ne_blk hb2)) (by omega) hok
 refine post1 (.inl rfl) rfl rfl ?_
 rw [hr]
 refine ⟨chg_self ((hc1.trans' hc2).trans hc24 (fun _ h _ => h)), rfl, _, x4, fun k hk => ?_⟩
 rcases FsP.mem_fp.1 hk with h | h | h | h | h
 ·exact .inl (FsP.mem_fp.2 (.inl h))
 ·exact .inl (FsP.mem_fp.2 (.inr (.inl h)))
 ·have h : k = ml := h
  exact .inr (by have := hc1.size; omega)
 ·cases h
 ·exact .inl (FsP.mem_fp.2 (.inr (.inr (.inr (.inr h)))))
end Go.Proofs.YtiadjkjlifnopaaGreatDoor.Tryz
/-! Files: Sync, Append, Read. -/
namespace Go.Vc
open Go
theorem at2_fst {fb fb' : List (Nat × Value)} (h : ∀ i : Nat, (fb'[i]?).map (·.1) = (fb[i]?).map (·.1)) (d : Dir) (k : Nm) : at2 fb' d k = at2 fb d k := by
 unfold at2; simp only [h]
theorem chV_fst {fb fb' : List (Nat × Value)} (h : ∀ i : Nat, (fb'[i]?).map (·.1) = (fb[i]?).map (·.1)) (c : ChM) : chV fb' c = chV fb c := by
 unfold chV idV; simp only [h]
theorem set_fst {fb : List (Nat × Value)} {i : Nat} {q : Nat × Value} (hq : fb[i]? = some q) (v : Value) (j : Nat) : ((fb.set i (q.1, v))[j]?).map (·.1) = (fb[j]?).map (·.1) := by
 rw [List.getElem?_set]
 by_cases h : i = j
 ·subst h
  obtain ⟨h1, h2⟩ := List.getElem?_eq_some_iff.1 hq
  rw [if_pos rfl, if_pos h1, hq]; rfl
 ·rw [if_neg h]
end Go.Vc
namespace Go.Proofs.YtiadjkjlifnopaaGreatDoor.Tryz
open Go Go.Vc
theorem FsAt.setFile {w w' : World} {g : Nat} {s : FsM} {p : FsP} {S : List Nat} (x : FsAt w g s p) {i : Nat} {q : Nat × Value} {f : FileM} (hq : p.fb[i]? = some q) (hf : s.files[i]? = some f) (gg : FileM → FileM) {v' : Value} (hc : Chg S w w')
  (hS : ∀ k ∈ S, k < w.heap.size → k = q.1 ∨ q.2.ownBlock = some k) (hb : Blk w' q.1 106 [v', .int .i64 (gg f).synced]) (ho : Own w' 5 1 v' (gg f).b.length (u8s (gg f).b))
  (hv : v'.ownBlock = q.2.ownBlock ∨ ∃ h, v'.ownBlock = some h ∧ w.heap.size ≤ h) (hok : FsOk { s with files := s.files.modify i gg }) :
  FsAt w' g { s with files := s.files.modify i gg } { p with fb := p.fb.set i (q.1, v') } ∧ Grows w g p { p with fb := p.fb.set i (q.1, v') } := by
 have hqb := x.fblk i q f hq hf
 have hc := hc.mono (S' := q.1 :: q.2.ownBlock.toList) (fun k hk hlt => by
  rcases hS k hk hlt with h | h
  ·simp [h]
  ·simp [h])
 have hil := (List.getElem?_eq_some_iff.1 hq).1
 have hnot : ∀ k, k < w.heap.size → k ≠ q.1 → q.2.ownBlock ≠ some k → k ∉ q.1 :: q.2.ownBlock.toList := fun k _ h1 h2 hm => by
  rcases List.mem_cons.1 hm with h | h
  ·exact h1 h
  ·exact h2 (by simpa using h)
 have hrow : ∀ k t cs, Blk w k t cs → t ≠ 106 → t ≠ 5 → k ∉ q.1 :: q.2.ownBlock.toList := fun k t cs hk h1 h2 => hnot k hk.lt (fun e => by subst e; exact hk.ne_ hqb h1 rfl) (fun e => by
  obtain ⟨cur, hr⟩ := (x.fown i q f hq hf).row e
  exact hk.ne_ hr h2 rfl)
 have hmap : ∀ (bv : Nat → Value) r ff, MapAt keyV bv w r ff → r ∉ q.1 :: q.2.ownBlock.toList := fun bv r ff hm => hnot r hm.lt (fun e => hm.ne_blk hqb e) (fun e => by
  obtain ⟨cur, hr⟩ := (x.fown i q f hq hf).row e
  exact hm.ne_blk hr rfl)
 have hfst := set_fst hq v'
 have hget : ∀ (j : Nat) q', (p.fb.set i (q.1, v'))[j]? = some q' → (j = i ∧ q' = (q.1, v')) ∨ (j ≠ i ∧ p.fb[j]? = some q') := fun j q' h => by
  rw [List.getElem?_set] at h
  by_cases e : i = j
  ·subst e; rw [if_pos rfl, if_pos hil] at h; injection h with h; exact .inl ⟨rfl, h.symm⟩
  ·rw [if_neg e] at h; exact .inr ⟨fun e' => e e'.symm, h⟩
 have hfile : ∀ (j : Nat) f', (s.files.modify i gg)[j]? = some f' → (j = i ∧ f' = gg f) ∨ (j ≠ i ∧ s.files[j]? = some f') := fun j f' h => by
  rw [List.getElem?_modify] at h
  by_cases e : i = j
  ·subst e; simp [hf] at h; exact .inl ⟨rfl, h.symm⟩
  ·simp [e] at h; exact .inr ⟨fun e' => e e'.symm, h⟩
 refine ⟨⟨hok, x.blk.keep hc (hrow _ _ _ x.blk (by decide) (by decide)), (x.dirM.keep hc (hmap _ _ _ x.dirM)).congr (fun k => (at2_fst hfst _ k).symm), (x.lastsM.keep hc (hmap _ _ _ x.lastsM)).congr (fun k => (at2_fst hfst _ k).symm), ?_, by simp [x.len], fun j q' f' h1 h2 => ?_, fun j q' f' h1 h2 => ?_, x.apart1, ?_, fun j j' q1 q2 h h1 h2 h3 h4 => ?_⟩, fun k hk => ?_⟩
 ·show Own w' _ 4 p.wv s.waits.length (s.waits.flatMap (chV (p.fb.set i (q.1, v'))))
  rw [flatMap_congr' (g := chV p.fb) (fun c _ => chV_fst hfst c)]
  refine x.waitsM.keep hc (fun h hh => ?_)
  obtain ⟨cur, hr⟩ := x.waitsM.row hh
  exact hrow _ _ _ hr (by decide) (by decide)
 ·rcases hget j q' h1 with ⟨rfl, rfl⟩ | ⟨hj, h1⟩
  ·rcases hfile j f' h2 with ⟨_, rfl⟩ | ⟨h, _⟩
   ·exact hb
   ·exact absurd rfl h
  ·rcases hfile j f' h2 with ⟨h, _⟩ | ⟨_, h2⟩
   ·exact absurd h hj
   ·have h5 := x.fblk j q' f' h1 h2
    refine h5.keep hc (hnot _ h5.lt (fun e => hj ?_) (fun e => ?_))
    ·have hjl := (List.getElem?_eq_some_iff.1 h1).1
     refine (List.getElem?_inj (l := p.fb.map (·.1)) (by simpa using hjl) x.apart2).1 ?_
     rw [List.getElem?_map, List.getElem?_map, h1, hq]; simp [e]
    ·obtain ⟨cur, hr⟩ := (x.fown i q f hq hf).row e
     exact h5.ne_ hr (by decide) rfl
 ·rcases hget j q' h1 with ⟨rfl, rfl⟩ | ⟨hj, h1⟩
  ·rcases hfile j f' h2 with ⟨_, rfl⟩ | ⟨h, _⟩
   ·exact ho
   ·exact absurd rfl h
  ·rcases hfile j f' h2 with ⟨h, _⟩ | ⟨_, h2⟩
   ·exact absurd h hj
   ·have h5 := x.fown j q' f' h1 h2
    refine h5.keep hc (fun h hh => hnot _ (h5.lt hh) (fun e => ?_) (fun e => hj (x.apart3 j i q' q h h1 hq hh e)))
    obtain ⟨cur, hr⟩ := h5.row hh
    rw [e] at hr
    exact hqb.ne_ hr (by decide) rfl
 ·have : (p.fb.set i (q.1, v')).map (·.1) = p.fb.map (·.1) := by
   apply List.ext_getElem?
   intro j
   rw [List.getElem?_map, List.getElem?_map]; exact hfst j
  show (List.map _ _).Nodup
  rw [this]; exact x.apart2
 ·rcases hget j q1 h1 with ⟨rfl, rfl⟩ | ⟨hj, g1⟩
  ·rcases hget j' q2 h2 with ⟨rfl, rfl⟩ | ⟨hj', g2⟩
   ·rfl
   ·have h3 : v'.ownBlock = some h := h3
    rcases hv with hv | ⟨h', hv, hge⟩
    ·exact x.apart3 j j' q q2 h hq g2 (hv.symm.trans h3) h4
    ·obtain ⟨f2, hf2⟩ : ∃ f2, s.files[j']? = some f2 := ⟨_, List.getElem?_eq_getElem (by rw [← x.len]; exact (List.getElem?_eq_some_iff.1 g2).1)⟩
     have := (x.fown j' q2 f2 g2 hf2).lt h4
     rw [h3] at hv; injection hv with hv; omega
  ·rcases hget j' q2 h2 with ⟨rfl, rfl⟩ | ⟨hj', g2⟩
   ·have h4 : v'.ownBlock = some h := h4
    rcases hv with hv | ⟨h', hv, hge⟩
    ·exact x.apart3 j j' q1 q h g1 hq h3 (hv.symm.trans h4)
    ·obtain ⟨f2, hf2⟩ : ∃ f2, s.files[j]? = some f2 := ⟨_, List.getElem?_eq_getElem (by rw [← x.len]; exact (List.getElem?_eq_some_iff.1 g1).1)⟩
     have := (x.fown j q1 f2 g1 hf2).lt h3
     rw [h4] at hv; injection hv with hv; omega
   ·exact x.apart3 j j' q1 q2 h g1 g2 h3 h4
 ·rcases FsP.mem_fp.1 hk with h | h | h | h | ⟨q', hq', h⟩
  ·exact .inl (FsP.mem_fp.2 (.inl h))
  ·exact .inl (FsP.mem_fp.2 (.inr (.inl h)))
  ·exact .inl (FsP.mem_fp.2 (.inr (.inr (.inl h))))
  ·exact .inl (FsP.mem_fp.2 (.inr (.inr (.inr (.inl h)))))
  ·rcases List.mem_or_eq_of_mem_set hq' with hq' | rfl
   ·exact .inl (FsP.mem_fp.2 (.inr (.inr (.inr (.inr ⟨q', hq', h⟩)))))
   ·have hqm := List.mem_of_getElem? hq
    rcases h with h | h
    ·exact .inl (FsP.mem_fp.2 (.inr (.inr (.inr (.inr ⟨q, hqm, .inl h⟩)))))
    ·have h : v'.ownBlock = some k := h
     rcases hv with hv | ⟨h', hv, hge⟩
     ·exact .inl (FsP.mem_fp.2 (.inr (.inr (.inr (.inr ⟨q, hqm, .inr (hv.symm.trans h)⟩)))))
     ·rw [h] at hv; injection hv with hv; exact .inr (by omega)
theorem FsAt.mem_file {w : World} {g : Nat} {s : FsM} {p : FsP} (x : FsAt w g s p) {i : Nat} {q : Nat × Value} (hq : p.fb[i]? = some q) : q.1 ∈ p.fp g ∧ ∀ h, q.2.ownBlock = some h → h ∈ p.fp g :=
 ⟨FsP.mem_fp.2 (.inr (.inr (.inr (.inr ⟨q, List.mem_of_getElem? hq, .inl rfl⟩)))), fun h hh => FsP.mem_fp.2 (.inr (.inr (.inr (.inr ⟨q, List.mem_of_getElem? hq, .inr hh⟩))))⟩
set_option maxHeartbeats 2000000 in
theorem sync_has (g : Nat) (s : FsM) (p : FsP) (k : Nm) (w : World) (x : FsAt w g s p) (hcalls : s.calls < 1000000000 - 1) :
  Has Tryz.prog 40 #[ptrV g, .string (str k)] w (FsDone w g p (syncM s k)) := by
 refine enter Tryz.func40 rfl rfl (by decide) rfl (e := [(0, ptrV g), (1, .string (str k))]) ⟨rfl, rfl, trivial⟩ ?_
 unfold ptrV
 repeat (first | refine W_seq ?_ | refine W_region ?_ | refine Then_n ?_ | refine WL_nil ?_ | refine WL_some rfl rfl rfl ?_ | refine op_move rfl rfl ?_ | refine op_assign rfl rfl ?_)
 refine op_call rfl rfl rfl (call_has g s p w x (by omega)) ?_
 rintro _ w1 ⟨hc1, rfl, x1⟩
 cases hfm : failsM s with
 | true =>
  have hr : syncM s k = (callM s, 5) := by unfold syncM; simp [hfm]
  rw [if_pos rfl]
  repeat (first | refine W_seq ?_ | refine W_region ?_ | refine W_ret ?_ | refine Then_n ?_ | refine Then_r ?_ | refine WL_nil ?_ | refine W_condT rfl ?_ | refine WL_some rfl rfl rfl ?_ | refine op_move rfl rfl ?_ | refine op_assign rfl rfl ?_ | refine op_neq rfl rfl rfl (fun hc => ?_) (fun hc => False.elim (by omega)))
  refine post1 (.inl rfl) rfl rfl ?_
  rw [hr]; exact ⟨chg_self hc1, rfl, p, x1, Grows.refl _ _ _⟩
 | false =>
 rw [if_neg (by simp)]
 have hb1 := x1.blk
 cases hl : looks (callM s).dir k with
 | none =>
  have hr : syncM s k = (callM s, 3) := by unfold syncM; simp [hfm, hl]
  repeat (first | refine W_seq ?_ | refine W_region ?_ | refine W_skip ?_ | refine Then_n ?_ | refine WL_nil ?_ | refine W_condF rfl ?_ | refine WL_some rfl rfl rfl ?_ | refine op_move rfl rfl ?_ | refine op_assign rfl rfl ?_ | refine op_nilCheck rfl rfl ?_ | refine op_neq rfl rfl rfl (fun hc => False.elim (by omega)) (fun hc => ?_) | refine op_fieldAddr T rfl rfl rfl rfl rfl rfl rfl rfl ?_ | refine op_loadB T rfl rfl rfl rfl (by assumption) (by exact rfl) ?_)
  refine op_lookup_v T strKey rfl rfl rfl rfl rfl rfl x1.dirM (v := .pointer none) (fun b hb => by rw [at2_none hl] at hb; cases hb) (fun _ => rfl) ?_
  repeat (first | refine W_seq ?_ | refine W_region ?_ | refine W_ret ?_ | refine Then_n ?_ | refine Then_r ?_ | refine WL_nil ?_ | refine W_condT rfl ?_ | refine WL_some rfl rfl rfl ?_ | refine op_move rfl rfl ?_ | refine op_assign rfl rfl ?_ | refine op_eql_nilptr T rfl rfl rfl rfl rfl ?_)
  refine post1 (.inl rfl) rfl rfl ?_
  rw [hr]; exact ⟨chg_self hc1, rfl, p, x1, Grows.refl _ _ _⟩
 | some i =>
 obtain ⟨q, f, hq, hfi⟩ := x1.get hl
 have hr : syncM s k = ({ callM s with files := (callM s).files.modify i fun f => { f with synced := f.b.length } }, 0) := by unfold syncM; simp [hfm, hl]
 have hok := syncM_ok x.ok k
 rw [hr] at hok
 have hbf := x1.fblk i q f hq hfi
 have hof := x1.fown i q f hq hfi
 obtain ⟨A, c, hv, hv1, hv2⟩ := hof.form
 rw [hv] at hbf
 repeat (first | refine W_seq ?_ | refine W_region ?_ | refine W_skip ?_ | refine Then_n ?_ | refine WL_nil ?_ | refine W_condF rfl ?_ | refine WL_some rfl rfl rfl ?_ | refine op_move rfl rfl ?_ | refine op_assign rfl rfl ?_ | refine op_nilCheck rfl rfl ?_ | refine op_neq rfl rfl rfl (fun hc => False.elim (by omega)) (fun hc => ?_) | refine op_fieldAddr T rfl rfl rfl rfl rfl rfl rfl rfl ?_ | refine op_loadB T rfl rfl rfl rfl (by assumption) (by exact rfl) ?_)
 refine op_lookup_v T strKey rfl rfl rfl rfl rfl rfl x1.dirM (v := ptrV q.1) (fun b hb => by rw [at2_some hl hq] at hb; injection hb with hb; rw [hb]) (fun hn => by rw [at2_some hl hq] at hn; cases hn) ?_
 unfold ptrV
 repeat (first | refine W_seq ?_ | refine W_region ?_ | refine W_skip ?_ | refine Then_n ?_ | refine WL_nil ?_ | refine W_condF rfl ?_ | refine WL_some rfl rfl rfl ?_ | refine WL_none rfl rfl ?_ | refine op_move rfl rfl ?_ | refine op_assign rfl rfl ?_ | refine op_len_slice T rfl rfl rfl rfl ?_ | refine op_nilCheck rfl rfl ?_ | refine op_fieldAddr T rfl rfl rfl rfl rfl rfl rfl rfl ?_ | refine op_eql_nilptr T rfl rfl rfl rfl rfl ?_ | refine op_loadB T rfl rfl rfl rfl (by assumption) (by exact rfl) ?_)
 refine op_store T rfl rfl rfl rfl rfl rfl hbf (Nat.le_of_ble_eq_true rfl) (fun w2 hc2 hb2 _ => ?_)
 repeat (first | refine W_seq ?_ | refine W_region ?_ | refine W_ret ?_ | refine Then_n ?_ | refine WL_nil ?_ | refine WL_some rfl rfl rfl ?_ | refine op_assign rfl rfl ?_)
 have hb2 : Blk w2 q.1 106 [q.2, .int .i64 (f.b.length : Nat)] := by rw [hv]; exact hb2
 obtain ⟨x2, hg2⟩ := x1.setFile hq hfi (fun f => { f with synced := f.b.length }) (v' := q.2) hc2 (fun j hj _ => by simp at hj; exact .inl hj) hb2 (hof.keep hc2 (fun h hh hm => by
  simp at hm
  obtain ⟨cur, hr⟩ := hof.row hh
  rw [hm] at hr
  exact hbf.ne_ hr (by decide) rfl)) (.inl rfl) hok
 refine post1 (.inl rfl) rfl rfl ?_
 rw [hr]
 exact ⟨(chg_self hc1).trans hc2 (fun j hj _ => by simp at hj; subst hj; exact (x1.mem_file hq).1), rfl, _, x2, (Grows.refl _ _ _).trans hg2 hc1.size⟩
set_option maxHeartbeats 4000000 in
theorem append_has (g : Nat) (s : FsM) (p : FsP) (k : Nm) (A : Option Addr) (n c : Nat) (b : List UInt8) (w : World) (x : FsAt w g s p) (hb : Firm (p.fp g) w (fun w => SliceOf Ru8 w (.slice A n c) b)) (hbl : b.length ≤ 1000000000) (hcalls : s.calls < 1000000000 - 1) :
  Has Tryz.prog 29 #[ptrV g, .string (str k), .slice A n c] w (FsDone w g p (appendM s k b)) := by
 obtain ⟨rfl, hb1, hb2⟩ := hb.now.len
 refine enter Tryz.func29 rfl rfl (by decide) rfl (e := [(0, ptrV g), (1, .string (str k)), (2, .slice A b.length c)]) ⟨rfl, rfl, rfl, trivial⟩ ?_
 unfold ptrV
 repeat (first | refine W_seq ?_ | refine W_region ?_ | refine Then_n ?_ | refine WL_nil ?_ | refine WL_some rfl rfl rfl ?_ | refine op_move rfl rfl ?_ | refine op_assign rfl rfl ?_)
 refine op_call rfl rfl rfl (call_has g s p w x (by omega)) ?_
 rintro _ w1 ⟨hc1, rfl, x1⟩
 have hs1 := hb w1 (chg_self hc1)
 cases hfm : failsM s with
 | true =>
  have hr : appendM s k b = (callM s, 5) := by unfold appendM; simp [hfm]
  rw [if_pos rfl]
  repeat (first | refine W_seq ?_ | refine W_region ?_ | refine W_ret ?_ | refine Then_n ?_ | refine Then_r ?_ | refine WL_nil ?_ | refine W_condT rfl ?_ | refine WL_some rfl rfl rfl ?_ | refine op_move rfl rfl ?_ | refine op_assign rfl rfl ?_ | refine op_neq rfl rfl rfl (fun hc => ?_) (fun hc => False.elim (by omega)))
  refine post1 (.inl rfl) rfl rfl ?_
  rw [hr]; exact ⟨chg_self hc1, rfl, p, x1, Grows.refl _ _ _⟩
 | false =>
 rw [if_neg (by simp)]
 have hbk1 := x1.blk
 cases hl : looks (callM s).dir k with
 | none =>
  have hr : appendM s k b = (callM s, 3) := by unfold appendM; simp [hfm, hl]
  repeat (first | refine W_seq ?_ | refine W_region ?_ | refine W_skip ?_ | refine Then_n ?_ | refine WL_nil ?_ | refine W_condF rfl ?_ | refine WL_some rfl rfl rfl ?_ | refine op_move rfl rfl ?_ | refine op_assign rfl rfl ?_ | refine op_nilCheck rfl rfl ?_ | refine op_neq rfl rfl rfl (fun hc => False.elim (by omega)) (fun hc => ?_) | refine op_fieldAddr T rfl rfl rfl rfl rfl rfl rfl rfl ?_ | refine op_loadB T rfl rfl rfl rfl (by assumption) (by exact rfl) ?_)
  refine op_lookup_v T strKey rfl rfl rfl rfl rfl rfl x1.dirM (v := .pointer none) (fun b hb => by rw [at2_none hl] at hb; cases hb) (fun _ => rfl) ?_
  repeat (first | refine W_seq ?_ | refine W_block ?_ | refine W_region ?_ | refine W_ret ?_ | refine Then_n ?_ | refine Then_r ?_ | refine InBlock_r ?_ | refine WL_nil ?_ | refine W_condT rfl ?_ | refine WL_some rfl rfl rfl ?_ | refine op_move rfl rfl ?_ | refine op_assign rfl rfl ?_ | refine op_eql_nilptr T rfl rfl rfl rfl rfl ?_)
  refine post1 (.inl rfl) rfl rfl ?_
  rw [hr]; exact ⟨chg_self hc1, rfl, p, x1, Grows.refl _ _ _⟩
 | some i =>
 obtain ⟨q, f, hq, hfi⟩ := x1.get hl
 have hul := usedM_le x1.ok
 have hr0 := x1.ok.room0
 have hr1 := x1.ok.room1
 repeat (first | refine W_seq ?_ | refine W_region ?_ | refine W_skip ?_ | refine Then_n ?_ | refine WL_nil ?_ | refine W_condF rfl ?_ | refine WL_some rfl rfl rfl ?_ | refine op_move rfl rfl ?_ | refine op_assign rfl rfl ?_ | refine op_nilCheck rfl rfl ?_ | refine op_neq rfl rfl rfl (fun hc => False.elim (by omega)) (fun hc => ?_) | refine op_fieldAddr T rfl rfl rfl rfl rfl rfl rfl rfl ?_ | refine op_loadB T rfl rfl rfl rfl (by assumption) (by exact rfl) ?_)
 refine op_lookup_v T strKey rfl rfl rfl rfl rfl rfl x1.dirM (v := ptrV q.1) (fun b hb => by rw [at2_some hl hq] at hb; injection hb with hb; rw [hb]) (fun hn => by rw [at2_some hl hq] at hn; cases hn) ?_
 unfold ptrV
 repeat (first | refine W_seq ?_ | refine W_block ?_ | refine W_region ?_ | refine Then_n ?_ | refine WL_nil ?_ | refine W_condF rfl ?_ | refine WL_some rfl rfl rfl ?_ | refine op_move rfl rfl ?_ | refine op_assign rfl rfl ?_ | refine op_eql_nilptr T rfl rfl rfl rfl rfl ?_)
 refine W_walk 10 [] fol (by kernel_rfl) (by kernel_rfl) ?_
 refine Walk.plain rfl (by intro val w_ hR hp; exact op_move rfl rfl ⟨Chg.refl _ _, rfl⟩) ?_; dsimp only [na1, na2]
 refine Walk.plain rfl (by intro val w_ hR hp; exact op_len_slice T rfl rfl rfl rfl ⟨Chg.refl _ _, rfl⟩) ?_; dsimp only [na1, na2]
 refine Walk.plain rfl (by intro val w_ hR hp; exact op_move rfl rfl ⟨Chg.refl _ _, rfl⟩) ?_; dsimp only [na1, na2]
 refine Walk.plain rfl (by intro val w_ hR hp; exact op_nilCheck rfl rfl ⟨Chg.refl _ _, rfl⟩) ?_; dsimp only [na1, na2]
 refine Walk.plain rfl (by intro val w_ hR hp; exact op_fieldAddr T rfl rfl rfl rfl rfl rfl rfl rfl ⟨Chg.refl _ _, rfl⟩) ?_; dsimp only [na1, na2]
 refine Walk.plain rfl (by intro val w_ hR hp; exact op_load T rfl rfl rfl rfl ((Blk.keep0 hbk1 hR).cell rfl) ⟨Chg.refl _ _, rfl⟩) ?_; dsimp only [na1, na2]
 refine Walk.plain rfl (by intro val w_ hR hp; exact op_move rfl rfl ⟨Chg.refl _ _, rfl⟩) ?_; dsimp only [na1, na2]
 refine Walk.plain (v := .int .i64 (usedM (callM s))) rfl (by intro val w_ hR hp; exact op_call rfl rfl rfl (used_has g _ p w_ (x1.keep0 hR)) (fun v w' ⟨hc, hv⟩ => ⟨hc, hv⟩)) ?_; dsimp only [na1, na2]
 refine Walk.plain rfl (by intro val w_ hR hp; exact op_subt rfl rfl rfl (wrap_i64_in (by omega) (by omega)) ⟨Chg.refl _ _, rfl⟩) ?_; dsimp only [na1, na2]
 by_cases hfull : (callM s).room - usedM (callM s) < b.length
 case pos =>
  refine Walk.plain rfl (by intro val w_ hR hp; exact op_gtr rfl rfl rfl (fun hc => ⟨Chg.refl _ _, rfl⟩) (fun hc => False.elim (by omega))) ?_; dsimp only [na1, na2]
  refine Walk.fin ?_
  intro val w2 hc2 _
  have x2 := x1.keep0 hc2
  have hr : appendM s k b = (callM s, 4) := by unfold appendM; simp [hfm, hl, hfull]
  refine WL_sub (e' := [(6, .int .i64 0), (33, .bool true)]) ⟨rfl, rfl, trivial⟩ ?_
  repeat (first | refine W_seq ?_ | refine W_region ?_ | refine W_ret ?_ | refine Then_n ?_ | refine Then_r ?_ | refine InBlock_r ?_ | refine WL_nil ?_ | refine W_condT rfl ?_ | refine WL_some rfl rfl rfl ?_ | refine op_assign rfl rfl ?_)
  refine post1 (.inl rfl) rfl rfl ?_
  rw [hr]; exact ⟨(chg_self hc1).trans' hc2, rfl, p, x2, Grows.refl _ _ _⟩
 case neg =>
  refine Walk.plain rfl (by intro val w_ hR hp; exact op_gtr rfl rfl rfl (fun hc => False.elim (by omega)) (fun hc => ⟨Chg.refl _ _, rfl⟩)) ?_; dsimp only [na1, na2]
  refine Walk.fin ?_
  intro val w2 hc2 _
  have x2 := x1.keep0 hc2
  have hr : appendM s k b = ({ callM s with files := (callM s).files.modify i fun f => { f with b := f.b ++ b } }, 0) := by unfold appendM; simp [hfm, hl, hfull]
  have hok := appendM_ok x.ok k b
  rw [hr] at hok
  refine WL_sub (e' := [(0, .pointer (some ⟨g, 0, none⟩)), (2, .slice A b.length c), (6, .int .i64 0), (8, .pointer (some ⟨q.1, 0, none⟩)), (33, .bool false)]) ⟨rfl, rfl, rfl, rfl, rfl, trivial⟩ ?_
  have hbf := x2.fblk i q f hq hfi
  have hof := x2.fown i q f hq hfi
  have hs2 := SliceOf.kept Ru8.kept _ _ _ _ hc2 hs1
  have hfl := (x1.ok.files f (List.mem_of_getElem? hfi)).2
  obtain ⟨A2, c2, hv, hv1, hv2⟩ := hof.form
  repeat (first | refine W_seq ?_ | refine W_region ?_ | refine W_skip ?_ | refine Then_n ?_ | refine InBlock_n ?_ | refine WL_nil ?_ | refine W_condF rfl ?_ | refine WL_some rfl rfl rfl ?_ | refine op_move rfl rfl ?_ | refine op_assign rfl rfl ?_ | refine op_nilCheck rfl rfl ?_ | refine op_fieldAddr T rfl rfl rfl rfl rfl rfl rfl rfl ?_ | refine op_loadB T rfl rfl rfl rfl (by assumption) (by exact rfl) ?_)
  refine op_append T (n := f.b.length) (xs := u8s f.b) (m := b.length) (news := u8s b) rfl rfl rfl rfl rfl rfl rfl rfl hof (by rw [u8s_length]; exact (Nat.mul_one _).symm) ?_ (by unfold maxLen; omega) (by show (f.b.length + b.length) * 1 ≤ _; omega) ?_
  ·intro j u hj
   obtain ⟨cc, hcc, rfl⟩ := u8s_inv hj
   obtain ⟨ad, u', he, hu, rfl⟩ := hs2.get hcc
   exact ⟨⟨ad, he, hu⟩, rfl⟩
  intro v3 w3 ho3 hc3 hb3 _
  have hq1 : q.1 ∉ q.2.ownBlock.toList := fun hm => by
   obtain ⟨cur, hr⟩ := hof.row (show q.2.ownBlock = some q.1 by simpa using hm)
   exact hbf.ne_ hr (by decide) rfl
  have hbf3 := hbf.keep hc3 hq1
  obtain ⟨A3, c3, rfl, _, _⟩ := ho3.form
  repeat (first | refine WL_some rfl rfl rfl ?_ | refine WL_none rfl rfl ?_ | refine op_nilCheck rfl rfl ?_ | refine op_fieldAddr T rfl rfl rfl rfl rfl rfl rfl rfl ?_)
  refine op_store T rfl rfl rfl rfl rfl rfl hbf3 (Nat.le_of_ble_eq_true rfl) (fun w4 hc4 hb4 _ => ?_)
  repeat (first | refine W_seq ?_ | refine W_region ?_ | refine W_ret ?_ | refine Then_n ?_ | refine WL_nil ?_ | refine WL_some rfl rfl rfl ?_ | refine op_assign rfl rfl ?_)
  have hc24 : Chg (q.1 :: q.2.ownBlock.toList) w2 w4 := (hc3.mono (fun j hj _ => by simp at hj; simp [hj])).trans hc4 (fun j hj _ => by simp at hj; simp [hj])
  obtain ⟨x4, hg4⟩ := x2.setFile hq hfi (fun f => { f with b := f.b ++ b }) hc24 (fun j hj _ => by simpa using hj) hb4 (by
   show Own w4 _ 1 _ (f.b ++ b).length (u8s (f.b ++ b))
   rw [List.length_append, u8s_append]
   refine ho3.keep hc4 (fun h hh hm => ?_)
   simp at hm
   obtain ⟨cur, hr⟩ := ho3.row hh
   rw [hm] at hr
   exact hbf3.ne_ hr (by decide) rfl) hb3 hok
  refine post1 (.inl rfl) rfl rfl ?_
  rw [hr]
  obtain ⟨hm1, hm2⟩ := x2.mem_file hq
  have hc02 := (chg_self (p := p) hc1).trans' hc2
  exact ⟨hc02.trans hc24 (fun j hj _ => by
   rcases List.mem_cons.1 hj with h | h
   ·subst h; exact hm1
   ·exact hm2 j (by simpa using h)), rfl, _, x4, (Grows.refl _ _ _).trans hg4 hc02.size⟩
def readV (o : Option (List UInt8)) (w0 : World) (v : Value) (w' : World) : Prop := match o with
 | none => v = .tuple #[.slice none 0 0, .int .i64 3]
 | some b => ∃ u, v = .tuple #[u, .int .i64 0] ∧ Own w' 5 1 u b.length (u8s b) ∧ ∀ h, u.ownBlock = some h → w0.heap.size ≤ h
theorem read_has (g : Nat) (s : FsM) (p : FsP) (k : Nm) (w : World) (x : FsAt w g s p) :
  Has Tryz.prog 23 #[ptrV g, .string (str k)] w (fun v w' => Chg [] w w' ∧ readV (readM s k) w v w') := by
 refine enter Tryz.func23 rfl rfl (by decide) rfl (e := [(0, ptrV g), (1, .string (str k))]) ⟨rfl, rfl, trivial⟩ ?_
 unfold ptrV
 have hb := x.blk
 cases hl : looks s.dir k with
 | none =>
  have hr : readM s k = none := by unfold readM; rw [hl]; rfl
  repeat (first | refine W_seq ?_ | refine W_region ?_ | refine Then_n ?_ | refine WL_nil ?_ | refine WL_some rfl rfl rfl ?_ | refine WL_guardT rfl rfl rfl rfl ?_ | refine op_move rfl rfl ?_ | refine op_assign rfl rfl ?_ | refine op_nilCheck rfl rfl ?_ | refine op_fieldAddr T rfl rfl rfl rfl rfl rfl rfl rfl ?_ | refine op_eql_nilptr T rfl rfl rfl rfl rfl ?_ | refine op_loadB T rfl rfl rfl rfl (by assumption) (by exact rfl) ?_)
  refine op_lookup_v T strKey rfl rfl rfl rfl rfl rfl x.dirM (v := .pointer none) (fun b hb => by rw [at2_none hl] at hb; cases hb) (fun _ => rfl) ?_
  repeat (first | refine W_seq ?_ | refine W_region ?_ | refine W_ret ?_ | refine Then_n ?_ | refine Then_r ?_ | refine WL_nil ?_ | refine W_condT rfl ?_ | refine WL_some rfl rfl rfl ?_ | refine WL_guardT rfl rfl rfl rfl ?_ | refine op_assign rfl rfl ?_ | refine op_pick rfl rfl rfl rfl ?_ | refine op_eql_nilptr T rfl rfl rfl rfl rfl ?_)
  refine post2 (.inl rfl) rfl rfl rfl ⟨Chg.refl _ _, ?_⟩
  rw [hr]; rfl
 | some i =>
  obtain ⟨q, f, hq, hfi⟩ := x.get hl
  have hr : readM s k = some f.b := by unfold readM; rw [hl]; simp [hfi]
  have hbf := x.fblk i q f hq hfi
  have hof := x.fown i q f hq hfi
  have hfl := (x.ok.files f (List.mem_of_getElem? hfi)).2
  obtain ⟨A, c, hv, hv1, hv2⟩ := hof.form
  rw [hv] at hbf hof
  repeat (first | refine W_seq ?_ | refine W_region ?_ | refine Then_n ?_ | refine WL_nil ?_ | refine WL_some rfl rfl rfl ?_ | refine WL_guardT rfl rfl rfl rfl ?_ | refine op_move rfl rfl ?_ | refine op_assign rfl rfl ?_ | refine op_nilCheck rfl rfl ?_ | refine op_fieldAddr T rfl rfl rfl rfl rfl rfl rfl rfl ?_ | refine op_eql_nilptr T rfl rfl rfl rfl rfl ?_ | refine op_loadB T rfl rfl rfl rfl (by assumption) (by exact rfl) ?_)
  refine op_lookup_v T strKey rfl rfl rfl rfl rfl rfl x.dirM (v := ptrV q.1) (fun b hb => by rw [at2_some hl hq] at hb; injection hb with hb; rw [hb]) (fun hn => by rw [at2_some hl hq] at hn; cases hn) ?_
  unfold ptrV
  repeat (first | refine W_seq ?_ | refine W_region ?_ | refine W_skip ?_ | refine Then_n ?_ | refine WL_nil ?_ | refine W_condF rfl ?_ | refine WL_some rfl rfl rfl ?_ | refine WL_guardT rfl rfl rfl rfl ?_ | refine op_move rfl rfl ?_ | refine op_pick rfl rfl rfl rfl ?_ | refine op_nilCheck rfl rfl ?_ | refine op_fieldAddr T rfl rfl rfl rfl rfl rfl rfl rfl ?_ | refine op_eql_nilptr T rfl rfl rfl rfl rfl ?_ | refine op_loadB T rfl rfl rfl rfl (by assumption) (by exact rfl) ?_)
  refine op_lookup_v T strKey rfl rfl rfl rfl rfl rfl x.dirM (v := ptrV q.1) (fun b hb => by rw [at2_some hl hq] at hb; injection hb with hb; rw [hb]) (fun hn => by rw [at2_some hl hq] at hn; cases hn) ?_
  unfold ptrV
  repeat (first | refine WL_some rfl rfl rfl ?_ | refine op_nilCheck rfl rfl ?_ | refine op_fieldAddr T rfl rfl rfl rfl rfl rfl rfl rfl ?_ | refine op_loadB T rfl rfl rfl rfl (by assumption) (by exact rfl) ?_)
  refine op_call rfl rfl rfl (clone_has A _ c f.b w hof.bytes (by omega)) ?_
  rintro v w1 ⟨hc1, ho1, hf1⟩
  repeat (first | refine W_ret ?_ | refine Then_n ?_ | refine WL_nil ?_ | refine WL_some rfl rfl rfl ?_ | refine op_assign rfl rfl ?_)
  refine post2 (.inl rfl) rfl rfl rfl ⟨hc1, ?_⟩
  rw [hr]; exact ⟨v, rfl, ho1, hf1⟩
end Go.Proofs.YtiadjkjlifnopaaGreatDoor.Tryz
/-! Files: Rot. -/
namespace Go.Vc
open Go
end Go.Vc
namespace Go.Proofs.YtiadjkjlifnopaaGreatDoor.Tryz
open Go Go.Vc
end Go.Proofs.YtiadjkjlifnopaaGreatDoor.Tryz
/-! Files: a crash. Plain laws. -/
namespace Go.Vc
open Go
def crashTo (s : FsM) (n : Int) (k : Nat) : Dir := (s.waits.take (min k n.toNat)).foldl doM s.lasts
theorem crashTo_zero (s : FsM) (n : Int) : crashTo s n 0 = s.lasts := by unfold crashTo; simp
theorem crashTo_step {s : FsM} {n : Int} {k : Nat} {c : ChM} (hc : s.waits[k]? = some c) (hk : (k : Int) < n) : crashTo s n (k + 1) = doM (crashTo s n k) c := by
 unfold crashTo
 rw [show min (k + 1) n.toNat = k + 1 by omega, show min k n.toNat = k by omega, List.take_add_one, hc, List.foldl_append]
 rfl
theorem crashTo_stop {s : FsM} {n : Int} {k : Nat} (hk : ¬ (k : Int) < n) : crashTo s n (k + 1) = crashTo s n k := by
 unfold crashTo
 rw [show min (k + 1) n.toNat = min k n.toNat by omega]
theorem crashTo_end (s : FsM) (n : Int) : crashTo s n s.waits.length = crashDir s n := by
 unfold crashTo crashDir
 by_cases h : s.waits.length ≤ n.toNat
 ·rw [show min s.waits.length n.toNat = s.waits.length by omega, List.take_of_length_le (Nat.le_refl _), List.take_of_length_le h]
 ·rw [show min s.waits.length n.toNat = n.toNat by omega]
theorem crashTo_fit {s : FsM} (h : FsOk s) {n : Int} {k : Nat} {c : ChM} (hc : s.waits[k]? = some c) (hk : (k : Int) < n) : DirOk s.files.length (crashTo s n k) ∧ Fit1 (crashTo s n k) c := by
 have hl := (List.getElem?_eq_some_iff.1 hc).1
 have h1 := h.replay.at k (by omega)
 have hd : s.waits.drop k = c :: s.waits.drop (k + 1) := by rw [List.drop_eq_getElem_cons hl, (List.getElem?_eq_some_iff.1 hc).2]
 rw [hd] at h1
 have e : crashTo s n k = (s.waits.take k).foldl doM s.lasts := by unfold crashTo; rw [show min k n.toNat = k by omega]
 rw [e]
 exact ⟨h1.1, h1.2.1⟩
theorem chunk (fb : List (Nat × Value)) : ∀ (l : List ChM) (k : Nat) (c : ChM), l[k]? = some c → ((l.flatMap (chV fb)).drop (k * 4)).take 4 = chV fb c
 | [], k, c, h => by simp at h
 | a :: l, 0, c, h => by simp at h; subst h; rw [List.flatMap_cons]; simp [chV]
 | a :: l, k + 1, c, h => by
  rw [List.flatMap_cons, show (k + 1) * 4 = (chV fb a).length + k * 4 by simp [chV]; omega, List.drop_length_add_append]
  exact chunk fb l k c (by simpa using h)
def idxOf : Dir → Nm → Option Nat
 | [], _ => none
 | p :: d, k => if p.1 = k then some 0 else (idxOf d k).map (· + 1)
theorem idxOf_get {d : Dir} {k : Nm} {j : Nat} (h : idxOf d k = some j) : ∃ p, d[j]? = some p ∧ p.1 = k := by
 induction d generalizing j with
 | nil => cases h
 | cons p d ih =>
  unfold idxOf at h
  split at h
  ·injection h with h; subst h; exact ⟨p, rfl, by assumption⟩
  ·cases hi : idxOf d k with
   | none => rw [hi] at h; cases h
   | some i =>
    rw [hi] at h
    injection h with h
    subst h
    exact ih hi
theorem idxOf_of {d : Dir} (hr : (d.map (·.1)).Nodup) {j : Nat} {p : Nm × Nat} (h : d[j]? = some p) : idxOf d p.1 = some j := by
 induction d generalizing j with
 | nil => cases h
 | cons q d ih =>
  unfold idxOf
  rw [List.map_cons, List.nodup_cons] at hr
  cases j with
  | zero => simp at h; subst h; rw [if_pos rfl]
  | succ j =>
   have h' : d[j]? = some p := by simpa using h
   rw [if_neg (fun e => hr.1 (by rw [e]; exact List.mem_map.2 ⟨p, List.mem_of_getElem? h', rfl⟩)), ih hr.2 h']
   rfl
theorem looks_idx (d : Dir) (k : Nm) : looks d k = (idxOf d k).bind fun j => (d[j]?).map (·.2) := by
 induction d with
 | nil => rfl
 | cons p d ih =>
  obtain ⟨k', i⟩ := p
  unfold looks idxOf
  by_cases h : k' = k
  ·rw [if_pos h, if_pos h]; rfl
  ·rw [if_neg h, if_neg h, ih]
   cases idxOf d k <;> rfl
theorem idxOf_map (f : Nat → Nm × Nat → Nat) : ∀ (d : Dir) (k : Nm), idxOf (d.mapIdx fun j p => (p.1, f j p)) k = idxOf d k := by
 intro d
 induction d generalizing f with
 | nil => intro k; rfl
 | cons p d ih =>
  intro k
  rw [List.mapIdx_cons]
  unfold idxOf
  rw [ih (fun j p => f (j + 1) p)]
def hAt (fb nb : List (Nat × Value)) (d : Dir) (k : Nm) : Option Nat := (idxOf d k).bind fun j => if j < nb.length then (nb[j]?).map (·.1) else (d[j]?).bind fun p => (fb[p.2]?).map (·.1)
theorem hAt_start (fb : List (Nat × Value)) (d : Dir) (k : Nm) : hAt fb [] d k = at2 fb d k := by
 unfold hAt at2
 rw [looks_idx]
 cases idxOf d k with
 | none => rfl
 | some j =>
  simp only [Option.bind_some, List.length_nil, Nat.not_lt_zero, if_false]
  cases d[j]? <;> rfl
theorem hAt_step {fb nb : List (Nat × Value)} {d : Dir} (hr : (d.map (·.1)).Nodup) {p : Nm × Nat} (hp : d[nb.length]? = some p) (q : Nat × Value) (k : Nm) : hAt fb (nb ++ [q]) d k = upd (hAt fb nb d) p.1 q.1 k := by
 unfold upd
 by_cases h : k = p.1
 ·subst h
  rw [if_pos rfl]
  unfold hAt
  rw [idxOf_of hr hp]
  simp
 ·rw [if_neg h]
  unfold hAt
  cases hi : idxOf d k with
  | none => rfl
  | some j =>
   have hj : j ≠ nb.length := fun e => by
    subst e
    obtain ⟨p', h1, h2⟩ := idxOf_get hi
    rw [hp] at h1; injection h1 with h1; subst h1
    exact h h2.symm
   simp only [Option.bind_some, List.length_append, List.length_singleton]
   by_cases hlt : j < nb.length
   ·rw [if_pos hlt, if_pos (by omega), List.getElem?_append_left hlt]
   ·rw [if_neg hlt, if_neg (by omega)]
theorem hAt_end {fb nb : List (Nat × Value)} {d : Dir} (hl : nb.length = d.length) (k : Nm) : hAt fb nb d k = at2 nb (d.mapIdx fun j p => (p.1, j)) k := by
 unfold hAt at2
 rw [looks_idx, idxOf_map (fun j _ => j)]
 cases hi : idxOf d k with
 | none => rfl
 | some j =>
  obtain ⟨p, h1, _⟩ := idxOf_get hi
  have hj := (List.getElem?_eq_some_iff.1 h1).1
  simp only [Option.bind_some]
  rw [if_pos (by omega)]
  simp [h1]
theorem hAt_at {fb nb : List (Nat × Value)} {d : Dir} (hr : (d.map (·.1)).Nodup) {p : Nm × Nat} (hp : d[nb.length]? = some p) {q : Nat × Value} (hq : fb[p.2]? = some q) : hAt fb nb d p.1 = some q.1 := by
 unfold hAt
 rw [idxOf_of hr hp]
 simp [hp, hq]
end Go.Vc
