/- Part 3 of the texts that the law of the last one leans on: steps of the walk and contracts of functions. Its conditions stand in each theorem. -/
import Derived.Test.YtiadjkjlifnopaaGreatDoorScrubCleanK2
import Derived.Test.YtiadjkjlifnopaaGreatDoorScrubCleanK1
import Derived.Shelf.SlSortCmp.QuietGrown
/-! Edits: an edit's text, and its seal. -/
set_option linter.unusedVariables false
namespace Go.Vc
open Go
theorem slice_lt {w : World} {A : Option Addr} {n c : Nat} {l : List Int} (h : SliceOf Ri64 w (.slice A n c) l) : ∀ ad, A = some ad → l ≠ [] → ad.block < w.heap.size := fun ad ha hl => by
  cases l with
  | nil => exact absurd rfl hl
  | cons x l =>
    obtain ⟨ad', u, e, hu, _⟩ := h.get (i := 0) (x := x) rfl
    rw [ha] at e; injection e with e; subst e
    have := World.block_lt_of_cell? w _ hu
    rwa [block_of_add] at this
theorem cells_i64 {w : World} {g : Nat} {t : TypeId} {l : List Int} (hg : Blk w g t (l.map (Value.int .i64))) (h : ∀ n ∈ l, -9223372036854775808 ≤ n ∧ n ≤ 9223372036854775807) (hl : l.length ≤ 100000000) : SliceOf Ri64 w (.slice (some ⟨g, 0, none⟩) l.length l.length) l :=
  SliceOf.of_blk hg rfl (Nat.le_refl _) (by unfold maxLen; omega) (fun i y hy => ⟨_, by rw [List.getElem?_map, hy]; rfl, rfl, (h y (List.mem_of_getElem? hy)).1, (h y (List.mem_of_getElem? hy)).2⟩)
theorem segE_snoc (l : List SegM) (s : SegM) : (l ++ [s]).flatMap segE = l.flatMap segE ++ segE s := by rw [List.flatMap_append]; simp
theorem pairE_take : ∀ (ns zs : List Int) (j : Nat) {y z : Int}, zs.length = ns.length → ns[j]? = some y → zs[j]? = some z → pairE (ns.take (j + 1)) (zs.take (j + 1)) = pairE (ns.take j) (zs.take j) ++ numsE [y, z]
  | [], _, _, _, _, _, h, _ => by simp at h
  | n :: ns, [], _, _, _, h, _, _ => by simp at h
  | n :: ns, z' :: zs, 0, y, z, _, h1, h2 => by simp at h1 h2; subst h1; subst h2; simp [pairE]
  | n :: ns, z' :: zs, j + 1, y, z, h, h1, h2 => by
    have ih := pairE_take ns zs j (by simpa using h) (by simpa using h1) (by simpa using h2)
    rw [List.take_succ_cons, List.take_succ_cons, pairE, ih, List.take_succ_cons, List.take_succ_cons, pairE, List.append_assoc]
theorem numsE_len : ∀ l : List Int, (∀ n ∈ l, n < 18446744073709551616) → (numsE l).length ≤ 10 * l.length
  | [], _ => by simp [numsE]
  | n :: l, h => by
    have h1 := numsE_len l (fun m hm => h m (by simp [hm]))
    have h2 := putM_len10 (n := n.toNat) (by have := h n (by simp); omega)
    rw [numsE_cons, List.length_append, List.length_cons]; omega
end Go.Vc
namespace Go.Proofs.YtiadjkjlifnopaaGreatDoor.Tryz
open Go Go.Vc
section
variable {w0 w w' : World} {g : Nat} {l pre : List UInt8} {v v' : Value}
theorem truth_has (b : Bool) : Has Go.Proofs.Tryz.prog 157 #[.bool b] w (fun v w' => w' = w ∧ v = .int .i64 (truthI b)) := by
  refine enter Go.Proofs.Tryz.func157 rfl rfl (by decide) rfl (e := [(0, .bool b)]) ⟨rfl, trivial⟩ ?_
  cases b <;>
  · (first | (refine run ?_; refine go T 20 rfl ?_) | (refine run ?_; refine go T 19 rfl ?_))
    exact post1 (.inl rfl) rfl rfl ⟨rfl, rfl⟩
/-- Numbers of a row that was just made. -/
theorem numsB_has {k : Nat} (ns : List Int) (hk : ns.length = k) (x : WrAt w0 w g pre v) {h : Nat} (hb : Blk w h 2 (ns.map (Value.int .i64))) (hp : ∀ n ∈ ns, 0 ≤ n ∧ n ≤ 9223372036854775807) (hl : pre.length < 10000000) (hk2 : k ≤ 1000) :
    Has Go.Proofs.Tryz.prog 156 #[.pointer (some ⟨g, 0, none⟩), .slice (some ⟨h, 0, none⟩) k k] w (fun u w' => WrDone w0 w g v (pre ++ numsE ns) w') := by
  subst hk
  exact
  nums_has x (cells_i64 hb (fun n hn => by have := hp n hn; omega) (by omega)) (fun ad ha _ => by injection ha with ha; subst ha; exact x.out hb (by decide) (by decide)) (fun n hn => (hp n hn).1) (by omega)
/-- Numbers of a row that lay there ahead of the writer. -/
theorem numsO_has {ns : List Int} (x : WrAt w0 w g pre v) {A : Option Addr} {n c : Nat} (hs : SliceOf Ri64 w0 (.slice A n c) ns) (hp : ∀ n ∈ ns, 0 ≤ n) (hl : pre.length + 10 * ns.length < 100000000) :
    Has Go.Proofs.Tryz.prog 156 #[.pointer (some ⟨g, 0, none⟩), .slice A n c] w (fun u w' => WrDone w0 w g v (pre ++ numsE ns) w') :=
  nums_has x (SliceOf.kept Ri64.kept _ _ _ _ x.chg hs) (fun ad ha hn hm => by
    have h1 := slice_lt hs ad ha hn
    have h2 := x.ge
    rcases List.mem_cons.1 hm with h | h
    · omega
    · have := x.made.fresh _ (show v.ownBlock = some ad.block by simpa using h); omega) hp hl
set_option maxHeartbeats 4000000 in
theorem etext_has (x : EdV) (hI : EdI x.e) (hok : EditOk x.e) (hr : ERd w x) :
    Has Go.Proofs.Tryz.prog 106 #[.agg (edL x).toArray] w (fun v w' => MadeB 5 w w' v (textE x.e) ∧ (textE x.e).length ≤ 100000) := by
  refine enter Go.Proofs.Tryz.func106 rfl rfl (by decide) rfl (e := [(0, .agg (edL x).toArray)]) ⟨rfl, trivial⟩ ?_
  obtain ⟨e, va, vd, vp, vr, Q⟩ := x
  obtain ⟨ha, hd, hp, hpe, hpr, hdr⟩ := hr
  dsimp only at ha hd hp hpe hpr hdr hI hok ⊢
  obtain ⟨Aa, ca, rfl, ha1, ha2⟩ := ha.form
  obtain ⟨Ad, cd, rfl, hd1, hd2⟩ := hd.form
  obtain ⟨Ap, cp, rfl, hp1, hp2⟩ := hp.form
  obtain ⟨Ar, cr, rfl, hr1, hr2⟩ := hdr.form
  have hpl : Q.length = e.pars.length := by rw [← hpe, List.length_map]
  have hla := hok.adds
  have hld := hok.dels
  have hlp := hok.pars
  have hlr := hok.drops
  have hnx := hok.next
  have hsq := hok.seq
  refine run ?_
  refine go T 2 rfl ?_
  refine o1 rfl ?_
  refine op_box rfl rfl (fun g1 w1 hs1 hc1 h1 => ?_)
  have h1 : Blk w1 g1 49 [.int .i64 e.next, .int .i64 e.seq, .slice Aa e.adds.length ca, .slice Ad e.dels.length cd, .slice Ap Q.length cp, .slice Ar e.drops.length cr] := h1
  refine go T 5 rfl ?_
  refine o1 rfl (op_build T rfl rfl rfl rfl rfl rfl ?_)
  refine o1 rfl ?_
  refine op_box rfl rfl (fun g2 w2 hs2 hc2 h2 => ?_)
  have h2 : Blk w2 g2 197 [.slice none 0 0] := h2
  have hc02 := hc1.trans' hc2
  have x2 : WrAt w w2 g2 [] (.slice none 0 0) := ⟨h2, (MadeB.nil 5 w).keep0 hc02, by have := hc1.size; omega⟩
  replace h1 := h1.keep0 hc2
  clear h2 hc1 hc2 hc02
  refine go T 7 rfl ?_
  refine ldB T h1 rfl rfl rfl rfl rfl rfl ?_
  refine go T 1 rfl ?_
  refine ldB T h1 rfl rfl rfl rfl rfl rfl ?_
  refine go T 1 rfl ?_
  refine ldB T h1 rfl rfl rfl rfl rfl rfl ?_
  refine go T 1 rfl ?_
  refine o1 rfl ?_
  refine op_buildSlice T rfl rfl rfl rfl rfl rfl rfl (fun g3 w3 hs3 hc3 h3 => ?_)
  have h3 : Blk w3 g3 2 ([e.next, e.seq, (e.adds.length : Int)].map (Value.int .i64)) := h3
  replace h1 := h1.keep0 hc3
  refine o1 rfl ?_
  have hn3 : ∀ n ∈ [e.next, e.seq, (e.adds.length : Int)], 0 ≤ n ∧ n ≤ 9223372036854775807 := fun n hn => by
    simp only [List.mem_cons, List.not_mem_nil, or_false] at hn
    rcases hn with rfl | rfl | rfl <;> omega
  refine op_call rfl rfl rfl (numsB_has (k := 3) [e.next, e.seq, (e.adds.length : Int)] rfl (x2.keep0 hc3) h3 hn3 (by decide) (by decide)) ?_
  rintro _ w4 ⟨hc4, v4, x4, _⟩
  replace h1 := h1.keep hc4 ((x2.keep0 hc3).out h1 (by decide) (by decide))
  rw [List.nil_append] at x4
  have hl4 := numsE_len [e.next, e.seq, (e.adds.length : Int)] (fun n hn => by have := hn3 n hn; omega)
  simp only [List.length_cons, List.length_nil] at hl4
  clear hc3 hc4 h3 x2
  unfold textE
  generalize numsE [e.next, e.seq, (e.adds.length : Int)] = pre at *
  refine go T 6 rfl ?_
  refine ldB T h1 rfl rfl rfl rfl rfl rfl ?_
  refine go T 5 rfl ?_
  refine W_loop (σ := Nat) (fun i => [(1, .pointer (some ⟨g1, 0, none⟩)), (3, .pointer (some ⟨g2, 0, none⟩)), (23, .slice Aa e.adds.length ca), (24, .int .i64 e.adds.length), (25, .int .i64 i)])
    (fun i w' => i ≤ e.adds.length ∧ (pre ++ (e.adds.take i).flatMap segE).length ≤ 30 + 60 * i ∧ Blk w' g1 49 [.int .i64 e.next, .int .i64 e.seq, .slice Aa e.adds.length ca, .slice Ad e.dels.length cd, .slice Ap Q.length cp, .slice Ar e.drops.length cr] ∧ ∃ v', WrAt w w' g2 (pre ++ (e.adds.take i).flatMap segE) v')
    (fun i => e.adds.length - i) 0 ⟨rfl, rfl, rfl, rfl, rfl, trivial⟩ ⟨Nat.zero_le _, by simpa using hl4, h1, v4, by simpa using x4⟩ ?_
  clear h1 x4
  rintro i w5 ⟨hi, hlen, h1, v5, x5⟩
  refine run ?_
  refine go T 2 rfl ?_
  refine ltS rfl rfl rfl rfl (fun hcmp => ?_) (fun hcmp => ?_)
  · have hlt : i < e.adds.length := by omega
    have hx := List.getElem?_eq_getElem hlt
    have hsI := hI.adds _ (List.getElem_mem hlt)
    have hsO := hok.adds1 _ (List.getElem_mem hlt)
    have htk : (e.adds.take (i + 1)).flatMap segE = (e.adds.take i).flatMap segE ++ segE e.adds[i] := by rw [List.take_add_one, hx]; exact segE_snoc _ _
    obtain ⟨ad, rfl, he⟩ := (ha.keepR x5.chg).at hx
    generalize e.adds[i] = s at *
    unfold segL at he
    refine go T 10 rfl ?_
    refine o1 rfl (op_indexK T rfl rfl rfl rfl rfl (by omega) ?_)
    refine o1 rfl (op_loadE T he rfl rfl rfl rfl rfl ?_)
    refine o1 rfl ?_
    refine op_alloc T rfl rfl (fun g6 w6 hs6 hc6 h6 => ?_)
    have h6 : Blk w6 g6 26 [.int .i64 0, .bool false, .int .i64 0, .int .i64 0, .int .i64 0, .int .u32 0] := h6
    refine op0 rfl rfl ?_
    refine op_store_agg T rfl rfl rfl rfl rfl rfl h6 (by exact Nat.le_of_ble_eq_true rfl) (fun w7 hc7 h67 _ => ?_)
    have h67 : Blk w7 g6 26 [.int .i64 s.num, .bool s.sealed, .int .i64 s.group, .int .i64 s.member, .int .i64 s.size, .int .u32 (s.sum : Int)] := h67
    have hc57 : Chg [] w5 w7 := hc6.trans hc7 (fun k hk hlt => by simp at hk; subst hk; have : w5.heap.size ≤ k := hs6; omega)
    replace h1 := h1.keep0 hc57
    replace x5 := x5.keep0 hc57
    clear h6 hc6 hc7 he hs6
    have hsu := hsI.sum
    have ht : 0 ≤ truthI s.sealed ∧ truthI s.sealed ≤ 1 := by unfold truthI; split <;> omega
    refine go T 2 rfl ?_
    refine W_walk 16 [] fol (by kernel_rfl) (by kernel_rfl) ?_
    refine Walk.plain rfl (by intro val w_ hR hp; exact op_move rfl rfl ⟨Chg.refl _ _, rfl⟩) ?_; dsimp only [List.nil_append, List.cons_append]
    refine Walk.plain rfl (by intro val w_ hR hp; exact op_fieldAddr T rfl rfl rfl rfl rfl rfl rfl rfl ⟨Chg.refl _ _, rfl⟩) ?_; dsimp only [List.nil_append, List.cons_append]
    refine Walk.plain rfl (by intro val w_ hR hp; exact op_loadB T rfl rfl rfl rfl (h67.keep0 hR) (by exact rfl) ⟨Chg.refl _ _, rfl⟩) ?_; dsimp only [List.nil_append, List.cons_append]
    refine Walk.plain rfl (by intro val w_ hR hp; exact op_fieldAddr T rfl rfl rfl rfl rfl rfl rfl rfl ⟨Chg.refl _ _, rfl⟩) ?_; dsimp only [List.nil_append, List.cons_append]
    refine Walk.plain rfl (by intro val w_ hR hp; exact op_loadB T rfl rfl rfl rfl (h67.keep0 hR) (by exact rfl) ⟨Chg.refl _ _, rfl⟩) ?_; dsimp only [List.nil_append, List.cons_append]
    refine Walk.plain (v := .int .i64 (truthI s.sealed)) rfl (by intro val w_ hR hp; exact op_call rfl rfl rfl (truth_has s.sealed) (fun v w' ⟨h1, h2⟩ => ⟨h1 ▸ Chg.refl _ _, h2⟩)) ?_; dsimp only [List.nil_append, List.cons_append]
    refine Walk.plain rfl (by intro val w_ hR hp; exact op_fieldAddr T rfl rfl rfl rfl rfl rfl rfl rfl ⟨Chg.refl _ _, rfl⟩) ?_; dsimp only [List.nil_append, List.cons_append]
    refine Walk.plain rfl (by intro val w_ hR hp; exact op_loadB T rfl rfl rfl rfl (h67.keep0 hR) (by exact rfl) ⟨Chg.refl _ _, rfl⟩) ?_; dsimp only [List.nil_append, List.cons_append]
    refine Walk.plain rfl (by intro val w_ hR hp; exact op_fieldAddr T rfl rfl rfl rfl rfl rfl rfl rfl ⟨Chg.refl _ _, rfl⟩) ?_; dsimp only [List.nil_append, List.cons_append]
    refine Walk.plain rfl (by intro val w_ hR hp; exact op_loadB T rfl rfl rfl rfl (h67.keep0 hR) (by exact rfl) ⟨Chg.refl _ _, rfl⟩) ?_; dsimp only [List.nil_append, List.cons_append]
    refine Walk.plain rfl (by intro val w_ hR hp; exact op_fieldAddr T rfl rfl rfl rfl rfl rfl rfl rfl ⟨Chg.refl _ _, rfl⟩) ?_; dsimp only [List.nil_append, List.cons_append]
    refine Walk.plain rfl (by intro val w_ hR hp; exact op_loadB T rfl rfl rfl rfl (h67.keep0 hR) (by exact rfl) ⟨Chg.refl _ _, rfl⟩) ?_; dsimp only [List.nil_append, List.cons_append]
    refine Walk.plain rfl (by intro val w_ hR hp; exact op_fieldAddr T rfl rfl rfl rfl rfl rfl rfl rfl ⟨Chg.refl _ _, rfl⟩) ?_; dsimp only [List.nil_append, List.cons_append]
    refine Walk.plain rfl (by intro val w_ hR hp; exact op_loadB T rfl rfl rfl rfl (h67.keep0 hR) (by exact rfl) ⟨Chg.refl _ _, rfl⟩) ?_; dsimp only [List.nil_append, List.cons_append]
    refine Walk.plain rfl (by intro val w_ hR hp; exact op_convert_fit T rfl rfl rfl rfl (wrap_i64_in (by omega) (by omega)) ⟨Chg.refl _ _, rfl⟩) ?_; dsimp only [List.nil_append, List.cons_append]
    refine Walk.rel (fun v w' => ∃ g8, v = .slice (some ⟨g8, 0, none⟩) 6 6 ∧ Blk w' g8 2 [.int .i64 s.num, .int .i64 (truthI s.sealed), .int .i64 s.group, .int .i64 s.member, .int .i64 s.size, .int .i64 (s.sum : Int)]) rfl (fun v w w' h hab => let ⟨g8, a, b⟩ := h; ⟨g8, a, b.keep0 hab⟩) (by intro val w_ hR hp; exact op_buildSlice T rfl rfl rfl rfl rfl rfl rfl (fun g8 w8 hs8 hc8 h8 => ⟨hc8, g8, rfl, h8⟩)) ?_; dsimp only [List.nil_append, List.cons_append]
    refine Walk.fin ?_
    intro val w8 hc8 hp8
    obtain ⟨g8, e8, h8⟩ : ∃ g8, val 15 = .slice (some ⟨g8, 0, none⟩) 6 6 ∧ Blk w8 g8 2 ([s.num, truthI s.sealed, s.group, s.member, s.size, (s.sum : Int)].map (Value.int .i64)) := hp8 15 (by omega) _ _ rfl rfl
    clear hp8
    refine WL_sub (e' := [(1, .pointer (some ⟨g1, 0, none⟩)), (3, .pointer (some ⟨g2, 0, none⟩)), (23, .slice (some ad) e.adds.length ca), (24, .int .i64 e.adds.length), (25, .int .i64 i), (29, .pointer (some ⟨g2, 0, none⟩)), (44, .slice (some ⟨g8, 0, none⟩) 6 6)]) ⟨rfl, rfl, rfl, rfl, rfl, rfl, congrArg some e8, trivial⟩ ?_
    clear e8
    replace h1 := h1.keep0 hc8
    replace x5 := x5.keep0 hc8
    have hsn := hsO.num
    have hsg := hsO.group
    have hsm := hsO.member
    have hss := hsO.size
    have hn8 : ∀ n ∈ [s.num, truthI s.sealed, s.group, s.member, s.size, (s.sum : Int)], 0 ≤ n ∧ n ≤ 9223372036854775807 := fun n hn => by
      simp only [List.mem_cons, List.not_mem_nil, or_false] at hn
      rcases hn with rfl | rfl | rfl | rfl | rfl | rfl <;> omega
    have hl8 := numsE_len [s.num, truthI s.sealed, s.group, s.member, s.size, (s.sum : Int)] (fun n hn => by have := hn8 n hn; omega)
    simp only [List.length_cons, List.length_nil] at hl8
    refine runL ?_
    refine o1 rfl ?_
    refine op_call rfl rfl rfl (numsB_has (k := 6) [s.num, truthI s.sealed, s.group, s.member, s.size, (s.sum : Int)] rfl x5 h8 hn8 (by omega) (by decide)) ?_
    rintro _ w9 ⟨hc9, v9, x9, _⟩
    replace h1 := h1.keep hc9 (x5.out h1 (by decide) (by decide))
    have he9 : pre ++ (e.adds.take i).flatMap segE ++ numsE [s.num, truthI s.sealed, s.group, s.member, s.size, (s.sum : Int)] = pre ++ (e.adds.take (i + 1)).flatMap segE := by rw [htk, List.append_assoc]; rfl
    have hl9 : (pre ++ (e.adds.take (i + 1)).flatMap segE).length ≤ 30 + 60 * (i + 1) := by rw [← he9, List.length_append]; omega
    rw [he9] at x9
    refine go T 4 rfl ?_
    refine adI rfl rfl rfl rfl (by omega) (by omega) ?_
    refine go T 2 rfl ?_
    exact Round_n (i + 1) ⟨rfl, rfl, rfl, rfl, rfl, trivial⟩ ⟨by omega, hl9, h1, v9, x9⟩ (by omega)
  obtain rfl : i = e.adds.length := by omega
  rw [List.take_length] at hlen x5
  clear hi hcmp
  generalize pre ++ e.adds.flatMap segE = pre2 at *
  refine go T 6 rfl ?_
  refine rndX ?_
  refine go T 6 rfl ?_
  refine ldB T h1 rfl rfl rfl rfl rfl rfl ?_
  refine go T 1 rfl ?_
  refine o1 rfl ?_
  refine op_buildSlice T rfl rfl rfl rfl rfl rfl rfl (fun g6 w6 hs6 hc6 h6 => ?_)
  have h6 : Blk w6 g6 2 ([(e.dels.length : Int)].map (Value.int .i64)) := h6
  replace h1 := h1.keep0 hc6
  replace x5 := x5.keep0 hc6
  have hn6 : ∀ n ∈ [(e.dels.length : Int)], 0 ≤ n ∧ n ≤ 9223372036854775807 := fun n hn => by simp at hn; omega
  have hl6 := numsE_len [(e.dels.length : Int)] (fun n hn => by have := hn6 n hn; omega)
  simp only [List.length_cons, List.length_nil] at hl6
  refine o1 rfl ?_
  refine op_call rfl rfl rfl (numsB_has (k := 1) [(e.dels.length : Int)] rfl x5 h6 hn6 (by omega) (by decide)) ?_
  rintro _ w7 ⟨hc7, v7, x7, _⟩
  replace h1 := h1.keep hc7 (x5.out h1 (by decide) (by decide))
  have hl7 : (pre2 ++ numsE [(e.dels.length : Int)]).length ≤ 3640 := by rw [List.length_append]; omega
  clear x5 h6 hc6 hc7 hl6 hn6 hlen
  generalize pre2 ++ numsE [(e.dels.length : Int)] = pre3 at *
  refine go T 6 rfl ?_
  refine ldB T h1 rfl rfl rfl rfl rfl rfl ?_
  refine o1 rfl ?_
  refine op_call rfl rfl rfl (numsO_has x7 hd (fun n hn => by have := hok.dels1 n hn; omega) (by omega)) ?_
  rintro _ w8 ⟨hc8, v8, x8, _⟩
  replace h1 := h1.keep hc8 (x7.out h1 (by decide) (by decide))
  have hl8 : (pre3 ++ numsE e.dels).length ≤ 4240 := by
    have := numsE_len e.dels (fun n hn => by have := hok.dels1 n hn; omega)
    rw [List.length_append]; omega
  clear x7 hc8 hl7
  generalize pre3 ++ numsE e.dels = pre4 at *
  refine go T 6 rfl ?_
  refine ldB T h1 rfl rfl rfl rfl rfl rfl ?_
  refine go T 1 rfl ?_
  refine o1 rfl ?_
  refine op_buildSlice T rfl rfl rfl rfl rfl rfl rfl (fun g6 w9 hs6 hc6 h6 => ?_)
  have h6 : Blk w9 g6 2 ([(Q.length : Int)].map (Value.int .i64)) := h6
  replace h1 := h1.keep0 hc6
  replace x8 := x8.keep0 hc6
  have hn6 : ∀ n ∈ [(Q.length : Int)], 0 ≤ n ∧ n ≤ 9223372036854775807 := fun n hn => by simp at hn; omega
  have hl6 := numsE_len [(Q.length : Int)] (fun n hn => by have := hn6 n hn; omega)
  simp only [List.length_cons, List.length_nil] at hl6
  refine o1 rfl ?_
  refine op_call rfl rfl rfl (numsB_has (k := 1) [(Q.length : Int)] rfl x8 h6 hn6 (by omega) (by decide)) ?_
  rintro _ w10 ⟨hc7, v10, x10, _⟩
  replace h1 := h1.keep hc7 (x8.out h1 (by decide) (by decide))
  have hl10 : (pre4 ++ numsE [(Q.length : Int)]).length ≤ 4250 := by rw [List.length_append]; omega
  rw [hpl] at x10 hl10
  clear x8 h6 hc6 hc7 hl6 hn6 hl8
  generalize pre4 ++ numsE [(e.pars.length : Int)] = pre5 at *
  have hparE : e.pars.flatMap parE = Q.flatMap fun q => parE q.p := by rw [← hpe, List.flatMap_map]
  rw [hparE]
  refine go T 6 rfl ?_
  refine ldB T h1 rfl rfl rfl rfl rfl rfl ?_
  refine go T 5 rfl ?_
  refine W_loop (σ := Nat) (fun i => [(1, .pointer (some ⟨g1, 0, none⟩)), (3, .pointer (some ⟨g2, 0, none⟩)), (64, .slice Ap Q.length cp), (65, .int .i64 Q.length), (66, .int .i64 i)])
    (fun i w' => i ≤ Q.length ∧ (pre5 ++ (Q.take i).flatMap fun q => parE q.p).length ≤ 4250 + 100 * i ∧ Blk w' g1 49 [.int .i64 e.next, .int .i64 e.seq, .slice Aa e.adds.length ca, .slice Ad e.dels.length cd, .slice Ap Q.length cp, .slice Ar e.drops.length cr] ∧ ∃ v', WrAt w w' g2 (pre5 ++ (Q.take i).flatMap fun q => parE q.p) v')
    (fun i => Q.length - i) 0 ⟨rfl, rfl, rfl, rfl, rfl, trivial⟩ ⟨Nat.zero_le _, by simpa using hl10, h1, v10, by simpa using x10⟩ ?_
  clear h1 x10 hl10
  rintro i w11 ⟨hi, hlen, h1, v11, x11⟩
  refine run ?_
  refine go T 2 rfl ?_
  refine ltS rfl rfl rfl rfl (fun hcmp => ?_) (fun hcmp => ?_)
  · have hlt : i < Q.length := by omega
    have hx := List.getElem?_eq_getElem hlt
    have hmem : Q[i].p ∈ e.pars := by rw [← hpe]; exact List.mem_map.2 ⟨_, List.getElem_mem hlt, rfl⟩
    have hpI := hI.pars _ hmem
    have hpO := hok.pars1 _ hmem
    have hrd := hpr _ (List.getElem_mem hlt)
    have htk : ((Q.take (i + 1)).flatMap fun q => parE q.p) = ((Q.take i).flatMap fun q => parE q.p) ++ parE Q[i].p := by rw [List.take_add_one, hx, List.flatMap_append]; simp
    obtain ⟨ad, rfl, he⟩ := (hp.keepR x11.chg).at hx
    generalize Q[i] = q at *
    obtain ⟨p, vn, vs⟩ := q
    obtain ⟨hrn, hrz⟩ := hrd
    dsimp only at hrn hrz hpI hpO htk
    obtain ⟨An, cn, rfl, hn1, hn2⟩ := hrn.form
    obtain ⟨Az, cz, rfl, hz1, hz2⟩ := hrz.form
    have hll := hpO.lens
    have hl3 := hpO.len3
    unfold parL at he
    refine go T 10 rfl ?_
    refine o1 rfl (op_indexK T rfl rfl rfl rfl rfl (by omega) ?_)
    refine o1 rfl (op_loadE T he rfl rfl rfl rfl rfl ?_)
    refine o1 rfl ?_
    refine op_alloc T rfl rfl (fun g6 w12 hs6 hc6 h6 => ?_)
    have h6 : Blk w12 g6 70 [.int .i64 0, .slice none 0 0, .slice none 0 0, .int .i64 0, .int .u32 0] := h6
    refine op0 rfl rfl ?_
    refine op_store_agg T rfl rfl rfl rfl rfl rfl h6 (by exact Nat.le_of_ble_eq_true rfl) (fun w13 hc7 h67 _ => ?_)
    have h67 : Blk w13 g6 70 [.int .i64 p.group, .slice An p.nums.length cn, .slice Az p.sizes.length cz, .int .i64 p.size, .int .u32 (p.sum : Int)] := h67
    have hc57 : Chg [] w11 w13 := hc6.trans hc7 (fun k hk hlt => by simp at hk; subst hk; have : w11.heap.size ≤ k := hs6; omega)
    replace h1 := h1.keep0 hc57
    replace x11 := x11.keep0 hc57
    clear h6 hc6 hc7 he hs6 hc57
    have hgr := hpO.group
    have hsz := hpO.size
    refine go T 6 rfl ?_
    refine ldB T h67 rfl rfl rfl rfl rfl rfl ?_
    refine go T 1 rfl ?_
    refine ldB T h67 rfl rfl rfl rfl rfl rfl ?_
    refine go T 1 rfl ?_
    refine o1 rfl ?_
    refine op_buildSlice T rfl rfl rfl rfl rfl rfl rfl (fun g8 w14 hs8 hc8 h8 => ?_)
    have h8 : Blk w14 g8 2 ([p.group, (p.nums.length : Int)].map (Value.int .i64)) := h8
    replace h1 := h1.keep0 hc8
    replace h67 := h67.keep0 hc8
    replace x11 := x11.keep0 hc8
    have hn8 : ∀ n ∈ [p.group, (p.nums.length : Int)], 0 ≤ n ∧ n ≤ 9223372036854775807 := fun n hn => by
      simp only [List.mem_cons, List.not_mem_nil, or_false] at hn
      rcases hn with rfl | rfl <;> omega
    have hl8 := numsE_len [p.group, (p.nums.length : Int)] (fun n hn => by have := hn8 n hn; omega)
    simp only [List.length_cons, List.length_nil] at hl8
    refine o1 rfl ?_
    refine op_call rfl rfl rfl (numsB_has (k := 2) [p.group, (p.nums.length : Int)] rfl x11 h8 hn8 (by omega) (by decide)) ?_
    rintro _ w15 ⟨hc9, v15, x15, _⟩
    replace h1 := h1.keep hc9 (x11.out h1 (by decide) (by decide))
    replace h67 := h67.keep hc9 (x11.out h67 (by decide) (by decide))
    have hl15 : (pre5 ++ ((Q.take i).flatMap fun q => parE q.p) ++ numsE [p.group, (p.nums.length : Int)]).length ≤ 4270 + 100 * i := by rw [List.length_append]; omega
    have hE : pre5 ++ ((Q.take i).flatMap fun q => parE q.p) ++ numsE [p.group, (p.nums.length : Int)] ++ (pairE p.nums p.sizes ++ numsE [p.size, (p.sum : Int)]) = pre5 ++ ((Q.take (i + 1)).flatMap fun q => parE q.p) := by rw [htk]; unfold parE; simp only [List.append_assoc]
    clear x11 h8 hc8 hc9 hn8 hl8 hs8
    generalize pre5 ++ ((Q.take i).flatMap fun q => parE q.p) ++ numsE [p.group, (p.nums.length : Int)] = pre6 at *
    refine go T 6 rfl ?_
    refine ldB T h67 rfl rfl rfl rfl rfl rfl ?_
    refine go T 5 rfl ?_
    refine W_loop (σ := Nat) (fun j => [(1, .pointer (some ⟨g1, 0, none⟩)), (3, .pointer (some ⟨g2, 0, none⟩)), (7, .pointer (some ⟨g6, 0, none⟩)), (64, .slice (some ad) Q.length cp), (65, .int .i64 Q.length), (66, .int .i64 i), (79, .slice An p.nums.length cn), (80, .int .i64 p.nums.length), (81, .int .i64 j)])
      (fun j w' => j ≤ p.nums.length ∧ (pre6 ++ pairE (p.nums.take j) (p.sizes.take j)).length ≤ 4270 + 100 * i + 20 * j ∧ Blk w' g1 49 [.int .i64 e.next, .int .i64 e.seq, .slice Aa e.adds.length ca, .slice Ad e.dels.length cd, .slice (some ad) Q.length cp, .slice Ar e.drops.length cr] ∧ Blk w' g6 70 [.int .i64 p.group, .slice An p.nums.length cn, .slice Az p.sizes.length cz, .int .i64 p.size, .int .u32 (p.sum : Int)] ∧ ∃ v', WrAt w w' g2 (pre6 ++ pairE (p.nums.take j) (p.sizes.take j)) v')
      (fun j => p.nums.length - j) 0 ⟨rfl, rfl, rfl, rfl, rfl, rfl, rfl, rfl, rfl, trivial⟩ ⟨Nat.zero_le _, by simpa [pairE] using hl15, h1, h67, v15, by simpa [pairE] using x15⟩ ?_
    clear h1 h67 x15
    rintro j w16 ⟨hj, hlenj, h1, h67, v16, x16⟩
    refine run ?_
    refine go T 2 rfl ?_
    refine ltS rfl rfl rfl rfl (fun hcmp => ?_) (fun hcmp => ?_)
    · have hjl : j < p.nums.length := by omega
      have hxn := List.getElem?_eq_getElem hjl
      have hxz := List.getElem?_eq_getElem (show j < p.sizes.length by omega)
      have hnO := hpO.nums _ (List.getElem_mem hjl)
      have hzO := hpO.sizes _ (List.getElem_mem (show j < p.sizes.length by omega))
      obtain ⟨adn, u, rfl, hu, rfl, _⟩ := (SliceOf.kept Ri64.kept _ _ _ _ x16.chg hrn).get hxn
      obtain ⟨adz, u2, rfl, hu2, rfl, _⟩ := (SliceOf.kept Ri64.kept _ _ _ _ x16.chg hrz).get hxz
      have hpt : pairE (p.nums.take (j + 1)) (p.sizes.take (j + 1)) = pairE (p.nums.take j) (p.sizes.take j) ++ numsE [p.nums[j], p.sizes[j]] := pairE_take _ _ j (by omega) hxn hxz
      generalize p.nums[j] = y at *
      generalize p.sizes[j] = z at *
      refine go T 11 rfl ?_
      refine o1 rfl (op_index_nat T rfl rfl rfl rfl rfl rfl (by omega) ?_)
      refine o1 rfl (op_load T rfl rfl rfl rfl (by assumption) ?_)
      refine go T 8 rfl ?_
      refine ldB T h67 rfl rfl rfl rfl rfl rfl ?_
      refine go T 1 rfl ?_
      refine o1 rfl (op_index_nat T rfl rfl rfl rfl rfl rfl (by omega) ?_)
      refine o1 rfl (op_load T rfl rfl rfl rfl (by assumption) ?_)
      refine o1 rfl ?_
      refine op_buildSlice T rfl rfl rfl rfl rfl rfl rfl (fun g8 w17 hs8 hc8 h8 => ?_)
      have h8 : Blk w17 g8 2 ([y, z].map (Value.int .i64)) := h8
      replace h1 := h1.keep0 hc8
      replace h67 := h67.keep0 hc8
      replace x16 := x16.keep0 hc8
      have hn8 : ∀ n ∈ [y, z], 0 ≤ n ∧ n ≤ 9223372036854775807 := fun n hn => by
        simp only [List.mem_cons, List.not_mem_nil, or_false] at hn
        rcases hn with rfl | rfl <;> omega
      have hl8 := numsE_len [y, z] (fun n hn => by have := hn8 n hn; omega)
      simp only [List.length_cons, List.length_nil] at hl8
      refine o1 rfl ?_
      refine op_call rfl rfl rfl (numsB_has (k := 2) [y, z] rfl x16 h8 hn8 (by omega) (by decide)) ?_
      rintro _ w18 ⟨hc9, v18, x18, _⟩
      replace h1 := h1.keep hc9 (x16.out h1 (by decide) (by decide))
      replace h67 := h67.keep hc9 (x16.out h67 (by decide) (by decide))
      have he : pre6 ++ pairE (p.nums.take j) (p.sizes.take j) ++ numsE [y, z] = pre6 ++ pairE (p.nums.take (j + 1)) (p.sizes.take (j + 1)) := by rw [hpt, List.append_assoc]
      have hl18 : (pre6 ++ pairE (p.nums.take (j + 1)) (p.sizes.take (j + 1))).length ≤ 4270 + 100 * i + 20 * (j + 1) := by rw [← he, List.length_append]; omega
      rw [he] at x18
      refine go T 4 rfl ?_
      refine adI rfl rfl rfl rfl (by omega) (by omega) ?_
      refine go T 2 rfl ?_
      exact Round_n (j + 1) ⟨rfl, rfl, rfl, rfl, rfl, rfl, rfl, rfl, rfl, trivial⟩ ⟨by omega, hl18, h1, h67, v18, x18⟩ (by omega)
    obtain rfl : j = p.nums.length := by omega
    rw [List.take_length, ← hll, List.take_length] at x16 hlenj
    have hpsum := hpI.sum
    refine go T 6 rfl ?_
    refine rndX ?_
    refine go T 5 rfl ?_
    refine ldB T h67 rfl rfl rfl rfl rfl rfl ?_
    refine go T 1 rfl ?_
    refine ldB T h67 rfl rfl rfl rfl rfl rfl ?_
    refine o1 rfl (op_convert_fit T rfl rfl rfl rfl (wrap_i64_in (by omega) (by omega)) ?_)
    refine o1 rfl ?_
    refine op_buildSlice T rfl rfl rfl rfl rfl rfl rfl (fun g8 w17 hs8 hc8 h8 => ?_)
    have h8 : Blk w17 g8 2 ([p.size, (p.sum : Int)].map (Value.int .i64)) := h8
    replace h1 := h1.keep0 hc8
    replace x16 := x16.keep0 hc8
    have hn8 : ∀ n ∈ [p.size, (p.sum : Int)], 0 ≤ n ∧ n ≤ 9223372036854775807 := fun n hn => by
      simp only [List.mem_cons, List.not_mem_nil, or_false] at hn
      rcases hn with rfl | rfl <;> omega
    have hl8 := numsE_len [p.size, (p.sum : Int)] (fun n hn => by have := hn8 n hn; omega)
    simp only [List.length_cons, List.length_nil] at hl8
    refine o1 rfl ?_
    refine op_call rfl rfl rfl (numsB_has (k := 2) [p.size, (p.sum : Int)] rfl x16 h8 hn8 (by omega) (by decide)) ?_
    rintro _ w18 ⟨hc9, v18, x18, _⟩
    replace h1 := h1.keep hc9 (x16.out h1 (by decide) (by decide))
    have he : pre6 ++ pairE p.nums p.sizes ++ numsE [p.size, (p.sum : Int)] = pre5 ++ ((Q.take (i + 1)).flatMap fun q => parE q.p) := by rw [← hE, List.append_assoc]
    have hl18 : (pre5 ++ ((Q.take (i + 1)).flatMap fun q => parE q.p)).length ≤ 4250 + 100 * (i + 1) := by rw [← he, List.length_append]; omega
    rw [he] at x18
    refine go T 4 rfl ?_
    refine adI rfl rfl rfl rfl (by omega) (by omega) ?_
    refine go T 2 rfl ?_
    exact Round_n (i + 1) ⟨rfl, rfl, rfl, rfl, rfl, trivial⟩ ⟨by omega, hl18, h1, v18, x18⟩ (by omega)
  obtain rfl : i = Q.length := by omega
  rw [List.take_length] at hlen x11
  clear hi hcmp
  generalize pre5 ++ (Q.flatMap fun q => parE q.p) = pre7 at *
  refine go T 6 rfl ?_
  refine rndX ?_
  refine go T 6 rfl ?_
  refine ldB T h1 rfl rfl rfl rfl rfl rfl ?_
  refine go T 1 rfl ?_
  refine o1 rfl ?_
  refine op_buildSlice T rfl rfl rfl rfl rfl rfl rfl (fun g6 w12 hs6 hc6 h6 => ?_)
  have h6 : Blk w12 g6 2 ([(e.drops.length : Int)].map (Value.int .i64)) := h6
  replace h1 := h1.keep0 hc6
  replace x11 := x11.keep0 hc6
  have hn6 : ∀ n ∈ [(e.drops.length : Int)], 0 ≤ n ∧ n ≤ 9223372036854775807 := fun n hn => by simp at hn; omega
  have hl6 := numsE_len [(e.drops.length : Int)] (fun n hn => by have := hn6 n hn; omega)
  simp only [List.length_cons, List.length_nil] at hl6
  refine o1 rfl ?_
  refine op_call rfl rfl rfl (numsB_has (k := 1) [(e.drops.length : Int)] rfl x11 h6 hn6 (by omega) (by decide)) ?_
  rintro _ w13 ⟨hc7, v13, x13, _⟩
  replace h1 := h1.keep hc7 (x11.out h1 (by decide) (by decide))
  have hl13 : (pre7 ++ numsE [(e.drops.length : Int)]).length ≤ 10300 := by rw [List.length_append]; omega
  clear x11 h6 hc6 hc7 hl6 hn6 hlen
  generalize pre7 ++ numsE [(e.drops.length : Int)] = pre8 at *
  refine go T 6 rfl ?_
  refine ldB T h1 rfl rfl rfl rfl rfl rfl ?_
  refine o1 rfl ?_
  refine op_call rfl rfl rfl (numsO_has x13 hdr (fun n hn => by have := hok.drops1 n hn; omega) (by omega)) ?_
  rintro _ w14 ⟨hc8, v14, x14, _⟩
  have hl14 : (pre8 ++ numsE e.drops).length ≤ 100000 := by
    have := numsE_len e.drops (fun n hn => by have := hok.drops1 n hn; omega)
    rw [List.length_append]; omega
  have hb := x14.blk
  refine go T 7 rfl ?_
  refine ldB T hb rfl rfl rfl rfl rfl rfl ?_
  refine go T 4 rfl ?_
  exact post1 (.inl rfl) rfl rfl ⟨x14.made, hl14⟩
theorem encodeE_has (x : EdV) (hI : EdI x.e) (hr : ERd w x) :
    Has Go.Proofs.Tryz.prog 58 #[.agg (edL x).toArray] w (fun v w' => ∃ u, v = .tuple #[u, .int .i64 (encE x.e).2] ∧ MadeB 5 w w' u (encE x.e).1 ∧ (encE x.e).1.length ≤ 100012) := by
  refine enter Go.Proofs.Tryz.func58 rfl rfl (by decide) rfl (e := [(0, .agg (edL x).toArray)]) ⟨rfl, trivial⟩ ?_
  refine run ?_
  refine go T 2 rfl ?_
  refine o1 rfl ?_
  refine op_box rfl rfl (fun g1 w1 hs1 hc1 h1 => ?_)
  have h1 : Blk w1 g1 49 (edL x) := h1
  refine go T 7 rfl ?_
  refine o1 rfl (op_load_agg T rfl rfl rfl rfl h1 (by exact Nat.le_of_ble_eq_true rfl) (by exact rfl) ?_)
  refine o1 rfl ?_
  refine op_call rfl rfl rfl (checkE_has x hI (hr.keep0 hc1)) ?_
  rintro _ w2 ⟨hc2, rfl⟩
  have hc := hc1.trans' hc2
  replace h1 := h1.keep0 hc2
  unfold encE
  cases hb : editB x.e with
  | false =>
    rw [if_neg (by decide), if_neg (by decide)]
    refine go T 6 rfl ?_
    refine neT rfl rfl rfl rfl (by omega) ?_
    refine go T 12 rfl ?_
    exact post2 (.inl rfl) rfl rfl rfl ⟨_, rfl, (MadeB.nil 5 w).keep0 hc, by simp⟩
  | true =>
    rw [if_pos rfl, if_pos rfl]
    refine go T 6 rfl ?_
    refine neF rfl rfl rfl rfl (by omega) ?_
    refine go T 7 rfl ?_
    refine o1 rfl (op_load_agg T rfl rfl rfl rfl h1 (by exact Nat.le_of_ble_eq_true rfl) (by exact rfl) ?_)
    refine o1 rfl ?_
    refine op_call rfl rfl rfl (etext_has x hI (editB_ok.1 hb) (hr.keep0 hc)) ?_
    rintro v3 w3 ⟨m3, hl3⟩
    obtain ⟨A3, c3, rfl, _, _⟩ := m3.form
    refine o1 rfl ?_
    refine op_call rfl rfl rfl (seal_has A3 _ c3 (textE x.e) w3 m3.reads (by omega)) ?_
    intro v4 w4 m4
    refine go T 5 rfl ?_
    exact post2 (.inl rfl) rfl rfl rfl ⟨_, rfl, m4.base (hc.trans' m3.chg), by rw [sealM_length]; omega⟩
end
end Go.Proofs.YtiadjkjlifnopaaGreatDoor.Tryz
/-! Seals, one behind the other. -/
set_option linter.unusedVariables false
namespace Go.Proofs.YtiadjkjlifnopaaGreatDoor.Tryz
open Go Go.Vc

/-- A slice of bytes in a row. -/
def Rbs (w : World) (u : Value) (x : List UInt8) : Prop := SliceOf Ru8 w u x
theorem Rbs.kept : Kept Rbs := SliceOf.kept Ru8.kept
end Go.Proofs.YtiadjkjlifnopaaGreatDoor.Tryz
/-! Records: Check, Encode. -/
set_option linter.unusedVariables false
namespace Go.Proofs.YtiadjkjlifnopaaGreatDoor.Tryz
open Go Go.Vc

end Go.Proofs.YtiadjkjlifnopaaGreatDoor.Tryz
/-! Records: Encode. -/
set_option linter.unusedVariables false
namespace Go.Proofs.YtiadjkjlifnopaaGreatDoor.Tryz
open Go Go.Vc

end Go.Proofs.YtiadjkjlifnopaaGreatDoor.Tryz
/-! Readers; a record out of bytes. -/
set_option linter.unusedVariables false
namespace Go.Vc
open Go
end Go.Vc
namespace Go.Proofs.YtiadjkjlifnopaaGreatDoor.Tryz
open Go Go.Vc

/-- A reader of bytes that lay there in w0. -/
structure RdAt (w0 w : World) (g : Nat) (s : List UInt8 × Bool) : Prop where
  ex : ∃ A n c, Blk w g 204 [.slice A n c, .bool s.2] ∧ SliceOf Ru8 w0 (.slice A n c) s.1
  chg : Chg [] w0 w
  ge : w0.heap.size ≤ g
theorem RdAt.keep {w0 w w' : World} {g : Nat} {s : List UInt8 × Bool} {S : List Nat} (h : RdAt w0 w g s) (hc : Chg S w w') (hS : ∀ k ∈ S, w0.heap.size ≤ k) (hg : g ∉ S) : RdAt w0 w' g s :=
  let ⟨A, n, c, h1, h2⟩ := h.ex
  ⟨⟨A, n, c, h1.keep hc hg, h2⟩, h.chg.trans hc (fun k hk hlt => by have := hS k hk; omega), h.ge⟩
theorem RdAt.keep0 {w0 w w' : World} {g : Nat} {s : List UInt8 × Bool} (h : RdAt w0 w g s) (hc : Chg [] w w') : RdAt w0 w' g s := h.keep hc (fun k hk => by cases hk) (by simp)
theorem RdAt.lt {w0 w : World} {g : Nat} {s : List UInt8 × Bool} (h : RdAt w0 w g s) : g < w.heap.size := let ⟨_, _, _, h1, _⟩ := h.ex; h1.lt
theorem RdAt.own {w0 w w' : World} {g : Nat} {s : List UInt8 × Bool} (h : RdAt w0 w g s) (hc : Chg [g] w w') : Chg [] w0 w' := h.chg.trans hc (fun k hk hlt => by have := h.ge; simp at hk; omega)
end Go.Proofs.YtiadjkjlifnopaaGreatDoor.Tryz
/-! Edits: out of bytes: lists of numbers, segments. -/
set_option linter.unusedVariables false
namespace Go.Vc
open Go
end Go.Vc
namespace Go.Proofs.YtiadjkjlifnopaaGreatDoor.Tryz
open Go Go.Vc
theorem RdAt.blk {w0 w : World} {g : Nat} {s : RS} (h : RdAt w0 w g s) : ∃ cs, Blk w g 204 cs := let ⟨_, _, _, h1, _⟩ := h.ex; ⟨_, h1⟩
theorem RdAt.out {w0 w : World} {g : Nat} {s : RS} (h : RdAt w0 w g s) {t : TypeId} {k n : Nat} {v : Value} {xs : List Value} (ho : Own w t k v n xs) (hne : 204 ≠ t) : ∀ b, v.ownBlock = some b → b ∉ [g] := fun b hb hm => by
  obtain ⟨cs, hr⟩ := h.blk
  simp at hm; subst hm
  exact out_of hr ho hne (by simpa using hb)
theorem RdAt.ne {w0 w : World} {g : Nat} {s : RS} (h : RdAt w0 w g s) {t : TypeId} {k : Nat} {cs : List Value} (hb : Blk w k t cs) (hne : 204 ≠ t) : k ∉ [g] := fun hm => by
  obtain ⟨cs', hr⟩ := h.blk
  simp at hm; subst hm
  exact hr.ne_ hb hne rfl
end Go.Proofs.YtiadjkjlifnopaaGreatDoor.Tryz
/-! Edits: out of bytes. -/
set_option linter.unusedVariables false
namespace Go.Vc
open Go
end Go.Vc
namespace Go.Proofs.YtiadjkjlifnopaaGreatDoor.Tryz
open Go Go.Vc
/-- Rows of the call's own that hold a parity segment's lists. -/
structure POwn (w : World) (q : ParV) : Prop where
  nums : Own w 2 1 q.vn q.p.nums.length (q.p.nums.map (Value.int .i64))
  sizes : Own w 3 1 q.vs q.p.sizes.length (q.p.sizes.map (Value.int .i64))
  numsI : ∀ n ∈ q.p.nums, I64 n
  sizesI : ∀ n ∈ q.p.sizes, I64 n
theorem own_i64 {w : World} {t : TypeId} {v : Value} {l : List Int} (h : Own w t 1 v l.length (l.map (Value.int .i64))) (hI : ∀ n ∈ l, I64 n) : SliceOf Ri64 w v l :=
  h.reads rfl (fun i x u hx hu => by
    rw [List.getElem?_map, hx] at hu
    injection hu with hu
    exact ⟨hu.symm, (hI x (List.mem_of_getElem? hx)).1, (hI x (List.mem_of_getElem? hx)).2⟩)
theorem POwn.rd {w : World} {q : ParV} (h : POwn w q) : PRd w q := ⟨own_i64 h.nums h.numsI, own_i64 h.sizes h.sizesI⟩
theorem POwn.keep {w w' : World} {q : ParV} {S : List Nat} (h : POwn w q) (hc : Chg S w w') (h1 : ∀ b, q.vn.ownBlock = some b → b ∉ S) (h2 : ∀ b, q.vs.ownBlock = some b → b ∉ S) : POwn w' q := ⟨h.nums.keep hc h1, h.sizes.keep hc h2, h.numsI, h.sizesI⟩
theorem POwn.keep0 {w w' : World} {q : ParV} (h : POwn w q) (hc : Chg [] w w') : POwn w' q := h.keep hc (by simp) (by simp)
/-- Nothing of it lies ahead of b. -/
def PFr (b : Nat) (q : ParV) : Prop := (∀ h, q.vn.ownBlock = some h → b ≤ h) ∧ ∀ h, q.vs.ownBlock = some h → b ≤ h
/-- Rows of the call's own that hold an edit's lists. -/
structure EOwn (w : World) (x : EdV) : Prop where
  adds : Own w 26 6 x.va x.e.adds.length (x.e.adds.flatMap segL)
  dels : Own w 2 1 x.vd x.e.dels.length (x.e.dels.map (Value.int .i64))
  pars : Own w 70 5 x.vp x.Q.length (x.Q.flatMap parL)
  parsE : x.Q.map (·.p) = x.e.pars
  prd : ∀ q ∈ x.Q, POwn w q
  drops : Own w 2 1 x.vr x.e.drops.length (x.e.drops.map (Value.int .i64))
  delsI : ∀ n ∈ x.e.dels, I64 n
  dropsI : ∀ n ∈ x.e.drops, I64 n
structure EFr (b : Nat) (x : EdV) : Prop where
  adds : ∀ h, x.va.ownBlock = some h → b ≤ h
  dels : ∀ h, x.vd.ownBlock = some h → b ≤ h
  pars : ∀ h, x.vp.ownBlock = some h → b ≤ h
  prd : ∀ q ∈ x.Q, PFr b q
  drops : ∀ h, x.vr.ownBlock = some h → b ≤ h
section
variable {w w' : World} {x : EdV} {S : List Nat}
theorem EOwn.rd (h : EOwn w x) : ERd w x := ⟨h.adds.readsK segL_len, own_i64 h.dels h.delsI, h.pars.readsK parL_len, h.parsE, fun q hq => (h.prd q hq).rd, own_i64 h.drops h.dropsI⟩
theorem EOwn.keep0 (h : EOwn w x) (hc : Chg [] w w') : EOwn w' x := ⟨h.adds.keep0 hc, h.dels.keep0 hc, h.pars.keep0 hc, h.parsE, fun q hq => (h.prd q hq).keep0 hc, h.drops.keep0 hc, h.delsI, h.dropsI⟩
/-- A block of another type turns. -/
theorem EOwn.keepT (h : EOwn w x) {g : Nat} {t : TypeId} {cs : List Value} (hb : Blk w g t cs) (h1 : t ≠ 26) (h2 : t ≠ 2) (h3 : t ≠ 70) (h4 : t ≠ 3) (hc : Chg [g] w w') : EOwn w' x := by
  have hh : ∀ {t' : TypeId} {k n : Nat} {v : Value} {xs : List Value}, Own w t' k v n xs → t ≠ t' → ∀ b, v.ownBlock = some b → b ∉ [g] := fun ho hne b hb' hm => by
    simp at hm; subst hm
    exact out_of hb ho hne (by simpa using hb')
  exact ⟨h.adds.keep hc (hh h.adds h1), h.dels.keep hc (hh h.dels h2), h.pars.keep hc (hh h.pars h3), h.parsE, fun q hq => (h.prd q hq).keep hc (hh (h.prd q hq).nums h2) (hh (h.prd q hq).sizes h4), h.drops.keep hc (hh h.drops h2), h.delsI, h.dropsI⟩
end
/-- decode in its middle: the reader, the result's cell, the edit that grows. -/
structure DcAt (w w' : World) (g2 g4 g5 : Nat) (s : RS) (cs : List Value) : Prop where
  rd : RdAt w w' g4 s
  b2 : Blk w' g2 49 [.int .i64 0, .int .i64 0, .slice none 0 0, .slice none 0 0, .slice none 0 0, .slice none 0 0]
  b5 : Blk w' g5 49 cs
  ne : g2 ≠ g5
  f2 : w.heap.size ≤ g2
  f5 : w.heap.size ≤ g5
section
variable {w w' w1 : World} {g2 g4 g5 : Nat} {s s' : RS} {cs cs' : List Value}
theorem DcAt.keep0 (x : DcAt w w' g2 g4 g5 s cs) (hc : Chg [] w' w1) : DcAt w w1 g2 g4 g5 s cs := ⟨x.rd.keep0 hc, x.b2.keep0 hc, x.b5.keep0 hc, x.ne, x.f2, x.f5⟩
theorem DcAt.read (x : DcAt w w' g2 g4 g5 s cs) (hc : Chg [g4] w' w1) (hr : RdAt w w1 g4 s') : DcAt w w1 g2 g4 g5 s' cs := ⟨hr, x.b2.keep hc (x.rd.ne x.b2 (by decide)), x.b5.keep hc (x.rd.ne x.b5 (by decide)), x.ne, x.f2, x.f5⟩
theorem DcAt.keepN (x : DcAt w w' g2 g4 g5 s cs) {S : List Nat} (hc : Chg S w' w1) (h2 : g2 ∉ S) (h4 : g4 ∉ S) (h5 : g5 ∉ S) (hS : ∀ k ∈ S, w.heap.size ≤ k) : DcAt w w1 g2 g4 g5 s cs := ⟨x.rd.keep hc hS h4, x.b2.keep hc h2, x.b5.keep hc h5, x.ne, x.f2, x.f5⟩
/-- A row of the call's own turns. -/
theorem DcAt.row (x : DcAt w w' g2 g4 g5 s cs) {t : TypeId} {k n : Nat} {v : Value} {xs : List Value} (ho : Own w' t k v n xs) (hf : ∀ h, v.ownBlock = some h → w.heap.size ≤ h) (h1 : 49 ≠ t) (h2 : 204 ≠ t) (hc : Chg v.ownBlock.toList w' w1) : DcAt w w1 g2 g4 g5 s cs := by
  obtain ⟨cs', hr⟩ := x.rd.blk
  exact x.keepN hc (out_of x.b2 ho h1) (out_of hr ho h2) (out_of x.b5 ho h1) (fun k hk => hf k (by simpa using hk))
/-- The edit goes on. -/
theorem DcAt.put (x : DcAt w w' g2 g4 g5 s cs) (hc : Chg [g5] w' w1) (hb : Blk w1 g5 49 cs') : DcAt w w1 g2 g4 g5 s cs' := by
  have hne := x.ne
  obtain ⟨cs0, hr⟩ := x.rd.blk
  exact ⟨x.rd.keep hc (fun k hk => by simp at hk; subst hk; exact x.f5) (fun hm => by simp at hm; subst hm; exact hr.ne_ x.b5 (by decide) rfl), x.b2.keep hc (by simpa using hne), hb, x.ne, x.f2, x.f5⟩
end
end Go.Proofs.YtiadjkjlifnopaaGreatDoor.Tryz
/-! Edits: decode. -/
set_option linter.unusedVariables false
namespace Go.Proofs.YtiadjkjlifnopaaGreatDoor.Tryz
open Go Go.Vc
end Go.Proofs.YtiadjkjlifnopaaGreatDoor.Tryz
/-! Edits, one behind the other. -/
set_option linter.unusedVariables false
namespace Go.Vc
open Go
end Go.Vc
namespace Go.Proofs.YtiadjkjlifnopaaGreatDoor.Tryz
open Go Go.Vc
section
variable {w w' : World} {x : EdV}
theorem slice_one {t : TypeId} {k n : Nat} {v : Value} {xs : List Value} (h : Own w t k v n xs) : v.oneCell' = true := by
  obtain ⟨A, c, rfl, _, _⟩ := h.form; rfl
theorem EOwn.one (h : EOwn w x) : ∀ u ∈ edL x, u.oneCell' = true := by
  intro u hu
  simp only [edL, List.mem_cons, List.not_mem_nil, or_false] at hu
  rcases hu with rfl | rfl | rfl | rfl | rfl | rfl
  · rfl
  · rfl
  · exact slice_one h.adds
  · exact slice_one h.dels
  · exact slice_one h.pars
  · exact slice_one h.drops
theorem EFr.le {b b' : Nat} (h : EFr b x) (hb : b' ≤ b) : EFr b' x := ⟨fun k hk => Nat.le_trans hb (h.adds k hk), fun k hk => Nat.le_trans hb (h.dels k hk), fun k hk => Nat.le_trans hb (h.pars k hk), fun q hq => ⟨fun k hk => Nat.le_trans hb ((h.prd q hq).1 k hk), fun k hk => Nat.le_trans hb ((h.prd q hq).2 k hk)⟩, fun k hk => Nat.le_trans hb (h.drops k hk)⟩
end
/-- A row of edits of the call's own. -/
structure EsOwn (w0 w : World) (u : Value) (E : List EdV) : Prop where
  own : Own w 49 6 u E.length (E.flatMap edL)
  each : ∀ x ∈ E, EOwn w x ∧ EdI x.e ∧ EFr w0.heap.size x
  fresh : ∀ h, u.ownBlock = some h → w0.heap.size ≤ h
theorem EsOwn.keep0 {w0 w w' : World} {u : Value} {E : List EdV} (h : EsOwn w0 w u E) (hc : Chg [] w w') : EsOwn w0 w' u E := ⟨h.own.keep0 hc, fun x hx => ⟨(h.each x hx).1.keep0 hc, (h.each x hx).2⟩, h.fresh⟩
theorem EsOwn.le {w0 w1 w : World} {u : Value} {E : List EdV} (h : EsOwn w1 w u E) (hs : w0.heap.size ≤ w1.heap.size) : EsOwn w0 w u E := ⟨h.own, fun x hx => ⟨(h.each x hx).1, (h.each x hx).2.1, (h.each x hx).2.2.le hs⟩, fun k hk => Nat.le_trans hs (h.fresh k hk)⟩
end Go.Proofs.YtiadjkjlifnopaaGreatDoor.Tryz
/-! Ways that meet again, in a walk by evaluation. -/
set_option linter.unusedVariables false
namespace Go.Vc
open Go
section
variable {P : Program} {N : Nat} {Q : Post} {e : Env} {w : World}
/-- The ways through a piece of code (an if) meet behind it. -/
theorem meetC {σ : Type} (E : σ → Env) (M : σ → World → Prop) {c : Code} {ks : List Fr} (h : Run P N (Meet E M (PostOf P N Q ks)) (.code c []) e w) (hk : ∀ s w, M s w → Run P N Q (.out .normal ks) (E s) w) : Run P N Q (.code c ks) e w := W_meet E M h hk
theorem meetN {σ : Type} {E : σ → Env} {M : σ → World → Prop} (s : σ) (hs : SubL e (E s)) (hm : M s w) : Run P N (Meet E M Q) (.out .normal []) e w := Meet_n s hs hm
end
end Go.Vc
/-! Scrub: Groups. -/
set_option linter.unusedVariables false
namespace Go.Vc
open Go
section
variable {P : Program} {N : Nat} {e : Env} {w : World} {o : Oper} {K : Value → World → Prop}
theorem add_zero0 (ad : Addr) : ad.add 0 = ad := by
  cases ad with
  | mk b o c => unfold Addr.add; cases c <;> simp
/-- The front of a row, with a room of its own. -/
theorem op_slice3c (T : Types P) {x y z : Operand} {t el : TypeId} {A : Option Addr} {n c : Nat} {j : TInfo} {h' m : Nat} {k k' : IntKind}
    (hop : o.op = .slice t x none (some y) (some z)) (hx : ev e x = some (.slice A n c)) (ht : T.d t = some (.slice el)) (hel : T.tbl el = some j)
    (hy : ev e y = some (.int k (h' : Int))) (hz : ev e z = some (.int k' (m : Int))) (h0 : h' ≤ m) (h1 : m ≤ c) (h : K (.slice A h' m) w) : OpW P N o e w K := by
  obtain ⟨q, hq, _, hs, _⟩ := T.inf el j hel
  have hA : A.map (fun a => a.add (0 * j.size)) = A := by
    cases A with
    | none => rfl
    | some a => rw [Option.map_some, Nat.zero_mul, add_zero0]
  have hA0 : A.map (fun a => a.add 0) = A := by
    cases A with
    | none => rfl
    | some a => rw [Option.map_some, add_zero0]
  refine OpW_run (fun a ha => ?_) h
  simp [execOp, hop, ha.ev hx, ha.ev hy, ha.ev hz, Instr.sliceAt, Instr.slice, Instr.sliceBounds, Instr.sliceBound, asIntOf, run_underlying (T.und' ht), sizeOf, typeInfo, hq, h0, h1, hA0]
end
theorem SliceOf.room {α : Type} {R : World → Value → α → Prop} {w : World} {L : List α} {A : Option Addr} {n c c' : Nat} (h : SliceOf R w (.slice A n c) L) (h1 : L.length ≤ c') (h2 : c' ≤ c) : SliceOf R w (.slice A n c') L := by
  obtain ⟨hn, h3, h4⟩ := h.len
  exact SliceOf.mk hn h1 (by omega) fun i x hx => h.get hx
def freeN (L : List SegM) : List Int := (L.filter fun s => s.sealed && decide (s.group = 0)).map (·.num)
def chunk3 : List Int → List (List Int)
  | a :: b :: c :: l => [a, b, c] :: chunk3 l
  | _ => []
def groupsM (L : List SegM) : List (List Int) := chunk3 (sortI (freeN L))
theorem chunk3_step {l : List Int} (h : 3 ≤ l.length) : chunk3 l = l.take 3 :: chunk3 (l.drop 3) := by
  match l, h with
  | a :: b :: c :: l, _ => rfl
theorem chunk3_end {l : List Int} (h : ¬ 3 ≤ l.length) : chunk3 l = [] := by
  match l, h with
  | [], _ => rfl
  | [a], _ => rfl
  | [a, b], _ => rfl
  | a :: b :: c :: l, h => simp at h
theorem chunk3_len : ∀ (n : Nat) (l : List Int), l.length ≤ n → 3 * (chunk3 l).length ≤ l.length
  | 0, l, h => by
    obtain rfl : l = [] := List.eq_nil_of_length_eq_zero (by omega)
    simp [chunk3]
  | n + 1, l, h => by
    by_cases h3 : 3 ≤ l.length
    · rw [chunk3_step h3, List.length_cons]
      have := chunk3_len n (l.drop 3) (by rw [List.length_drop]; omega)
      rw [List.length_drop] at this
      omega
    · rw [chunk3_end h3]; simp
end Go.Vc
namespace Go.Proofs.YtiadjkjlifnopaaGreatDoor.Tryz
open Go Go.Vc
set_option maxHeartbeats 4000000 in
theorem groups_has (A : Option Addr) (n c : Nat) (L : List SegM) (w : World) (hs : SliceK 6 (RdL segL) w (.slice A n c) L) (hb : L.length ≤ 1000) (hnum : ∀ s ∈ L, -9223372036854775808 ≤ s.num ∧ s.num ≤ 9223372036854775807) :
    Has Go.Proofs.Tryz.prog 11 #[.slice A n c] w (fun v w' => Chg [] w w' ∧ OwnOf (SliceOf Ri64) 27 (List.range w.heap.size) w' v (groupsM L) ∧ ∀ h, v.ownBlock = some h → w.heap.size ≤ h) := by
  obtain ⟨rfl, hl1, hl2⟩ := hs.len
  unfold maxLen at hl2
  refine enter Go.Proofs.Tryz.func11 rfl rfl (by decide) rfl (e := [(0, .slice A L.length c)]) ⟨rfl, trivial⟩ ?_
  refine run ?_
  refine go T 19 rfl ?_
  refine W_loop (σ := Nat × Value) (fun t => [(0, .slice A L.length c), (3, t.2), (7, .slice A L.length c), (8, .int .i64 L.length), (9, .int .i64 t.1)])
    (fun t w' => t.1 ≤ L.length ∧ Chg [] w w' ∧ Own w' 2 1 t.2 (freeN (L.take t.1)).length ((freeN (L.take t.1)).map i64V) ∧ ∀ h, t.2.ownBlock = some h → w.heap.size ≤ h)
    (fun t => L.length - t.1) (0, .slice none 0 0) ⟨rfl, rfl, rfl, rfl, rfl, trivial⟩ ⟨Nat.zero_le _, Chg.refl _ _, Own.nil _ _ _, fun h hh => by simp [Value.ownBlock] at hh⟩ ?_
  rintro ⟨i, u⟩ w1 ⟨hi, hc1, ho, hf⟩
  dsimp only at hi ho hf ⊢
  refine run ?_
  refine go T 2 rfl ?_
  refine ltS rfl rfl rfl rfl (fun hcmp => ?_) (fun hcmp => ?_)
  · have hlt : i < L.length := by omega
    have hx := List.getElem?_eq_getElem hlt
    obtain ⟨ad, rfl, he⟩ := (hs.keepR hc1).at hx
    have hfl : (freeN (L.take i)).length ≤ 1000 := by
      unfold freeN
      rw [List.length_map]
      have := List.length_filter_le (fun s : SegM => s.sealed && decide (s.group = 0)) (L.take i)
      rw [List.length_take] at this
      omega
    have hnx : freeN (L.take (i + 1)) = freeN (L.take i) ++ if (L[i].sealed && decide (L[i].group = 0)) = true then [L[i].num] else [] := by
      unfold freeN
      rw [List.take_add_one, hx, List.filter_append, List.map_append]
      congr 1
      simp only [Option.toList, List.filter_cons, List.filter_nil]
      split <;> rfl
    generalize L[i] = y at *
    refine go T 10 rfl ?_
    refine o1 rfl (op_indexK T rfl rfl rfl rfl rfl (by omega) ?_)
    refine o1 rfl (op_loadE T he rfl rfl rfl rfl rfl ?_)
    refine o1 rfl ?_
    refine op_alloc T rfl rfl (fun g5 w2 hs2 hc2 hg5 => ?_)
    have hs2 : w1.heap.size ≤ g5 := hs2
    refine op0 rfl rfl ?_
    refine op_store_agg T rfl rfl rfl rfl rfl rfl hg5 (by exact Nat.le_of_ble_eq_true rfl) (fun w3 hc3 hg5n _ => ?_)
    replace hg5 : Blk w3 g5 26 (segL y) := hg5n
    unfold segL at hg5
    have hc13 : Chg [] w1 w3 := hc2.trans hc3 (fun k hk hlt => by simp at hk; omega)
    have ho3 := ho.keep0 hc13
    have hc03 := hc1.trans' hc13
    have hz3 := hc03.size
    clear hg5n he
    refine go T 2 rfl ?_
    refine meetC (σ := Value) (fun u' => [(0, .slice (some ad) L.length c), (3, u'), (7, .slice (some ad) L.length c), (8, .int .i64 L.length), (9, .int .i64 i)])
      (fun u' w' => Chg [] w w' ∧ Own w' 2 1 u' (freeN (L.take (i + 1))).length ((freeN (L.take (i + 1))).map i64V) ∧ ∀ h, u'.ownBlock = some h → w.heap.size ≤ h) ?_ ?_
    · have hout : ∀ b : Bool, (y.sealed && decide (y.group = 0)) = b → b = true ∨ freeN (L.take (i + 1)) = freeN (L.take i) := fun b hb => by
        cases b with
        | true => exact .inl rfl
        | false => refine .inr ?_; rw [hnx, hb]; simp
      cases hsl : y.sealed with
      | false =>
        rw [hsl] at hg5
        have := (hout false (by rw [hsl]; rfl)).resolve_left (by simp)
        rw [this]
        refine go T 3 rfl ?_
        refine ldB T hg5 rfl rfl rfl rfl rfl rfl ?_
        refine go T 9 rfl ?_
        exact meetN u ⟨rfl, rfl, rfl, rfl, rfl, trivial⟩ ⟨hc03, ho3, hf⟩
      | true =>
        rw [hsl] at hg5
        by_cases hgr : y.group = 0
        · have hnx2 : freeN (L.take (i + 1)) = freeN (L.take i) ++ [y.num] := by rw [hnx, hsl, hgr]; simp
          rw [hnx2]
          refine go T 3 rfl ?_
          refine ldB T hg5 rfl rfl rfl rfl rfl rfl ?_
          refine go T 2 rfl ?_
          refine ldB T hg5 rfl rfl rfl rfl rfl rfl ?_
          refine eqT rfl rfl rfl rfl (by omega) ?_
          refine go T 7 rfl ?_
          refine ldB T hg5 rfl rfl rfl rfl rfl rfl ?_
          refine o1 rfl ?_
          refine op_buildSlice T rfl rfl rfl rfl rfl rfl rfl (fun g7 w4 hs4 hc4 hg7 => ?_)
          have hg7 : Blk w4 g7 2 [i64V y.num] := hg7
          refine o1 rfl ?_
          refine op_append1 T (f := i64V) rfl rfl rfl rfl rfl rfl rfl rfl rfl (ho3.keep0 hc4) hg7 rfl (by omega) (fun v w5 hu5 hc5 hb5 => ?_)
          refine go T 2 rfl ?_
          refine meetN v ⟨rfl, rfl, rfl, rfl, rfl, trivial⟩ ⟨(hc03.trans' hc4).trans hc5 (fun k hk hlt => by have := hf k (by simpa using hk); omega), hu5, fun h hh => ?_⟩
          rcases hb5 with h1 | ⟨h2, h3, h4⟩
          · exact hf h (by rw [← h1]; exact hh)
          · rw [h3] at hh; injection hh with hh; have := hc4.size; omega
        · have := (hout false (by rw [hsl]; simp [hgr])).resolve_left (by simp)
          rw [this]
          refine go T 3 rfl ?_
          refine ldB T hg5 rfl rfl rfl rfl rfl rfl ?_
          refine go T 2 rfl ?_
          refine ldB T hg5 rfl rfl rfl rfl rfl rfl ?_
          refine eqF rfl rfl rfl rfl (by omega) ?_
          refine go T 5 rfl ?_
          exact meetN u ⟨rfl, rfl, rfl, rfl, rfl, trivial⟩ ⟨hc03, ho3, hf⟩
    rintro u' w4 ⟨hc4, ho4, hf4⟩
    refine go T 3 rfl ?_
    refine adI rfl rfl rfl rfl (by omega) (by omega) ?_
    refine go T 2 rfl ?_
    exact Round_n (i + 1, u') ⟨rfl, rfl, rfl, rfl, rfl, trivial⟩ ⟨by dsimp only; omega, hc4, ho4, hf4⟩ (by dsimp only; omega)
  obtain rfl : i = L.length := by omega
  rw [List.take_length] at ho
  have hfl : (freeN L).length ≤ L.length := by
    unfold freeN
    rw [List.length_map]
    exact List.length_filter_le _ _
  obtain ⟨Au, cu, rfl, _, _⟩ := ho.form
  refine go T 6 rfl ?_
  refine rndX ?_
  refine go T 5 rfl ?_
  refine o1 rfl ?_
  refine op_call rfl rfl rfl (sortI_has _ (freeN L) w1 ho (by omega)) ?_
  rintro _ w2 ⟨rfl, hc2, ho2⟩
  have hc02 : Chg [] w w2 := hc1.trans hc2 (fun k hk hlt => by have := hf k (by simpa using hk); omega)
  have hsl : (sortI (freeN L)).length = (freeN L).length := List.length_mergeSort _
  have hmem : ∀ x ∈ sortI (freeN L), -9223372036854775808 ≤ x ∧ x ≤ 9223372036854775807 := fun x hx => by
    unfold sortI at hx
    rw [List.mem_mergeSort] at hx
    unfold freeN at hx
    obtain ⟨s, hs1, rfl⟩ := List.mem_map.1 hx
    exact hnum s (List.mem_filter.1 hs1).1
  unfold groupsM
  rw [← hsl] at ho2 hf hfl hc2 ⊢
  generalize sortI (freeN L) = ns at *
  clear hsl
  have hrow : ∀ (S : List Nat) (w3 : World), Chg S w2 w3 → (∀ k, (Value.slice Au ns.length cu).ownBlock = some k → k ∉ S) → SliceOf Ri64 w3 (.slice Au ns.length cu) ns := fun S w3 hc hS => by
    refine (ho2.keep hc hS).reads rfl (fun i x u hx hu => ?_)
    rw [List.getElem?_map, hx] at hu
    injection hu with hu
    exact ⟨hu.symm, hmem x (List.mem_of_getElem? hx)⟩
  have hlen3 := (hrow [] w2 (Chg.refl _ _) (fun k _ => by simp)).len
  obtain ⟨_, hcu, hmx⟩ := hlen3
  unfold maxLen at hmx
  have h02 : w.heap.size ≤ w2.heap.size := hc02.size
  refine go T 9 rfl ?_
  refine W_loop (σ := List Int × List (List Int) × Option Addr × Nat × Value) (fun t => [(3, .slice t.2.2.1 t.1.length t.2.2.2.1), (6, t.2.2.2.2)])
    (fun t w' => chunk3 ns = t.2.1 ++ chunk3 t.1 ∧ t.1.length + 3 * t.2.1.length ≤ ns.length ∧ t.1.length ≤ t.2.2.2.1 ∧ t.2.2.2.1 ≤ cu ∧ Chg [] w2 w' ∧
      (∀ (S : List Nat) (w3 : World), Chg S w2 w3 → (∀ k, (Value.slice Au ns.length cu).ownBlock = some k → k ∉ S) → SliceOf Ri64 w3 (.slice t.2.2.1 t.1.length t.2.2.2.1) t.1) ∧
      OwnOf (SliceOf Ri64) 27 (List.range w.heap.size) w' t.2.2.2.2 t.2.1 ∧ ∀ h, t.2.2.2.2.ownBlock = some h → w2.heap.size ≤ h)
    (fun t => t.1.length) (ns, [], Au, cu, .slice none 0 0) ⟨rfl, rfl, trivial⟩ ⟨rfl, by simp, hcu, Nat.le_refl _, Chg.refl _ _, hrow, OwnOf.nil _ _ _ _, fun h hh => by simp [Value.ownBlock] at hh⟩ ?_
  rintro ⟨ms, gs, Am, cm, vl⟩ w3 ⟨hch, hln, hmc, hmu, hc3, hread, hown, hfl2⟩
  dsimp only at hch hln hmc hmu hread hown hfl2 ⊢
  have hmsl : ms.length ≤ 1000 := by omega
  refine run ?_
  refine go T 5 rfl ?_
  refine geS rfl rfl rfl rfl (fun hcmp => ?_) (fun hcmp => ?_)
  · have h3 : 3 ≤ ms.length := by omega
    have hstep := chunk3_step h3
    refine go T 10 rfl ?_
    refine o1 rfl ?_
    refine op_slice3c T (h' := 3) (m := 3) (k := .i64) (k' := .i64) rfl rfl rfl rfl rfl rfl (by omega) (by omega) ?_
    refine o1 rfl ?_
    refine op_buildSlice T rfl rfl rfl rfl rfl rfl rfl (fun g7 w4 hs4 hc4 hg7 => ?_)
    have hg7 : Blk w4 g7 27 [.slice Am 3 3] := hg7
    have hc24 := hc3.trans' hc4
    refine o1 rfl ?_
    have hub : ∀ k, (Value.slice Au ns.length cu).ownBlock = some k → k ∉ vl.ownBlock.toList := fun k hk hm => by
      have h1 := hfl2 k (by simpa using hm)
      have h2 := ho2.lt hk
      omega
    have hown4 := hown.keep0 hc4
    refine op_push T (xa := ms.take 3) rfl rfl rfl rfl rfl rfl rfl rfl hown4 hg7 rfl (fun w5 hw5 => ?_) (by omega) rfl (fun v5 w5 ho5 hc5 hb5 => ?_)
    · have hr := hread (vl.ownBlock.toList ++ List.range w.heap.size) w5 ((hc24.mono (fun k hk _ => by cases hk)).trans hw5 (fun k hk _ => hk)) (fun k hk hm => by
        rcases List.mem_append.1 hm with h | h
        · exact hub k hk h
        · have := List.mem_range.1 h
          have := hf k hk
          omega)
      have h4 := hr.take (k := 3) (m := 3) (by omega)
      exact SliceOf.room h4 (by rw [List.length_take]; omega) (by omega)
    refine go T 5 rfl ?_
    refine o1 rfl ?_
    refine op_slice (l := 3) (h' := ms.length) T rfl rfl rfl rfl ⟨_, rfl⟩ rfl (by omega) (by omega) ?_
    have hdl : ms.length - 3 = (ms.drop 3).length := by rw [List.length_drop]
    rw [hdl]
    refine go T 3 rfl ?_
    refine Round_n (ms.drop 3, gs ++ [ms.take 3], (if cm = 3 then Am else Am.map (·.add (3 * 1))), cm - 3, v5) ⟨rfl, rfl, trivial⟩ ⟨?_, ?_, ?_, ?_, hc24.trans hc5 (fun k hk hlt => by have := hfl2 k (by simpa using hk); omega), fun S w6 h6 hS => ?_, ho5, fun h hh => ?_⟩ (by dsimp only; rw [List.length_drop]; omega)
    · rw [hch, hstep, List.append_assoc]; rfl
    · dsimp only
      rw [List.length_drop, List.length_append, List.length_singleton]; omega
    · dsimp only
      rw [List.length_drop]; omega
    · dsimp only; omega
    · have h7 := (hread S w6 h6 hS).cut (l := 3) (k := ms.length) (by omega) (Nat.le_refl _)
      rw [List.take_length] at h7
      rw [← hdl]
      exact h7
    · rcases hb5 with h1 | ⟨h2, h3, h4⟩
      · exact hfl2 h (by rw [← h1]; exact hh)
      · rw [h3] at hh; injection hh with hh; have := hc24.size; omega
  · rw [hch, chunk3_end (by omega), List.append_nil]
    refine go T 5 rfl ?_
    refine rndX ?_
    refine go T 9 rfl ?_
    exact post1 (.inl rfl) rfl rfl ⟨hc02.trans' hc3, hown, fun h hh => by have := hfl2 h hh; omega⟩
end Go.Proofs.YtiadjkjlifnopaaGreatDoor.Tryz
/-! Walks of package parity: Make, its row of the call's own. -/
set_option linter.unusedVariables false
namespace Go.Proofs.YtiadjkjlifnopaaGreatDoor.Tryz
open Go Go.Vc

/-! ### Plain -/
/-- Exclusive-or of l into cs, as far as both go. -/
def xorInto (cs l : List UInt8) : List UInt8 := cs.mapIdx fun i c => c ^^^ (l[i]?.getD 0)
theorem xorInto_length (cs l : List UInt8) : (xorInto cs l).length = cs.length := by simp [xorInto]
theorem xorInto_get (cs l : List UInt8) (i : Nat) : (xorInto cs l)[i]? = cs[i]?.map (· ^^^ (l[i]?.getD 0)) := by simp [xorInto]
theorem xorInto_nil (cs : List UInt8) : xorInto cs [] = cs := by
  apply List.ext_getElem?
  intro i; rw [xorInto_get]; cases cs[i]? <;> simp
theorem xorInto_step (cs l : List UInt8) (k : Nat) (hk : k < cs.length) (hl : k < l.length) :
    xorInto cs (l.take (k + 1)) = (xorInto cs (l.take k)).set k (cs[k] ^^^ l[k]) := by
  apply List.ext_getElem?
  intro i
  rw [xorInto_get, List.getElem?_set]
  by_cases h : k = i
  · subst h; simp [xorInto_length, hk, hl]
  · rw [if_neg h, xorInto_get, List.getElem?_take, List.getElem?_take]
    by_cases h2 : i < k
    · rw [if_pos h2, if_pos (by omega)]
    · rw [if_neg h2, if_neg (by omega)]
theorem xorInto_stay (cs l : List UInt8) (k : Nat) (hk : cs.length ≤ k) : xorInto cs (l.take (k + 1)) = xorInto cs (l.take k) := by
  apply List.ext_getElem?
  intro i
  rw [xorInto_get, xorInto_get]
  by_cases h : i < cs.length
  · rw [List.getElem?_take, List.getElem?_take, if_pos (by omega), if_pos (by omega)]
  · have : cs[i]? = none := List.getElem?_eq_none (by omega)
    rw [this]; rfl

/-- The greatest length. -/
def maxOf (L : List (List UInt8)) : Nat := L.foldl (fun n b => max n b.length) 0
theorem maxOf_snoc (L : List (List UInt8)) (b : List UInt8) : maxOf (L ++ [b]) = max (maxOf L) b.length := by simp [maxOf, List.foldl_append]
theorem maxOf_take (L : List (List UInt8)) (k : Nat) (h : k < L.length) : maxOf (L.take (k + 1)) = max (maxOf (L.take k)) L[k].length := by
  rw [List.take_succ_eq_append_getElem h, maxOf_snoc]
theorem maxOf_le (L : List (List UInt8)) (m : Nat) (h : ∀ r ∈ L, r.length ≤ m) : maxOf L ≤ m := by
  have : ∀ (L : List (List UInt8)) (n : Nat), n ≤ m → (∀ r ∈ L, r.length ≤ m) → L.foldl (fun n b => max n b.length) n ≤ m := by
    intro L
    induction L with
    | nil => intro n hn _; exact hn
    | cons b L ih => intro n hn h; exact ih (max n b.length) (by have := h b (by simp); omega) (fun r hr => h r (by simp [hr]))
  exact this L 0 (Nat.zero_le _) h
/-- Parity. -/
def parity (L : List (List UInt8)) : List UInt8 := L.foldl xorInto (List.replicate (maxOf L) 0)
theorem foldl_xor_length (L : List (List UInt8)) : ∀ cs : List UInt8, (L.foldl xorInto cs).length = cs.length := by
  induction L with
  | nil => intro cs; rfl
  | cons b L ih => intro cs; rw [List.foldl_cons, ih, xorInto_length]
theorem parity_length (L : List (List UInt8)) : (parity L).length = maxOf L := by rw [parity, foldl_xor_length, List.length_replicate]
theorem made_one (v : Value) (n : Nat) : (madeCells #[v] n).toList = List.replicate n v := by
  apply List.ext_getElem?
  intro i
  by_cases h : i < n
  · simp [madeCells, h, Nat.mod_one]
  · simp [madeCells, h]

/-! ### Walks -/
theorem into_blk (g n cp : Nat) (cs l : List UInt8) (rest : List Value) (B : Option Addr) (nb cb : Nat) (w : World) (hn : n = cs.length)
    (hg : Blk w g 5 (u8s cs ++ rest)) (hb : Firm [g] w (fun w => SliceOf Ru8 w (.slice B nb cb) l)) (hm : n ≤ maxLen) :
    Has Go.Proofs.Tryz.prog 128 #[.slice (some ⟨g, 0, none⟩) n cp, .slice B nb cb] w (fun v w' => v = .tuple #[] ∧ Chg [g] w w' ∧ Blk w' g 5 (u8s (xorInto cs l) ++ rest)) := by
  obtain ⟨rfl, hl1, hl2⟩ := hb.now.len
  unfold maxLen at hm hl2
  refine enter Go.Proofs.Tryz.func128 rfl rfl (by decide) rfl (e := [(0, .slice (some ⟨g, 0, none⟩) n cp), (1, .slice B l.length cb)]) ⟨rfl, rfl, trivial⟩ ?_
  repeat (first | refine W_seq ?_ | refine W_block ?_ | refine W_region ?_ | refine Then_n ?_ | refine WL_nil ?_ | refine WL_some rfl rfl rfl ?_ | refine op_move rfl rfl ?_ | refine op_len_slice T rfl rfl rfl rfl ?_)
  refine W_loop (σ := Nat) (fun k => [(0, .slice (some ⟨g, 0, none⟩) n cp), (6, .slice B l.length cb), (7, .int .i64 l.length), (8, .int .i64 k)])
    (fun k w' => k ≤ l.length ∧ Chg [g] w w' ∧ Blk w' g 5 (u8s (xorInto cs (l.take k)) ++ rest)) (fun k => l.length - k) 0 ⟨rfl, rfl, rfl, rfl, trivial⟩ ⟨by omega, Chg.refl _ _, by rw [List.take_zero, xorInto_nil]; exact hg⟩ ?_
  rintro k w1 ⟨hk, hc1, hg1⟩
  repeat (first | refine W_seq ?_ | refine W_region ?_ | refine WL_some rfl rfl rfl ?_)
  (refine op_lss rfl rfl rfl (fun hc => ?_) (fun hc => ?_))
  · have hlt : k < l.length := by omega
    obtain ⟨ad, u, rfl, hu, rfl⟩ := (hb w1 hc1).get (i := k) (x := l[k]) (List.getElem?_eq_getElem hlt)
    repeat (first | refine W_seq ?_ | refine W_block ?_ | refine W_region ?_ | refine W_skip ?_ | refine Then_n ?_ | refine WL_nil ?_ | refine W_condT rfl ?_ | refine WL_some rfl rfl rfl ?_ | refine op_move rfl rfl ?_ | refine op_assign rfl rfl ?_ | refine op_len_slice T rfl rfl rfl rfl ?_ | refine op_index_nat T rfl rfl rfl rfl rfl rfl (by omega) ?_ | refine op_load T rfl rfl rfl rfl (by assumption) ?_)
    (refine op_lss rfl rfl rfl (fun hc => ?_) (fun hc => ?_))
    · have hkc : k < cs.length := by omega
      have hgk : (u8s (xorInto cs (l.take k)) ++ rest)[k]? = some (.int .u8 ((cs[k] : UInt8).toNat : Int)) := by
        rw [List.getElem?_append_left (by rw [u8s_length, xorInto_length]; exact hkc)]
        refine u8s_get ?_
        rw [xorInto_get, List.getElem?_eq_getElem hkc, List.getElem?_take_eq_none (Nat.le_refl k)]; simp
      have hu2 := hg1.cell hgk
      repeat (first | refine W_region ?_ | refine Then_n ?_ | refine WL_nil ?_ | refine W_condT rfl ?_ | refine WL_some rfl rfl rfl ?_ | refine op_move rfl rfl ?_ | refine op_index_own T rfl rfl rfl rfl rfl rfl (by omega) ?_ | refine op_load T rfl rfl rfl rfl (by assumption) ?_)
      refine op_xor_u8 rfl rfl rfl ?_
      repeat (first | refine WL_some rfl rfl rfl ?_ | refine WL_none rfl rfl ?_ | refine op_index_own T rfl rfl rfl rfl rfl rfl (by omega) ?_)
      refine op_store T rfl rfl rfl rfl rfl rfl hg1 (by rw [List.length_append, u8s_length, xorInto_length]; omega) (fun w2 hc2 hg2 _ => ?_)
      repeat (first | refine W_region ?_ | refine Then_n ?_ | refine InBlock_n ?_ | refine WL_nil ?_ | refine WL_some rfl rfl rfl ?_ | refine op_move rfl rfl ?_ | refine op_add rfl rfl rfl (wrap_i64_in (by omega) (by omega)) ?_)
      refine Round_n (k + 1) ⟨rfl, rfl, rfl, rfl, trivial⟩ ⟨by omega, hc1.trans hc2 (fun _ h _ => h), ?_⟩ (by omega)
      rw [xorInto_step _ _ _ hkc hlt, ← u8s_set]
      rw [List.set_append_left _ _ (by rw [u8s_length, xorInto_length]; exact hkc)] at hg2
      exact hg2
    · repeat (first | refine W_region ?_ | refine W_skip ?_ | refine Then_n ?_ | refine InBlock_n ?_ | refine WL_nil ?_ | refine W_condF rfl ?_ | refine WL_some rfl rfl rfl ?_ | refine op_move rfl rfl ?_ | refine op_add rfl rfl rfl (wrap_i64_in (by omega) (by omega)) ?_)
      refine Round_n (k + 1) ⟨rfl, rfl, rfl, rfl, trivial⟩ ⟨by omega, hc1, ?_⟩ (by omega)
      rw [xorInto_stay _ _ _ (by omega)]; exact hg1
  · repeat (first | refine W_seq ?_ | refine W_exit ?_ | refine Then_n ?_ | refine Then_x ?_ | refine InBlock_hit ?_ | refine Round_x ?_ | refine WL_nil ?_ | refine W_condF rfl ?_)
    refine post0 (.inr rfl) rfl ⟨rfl, hc1, ?_⟩
    rw [List.take_of_length_le (by omega)] at hg1
    exact hg1

theorem into_has (v : Value) (n : Nat) (cs l : List UInt8) (B : Option Addr) (nb cb : Nat) (w : World) (hown : Own w 5 1 v n (u8s cs))
    (hb : Firm v.ownBlock.toList w (fun w => SliceOf Ru8 w (.slice B nb cb) l)) :
    Has Go.Proofs.Tryz.prog 128 #[v, .slice B nb cb] w (fun r w' => r = .tuple #[] ∧ Chg v.ownBlock.toList w w' ∧ Own w' 5 1 v n (u8s (xorInto cs l))) := by
  have hlen : cs.length = n := by have := hown.length; rw [u8s_length] at this; omega
  rcases hown.cases with ⟨rfl, rfl, hx⟩ | ⟨g, cap, cur, rfl, hn, hm, hg, hcl, hct⟩
  · have hcs : cs = [] := List.eq_nil_of_length_eq_zero hlen
    subst hcs
    obtain ⟨rfl, hl1, hl2⟩ := hb.now.len
    unfold maxLen at hl2
    refine enter Go.Proofs.Tryz.func128 rfl rfl (by decide) rfl (e := [(0, .slice none 0 0), (1, .slice B l.length cb)]) ⟨rfl, rfl, trivial⟩ ?_
    repeat (first | refine W_seq ?_ | refine W_block ?_ | refine W_region ?_ | refine Then_n ?_ | refine WL_nil ?_ | refine WL_some rfl rfl rfl ?_ | refine op_move rfl rfl ?_ | refine op_len_slice T rfl rfl rfl rfl ?_)
    refine W_loop (σ := Nat) (fun k => [(0, .slice none 0 0), (6, .slice B l.length cb), (7, .int .i64 l.length), (8, .int .i64 k)])
      (fun k w' => k ≤ l.length ∧ w' = w) (fun k => l.length - k) 0 ⟨rfl, rfl, rfl, rfl, trivial⟩ ⟨by omega, rfl⟩ ?_
    rintro k w1 ⟨hk, rfl⟩
    repeat (first | refine W_seq ?_ | refine W_region ?_ | refine WL_some rfl rfl rfl ?_)
    (refine op_lss rfl rfl rfl (fun hc => ?_) (fun hc => ?_))
    · have hlt : k < l.length := by omega
      obtain ⟨ad, u, rfl, hu, rfl⟩ := hb.now.get (i := k) (x := l[k]) (List.getElem?_eq_getElem hlt)
      repeat (first | refine W_seq ?_ | refine W_block ?_ | refine W_region ?_ | refine W_skip ?_ | refine Then_n ?_ | refine InBlock_n ?_ | refine WL_nil ?_ | refine W_condT rfl ?_ | refine W_condF rfl ?_ | refine WL_some rfl rfl rfl ?_ | refine op_move rfl rfl ?_ | refine op_assign rfl rfl ?_ | refine op_len_slice T rfl rfl rfl rfl ?_ | refine op_add rfl rfl rfl (wrap_i64_in (by omega) (by omega)) ?_ | refine op_index_nat T rfl rfl rfl rfl rfl rfl (by omega) ?_ | refine op_load T rfl rfl rfl rfl (by assumption) ?_ | refine op_lss rfl rfl rfl (fun hc => False.elim (by omega)) (fun hc => ?_))
      exact Round_n (k + 1) ⟨rfl, rfl, rfl, rfl, trivial⟩ ⟨by omega, rfl⟩ (by omega)
    · repeat (first | refine W_seq ?_ | refine W_exit ?_ | refine Then_n ?_ | refine Then_x ?_ | refine InBlock_hit ?_ | refine Round_x ?_ | refine WL_nil ?_ | refine W_condF rfl ?_)
      exact post0 (.inr rfl) rfl ⟨rfl, Chg.refl _ _, hown⟩
  · simp only [Nat.mul_one] at hcl hct
    have hcur : cur = u8s cs ++ cur.drop n := by rw [← hct]; exact (List.take_append_drop n cur).symm
    rw [hcur] at hg
    refine (into_blk g n cap cs l (cur.drop n) B nb cb w hlen.symm hg hb (by omega)).mono ?_
    rintro r w' ⟨rfl, hc, hg'⟩
    refine ⟨rfl, hc, Own.mk hg' hn hm ?_ ?_⟩
    · rw [Nat.mul_one, List.length_append, u8s_length, xorInto_length, hlen, List.length_drop]; omega
    · rw [Nat.mul_one, List.take_append_of_le_length (by rw [u8s_length, xorInto_length]; omega)]
      exact List.take_of_length_le (by rw [u8s_length, xorInto_length]; omega)

theorem parMake_has (A : Option Addr) (n c : Nat) (L : List (List UInt8)) (w : World) (hl : SliceOf (SliceOf Ru8) w (.slice A n c) L) (hb : ∀ r ∈ L, r.length ≤ 1099511627776) :
    Has Go.Proofs.Tryz.prog 77 #[.slice A n c] w (fun v w' => Chg [] w w' ∧ Own w' 5 1 v (parity L).length (u8s (parity L)) ∧ ∀ h, v.ownBlock = some h → w.heap.size ≤ h) := by
  obtain ⟨rfl, hl1, hl2⟩ := hl.len
  unfold maxLen at hl2
  refine enter Go.Proofs.Tryz.func77 rfl rfl (by decide) rfl (e := [(0, .slice A L.length c)]) ⟨rfl, trivial⟩ ?_
  repeat (first | refine W_seq ?_ | refine W_region ?_ | refine Then_n ?_ | refine WL_nil ?_ | refine WL_some rfl rfl rfl ?_ | refine op_move rfl rfl ?_ | refine op_assign rfl rfl ?_ | refine op_len_slice T rfl rfl rfl rfl ?_)
  (refine op_eql rfl rfl rfl (fun hc => ?_) (fun hc => ?_))
  · have hL : L = [] := List.eq_nil_of_length_eq_zero (by omega)
    subst hL
    repeat (first | refine W_seq ?_ | refine W_region ?_ | refine W_ret ?_ | refine Then_n ?_ | refine Then_r ?_ | refine WL_nil ?_ | refine W_condT rfl ?_ | refine WL_some rfl rfl rfl ?_ | refine op_assign rfl rfl ?_)
    exact post1 (.inl rfl) rfl rfl ⟨Chg.refl _ _, Own.nil _ _ _, fun h hh => by simp [Value.ownBlock] at hh⟩
  · repeat (first | refine W_seq ?_ | refine W_block ?_ | refine W_region ?_ | refine W_skip ?_ | refine Then_n ?_ | refine WL_nil ?_ | refine W_condF rfl ?_ | refine WL_some rfl rfl rfl ?_ | refine op_move rfl rfl ?_ | refine op_assign rfl rfl ?_ | refine op_len_slice T rfl rfl rfl rfl ?_)
    refine W_loop (σ := Nat) (fun k => [(0, .slice A L.length c), (12, .slice A L.length c), (13, .int .i64 L.length), (14, .int .i64 k), (3, .int .i64 (maxOf (L.take k)))])
      (fun k w' => k ≤ L.length ∧ w' = w) (fun k => L.length - k) 0 ⟨rfl, rfl, rfl, rfl, rfl, trivial⟩ ⟨by omega, rfl⟩ ?_
    rintro k w1 ⟨hk, rfl⟩
    repeat (first | refine W_seq ?_ | refine W_region ?_ | refine WL_some rfl rfl rfl ?_)
    (refine op_lss rfl rfl rfl (fun hc => ?_) (fun hc => ?_))
    · have hlt : k < L.length := by omega
      obtain ⟨ad, u, rfl, hu, hr⟩ := hl.get (i := k) (x := L[k]) (List.getElem?_eq_getElem hlt)
      obtain ⟨B, cb, rfl, _, _⟩ := hr.form
      repeat (first | refine W_seq ?_ | refine W_block ?_ | refine W_region ?_ | refine W_skip ?_ | refine Then_n ?_ | refine InBlock_n ?_ | refine WL_nil ?_ | refine W_condT rfl ?_ | refine WL_some rfl rfl rfl ?_ | refine op_move rfl rfl ?_ | refine op_assign rfl rfl ?_ | refine op_len_slice T rfl rfl rfl rfl ?_ | refine op_add rfl rfl rfl (wrap_i64_in (by omega) (by omega)) ?_ | refine op_max rfl rfl rfl ?_ | refine op_index_nat T rfl rfl rfl rfl rfl rfl (by omega) ?_ | refine op_load T rfl rfl rfl rfl (by assumption) ?_)
      exact Round_n (k + 1) ⟨rfl, rfl, rfl, rfl, some_int (by rw [maxOf_take _ _ hlt]; omega), trivial⟩ ⟨by omega, rfl⟩ (by omega)
    · obtain rfl : k = L.length := by omega
      rw [List.take_length]
      have hmx := maxOf_le L _ hb
      repeat (first | refine W_seq ?_ | refine W_region ?_ | refine W_exit ?_ | refine Then_n ?_ | refine Then_x ?_ | refine InBlock_hit ?_ | refine Round_x ?_ | refine WL_nil ?_ | refine W_condF rfl ?_ | refine WL_some rfl rfl rfl ?_ | refine op_move rfl rfl ?_)
      refine op_make T rfl rfl rfl rfl rfl (by omega) (by omega) (by show (1 : Int) * _ ≤ _; omega) (by omega) (fun g w2 hgs hc2 hg2 => ?_)
      simp only [Int.toNat_natCast]
      have hg2' : Own w2 5 1 (.slice (some ⟨g, 0, none⟩) (maxOf L) (maxOf L)) (maxOf L) (u8s (List.replicate (maxOf L) 0)) := by
        have h1 : (madeCells (Value.int .u8 0).cells ((maxOf L : Int).toNat * 1)).toList = u8s (List.replicate (maxOf L) 0) := by
          rw [show (Value.int .u8 0).cells = #[Value.int .u8 0] from rfl, made_one]; simp [u8s]
        refine Own.mk hg2 (Nat.le_refl _) (by unfold maxLen; omega) ?_ ?_
        · refine (congrArg List.length h1).trans ?_
          rw [u8s_length, List.length_replicate, Nat.mul_one]
        · refine (congrArg (List.take _) h1).trans ?_
          exact List.take_of_length_le (by rw [u8s_length, List.length_replicate]; omega)
      clear hg2
      repeat (first | refine W_seq ?_ | refine W_block ?_ | refine W_region ?_ | refine Then_n ?_ | refine WL_nil ?_ | refine WL_some rfl rfl rfl ?_ | refine op_move rfl rfl ?_ | refine op_assign rfl rfl ?_ | refine op_len_slice T rfl rfl rfl rfl ?_)
      refine W_loop (σ := Nat) (fun k => [(0, .slice A L.length c), (6, .slice (some ⟨g, 0, none⟩) (maxOf L) (maxOf L)), (25, .slice A L.length c), (26, .int .i64 L.length), (27, .int .i64 k)])
        (fun k w' => k ≤ L.length ∧ Chg [] w1 w' ∧ Own w' 5 1 (.slice (some ⟨g, 0, none⟩) (maxOf L) (maxOf L)) (maxOf L) (u8s ((L.take k).foldl xorInto (List.replicate (maxOf L) 0)))) (fun k => L.length - k) 0 ⟨rfl, rfl, rfl, rfl, rfl, trivial⟩ ⟨by omega, hc2, hg2'⟩ ?_
      rintro k w3 ⟨hk, hc3, hg3⟩
      repeat (first | refine W_seq ?_ | refine W_region ?_ | refine WL_some rfl rfl rfl ?_)
      (refine op_lss rfl rfl rfl (fun hc => ?_) (fun hc => ?_))
      · have hlt : k < L.length := by omega
        obtain ⟨ad, u, rfl, hu, hr⟩ := hl.get (i := k) (x := L[k]) (List.getElem?_eq_getElem hlt)
        have hF : Firm [g] w3 (fun w => SliceOf Ru8 w u L[k]) := Firm.old (fun _ _ h => SliceOf.kept Ru8.kept _ _ _ _ h) hr hc3 (by simp; exact hgs)
        obtain ⟨B, cb, rfl, _, _⟩ := hr.form
        have hu3 := hc3.cell0 hu
        repeat (first | refine W_seq ?_ | refine W_block ?_ | refine W_region ?_ | refine W_skip ?_ | refine Then_n ?_ | refine WL_nil ?_ | refine W_condT rfl ?_ | refine WL_some rfl rfl rfl ?_ | refine op_move rfl rfl ?_ | refine op_assign rfl rfl ?_ | refine op_index_nat T rfl rfl rfl rfl rfl rfl (by omega) ?_ | refine op_load T rfl rfl rfl rfl (by assumption) ?_)
        refine op_call rfl rfl rfl (into_has _ _ _ L[k] B _ cb w3 hg3 hF) ?_
        rintro _ w4 ⟨rfl, hc4, hg4⟩
        repeat (first | refine W_region ?_ | refine Then_n ?_ | refine InBlock_n ?_ | refine WL_nil ?_ | refine WL_some rfl rfl rfl ?_ | refine op_move rfl rfl ?_ | refine op_add rfl rfl rfl (wrap_i64_in (by omega) (by omega)) ?_)
        refine Round_n (k + 1) ⟨rfl, rfl, rfl, rfl, rfl, trivial⟩ ⟨by omega, hc3.trans hc4 (by simp [Value.ownBlock]; omega), ?_⟩ (by omega)
        rw [List.take_succ_eq_append_getElem hlt, List.foldl_append]
        exact hg4
      · obtain rfl : k = L.length := by omega
        rw [List.take_length] at hg3
        repeat (first | refine W_seq ?_ | refine W_region ?_ | refine W_exit ?_ | refine W_ret ?_ | refine Then_n ?_ | refine Then_x ?_ | refine InBlock_hit ?_ | refine Round_x ?_ | refine WL_nil ?_ | refine W_condF rfl ?_ | refine WL_some rfl rfl rfl ?_ | refine op_move rfl rfl ?_ | refine op_assign rfl rfl ?_)
        refine post1 (.inl rfl) rfl rfl ⟨hc3, ?_, fun h hh => by simp [Value.ownBlock] at hh; omega⟩
        rw [parity_length]; exact hg3

end Go.Proofs.YtiadjkjlifnopaaGreatDoor.Tryz
/-! Manifests: the library's sort of segments by their numbers. -/
set_option linter.unusedVariables false
namespace Go.Vc
open Go Go.Sort Go.Proofs
instance : Inhabited SegM := ⟨⟨0, false, 0, 0, 0, 0⟩⟩
theorem ltSeg (x y : SegM) : ltOf (fun x y : SegM => Lib.compareInt x.num y.num) x y = decide (x.num < y.num) := by
  unfold ltOf Lib.compareInt
  by_cases h1 : x.num < y.num
  · simp [h1]
  · by_cases h2 : y.num < x.num <;> simp [h1, h2]
theorem swoSeg : SWO (ltOf fun x y : SegM => Lib.compareInt x.num y.num) where
  irrefl x := by rw [ltSeg]; simp
  trans x y z h1 h2 := by rw [ltSeg] at *; simp at *; omega
  ntrans x y z h1 h2 := by rw [ltSeg] at *; simp at *; omega
end Go.Vc
namespace Go.Proofs.YtiadjkjlifnopaaGreatDoor.Tryz
open Go Go.Vc Go.Sort Go.Proofs
set_option maxHeartbeats 1000000 in
theorem segNumC (x : SegM) (W : World) : Calls Go.Proofs.Tryz.prog 97 #[.agg (segL x).toArray] W fun e w' => e = .returned (.int .i64 x.num) ∧ ∃ q os', w' = Sort.grow (W.drewN q) os' := by
  unfold segL
  go_enter Go.Proofs.Tryz.func97, Go.Proofs.Tryz.ntmps97
  go_wp2
  go_ret
  exact ⟨rfl, 0, _, by rw [alloc_eq_grow]; rfl⟩
set_option maxHeartbeats 4000000 in
set_option maxRecDepth 100000 in
theorem closureSeg (gb : Nat) (x y : SegM) (W : World) (hW : W.cell? ⟨gb, 0, none⟩ = some (.func (.func 97) #[] #[])) : Calls Go.Proofs.Tryz.prog 143 #[.agg (segL x).toArray, .agg (segL y).toArray, .pointer (some ⟨gb, 0, none⟩)] W fun e w' => e = .returned (.int .i64 (Lib.compareInt x.num y.num)) ∧ ∃ q os', w' = Sort.grow (W.drewN q) os' := by
  have hcon := fun W' => AnyG.cmp_Compare_int Go.Proofs.Tryz.cmpA x.num y.num W'
  change ∀ W', Calls Go.Proofs.Tryz.prog 144 _ _ _ at hcon
  have hx := fun W' => segNumC x W'
  have hy := fun W' => segNumC y W'
  generalize Lib.compareInt x.num y.num = r at hcon ⊢
  have hb := World.block_lt_of_cell? _ _ hW
  unfold segL at *
  go_enter Go.Proofs.Tryz.func143, Go.Proofs.Tryz.ntmps143
  go_wp2
  have hcon2 : ∀ W', Calls Go.Proofs.Tryz.prog 144 #[.int .i64 x.num, .int .i64 y.num] W' fun e w' => e = .returned (.int .i64 r) ∧ ∃ q os', w' = Sort.grow (W'.drewN q) os' := fun W' => (hcon W').mono fun e w' ⟨h1, h2⟩ => ⟨h1, 0, #[], by rw [h2, grow_empty]; rfl⟩
  have hc1 := Chg.alloc W (.cells #[.int .i64 x.num, .bool x.sealed, .int .i64 x.group, .int .i64 x.member, .int .i64 x.size, .int .u32 (x.sum : Int)] 26)
  have hb1 := Blk.new W 26 #[.int .i64 x.num, .bool x.sealed, .int .i64 x.group, .int .i64 x.member, .int .i64 x.size, .int .u32 (x.sum : Int)]
  have hs1 : (W.alloc (.cells #[.int .i64 x.num, .bool x.sealed, .int .i64 x.group, .int .i64 x.member, .int .i64 x.size, .int .u32 (x.sum : Int)] 26)).heap.size = W.heap.size + 1 := by simp
  have hgr : ∃ os, (W.alloc (.cells #[.int .i64 x.num, .bool x.sealed, .int .i64 x.group, .int .i64 x.member, .int .i64 x.size, .int .u32 (x.sum : Int)] 26)) = Sort.grow (W.drewN 0) os := ⟨_, by rw [alloc_eq_grow]; rfl⟩
  generalize (W.alloc (.cells #[.int .i64 x.num, .bool x.sealed, .int .i64 x.group, .int .i64 x.member, .int .i64 x.size, .int .u32 (x.sum : Int)] 26)) = W1 at *
  have hc2 := Chg.alloc W1 (.cells #[.int .i64 y.num, .bool y.sealed, .int .i64 y.group, .int .i64 y.member, .int .i64 y.size, .int .u32 (y.sum : Int)] 26)
  have hb2 := Blk.new W1 26 #[.int .i64 y.num, .bool y.sealed, .int .i64 y.group, .int .i64 y.member, .int .i64 y.size, .int .u32 (y.sum : Int)]
  rw [hs1] at hb2
  replace hb1 := hb1.keep0 hc2
  replace hW := (hc1.trans' hc2).cell0 hW
  have hgr2 : ∃ os, (W1.alloc (.cells #[.int .i64 y.num, .bool y.sealed, .int .i64 y.group, .int .i64 y.member, .int .i64 y.size, .int .u32 (y.sum : Int)] 26)) = Sort.grow (W.drewN 0) os := by
    obtain ⟨os, e⟩ := hgr
    exact ⟨_, by rw [e, alloc_eq_grow, grow_grow]⟩
  generalize (W1.alloc (.cells #[.int .i64 y.num, .bool y.sealed, .int .i64 y.group, .int .i64 y.member, .int .i64 y.size, .int .u32 (y.sum : Int)] 26)) = W2 at *
  have hk : ∀ n os, Chg [] W2 (Sort.grow (W2.drewN n) os) := fun n os => ⟨rfl, rfl, rfl, by simp, fun k hk _ => by rw [heap_grow_old _ _ (by simpa using hk)]; rfl⟩
  have f2 : ∀ n os, (Sort.grow (W2.drewN n) os).cell? ⟨gb, 0, none⟩ = some (.func (.func 97) #[] #[]) := fun n os => (hk n os).cell0 hW
  have c0 : ∀ n os, (Sort.grow (W2.drewN n) os).cell? ⟨W.heap.size, 0, none⟩ = some (.int .i64 x.num) := fun n os => (hb1.keep0 (hk n os)).cell rfl
  have c1 : ∀ n os, (Sort.grow (W2.drewN n) os).cell? ⟨W.heap.size, 1, none⟩ = some (.bool x.sealed) := fun n os => (hb1.keep0 (hk n os)).cell rfl
  have c2 : ∀ n os, (Sort.grow (W2.drewN n) os).cell? ⟨W.heap.size, 2, none⟩ = some (.int .i64 x.group) := fun n os => (hb1.keep0 (hk n os)).cell rfl
  have c3 : ∀ n os, (Sort.grow (W2.drewN n) os).cell? ⟨W.heap.size, 3, none⟩ = some (.int .i64 x.member) := fun n os => (hb1.keep0 (hk n os)).cell rfl
  have c4 : ∀ n os, (Sort.grow (W2.drewN n) os).cell? ⟨W.heap.size, 4, none⟩ = some (.int .i64 x.size) := fun n os => (hb1.keep0 (hk n os)).cell rfl
  have c5 : ∀ n os, (Sort.grow (W2.drewN n) os).cell? ⟨W.heap.size, 5, none⟩ = some (.int .u32 (x.sum : Int)) := fun n os => (hb1.keep0 (hk n os)).cell rfl
  have d0 : ∀ n os, (Sort.grow (W2.drewN n) os).cell? ⟨W.heap.size + 1, 0, none⟩ = some (.int .i64 y.num) := fun n os => (hb2.keep0 (hk n os)).cell rfl
  have d1 : ∀ n os, (Sort.grow (W2.drewN n) os).cell? ⟨W.heap.size + 1, 1, none⟩ = some (.bool y.sealed) := fun n os => (hb2.keep0 (hk n os)).cell rfl
  have d2 : ∀ n os, (Sort.grow (W2.drewN n) os).cell? ⟨W.heap.size + 1, 2, none⟩ = some (.int .i64 y.group) := fun n os => (hb2.keep0 (hk n os)).cell rfl
  have d3 : ∀ n os, (Sort.grow (W2.drewN n) os).cell? ⟨W.heap.size + 1, 3, none⟩ = some (.int .i64 y.member) := fun n os => (hb2.keep0 (hk n os)).cell rfl
  have d4 : ∀ n os, (Sort.grow (W2.drewN n) os).cell? ⟨W.heap.size + 1, 4, none⟩ = some (.int .i64 y.size) := fun n os => (hb2.keep0 (hk n os)).cell rfl
  have d5 : ∀ n os, (Sort.grow (W2.drewN n) os).cell? ⟨W.heap.size + 1, 5, none⟩ = some (.int .u32 (y.sum : Int)) := fun n os => (hb2.keep0 (hk n os)).cell rfl
  have mixed := fol
  have ia := Go.Proofs.Tryz.isAgg26
  have sz := Go.Proofs.Tryz.sizeOf26
  clear hW hb1 hb2 hk hc1 hc2 hs1 hgr
  go_quiet_grown (first | exact Calls.grown_of (hx _) | exact Calls.grown_of (hy _) | exact Calls.grown_of (hcon2 _))
  go_wp2
  go_ret
  obtain ⟨os, e⟩ := hgr2
  refine ⟨rfl, nq, os ++ osq, ?_⟩
  rw [e]
  show Sort.grow (Sort.grow ((W.drewN 0).drewN nq) os) osq = _
  rw [grow_grow, World.drewN_drewN, Nat.zero_add]
set_option maxHeartbeats 1000000 in
theorem sortSeg_has (gb : Nat) (v : Value) (L : List SegM) (w : World) (hown : Own w 26 6 v L.length (L.flatMap segL)) (hlen : L.length ≤ 1000000) (hgb : w.cell? ⟨gb, 0, none⟩ = some (.func (.func 97) #[] #[])) (hne : gb ∉ v.ownBlock.toList) :
    Has Go.Proofs.Tryz.prog 142 #[v, .func (.func 143) #[] #[.pointer (some ⟨gb, 0, none⟩)]] w (fun u w' => u = .tuple #[] ∧ Chg v.ownBlock.toList w w' ∧ ∃ L' : List SegM, L'.Perm L ∧ L'.Pairwise (fun x y => x.num ≤ y.num) ∧ Own w' 26 6 v L'.length (L'.flatMap segL)) := by
  by_cases hpos : 0 < L.length
  · obtain ⟨g, cap, cur, rfl, hn, hm, hb, hl, ht⟩ := hown.blk hpos
    have hb' := hb
    unfold Blk at hb'
    have hfl := flatK_eq segL_len L
    have hfs : (flatK segL 6 L.toArray).toList.length = L.length * 6 := by rw [hfl, rk_len segL_len]
    have hH : HoldsK segL 6 w g 0 L.toArray := by
      have := holds_of (ss := (flatK segL 6 L.toArray).toList) id hb' (by rw [hfs, show cur.toArray.toList = cur from by simp, ht, hfl, List.map_id])
      unfold HoldsK
      simpa using this
    have eg : ∀ args w, (callFunc 143 args).run Go.Proofs.Tryz.prog w = .ok (.enter 143 args) w := enters_of Go.Proofs.Tryz.func143 (by kernel_rfl) rfl
    have hcW : ∀ m os (dk : Array SegM), (sortWorldK segL 6 w g 0 m dk os).cell? ⟨gb, 0, none⟩ = some (.func (.func 97) #[] #[]) := fun m os dk => by
      have hc : Chg [g] w (sortWorldK segL 6 w g 0 m dk os) := by
        unfold sortWorldK putRowK
        exact chg_put _ _
      exact hc.cell hgb (by simpa [Value.ownBlock] using hne)
    have hc := AnyQ.slices_SortFunc Go.Proofs.Tryz.sortSeg 6 Go.Proofs.Tryz.isAgg26 Go.Proofs.Tryz.sizeOf26 segL segL_len segL_one (fun x y => Lib.compareInt x.num y.num) swoSeg 143 #[.pointer (some ⟨gb, 0, none⟩)] g 0 cap L.toArray w eg (fun m os dk _ x y => closureSeg gb x y _ (hcW m os dk)) hH hb.lt (by simp; omega)
    simp only [List.size_toArray] at hc
    change Calls Go.Proofs.Tryz.prog 142 _ _ _ at hc
    refine ⟨⟨_, Go.Proofs.Tryz.func142, rfl, by decide⟩, Calls.mono hc ?_⟩
    rintro e w' ⟨rfl, d', n, os, hp, hs, rfl⟩
    have hd : d' = d'.toList.toArray := by simp
    obtain ⟨hp1, _, hp3⟩ := hp
    have hsz : d'.toList.length = L.length := by simpa using hp1
    have hperm : d'.toList.Perm L := by
      have h1 : (d'.extract 0 L.length) = d' := Array.extract_eq_self_of_le (by simp at hp1; omega)
      have h2 : (L.toArray.extract 0 L.length) = L.toArray := Array.extract_eq_self_of_le (by simp)
      rw [h1, h2] at hp3
      simpa using hp3
    have hpw : d'.toList.Pairwise (fun x y => x.num ≤ y.num) := by
      rw [List.pairwise_iff_getElem]
      intro i j hi hj hij
      have := hs i j (Nat.zero_le _) hij (by simpa using (show j < L.length by omega))
      rw [ltSeg] at this
      have h3 : ¬ (d'[j]!).num < (d'[i]!).num := by simpa using this
      have hi' : i < d'.size := by simpa using hi
      have hj' : j < d'.size := by simpa using hj
      rw [getElem!_pos d' i hi', getElem!_pos d' j hj'] at h3
      simp only [Array.getElem_toList]
      omega
    refine ⟨_, rfl, rfl, chg_put _ _, d'.toList, hperm, hpw, ?_⟩
    have hfl' := flatK_eq segL_len d'.toList
    rw [← hd] at hfl'
    have hblk : Blk (sortWorldK segL 6 w g 0 n d' os) g 26 (putCells id 0 (flatK segL 6 d') cur.toArray).toList := by
      unfold Blk sortWorldK putRowK
      rw [heap_put _ _ hb']
    rw [show (Value.slice (some ⟨g, 0, none⟩) L.length cap) = .slice (some ⟨g, 0, none⟩) d'.toList.length cap from by rw [hsz]]
    refine Own.mk hblk (by omega) hm (by rw [Array.length_toList, put_size]; simpa using hl) ?_
    have hlen2 : (d'.toList.flatMap segL).length = d'.toList.length * 6 := rk_len segL_len _
    have := take_put id cur.toArray (d'.toList.flatMap segL) (by rw [hlen2, hsz, List.size_toArray, hl]; exact Nat.mul_le_mul_right 6 hn)
    rw [← hlen2, show flatK segL 6 d' = (d'.toList.flatMap segL).toArray from by rw [← hfl']]
    rw [this, List.map_id]
  · obtain rfl : L = [] := List.eq_nil_of_length_eq_zero (by omega)
    obtain ⟨A, c, rfl, _, _⟩ := hown.form
    have hc := AnyF.slices_SortFunc_none Go.Proofs.Tryz.sortSeg A c (.func (.func 143) #[] #[.pointer (some ⟨gb, 0, none⟩)]) w
    change Calls Go.Proofs.Tryz.prog 142 _ _ _ at hc
    refine ⟨⟨_, Go.Proofs.Tryz.func142, rfl, by decide⟩, Calls.mono hc ?_⟩
    rintro e w' ⟨rfl, rfl⟩
    exact ⟨_, rfl, rfl, Chg.refl _ _, [], List.Perm.refl _, List.Pairwise.nil, hown⟩
end Go.Proofs.YtiadjkjlifnopaaGreatDoor.Tryz
/-! Manifests: the library's sort of parity segments by their groups. -/
set_option linter.unusedVariables false
namespace Go.Vc
open Go Go.Sort Go.Proofs
/-- A parity segment whose two slices are slices. -/
abbrev ParS : Type := { q : ParV // q.vn.oneCell' = true ∧ q.vs.oneCell' = true }
def parSL (x : ParS) : List Value := parL x.1
theorem parS_len (x : ParS) : (parSL x).length = 5 := rfl
theorem parS_one (x : ParS) : ∀ u ∈ parSL x, u.oneCell' = true := by
  intro u hu
  obtain ⟨q, h1, h2⟩ := x
  simp only [parSL, parL, List.mem_cons, List.not_mem_nil, or_false] at hu
  rcases hu with rfl | rfl | rfl | rfl | rfl
  · rfl
  · exact h1
  · exact h2
  · rfl
  · rfl
instance : Inhabited ParS := ⟨⟨⟨⟨0, [], [], 0, 0⟩, .slice none 0 0, .slice none 0 0⟩, rfl, rfl⟩⟩
theorem ltPar (x y : ParS) : ltOf (fun x y : ParS => Lib.compareInt x.1.p.group y.1.p.group) x y = decide (x.1.p.group < y.1.p.group) := by
  unfold ltOf Lib.compareInt
  by_cases h1 : x.1.p.group < y.1.p.group
  · simp [h1]
  · by_cases h2 : y.1.p.group < x.1.p.group <;> simp [h1, h2]
theorem swoPar : SWO (ltOf fun x y : ParS => Lib.compareInt x.1.p.group y.1.p.group) where
  irrefl x := by rw [ltPar]; simp
  trans x y z h1 h2 := by rw [ltPar] at *; simp at *; omega
  ntrans x y z h1 h2 := by rw [ltPar] at *; simp at *; omega
end Go.Vc
namespace Go.Proofs.YtiadjkjlifnopaaGreatDoor.Tryz
open Go Go.Vc Go.Sort Go.Proofs
set_option maxHeartbeats 1000000 in
theorem parNumC (x : ParS) (W : World) : Calls Go.Proofs.Tryz.prog 100 #[.agg (parSL x).toArray] W fun e w' => e = .returned (.int .i64 x.1.p.group) ∧ ∃ q os', w' = Sort.grow (W.drewN q) os' := by
  unfold parSL parL
  go_enter Go.Proofs.Tryz.func100, Go.Proofs.Tryz.ntmps100
  go_wp2
  go_ret
  exact ⟨rfl, 0, _, by rw [alloc_eq_grow]; rfl⟩
set_option maxHeartbeats 4000000 in
set_option maxRecDepth 100000 in
theorem closurePar (gb : Nat) (x y : ParS) (W : World) (hW : W.cell? ⟨gb, 0, none⟩ = some (.func (.func 100) #[] #[])) : Calls Go.Proofs.Tryz.prog 151 #[.agg (parSL x).toArray, .agg (parSL y).toArray, .pointer (some ⟨gb, 0, none⟩)] W fun e w' => e = .returned (.int .i64 (Lib.compareInt x.1.p.group y.1.p.group)) ∧ ∃ q os', w' = Sort.grow (W.drewN q) os' := by
  have hcon := fun W' => AnyG.cmp_Compare_int Go.Proofs.Tryz.cmpA x.1.p.group y.1.p.group W'
  change ∀ W', Calls Go.Proofs.Tryz.prog 144 _ _ _ at hcon
  have hx := fun W' => parNumC x W'
  have hy := fun W' => parNumC y W'
  generalize Lib.compareInt x.1.p.group y.1.p.group = r at hcon ⊢
  have hb := World.block_lt_of_cell? _ _ hW
  unfold parSL parL at *
  go_enter Go.Proofs.Tryz.func151, Go.Proofs.Tryz.ntmps151
  go_wp2
  have hcon2 : ∀ W', Calls Go.Proofs.Tryz.prog 144 #[.int .i64 x.1.p.group, .int .i64 y.1.p.group] W' fun e w' => e = .returned (.int .i64 r) ∧ ∃ q os', w' = Sort.grow (W'.drewN q) os' := fun W' => (hcon W').mono fun e w' ⟨h1, h2⟩ => ⟨h1, 0, #[], by rw [h2, grow_empty]; rfl⟩
  have hc1 := Chg.alloc W (.cells #[.int .i64 x.1.p.group, x.1.vn, x.1.vs, .int .i64 x.1.p.size, .int .u32 (x.1.p.sum : Int)] 70)
  have hb1 := Blk.new W 70 #[.int .i64 x.1.p.group, x.1.vn, x.1.vs, .int .i64 x.1.p.size, .int .u32 (x.1.p.sum : Int)]
  have hs1 : (W.alloc (.cells #[.int .i64 x.1.p.group, x.1.vn, x.1.vs, .int .i64 x.1.p.size, .int .u32 (x.1.p.sum : Int)] 70)).heap.size = W.heap.size + 1 := by simp
  have hgr : ∃ os, (W.alloc (.cells #[.int .i64 x.1.p.group, x.1.vn, x.1.vs, .int .i64 x.1.p.size, .int .u32 (x.1.p.sum : Int)] 70)) = Sort.grow (W.drewN 0) os := ⟨_, by rw [alloc_eq_grow]; rfl⟩
  generalize (W.alloc (.cells #[.int .i64 x.1.p.group, x.1.vn, x.1.vs, .int .i64 x.1.p.size, .int .u32 (x.1.p.sum : Int)] 70)) = W1 at *
  have hc2 := Chg.alloc W1 (.cells #[.int .i64 y.1.p.group, y.1.vn, y.1.vs, .int .i64 y.1.p.size, .int .u32 (y.1.p.sum : Int)] 70)
  have hb2 := Blk.new W1 70 #[.int .i64 y.1.p.group, y.1.vn, y.1.vs, .int .i64 y.1.p.size, .int .u32 (y.1.p.sum : Int)]
  rw [hs1] at hb2
  replace hb1 := hb1.keep0 hc2
  replace hW := (hc1.trans' hc2).cell0 hW
  have hgr2 : ∃ os, (W1.alloc (.cells #[.int .i64 y.1.p.group, y.1.vn, y.1.vs, .int .i64 y.1.p.size, .int .u32 (y.1.p.sum : Int)] 70)) = Sort.grow (W.drewN 0) os := by
    obtain ⟨os, e⟩ := hgr
    exact ⟨_, by rw [e, alloc_eq_grow, grow_grow]⟩
  generalize (W1.alloc (.cells #[.int .i64 y.1.p.group, y.1.vn, y.1.vs, .int .i64 y.1.p.size, .int .u32 (y.1.p.sum : Int)] 70)) = W2 at *
  have hk : ∀ n os, Chg [] W2 (Sort.grow (W2.drewN n) os) := fun n os => ⟨rfl, rfl, rfl, by simp, fun k hk _ => by rw [heap_grow_old _ _ (by simpa using hk)]; rfl⟩
  have f2 : ∀ n os, (Sort.grow (W2.drewN n) os).cell? ⟨gb, 0, none⟩ = some (.func (.func 100) #[] #[]) := fun n os => (hk n os).cell0 hW
  have c0 : ∀ n os, (Sort.grow (W2.drewN n) os).cell? ⟨W.heap.size, 0, none⟩ = some (.int .i64 x.1.p.group) := fun n os => (hb1.keep0 (hk n os)).cell rfl
  have c1 : ∀ n os, (Sort.grow (W2.drewN n) os).cell? ⟨W.heap.size, 1, none⟩ = some x.1.vn := fun n os => (hb1.keep0 (hk n os)).cell rfl
  have c2 : ∀ n os, (Sort.grow (W2.drewN n) os).cell? ⟨W.heap.size, 2, none⟩ = some x.1.vs := fun n os => (hb1.keep0 (hk n os)).cell rfl
  have c3 : ∀ n os, (Sort.grow (W2.drewN n) os).cell? ⟨W.heap.size, 3, none⟩ = some (.int .i64 x.1.p.size) := fun n os => (hb1.keep0 (hk n os)).cell rfl
  have c4 : ∀ n os, (Sort.grow (W2.drewN n) os).cell? ⟨W.heap.size, 4, none⟩ = some (.int .u32 (x.1.p.sum : Int)) := fun n os => (hb1.keep0 (hk n os)).cell rfl
  have d0 : ∀ n os, (Sort.grow (W2.drewN n) os).cell? ⟨W.heap.size + 1, 0, none⟩ = some (.int .i64 y.1.p.group) := fun n os => (hb2.keep0 (hk n os)).cell rfl
  have d1 : ∀ n os, (Sort.grow (W2.drewN n) os).cell? ⟨W.heap.size + 1, 1, none⟩ = some y.1.vn := fun n os => (hb2.keep0 (hk n os)).cell rfl
  have d2 : ∀ n os, (Sort.grow (W2.drewN n) os).cell? ⟨W.heap.size + 1, 2, none⟩ = some y.1.vs := fun n os => (hb2.keep0 (hk n os)).cell rfl
  have d3 : ∀ n os, (Sort.grow (W2.drewN n) os).cell? ⟨W.heap.size + 1, 3, none⟩ = some (.int .i64 y.1.p.size) := fun n os => (hb2.keep0 (hk n os)).cell rfl
  have d4 : ∀ n os, (Sort.grow (W2.drewN n) os).cell? ⟨W.heap.size + 1, 4, none⟩ = some (.int .u32 (y.1.p.sum : Int)) := fun n os => (hb2.keep0 (hk n os)).cell rfl
  have mixed := fol
  have ia := Go.Proofs.Tryz.isAgg70
  have sz := Go.Proofs.Tryz.sizeOf70
  clear hW hb1 hb2 hk hc1 hc2 hs1 hgr
  go_quiet_grown (first | exact Calls.grown_of (hx _) | exact Calls.grown_of (hy _) | exact Calls.grown_of (hcon2 _))
  go_wp2
  go_ret
  obtain ⟨os, e⟩ := hgr2
  refine ⟨rfl, nq, os ++ osq, ?_⟩
  rw [e]
  show Sort.grow (Sort.grow ((W.drewN 0).drewN nq) os) osq = _
  rw [grow_grow, World.drewN_drewN, Nat.zero_add]
set_option maxHeartbeats 1000000 in
theorem sortPar0_has (gb : Nat) (v : Value) (L : List ParS) (w : World) (hown : Own w 70 5 v L.length (L.flatMap parSL)) (hlen : L.length ≤ 1000000) (hgb : w.cell? ⟨gb, 0, none⟩ = some (.func (.func 100) #[] #[])) (hne : gb ∉ v.ownBlock.toList) :
    Has Go.Proofs.Tryz.prog 150 #[v, .func (.func 151) #[] #[.pointer (some ⟨gb, 0, none⟩)]] w (fun u w' => u = .tuple #[] ∧ Chg v.ownBlock.toList w w' ∧ ∃ L' : List ParS, L'.Perm L ∧ L'.Pairwise (fun x y => x.1.p.group ≤ y.1.p.group) ∧ Own w' 70 5 v L'.length (L'.flatMap parSL)) := by
  by_cases hpos : 0 < L.length
  · obtain ⟨g, cap, cur, rfl, hn, hm, hb, hl, ht⟩ := hown.blk hpos
    have hb' := hb
    unfold Blk at hb'
    have hfl := flatK_eq parS_len L
    have hfs : (flatK parSL 5 L.toArray).toList.length = L.length * 5 := by rw [hfl, rk_len parS_len]
    have hH : HoldsK parSL 5 w g 0 L.toArray := by
      have := holds_of (ss := (flatK parSL 5 L.toArray).toList) id hb' (by rw [hfs, show cur.toArray.toList = cur from by simp, ht, hfl, List.map_id])
      unfold HoldsK
      simpa using this
    have eg : ∀ args w, (callFunc 151 args).run Go.Proofs.Tryz.prog w = .ok (.enter 151 args) w := enters_of Go.Proofs.Tryz.func151 (by kernel_rfl) rfl
    have hcW : ∀ m os (dk : Array ParS), (sortWorldK parSL 5 w g 0 m dk os).cell? ⟨gb, 0, none⟩ = some (.func (.func 100) #[] #[]) := fun m os dk => by
      have hc : Chg [g] w (sortWorldK parSL 5 w g 0 m dk os) := by
        unfold sortWorldK putRowK
        exact chg_put _ _
      exact hc.cell hgb (by simpa [Value.ownBlock] using hne)
    have hc := AnyQ.slices_SortFunc Go.Proofs.Tryz.sortPar 5 Go.Proofs.Tryz.isAgg70 Go.Proofs.Tryz.sizeOf70 parSL parS_len parS_one (fun x y => Lib.compareInt x.1.p.group y.1.p.group) swoPar 151 #[.pointer (some ⟨gb, 0, none⟩)] g 0 cap L.toArray w eg (fun m os dk _ x y => closurePar gb x y _ (hcW m os dk)) hH hb.lt (by simp; omega)
    simp only [List.size_toArray] at hc
    change Calls Go.Proofs.Tryz.prog 150 _ _ _ at hc
    refine ⟨⟨_, Go.Proofs.Tryz.func150, rfl, by decide⟩, Calls.mono hc ?_⟩
    rintro e w' ⟨rfl, d', n, os, hp, hs, rfl⟩
    have hd : d' = d'.toList.toArray := by simp
    obtain ⟨hp1, _, hp3⟩ := hp
    have hsz : d'.toList.length = L.length := by simpa using hp1
    have hperm : d'.toList.Perm L := by
      have h1 : (d'.extract 0 L.length) = d' := Array.extract_eq_self_of_le (by simp at hp1; omega)
      have h2 : (L.toArray.extract 0 L.length) = L.toArray := Array.extract_eq_self_of_le (by simp)
      rw [h1, h2] at hp3
      simpa using hp3
    have hpw : d'.toList.Pairwise (fun x y => x.1.p.group ≤ y.1.p.group) := by
      rw [List.pairwise_iff_getElem]
      intro i j hi hj hij
      have := hs i j (Nat.zero_le _) hij (by simpa using (show j < L.length by omega))
      rw [ltPar] at this
      have h3 : ¬ (d'[j]!).1.p.group < (d'[i]!).1.p.group := by simpa using this
      have hi' : i < d'.size := by simpa using hi
      have hj' : j < d'.size := by simpa using hj
      rw [getElem!_pos d' i hi', getElem!_pos d' j hj'] at h3
      simp only [Array.getElem_toList]
      omega
    refine ⟨_, rfl, rfl, chg_put _ _, d'.toList, hperm, hpw, ?_⟩
    have hfl' := flatK_eq parS_len d'.toList
    rw [← hd] at hfl'
    have hblk : Blk (sortWorldK parSL 5 w g 0 n d' os) g 70 (putCells id 0 (flatK parSL 5 d') cur.toArray).toList := by
      unfold Blk sortWorldK putRowK
      rw [heap_put _ _ hb']
    rw [show (Value.slice (some ⟨g, 0, none⟩) L.length cap) = .slice (some ⟨g, 0, none⟩) d'.toList.length cap from by rw [hsz]]
    refine Own.mk hblk (by omega) hm (by rw [Array.length_toList, put_size]; simpa using hl) ?_
    have hlen2 : (d'.toList.flatMap parSL).length = d'.toList.length * 5 := rk_len parS_len _
    have := take_put id cur.toArray (d'.toList.flatMap parSL) (by rw [hlen2, hsz, List.size_toArray, hl]; exact Nat.mul_le_mul_right 5 hn)
    rw [← hlen2, show flatK parSL 5 d' = (d'.toList.flatMap parSL).toArray from by rw [← hfl']]
    rw [this, List.map_id]
  · obtain rfl : L = [] := List.eq_nil_of_length_eq_zero (by omega)
    obtain ⟨A, c, rfl, _, _⟩ := hown.form
    have hc := AnyF.slices_SortFunc_none Go.Proofs.Tryz.sortPar A c (.func (.func 151) #[] #[.pointer (some ⟨gb, 0, none⟩)]) w
    change Calls Go.Proofs.Tryz.prog 150 _ _ _ at hc
    refine ⟨⟨_, Go.Proofs.Tryz.func150, rfl, by decide⟩, Calls.mono hc ?_⟩
    rintro e w' ⟨rfl, rfl⟩
    exact ⟨_, rfl, rfl, Chg.refl _ _, [], List.Perm.refl _, List.Pairwise.nil, hown⟩
end Go.Proofs.YtiadjkjlifnopaaGreatDoor.Tryz
/-! clear, at a part of a row of the call's own. -/
set_option linter.unusedVariables false
set_option linter.unusedSimpArgs false
namespace Go.Vc
open Go
section
variable {P : Program} {N : Nat} {e : Env} {w : World} {o : Oper} {K : Value → World → Prop}
theorem op_clear (T : Types P) {x : Operand} {t el tb : TypeId} {d : TInfo} {A : Option Addr} {g off m c : Nat} {cs : List Value} {ts : Array TypeId}
    (hop : o.op = .call { callee := .builtin .clear, args := #[x], argTypes := ts }) (hts : ts = #[t]) (hx : ev e x = some (.slice A m c)) (ht : T.d t = some (.slice el)) (hel : T.tbl el = some d)
    (hz : Nat.beq d.zero.cells.size d.size = true) (h1 : d.zero.cells.toList.all (fun u => u.oneCell') = true) (hA : m = 0 ∨ A = some ⟨g, off, none⟩) (hb : Blk w g tb cs) (hfit : off + m * d.size ≤ cs.length)
    (h : ∀ w1 rest, Chg [g] w w1 → Blk w1 g tb (cs.take off ++ rest) → (cs.take off ++ rest).length = cs.length → K (.tuple #[]) w1) : OpW P N o e w K := by
  subst hts
  obtain ⟨q, hq, hzq, hs, hbq⟩ := T.inf el d hel
  have hz' : d.zero.cells.size = d.size := Nat.eq_of_beq_eq_true hz
  rcases Nat.eq_zero_or_pos m with hm | hm
  · subst hm
    have := h w (cs.drop off) (Chg.refl _ _) (by rw [List.take_append_drop]; exact hb) (by rw [List.take_append_drop])
    refine OpW_run (v := .tuple #[]) (w' := w) (fun a ha => ?_) this
    cases A <;> simp [execOp, hop, resolve, invoke, builtin, ha.ev hx, Builtin.clear_, run_underlying (T.und' ht)]
  · have hA' : A = some ⟨g, off, none⟩ := hA.resolve_left (by omega)
    subst hA'
    have hb' := hb
    unfold Blk at hb'
    have hzl : (Builtin.zeroCells d.zero.cells m).toList.length = m * d.size := by simp [Builtin.zeroCells, hz']
    have hall : ∀ v ∈ (Builtin.zeroCells d.zero.cells m).toList, v.oneCell' = true := fun v hv => by
      simp only [Builtin.zeroCells, Array.toList_map, List.mem_map] at hv
      obtain ⟨i, hi, rfl⟩ := hv
      by_cases hsz : 0 < d.zero.cells.size
      · have hlt : i % d.zero.cells.size < d.zero.cells.size := Nat.mod_lt _ hsz
        rw [getElem!_pos d.zero.cells (i % d.zero.cells.size) hlt]
        exact List.all_eq_true.1 h1 _ (by rw [← Array.getElem_toList hlt]; exact List.getElem_mem _)
      · simp at hi
        have : d.zero.cells.size = 0 := by omega
        rw [this] at hi; simp at hi
    have hr := run_storeCells_at (P := P) g off tb (Builtin.zeroCells d.zero.cells m).toList 0 cs.toArray w hb' (by simp only [Nat.add_zero, List.size_toArray]; omega) hall
    have hblk : Blk (w.setRow g (cs.toArray.toList.take (off + 0) ++ (Builtin.zeroCells d.zero.cells m).toList ++ cs.toArray.toList.drop (off + 0 + (Builtin.zeroCells d.zero.cells m).toList.length)).toArray) g tb (cs.take off ++ ((Builtin.zeroCells d.zero.cells m).toList ++ cs.drop (off + m * d.size))) := by
      unfold Blk
      rw [setRow_heap w g cs.toArray _ tb _ hb', Nat.add_zero, hzl]
      simp
    have := h (w.setRow g (cs.toArray.toList.take (off + 0) ++ (Builtin.zeroCells d.zero.cells m).toList ++ cs.toArray.toList.drop (off + 0 + (Builtin.zeroCells d.zero.cells m).toList.length)).toArray) _ ⟨rfl, rfl, rfl, by simp, fun k _ hk => setRow_other w g k _ (by simpa using hk)⟩ hblk (by simp only [List.length_append, hzl, List.length_take, List.length_drop]; omega)
    refine OpW_run (v := .tuple #[]) (fun a ha => ?_) this
    obtain ⟨n', rfl⟩ : ∃ n', m = n' + 1 := ⟨m - 1, by omega⟩
    have hzv : (zeroValue el).run P w = .ok d.zero w := by simp [zeroValue, typeInfo, hq, hzq]
    simp [execOp, hop, resolve, invoke, builtin, ha.ev hx, Builtin.clear_, run_underlying (T.und' ht), hzv, Result.andThen] at hr ⊢
    simp [hr]
end
end Go.Vc
/-! Sorting, in plain words. -/
set_option linter.unusedVariables false
namespace Go.Vc
open Go
section
variable {α : Type} {le : α → α → Bool}
def insM (le : α → α → Bool) (x : α) : List α → List α
  | [] => [x]
  | y :: l => if le x y = true then x :: y :: l else y :: insM le x l
def isM (le : α → α → Bool) : List α → List α
  | [] => []
  | x :: l => insM le x (isM le l)
theorem insM_perm (x : α) : ∀ l : List α, (insM le x l).Perm (x :: l)
  | [] => List.Perm.refl _
  | y :: l => by
    unfold insM
    split
    · exact List.Perm.refl _
    · exact ((insM_perm x l).cons y).trans (List.Perm.swap x y l)
theorem isM_perm : ∀ l : List α, (isM le l).Perm l
  | [] => List.Perm.refl _
  | x :: l => (insM_perm x _).trans ((isM_perm l).cons x)
theorem insM_sorted (ht : ∀ x y, le x y = true ∨ le y x = true) (htr : ∀ x y z, le x y = true → le y z = true → le x z = true) (x : α) : ∀ {l : List α}, l.Pairwise (fun a b => le a b = true) → (insM le x l).Pairwise (fun a b => le a b = true)
  | [], _ => by simp [insM]
  | y :: l, h => by
    rw [List.pairwise_cons] at h
    unfold insM
    split
    · rename_i hxy
      rw [List.pairwise_cons]
      refine ⟨fun z hz => ?_, List.pairwise_cons.2 h⟩
      rcases List.mem_cons.1 hz with rfl | hz
      · exact hxy
      · exact htr _ _ _ hxy (h.1 z hz)
    · rename_i hxy
      rw [List.pairwise_cons]
      refine ⟨fun z hz => ?_, insM_sorted ht htr x h.2⟩
      have hz' := (insM_perm x l).mem_iff.1 hz
      rcases List.mem_cons.1 hz' with rfl | hz'
      · rcases ht z y with h1 | h1
        · exact absurd h1 hxy
        · exact h1
      · exact h.1 z hz'
theorem isM_sorted (ht : ∀ x y, le x y = true ∨ le y x = true) (htr : ∀ x y z, le x y = true → le y z = true → le x z = true) : ∀ l : List α, (isM le l).Pairwise (fun a b => le a b = true)
  | [] => List.Pairwise.nil
  | x :: l => insM_sorted ht htr x (isM_sorted ht htr l)
/-- Two sorted lists of the same elements, none of which ties with another, are one. -/
theorem perm_sorted_eq {R : α → α → Prop} (ha : ∀ x y, R x y → R y x → x = y) : ∀ {l l' : List α}, l.Perm l' → l.Pairwise R → l'.Pairwise R → l = l'
  | [], l', hp, _, _ => (List.Perm.nil_eq hp)
  | x :: l, [], hp, _, _ => by have := hp.length_eq; simp at this
  | x :: l, y :: l', hp, h, h' => by
    rw [List.pairwise_cons] at h h'
    have hxy : x = y := by
      rcases List.mem_cons.1 (hp.mem_iff.1 (List.mem_cons_self ..)) with e | hx
      · exact e
      rcases List.mem_cons.1 (hp.mem_iff.2 (List.mem_cons_self ..)) with e | hy
      · exact e.symm
      exact ha _ _ (h.1 y hy) (h'.1 x hx)
    subst hxy
    rw [perm_sorted_eq ha ((List.perm_cons x).1 hp) h.2 h'.2]
end
end Go.Vc
/-! An append that has room, in place; rows of which one element goes; lists by keys, in plain words. -/
set_option linter.unusedVariables false
namespace Go.Vc
open Go
theorem op_appendIn {P : Program} {N : Nat} {e : Env} {w : World} {o : Oper} {K : Value → World → Prop} (T : Types P) {x y : Operand} {t el : TypeId} {d : TInfo} {g n cap m c : Nat} {a : Addr} {cur news : List Value} {ts : Array TypeId}
    (hop : o.op = .call { callee := .builtin .append, args := #[x, y], argTypes := ts }) (hts : ts = #[t, t]) (hx : ev e x = some (.slice (some ⟨g, 0, none⟩) n cap)) (hy : ev e y = some (.slice (some a) m c)) (ht : T.d t = some (.slice el)) (hel : T.tbl el = some d)
    (hb : Blk w g el cur) (hl : news.length = m * d.size) (hnews : ∀ j u, news[j]? = some u → w.cell? (a.add j) = some u) (h1 : ∀ u ∈ news, u.oneCell' = true) (hroom : n + m ≤ cap) (hfit : n * d.size + news.length ≤ cur.length)
    (h : ∀ w1, Chg [g] w w1 → Blk w1 g el (cur.take (n * d.size) ++ news ++ cur.drop (n * d.size + news.length)) → K (.slice (some ⟨g, 0, none⟩) (n + m) cap) w1) : OpW P N o e w K := by
  subst hts
  obtain ⟨q, hq, _, hs, _⟩ := T.inf el d hel
  have hb' := hb
  unfold Blk at hb'
  have hrun := run_append_room (P := P) w t o.type el q (T.und' ht) hq g n cap cur.toArray hb' a m c news (by rw [hs]; exact hl) hnews h1 hroom (by rw [hs]; simpa using hfit)
  rw [hs] at hrun
  have hblk : Blk (w.setRow g (cur.take (n * d.size) ++ news ++ cur.drop (n * d.size + news.length)).toArray) g el (cur.take (n * d.size) ++ news ++ cur.drop (n * d.size + news.length)) := by
    unfold Blk
    rw [setRow_heap w g cur.toArray _ el _ hb']
  refine OpW_run (w' := w.setRow g (cur.take (n * d.size) ++ news ++ cur.drop (n * d.size + news.length)).toArray) (v := .slice (some ⟨g, 0, none⟩) (n + m) cap) (fun f hf => ?_) (h _ ⟨rfl, rfl, rfl, by simp, fun k _ hk => setRow_other w g k _ (by simpa using hk)⟩ hblk)
  generalize hY : w.setRow g (cur.take (n * d.size) ++ news ++ cur.drop (n * d.size + news.length)).toArray = Y at hrun ⊢
  simp [execOp, hop, resolve, invoke, builtin, hf.ev hx, hf.ev hy, hrun]
theorem op_slice3 {P : Program} {N : Nat} {e : Env} {w : World} {o : Oper} {K : Value → World → Prop} (T : Types P) {x y z u : Operand} {t el : TypeId} {A : Option Addr} {n c : Nat} {j : TInfo} {l h' m : Nat} {k k' k2 : IntKind}
    (hop : o.op = .slice t x (some y) (some z) (some u)) (hx : ev e x = some (.slice A n c)) (ht : T.d t = some (.slice el)) (hel : T.tbl el = some j)
    (hy : ev e y = some (.int k (l : Int))) (hz : ev e z = some (.int k' (h' : Int))) (hu : ev e u = some (.int k2 (m : Int)))
    (h0 : l ≤ h') (h1 : h' ≤ m) (h2 : m ≤ c) (h : ∀ v, K v w) : OpW P N o e w K := by
  obtain ⟨q, hq, _, hs, _⟩ := T.inf el j hel
  refine OpW_run (v := .slice (if m = l then A else A.map (·.add (l * j.size))) (h' - l) (m - l)) (fun a ha => ?_) (h _)
  simp [execOp, hop, ha.ev hx, ha.ev hy, ha.ev hz, ha.ev hu, Instr.sliceAt, Instr.slice, Instr.sliceBounds, Instr.sliceBound, asIntOf, run_underlying (T.und' ht), sizeOf, typeInfo, hq, hs, h0, h1, h2]
theorem eraseIdx_split {α : Type} (L : List α) (i : Nat) (h : i < L.length) : L.eraseIdx i = L.take i ++ L.drop (i + 1) := by
  rw [List.eraseIdx_eq_take_drop_succ]
/-- Numbers taken out of a list. -/
def takeK {α : Type} (key : α → Int) : List Int → List α → Option (List α)
  | [], L => some L
  | n :: ns, L => if idxM (fun x => decide (key x = n)) L < 0 then none else takeK key ns (L.eraseIdx (idxM (fun x => decide (key x = n)) L).toNat)
/-- Some put behind a list, none of which is there. -/
def putK {α : Type} (key : α → Int) : List α → List α → Option (List α)
  | [], L => some L
  | x :: xs, L => if (L.any fun y => decide (key x = key y)) = true then none else putK key xs (L ++ [x])
def leK {α : Type} (key : α → Int) (x y : α) : Bool := decide (key x ≤ key y)
def sortK {α : Type} (key : α → Int) (L : List α) : List α := isM (leK key) L
theorem sortK_unique {α : Type} {key : α → Int} {L L' : List α} (hn : (L.map key).Nodup) (hp : L'.Perm L) (hs : L'.Pairwise (fun x y => key x ≤ key y)) : L' = sortK key L := by
  have hn2 : (L'.map key).Nodup := (hp.map key).nodup_iff.2 hn
  have hp3 := isM_perm (le := leK key) L
  have hn3 : ((sortK key L).map key).Nodup := (hp3.map key).nodup_iff.2 hn
  have hs3 : (sortK key L).Pairwise (fun x y => key x ≤ key y) := (isM_sorted (le := leK key) (fun x y => by unfold leK; simp; omega) (fun x y z h1 h2 => by unfold leK at *; simp at *; omega) L).imp (fun h => by unfold leK at h; simpa using h)
  have strict : ∀ {M : List α}, (M.map key).Nodup → M.Pairwise (fun x y => key x ≤ key y) → M.Pairwise (fun x y => key x < key y) := fun {M} h1 h2 => by
    unfold List.Nodup at h1
    rw [List.pairwise_map] at h1
    exact (h1.and h2).imp (fun h => by omega)
  exact perm_sorted_eq (R := fun x y : α => key x < key y) (fun x y h1 h2 => by omega) (hp.trans hp3.symm) (strict hn2 hs) (strict hn3 hs3)
theorem takeK_sub {α : Type} {key : α → Int} : ∀ {ns : List Int} {L L' : List α}, takeK key ns L = some L' → L'.Sublist L
  | [], L, L', h => by simp [takeK] at h; subst h; exact List.Sublist.refl _
  | n :: ns, L, L', h => by
    rw [takeK] at h
    split at h
    · cases h
    · exact (takeK_sub h).trans (List.eraseIdx_sublist _ _)
theorem putK_eq {α : Type} {key : α → Int} : ∀ {xs L L' : List α}, putK key xs L = some L' → L' = L ++ xs ∧ ((L.map key).Nodup → (L'.map key).Nodup)
  | [], L, L', h => by simp [putK] at h; subst h; simp
  | x :: xs, L, L', h => by
    rw [putK] at h
    split at h
    · cases h
    · rename_i hno
      obtain ⟨h1, h2⟩ := putK_eq h
      refine ⟨by rw [h1, List.append_assoc]; rfl, fun hn => h2 ?_⟩
      rw [List.map_append, List.nodup_append]
      refine ⟨hn, by simp, fun a ha b hb e => ?_⟩
      simp at hb; subst hb
      obtain ⟨y, hy, rfl⟩ := List.mem_map.1 ha
      apply hno
      rw [List.any_eq_true]
      exact ⟨y, hy, by simp [e]⟩
end Go.Vc
/-! Manifests: the library's Clone and Delete of segments. -/
set_option linter.unusedVariables false
namespace Go.Proofs.YtiadjkjlifnopaaGreatDoor.Tryz
open Go Go.Vc
set_option maxHeartbeats 1000000 in
theorem cloneSeg_has (A : Option Addr) (n c : Nat) (L : List SegM) (w : World) (hl : SliceK 6 (RdL segL) w (.slice A n c) L) (hb : L.length ≤ 1000000) :
    Has Go.Proofs.Tryz.prog 69 #[.slice A n c] w (fun v w' => Chg [] w w' ∧ Own w' 26 6 v L.length (L.flatMap segL) ∧ ∀ g, v.ownBlock = some g → w.heap.size ≤ g) := by
  obtain ⟨rfl, hl1, hl2⟩ := hl.len
  refine enter Go.Proofs.Tryz.func69 rfl rfl (by decide) rfl (e := [(0, .slice A L.length c)]) ⟨rfl, trivial⟩ ?_
  refine run ?_
  refine go T 9 rfl ?_
  refine o1 rfl ?_
  refine op_eql_nil T rfl rfl rfl rfl (fun hA => ?_) (fun ad hA => ?_)
  · have hl0 : L = [] := by
      cases L with
      | nil => rfl
      | cons c l => obtain ⟨ad, he, _⟩ := hl.at (i := 0) (x := c) rfl; rw [hA] at he; cases he
    subst hl0
    refine go T 10 rfl ?_
    exact post1 (.inl rfl) rfl rfl ⟨Chg.refl _ _, Own.nil _ _ _, fun g h => by simp [Value.ownBlock] at h⟩
  · subst hA
    refine go T 7 rfl ?_
    refine o1 rfl ?_
    refine op_buildSlice T rfl rfl rfl rfl rfl rfl rfl (fun g w1 hgs hc1 hg1 => ?_)
    have ho : Own w1 26 6 (.slice (some ⟨g, 0, none⟩) 0 0) 0 [] := Own.mk hg1 (Nat.le_refl _) (Nat.zero_le _) rfl rfl
    have hl' := hl.keepR hc1
    refine go T 1 rfl ?_
    refine o1 rfl ?_
    refine op_append T (n := 0) (xs := []) (m := L.length) (news := L.flatMap segL) rfl rfl rfl rfl rfl rfl rfl rfl ho (rk_len segL_len L) ?_ (by unfold maxLen; omega) (by show (0 + _) * 48 ≤ _; omega) ?_
    · intro j u hu
      have hjl := (List.getElem?_eq_some_iff.1 hu).1
      rw [rk_len segL_len] at hjl
      have hi : j / 6 < L.length := by omega
      have hm : j % 6 < 6 := by omega
      have hx : L[j / 6]? = some L[j / 6] := List.getElem?_eq_getElem hi
      have h1 := rk_get segL_len L hx hm
      rw [show j / 6 * 6 + j % 6 = j from by omega, hu] at h1
      obtain ⟨ad', he, hel⟩ := hl'.at hx
      have h2 := hel (j % 6) u h1.symm
      rw [show j / 6 * 6 + j % 6 = j from by omega] at h2
      exact ⟨⟨ad', he, h2⟩, segL_one _ u (List.mem_of_getElem? h1.symm)⟩
    · intro v w2 hu2 hc2 hb2 _
      rw [Nat.zero_add, List.nil_append] at hu2
      have hgs : w.heap.size ≤ g := hgs
      refine go T 4 rfl ?_
      refine post1 (.inl rfl) rfl rfl ⟨hc1.trans hc2 (fun k hk hlt => by simp [Value.ownBlock] at hk; omega), hu2, fun h hh => ?_⟩
      rcases hb2 with hb2 | ⟨g', hb2, hge⟩
      · rw [hb2] at hh; simp [Value.ownBlock] at hh; omega
      · rw [hb2] at hh; injection hh with hh; have := hc1.size; omega
set_option maxHeartbeats 2000000 in
/-- One goes, in place. -/
theorem deleteSeg_has (v : Value) (L : List SegM) (k : Nat) (w : World) (hown : Own w 26 6 v L.length (L.flatMap segL)) (hk : k < L.length) (hb : L.length ≤ 1000000) :
    Has Go.Proofs.Tryz.prog 140 #[v, .int .i64 (k : Int), .int .i64 ((k : Int) + 1)] w (fun v' w' => Chg v.ownBlock.toList w w' ∧ v'.ownBlock = v.ownBlock ∧ Own w' 26 6 v' (L.eraseIdx k).length ((L.eraseIdx k).flatMap segL)) := by
  obtain ⟨g, cap, cur, rfl, hn, hm, hblk, hl, ht⟩ := hown.blk (by omega)
  have hmm := hm
  unfold maxLen at hmm
  refine enter Go.Proofs.Tryz.func140 rfl rfl (by decide) rfl (e := [(0, .slice (some ⟨g, 0, none⟩) L.length cap), (1, .int .i64 (k : Int)), (2, .int .i64 ((k : Int) + 1))]) ⟨rfl, rfl, rfl, trivial⟩ ?_
  rw [show ((k : Int) + 1) = ((k + 1 : Nat) : Int) from by omega]
  refine run ?_
  refine go T 12 rfl ?_
  refine o1 rfl ?_
  refine op_slice3 T (l := k) (h' := k + 1) (m := L.length) rfl rfl rfl rfl rfl rfl rfl (by omega) (by omega) (by omega) (fun v13 => ?_)
  refine go T 7 rfl ?_
  refine eqF rfl rfl rfl rfl (by omega) ?_
  refine go T 13 rfl ?_
  refine W_walk 6 [] fol (by kernel_rfl) (by kernel_rfl) ?_
  refine Walk.plain rfl (by intro val w_ hR hp; exact op_move rfl rfl ⟨Chg.refl _ _, rfl⟩) ?_; dsimp only [List.nil_append, List.cons_append]
  refine Walk.plain rfl (by intro val w_ hR hp; exact op_move rfl rfl ⟨Chg.refl _ _, rfl⟩) ?_; dsimp only [List.nil_append, List.cons_append]
  refine Walk.plain (v := .slice (some ⟨g, 0, none⟩) k cap) rfl (by intro val w_ hR hp; exact op_slice_to T (h' := k) (k := .i64) rfl rfl rfl rfl rfl (by omega) ⟨Chg.refl _ _, rfl⟩) ?_; dsimp only [List.nil_append, List.cons_append]
  refine Walk.plain rfl (by intro val w_ hR hp; exact op_move rfl rfl ⟨Chg.refl _ _, rfl⟩) ?_; dsimp only [List.nil_append, List.cons_append]
  refine Walk.plain rfl (by intro val w_ hR hp; exact op_move rfl rfl ⟨Chg.refl _ _, rfl⟩) ?_; dsimp only [List.nil_append, List.cons_append]
  refine Walk.plain (v := .slice (if cap = k + 1 then some ⟨g, 0, none⟩ else (some (⟨g, 0, none⟩ : Addr)).map (·.add ((k + 1) * 6))) (L.length - (k + 1)) (cap - (k + 1))) rfl (by intro val w_ hR hp; exact op_slice T (l := k + 1) (h' := L.length) rfl rfl rfl rfl ⟨_, rfl⟩ rfl (by omega) (by omega) ⟨Chg.refl _ _, rfl⟩) ?_; dsimp only [List.nil_append, List.cons_append]
  skip
  refine Walk.fin ?_
  intro val w1 hc1 hp
  clear hp
  replace hown := hown.keep0 hc1
  replace hblk := hblk.keep0 hc1
  have hb1 := hblk
  obtain ⟨a, ha, hav⟩ : ∃ a, (if cap = k + 1 then some ⟨g, 0, none⟩ else (some (⟨g, 0, none⟩ : Addr)).map (·.add ((k + 1) * 6))) = some a ∧ (cap = k + 1 ∨ a = (⟨g, 0, none⟩ : Addr).add ((k + 1) * 6)) := by
    split
    · rename_i h; exact ⟨_, rfl, .inl h⟩
    · exact ⟨_, rfl, .inr rfl⟩
  rw [ha]
  have hcells : ∀ j u, ((L.drop (k + 1)).flatMap segL)[j]? = some u → w1.cell? (a.add j) = some u := fun j u hj => by
    rcases hav with h | h
    · have : L.drop (k + 1) = [] := List.drop_eq_nil_of_le (by omega)
      rw [this] at hj; simp at hj
    · rw [h, add_of_add, add_plain]
      have hlen : ((L.drop (k + 1)).flatMap segL).length = (L.length - (k + 1)) * 6 := by rw [rk_len segL_len, List.length_drop]
      have hjl := (List.getElem?_eq_some_iff.1 hj).1
      rw [hlen] at hjl
      refine hb1.cell ?_
      have e1 : (L.flatMap segL)[(k + 1) * 6 + j]? = some u := by
        have h2 : L.flatMap segL = (L.take (k + 1)).flatMap segL ++ (L.drop (k + 1)).flatMap segL := by rw [← List.flatMap_append, List.take_append_drop]
        rw [h2, List.getElem?_append_right (by rw [rk_len segL_len, List.length_take]; omega), rk_len segL_len, List.length_take, Nat.min_eq_left (by omega), Nat.add_sub_cancel_left]
        exact hj
      rw [← ht, List.getElem?_take] at e1
      split at e1
      · exact e1
      · cases e1
  have hnl : ((L.drop (k + 1)).flatMap segL).length = (L.length - (k + 1)) * 6 := by rw [rk_len segL_len, List.length_drop]
  have hfitl : k * 6 + ((L.drop (k + 1)).flatMap segL).length ≤ cur.length := by rw [hnl, hl]; omega
  have hone : ∀ u ∈ (L.drop (k + 1)).flatMap segL, u.oneCell' = true := fun u hu => by
    obtain ⟨x, _, hx⟩ := List.mem_flatMap.1 hu
    exact segL_one x u hx
  refine runL ?_
  refine o1 rfl ?_
  refine op_appendIn T (t := 22) (el := 26) (g := g) (a := a) (n := k) (cap := cap) (m := L.length - (k + 1)) (news := (L.drop (k + 1)).flatMap segL) rfl rfl rfl rfl rfl rfl hb1 hnl hcells hone (by omega) hfitl (fun w2 hc2 hb2 => ?_)
  have hb2 : Blk w2 g 26 (cur.take (k * 6) ++ (L.drop (k + 1)).flatMap segL ++ cur.drop (k * 6 + ((L.drop (k + 1)).flatMap segL).length)) := hb2
  have hkn : k + (L.length - (k + 1)) = L.length - 1 := by omega
  rw [hkn]
  have htk : cur.take (k * 6) = (L.take k).flatMap segL := by
    have : cur.take (k * 6) = (L.flatMap segL).take (k * 6) := by rw [← ht, List.take_take, Nat.min_eq_left (by omega)]
    rw [this]
    have h2 : L.flatMap segL = (L.take k).flatMap segL ++ (L.drop k).flatMap segL := by rw [← List.flatMap_append, List.take_append_drop]
    rw [h2]
    exact List.take_left' (by rw [rk_len segL_len, List.length_take, Nat.min_eq_left (by omega)])
  have her : cur.take (k * 6) ++ (L.drop (k + 1)).flatMap segL = (L.eraseIdx k).flatMap segL := by
    rw [htk, eraseIdx_split L k hk, List.flatMap_append]
  rw [her] at hb2
  have hel : (L.eraseIdx k).length = L.length - 1 := by rw [List.length_eraseIdx, if_pos hk]
  have hefl : ((L.eraseIdx k).flatMap segL).length = (L.length - 1) * 6 := by rw [rk_len segL_len, hel]
  have htot : ((L.eraseIdx k).flatMap segL ++ cur.drop (k * 6 + ((L.drop (k + 1)).flatMap segL).length)).length = cap * 6 := by
    rw [List.length_append, hefl, List.length_drop, hnl, hl]; omega
  generalize cur.drop (k * 6 + ((L.drop (k + 1)).flatMap segL).length) = back at *
  refine go T 9 rfl ?_
  refine o1 rfl ?_
  refine op_slice T (l := L.length - 1) (h' := L.length) rfl rfl rfl rfl ⟨_, rfl⟩ ⟨_, rfl⟩ (by omega) (by omega) ?_
  rw [if_neg (by omega)]
  refine op0 rfl rfl ?_
  refine op_clear T (A := some ⟨g, (L.length - 1) * 6, none⟩) (g := g) (off := (L.length - 1) * 6) (m := L.length - (L.length - 1)) (c := cap - (L.length - 1)) rfl rfl (by show some (Value.slice (some ((⟨g, 0, none⟩ : Addr).add ((L.length - 1) * 6))) _ _) = _; rw [add_plain]) rfl rfl rfl rfl (.inr rfl) hb2 (by rw [htot]; show (L.length - 1) * 6 + (L.length - (L.length - 1)) * 6 ≤ _; omega) (fun w3 rest hc3 hb3 hl3 => ?_)
  rw [List.take_left' hefl] at hb3 hl3
  rw [htot] at hl3
  refine go T 9 rfl ?_
  refine post1 (.inl rfl) rfl rfl ⟨(hc1.mono (fun k hk _ => by cases hk)).trans (hc2.trans hc3 (fun i hi _ => hi)) (fun i hi _ => by simpa [Value.ownBlock] using hi), rfl, ?_⟩
  rw [hel]
  exact Own.mk hb3 (by omega) hm hl3 (List.take_left' hefl)
end Go.Proofs.YtiadjkjlifnopaaGreatDoor.Tryz
/-! The library: a map's keys sorted; a map's copy. -/
set_option linter.unusedVariables false
namespace Go.Vc
open Go Go.RowKit Go.Maps Go.Proofs
end Go.Vc
namespace Go.Proofs.YtiadjkjlifnopaaGreatDoor.Tryz
open Go Go.Vc Go.RowKit Go.Maps Go.Sort Go.Shelf

theorem cloneD_has {κ β : Type} {kv : κ → Value} {bv : β → Value} {f : κ → Option β} {w : World} {b : Nat} (hm : MapAt kv bv w b f) :
    Has Go.Proofs.Tryz.prog 65 #[.map (some b)] w (fun v w' => ∃ b', v = .map (some b') ∧ w.heap.size ≤ b' ∧ Chg [] w w' ∧ MapAt kv bv w' b' f) := by
  obtain ⟨es, clk, h1, h2⟩ := hm
  refine ⟨⟨_, Go.Proofs.Tryz.func65, rfl, by decide⟩, (AnyW.maps_Clone Go.Proofs.Tryz.cloneM b es clk w h1).mono ?_⟩
  rintro e w' ⟨rfl, rfl⟩
  exact ⟨_, rfl, w.heap.size, rfl, Nat.le_refl _, Chg.alloc w _, es, clk, (MapKept.heap_alloc w _).1, h2⟩
end Go.Proofs.YtiadjkjlifnopaaGreatDoor.Tryz
/-! Files: how a file system lies in memory; its counts. -/
set_option linter.unusedVariables false
set_option linter.unusedSimpArgs false
namespace Go.Vc
open Go
/-- Where a file system lies: its maps, the row of the changes that wait, for each file its block and its bytes. -/
structure FsP where
  md : Nat
  ml : Nat
  wv : Value
  fb : List (Nat × Value)
def FsP.fp (p : FsP) (g : Nat) : List Nat := g :: p.md :: p.ml :: (p.wv.ownBlock.toList ++ p.fb.flatMap fun q => q.1 :: q.2.ownBlock.toList)
def ptrV (b : Nat) : Value := .pointer (some ⟨b, 0, none⟩)
def at2 (fb : List (Nat × Value)) (d : Dir) (k : Nm) : Option Nat := (looks d k).bind fun i => (fb[i]?).map (·.1)
def idV (fb : List (Nat × Value)) (o : Option Nat) : Value := match o.bind fun i => (fb[i]?).map (·.1) with
  | some b => ptrV b
  | none => .pointer none
def chV (fb : List (Nat × Value)) (c : ChM) : List Value := [.int .i64 c.kind, keyV c.name, keyV c.to, idV fb c.id]
theorem FsP.mem_fp {p : FsP} {g k : Nat} : k ∈ p.fp g ↔ k = g ∨ k = p.md ∨ k = p.ml ∨ p.wv.ownBlock = some k ∨ ∃ q ∈ p.fb, k = q.1 ∨ q.2.ownBlock = some k := by
  unfold FsP.fp
  simp [eq_comm]
end Go.Vc
namespace Go.Proofs.YtiadjkjlifnopaaGreatDoor.Tryz
open Go Go.Vc

structure FsAt (w : World) (g : Nat) (s : FsM) (p : FsP) : Prop where
  ok : FsOk s
  blk : Blk w g 86 [.int .i64 s.room, .map (some p.md), .map (some p.ml), p.wv, .int .i64 s.calls, .int .i64 s.fail]
  dirM : MapAt keyV ptrV w p.md (at2 p.fb s.dir)
  lastsM : MapAt keyV ptrV w p.ml (at2 p.fb s.lasts)
  waitsM : Own w 108 4 p.wv s.waits.length (s.waits.flatMap (chV p.fb))
  len : p.fb.length = s.files.length
  fblk : ∀ (i : Nat) q f, p.fb[i]? = some q → s.files[i]? = some f → Blk w q.1 106 [q.2, .int .i64 f.synced]
  fown : ∀ (i : Nat) q f, p.fb[i]? = some q → s.files[i]? = some f → Own w 5 1 q.2 f.b.length (u8s f.b)
  apart1 : p.md ≠ p.ml
  apart2 : (p.fb.map (·.1)).Nodup
  apart3 : ∀ (i j : Nat) q q' h, p.fb[i]? = some q → p.fb[j]? = some q' → q.2.ownBlock = some h → q'.2.ownBlock = some h → i = j

section
variable {w w' : World} {g : Nat} {s : FsM} {p : FsP} {S : List Nat}
theorem FsAt.file (x : FsAt w g s p) {q : Nat × Value} (hq : q ∈ p.fb) : ∃ (i : Nat) (f : FileM), p.fb[i]? = some q ∧ s.files[i]? = some f := by
  obtain ⟨i, hi⟩ := List.getElem?_of_mem hq
  have hil := (List.getElem?_eq_some_iff.1 hi).1
  rw [x.len] at hil
  exact ⟨i, _, hi, List.getElem?_eq_getElem hil⟩
theorem FsAt.lt (x : FsAt w g s p) : ∀ k ∈ p.fp g, k < w.heap.size := fun k hk => by
  rcases FsP.mem_fp.1 hk with rfl | rfl | rfl | h | ⟨q, hq, h⟩
  · exact x.blk.lt
  · exact x.dirM.lt
  · exact x.lastsM.lt
  · exact x.waitsM.lt h
  · obtain ⟨i, f, hi, hf⟩ := x.file hq
    rcases h with rfl | h
    · exact (x.fblk i q f hi hf).lt
    · exact (x.fown i q f hi hf).lt h
theorem FsAt.keep (x : FsAt w g s p) (hc : Chg S w w') (hS : ∀ k ∈ p.fp g, k ∉ S) : FsAt w' g s p := by
  have hm := fun k h => hS k (FsP.mem_fp.2 h)
  exact ⟨x.ok, x.blk.keep hc (hm g (.inl rfl)), x.dirM.keep hc (hm _ (.inr (.inl rfl))), x.lastsM.keep hc (hm _ (.inr (.inr (.inl rfl)))), x.waitsM.keep hc (fun h hh => hm h (.inr (.inr (.inr (.inl hh))))), x.len,
    fun i q f hq hf => (x.fblk i q f hq hf).keep hc (hm _ (.inr (.inr (.inr (.inr ⟨q, List.mem_of_getElem? hq, .inl rfl⟩))))),
    fun i q f hq hf => (x.fown i q f hq hf).keep hc (fun h hh => hm h (.inr (.inr (.inr (.inr ⟨q, List.mem_of_getElem? hq, .inr hh⟩))))), x.apart1, x.apart2, x.apart3⟩
theorem FsAt.keep0 (x : FsAt w g s p) (hc : Chg [] w w') : FsAt w' g s p := x.keep hc (fun _ _ => by simp)
/-- Only the struct's own cells have turned. -/
theorem FsAt.scalars (x : FsAt w g s p) (hc : Chg [g] w w') {room calls fail : Int} (hb : Blk w' g 86 [.int .i64 room, .map (some p.md), .map (some p.ml), p.wv, .int .i64 calls, .int .i64 fail])
    (hok : FsOk { s with room := room, calls := calls, fail := fail }) : FsAt w' g { s with room := room, calls := calls, fail := fail } p := by
  have hw : ∀ h, p.wv.ownBlock = some h → h ∉ [g] := fun h hh hm => by
    simp at hm
    obtain ⟨cur, hr⟩ := x.waitsM.row hh
    rw [hm] at hr
    exact x.blk.ne_ hr (by decide) rfl
  refine ⟨hok, hb, x.dirM.keep hc ?_, x.lastsM.keep hc ?_, x.waitsM.keep hc hw, x.len, fun i q f hq hf => (x.fblk i q f hq hf).keep hc ?_, fun i q f hq hf => (x.fown i q f hq hf).keep hc fun h hh hm => ?_, x.apart1, x.apart2, x.apart3⟩
  · simpa using x.dirM.ne_blk x.blk
  · simpa using x.lastsM.ne_blk x.blk
  · have := (x.fblk i q f hq hf).ne_ x.blk (by decide)
    simpa using this
  · simp at hm
    obtain ⟨cur, hr⟩ := (x.fown i q f hq hf).row hh
    rw [hm] at hr
    exact x.blk.ne_ hr (by decide) rfl
end

theorem room_has (n : Int) (w : World) : Has Go.Proofs.Tryz.prog 52 #[.int .i64 n] w (fun v w' => w' = w ∧ v = .int .i64 (roomM n)) := by
  refine enter Go.Proofs.Tryz.func52 rfl rfl (by decide) rfl (e := [(0, .int .i64 n)]) ⟨rfl, trivial⟩ ?_
  repeat (first | refine W_seq ?_ | refine W_region ?_ | refine W_ret ?_ | refine Then_n ?_ | refine WL_nil ?_ | refine WL_some rfl rfl rfl ?_ | refine op_move rfl rfl ?_ | refine op_assign rfl rfl ?_ | refine op_max rfl rfl rfl ?_ | refine op_min rfl rfl rfl ?_)
  exact post1 (.inl rfl) rfl rfl ⟨rfl, rfl⟩

theorem call_has (g : Nat) (s : FsM) (p : FsP) (w : World) (x : FsAt w g s p) (hcalls : s.calls < 1000000000) :
    Has Go.Proofs.Tryz.prog 54 #[ptrV g] w (fun v w' => Chg [g] w w' ∧ v = .int .i64 (if failsM s then 5 else 0) ∧ FsAt w' g (callM s) p) := by
  have hc0 := x.ok.calls0
  have hf0 := x.ok.fail0
  have hf1 := x.ok.fail1
  have hok := callM_ok x.ok
  refine enter Go.Proofs.Tryz.func54 rfl rfl (by decide) rfl (e := [(0, ptrV g)]) ⟨rfl, trivial⟩ ?_
  unfold ptrV
  have hb := x.blk
  repeat (first | refine W_seq ?_ | refine W_region ?_ | refine W_skip ?_ | refine Then_n ?_ | refine WL_nil ?_ | refine W_condF rfl ?_ | refine WL_some rfl rfl rfl ?_ | refine WL_none rfl rfl ?_ | refine op_move rfl rfl ?_ | refine op_assign rfl rfl ?_ | refine op_add rfl rfl rfl (wrap_i64_in (by omega) (by omega)) ?_ | refine op_nilCheck rfl rfl ?_ | refine op_fieldAddr T rfl rfl rfl rfl rfl rfl rfl rfl ?_ | refine op_eql_nilptr T rfl rfl rfl rfl rfl ?_ | refine op_loadB T rfl rfl rfl rfl (by assumption) (by exact rfl) ?_)
  refine op_store T rfl rfl rfl rfl rfl rfl hb (Nat.le_of_ble_eq_true rfl) (fun w1 hc1 hb1 _ => ?_)
  have hb1 : Blk w1 g 86 [.int .i64 s.room, .map (some p.md), .map (some p.ml), p.wv, .int .i64 (s.calls + 1), .int .i64 s.fail] := hb1
  repeat (first | refine W_seq ?_ | refine W_region ?_ | refine Then_n ?_ | refine WL_nil ?_ | refine WL_some rfl rfl rfl ?_ | refine WL_none rfl rfl ?_ | refine op_move rfl rfl ?_ | refine op_subt rfl rfl rfl (wrap_i64_in (by omega) (by omega)) ?_ | refine op_nilCheck rfl rfl ?_ | refine op_fieldAddr T rfl rfl rfl rfl rfl rfl rfl rfl ?_ | refine op_loadB T rfl rfl rfl rfl (by assumption) (by exact rfl) ?_)
  refine op_store T rfl rfl rfl rfl rfl rfl hb1 (Nat.le_of_ble_eq_true rfl) (fun w2 hc2 hb2 _ => ?_)
  have hb2 : Blk w2 g 86 [.int .i64 s.room, .map (some p.md), .map (some p.ml), p.wv, .int .i64 (s.calls + 1), .int .i64 (s.fail - 1)] := hb2
  have hc02 : Chg [g] w w2 := hc1.trans hc2 (fun _ h _ => h)
  by_cases hz : s.fail = 0
  · have hfm : failsM s = true := by unfold failsM; rw [hz]; rfl
    repeat (first | refine W_seq ?_ | refine W_region ?_ | refine W_ret ?_ | refine Then_n ?_ | refine Then_r ?_ | refine WL_nil ?_ | refine W_condT rfl ?_ | refine WL_some rfl rfl rfl ?_ | refine op_move rfl rfl ?_ | refine op_assign rfl rfl ?_ | refine op_nilCheck rfl rfl ?_ | refine op_eql rfl rfl rfl (fun hc => ?_) (fun hc => False.elim (by omega)) | refine op_fieldAddr T rfl rfl rfl rfl rfl rfl rfl rfl ?_ | refine op_loadB T rfl rfl rfl rfl (by assumption) (by exact rfl) ?_)
    refine post1 (.inl rfl) rfl rfl ⟨hc02, by rw [hfm]; rfl, x.scalars hc02 ?_ hok⟩
    rw [show max (s.fail - 1) (-1) = s.fail - 1 by omega]; exact hb2
  · have hfm : failsM s = false := by unfold failsM; simpa using hz
    repeat (first | refine W_seq ?_ | refine W_region ?_ | refine W_skip ?_ | refine Then_n ?_ | refine WL_nil ?_ | refine W_condF rfl ?_ | refine WL_some rfl rfl rfl ?_ | refine WL_none rfl rfl ?_ | refine op_move rfl rfl ?_ | refine op_max rfl rfl rfl ?_ | refine op_nilCheck rfl rfl ?_ | refine op_eql rfl rfl rfl (fun hc => False.elim (by omega)) (fun hc => ?_) | refine op_fieldAddr T rfl rfl rfl rfl rfl rfl rfl rfl ?_ | refine op_loadB T rfl rfl rfl rfl (by assumption) (by exact rfl) ?_)
    refine op_store T rfl rfl rfl rfl rfl rfl hb2 (Nat.le_of_ble_eq_true rfl) (fun w3 hc3 hb3 _ => ?_)
    have hc03 : Chg [g] w w3 := hc02.trans hc3 (fun _ h _ => h)
    repeat (first | refine W_seq ?_ | refine W_region ?_ | refine W_ret ?_ | refine Then_n ?_ | refine WL_nil ?_ | refine WL_some rfl rfl rfl ?_ | refine op_assign rfl rfl ?_)
    exact post1 (.inl rfl) rfl rfl ⟨hc03, by rw [hfm]; rfl, x.scalars hc03 hb3 hok⟩
end Go.Proofs.YtiadjkjlifnopaaGreatDoor.Tryz
/-! Files: names; changes of a directory. -/
set_option linter.unusedVariables false
set_option linter.unusedSimpArgs false
namespace Go.Vc
open Go
def goodC (c : UInt8) : Bool := (decide (97 ≤ c.toNat) && decide (c.toNat ≤ 122)) || (decide (65 ≤ c.toNat) && decide (c.toNat ≤ 90)) || (decide (48 ≤ c.toNat) && decide (c.toNat ≤ 57)) || decide (c.toNat = 46)
theorem mayM_eq (k : Nm) : mayM k = (k.all goodC && decide (1 ≤ k.length) && decide (k.length ≤ 20)) := rfl
theorem goodC_of {c : UInt8} (h : (97 ≤ c.toNat ∧ c.toNat ≤ 122) ∨ (65 ≤ c.toNat ∧ c.toNat ≤ 90) ∨ (48 ≤ c.toNat ∧ c.toNat ≤ 57) ∨ c.toNat = 46) : goodC c = true := by
  unfold goodC
  simp only [Bool.or_eq_true, Bool.and_eq_true, decide_eq_true_eq]
  omega
theorem goodC_not {c : UInt8} (h : ¬ (97 ≤ c.toNat ∧ c.toNat ≤ 122) ∧ ¬ (65 ≤ c.toNat ∧ c.toNat ≤ 90) ∧ ¬ (48 ≤ c.toNat ∧ c.toNat ≤ 57) ∧ ¬ c.toNat = 46) : goodC c = false := by
  rw [← Bool.not_eq_true]
  unfold goodC
  simp only [Bool.or_eq_true, Bool.and_eq_true, decide_eq_true_eq]
  omega
theorem at2_ins {fb : List (Nat × Value)} {d : Dir} (hr : Rising d) {k : Nm} {i : Nat} {q : Nat × Value} (hq : fb[i]? = some q) (k' : Nm) : at2 fb (ins d k i) k' = upd (at2 fb d) k q.1 k' := by
  unfold at2 upd
  rw [looks_ins hr]
  by_cases h : k' = k
  · rw [if_pos h, if_pos h]; simp [hq]
  · rw [if_neg h, if_neg h]
theorem at2_del (fb : List (Nat × Value)) (d : Dir) (k k' : Nm) : at2 fb (del d k) k' = rid (at2 fb d) k k' := by
  unfold at2 rid
  rw [looks_del]
  by_cases h : k' = k
  · rw [if_pos h, if_pos h]; rfl
  · rw [if_neg h, if_neg h]
theorem at2_some {fb : List (Nat × Value)} {d : Dir} {k : Nm} {i : Nat} {q : Nat × Value} (hl : looks d k = some i) (hq : fb[i]? = some q) : at2 fb d k = some q.1 := by
  unfold at2; rw [hl]; simp [hq]
theorem at2_none {fb : List (Nat × Value)} {d : Dir} {k : Nm} (hl : looks d k = none) : at2 fb d k = none := by
  unfold at2; rw [hl]; rfl
theorem idV_some {fb : List (Nat × Value)} {o : Option Nat} {i : Nat} {q : Nat × Value} (ho : o = some i) (hq : fb[i]? = some q) : idV fb o = ptrV q.1 := by
  unfold idV; rw [ho]; simp [hq]
theorem idV_form (fb : List (Nat × Value)) (o : Option Nat) : ∃ p, idV fb o = .pointer p := by
  unfold idV ptrV
  split <;> exact ⟨_, rfl⟩
end Go.Vc
namespace Go.Proofs.YtiadjkjlifnopaaGreatDoor.Tryz
open Go Go.Vc

set_option maxHeartbeats 1000000 in
theorem may_has (k : Nm) (w : World) (hk : k.length ≤ maxLen) : Has Go.Proofs.Tryz.prog 55 #[.string (str k)] w (fun v w' => w' = w ∧ v = .bool (mayM k)) := by
  unfold maxLen at hk
  refine enter Go.Proofs.Tryz.func55 rfl rfl (by decide) rfl (e := [(0, .string (str k))]) ⟨rfl, trivial⟩ ?_
  repeat (first | refine W_seq ?_ | refine W_block ?_ | refine W_region ?_ | refine Then_n ?_ | refine WL_nil ?_ | refine WL_some rfl rfl rfl ?_ | refine op_len_str T rfl rfl rfl rfl ?_ | refine op_move rfl rfl ?_ | refine op_assign rfl rfl ?_)
  refine W_loop (σ := Nat) (fun i => [(0, .string (str k)), (2, .bool false), (6, .int .i64 k.length), (7, .int .i64 i)])
    (fun (i : Nat) w' => i ≤ k.length ∧ w' = w ∧ ∀ (j : Nat) c, j < i → k[j]? = some c → goodC c = true) (fun i => k.length - i) 0 ⟨rfl, rfl, rfl, rfl, trivial⟩ ⟨by omega, rfl, fun j c h => by omega⟩ ?_
  rintro i w1 ⟨hi, rfl, hgood⟩
  by_cases hil : i < k.length
  · have hkc : k[i]? = some k[i] := List.getElem?_eq_getElem hil
    generalize k[i] = c at hkc
    have hgo : goodC c = true → ∀ (j : Nat) d, j < i + 1 → k[j]? = some d → goodC d = true := fun hg j d hj hd => by
      by_cases e : j = i
      · subst e; rw [hkc] at hd; injection hd with hd; subst hd; exact hg
      · exact hgood j d (by omega) hd
    have hbad : goodC c = false → mayM k = false := fun hg => by
      rw [mayM_eq]
      have : k.all goodC = false := by
        rw [← Bool.not_eq_true, List.all_eq_true]
        intro h
        have := h c (List.mem_of_getElem? hkc)
        rw [hg] at this; cases this
      rw [this]; rfl
    have hways : (97 ≤ c.toNat ∧ c.toNat ≤ 122) ∨ (122 < c.toNat) ∨ (90 < c.toNat ∧ c.toNat < 97) ∨ (65 ≤ c.toNat ∧ c.toNat ≤ 90) ∨ (57 < c.toNat ∧ c.toNat < 65) ∨ (48 ≤ c.toNat ∧ c.toNat ≤ 57) ∨ (c.toNat = 46) ∨ (c.toNat < 48 ∧ c.toNat ≠ 46) := by omega
    repeat (first | refine W_seq ?_ | refine W_block ?_ | refine W_region ?_ | refine W_skip ?_ | refine Then_n ?_ | refine WL_nil ?_ | refine W_condT rfl ?_ | refine WL_some rfl rfl rfl ?_ | refine op_move rfl rfl ?_ | refine op_assign rfl rfl ?_ | refine op_lss rfl rfl rfl (fun hc => ?_) (fun hc => False.elim (by omega)))
    refine op_index_str T rfl rfl rfl rfl hkc ?_
    rcases hways with h | h | h | h | h | h | h | h
    · repeat (first | refine W_seq ?_ | refine W_region ?_ | refine W_skip ?_ | refine Then_n ?_ | refine InBlock_n ?_ | refine WL_nil ?_ | refine W_condF rfl ?_ | refine WL_some rfl rfl rfl ?_ | refine WL_guardT rfl rfl rfl rfl ?_ | refine WL_guardF rfl rfl rfl rfl rfl ?_ | refine WL_guardU rfl rfl rfl rfl ?_ | refine op_move rfl rfl ?_ | refine op_assign rfl rfl ?_ | refine op_pick rfl rfl rfl rfl ?_ | refine op_add rfl rfl rfl (wrap_i64_in (by omega) (by omega)) ?_ | refine op_lss rfl rfl rfl (fun hc => False.elim (by omega)) (fun hc => ?_) | refine op_gtr rfl rfl rfl (fun hc => False.elim (by omega)) (fun hc => ?_))
      exact Round_n (i + 1) ⟨rfl, rfl, rfl, rfl, trivial⟩ ⟨by omega, rfl, hgo (goodC_of (by omega))⟩ (by omega)
    · repeat (first | refine W_seq ?_ | refine W_region ?_ | refine W_ret ?_ | refine Then_n ?_ | refine Then_r ?_ | refine InBlock_r ?_ | refine Round_r ?_ | refine WL_nil ?_ | refine W_condT rfl ?_ | refine WL_some rfl rfl rfl ?_ | refine WL_guardT rfl rfl rfl rfl ?_ | refine op_move rfl rfl ?_ | refine op_assign rfl rfl ?_ | refine op_pick rfl rfl rfl rfl ?_ | refine op_lss rfl rfl rfl (fun hc => False.elim (by omega)) (fun hc => ?_) | refine op_gtr rfl rfl rfl (fun hc => ?_) (fun hc => False.elim (by omega)) | refine op_neq rfl rfl rfl (fun hc => ?_) (fun hc => False.elim (by omega)))
      exact post1 (.inl rfl) rfl rfl ⟨rfl, by rw [hbad (goodC_not (by omega))]⟩
    · repeat (first | refine W_seq ?_ | refine W_region ?_ | refine W_ret ?_ | refine Then_n ?_ | refine Then_r ?_ | refine InBlock_r ?_ | refine Round_r ?_ | refine WL_nil ?_ | refine W_condT rfl ?_ | refine WL_some rfl rfl rfl ?_ | refine WL_guardT rfl rfl rfl rfl ?_ | refine WL_guardF rfl rfl rfl rfl rfl ?_ | refine op_move rfl rfl ?_ | refine op_assign rfl rfl ?_ | refine op_pick rfl rfl rfl rfl ?_ | refine op_lss rfl rfl rfl (fun hc => ?_) (fun hc => False.elim (by omega)) | refine op_lss rfl rfl rfl (fun hc => False.elim (by omega)) (fun hc => ?_) | refine op_gtr rfl rfl rfl (fun hc => ?_) (fun hc => False.elim (by omega)) | refine op_neq rfl rfl rfl (fun hc => ?_) (fun hc => False.elim (by omega)))
      exact post1 (.inl rfl) rfl rfl ⟨rfl, by rw [hbad (goodC_not (by omega))]⟩
    · repeat (first | refine W_seq ?_ | refine W_region ?_ | refine W_skip ?_ | refine Then_n ?_ | refine InBlock_n ?_ | refine WL_nil ?_ | refine W_condF rfl ?_ | refine WL_some rfl rfl rfl ?_ | refine WL_guardT rfl rfl rfl rfl ?_ | refine WL_guardF rfl rfl rfl rfl rfl ?_ | refine WL_guardU rfl rfl rfl rfl ?_ | refine op_move rfl rfl ?_ | refine op_assign rfl rfl ?_ | refine op_pick rfl rfl rfl rfl ?_ | refine op_add rfl rfl rfl (wrap_i64_in (by omega) (by omega)) ?_ | refine op_lss rfl rfl rfl (fun hc => ?_) (fun hc => False.elim (by omega)) | refine op_lss rfl rfl rfl (fun hc => False.elim (by omega)) (fun hc => ?_) | refine op_gtr rfl rfl rfl (fun hc => False.elim (by omega)) (fun hc => ?_))
      exact Round_n (i + 1) ⟨rfl, rfl, rfl, rfl, trivial⟩ ⟨by omega, rfl, hgo (goodC_of (by omega))⟩ (by omega)
    · repeat (first | refine W_seq ?_ | refine W_region ?_ | refine W_ret ?_ | refine Then_n ?_ | refine Then_r ?_ | refine InBlock_r ?_ | refine Round_r ?_ | refine WL_nil ?_ | refine W_condT rfl ?_ | refine WL_some rfl rfl rfl ?_ | refine WL_guardT rfl rfl rfl rfl ?_ | refine WL_guardF rfl rfl rfl rfl rfl ?_ | refine op_move rfl rfl ?_ | refine op_assign rfl rfl ?_ | refine op_pick rfl rfl rfl rfl ?_ | refine op_lss rfl rfl rfl (fun hc => ?_) (fun hc => False.elim (by omega)) | refine op_lss rfl rfl rfl (fun hc => False.elim (by omega)) (fun hc => ?_) | refine op_gtr rfl rfl rfl (fun hc => ?_) (fun hc => False.elim (by omega)) | refine op_neq rfl rfl rfl (fun hc => ?_) (fun hc => False.elim (by omega)))
      exact post1 (.inl rfl) rfl rfl ⟨rfl, by rw [hbad (goodC_not (by omega))]⟩
    · repeat (first | refine W_seq ?_ | refine W_region ?_ | refine W_skip ?_ | refine Then_n ?_ | refine InBlock_n ?_ | refine WL_nil ?_ | refine W_condF rfl ?_ | refine WL_some rfl rfl rfl ?_ | refine WL_guardT rfl rfl rfl rfl ?_ | refine WL_guardF rfl rfl rfl rfl rfl ?_ | refine op_move rfl rfl ?_ | refine op_assign rfl rfl ?_ | refine op_pick rfl rfl rfl rfl ?_ | refine op_add rfl rfl rfl (wrap_i64_in (by omega) (by omega)) ?_ | refine op_lss rfl rfl rfl (fun hc => ?_) (fun hc => False.elim (by omega)) | refine op_lss rfl rfl rfl (fun hc => False.elim (by omega)) (fun hc => ?_) | refine op_gtr rfl rfl rfl (fun hc => False.elim (by omega)) (fun hc => ?_))
      exact Round_n (i + 1) ⟨rfl, rfl, rfl, rfl, trivial⟩ ⟨by omega, rfl, hgo (goodC_of (by omega))⟩ (by omega)
    · repeat (first | refine W_seq ?_ | refine W_region ?_ | refine W_skip ?_ | refine Then_n ?_ | refine InBlock_n ?_ | refine WL_nil ?_ | refine W_condF rfl ?_ | refine WL_some rfl rfl rfl ?_ | refine WL_guardT rfl rfl rfl rfl ?_ | refine WL_guardF rfl rfl rfl rfl rfl ?_ | refine op_move rfl rfl ?_ | refine op_assign rfl rfl ?_ | refine op_pick rfl rfl rfl rfl ?_ | refine op_add rfl rfl rfl (wrap_i64_in (by omega) (by omega)) ?_ | refine op_lss rfl rfl rfl (fun hc => ?_) (fun hc => False.elim (by omega)) | refine op_neq rfl rfl rfl (fun hc => False.elim (by omega)) (fun hc => ?_))
      exact Round_n (i + 1) ⟨rfl, rfl, rfl, rfl, trivial⟩ ⟨by omega, rfl, hgo (goodC_of (by omega))⟩ (by omega)
    · repeat (first | refine W_seq ?_ | refine W_region ?_ | refine W_ret ?_ | refine Then_n ?_ | refine Then_r ?_ | refine InBlock_r ?_ | refine Round_r ?_ | refine WL_nil ?_ | refine W_condT rfl ?_ | refine WL_some rfl rfl rfl ?_ | refine WL_guardT rfl rfl rfl rfl ?_ | refine WL_guardF rfl rfl rfl rfl rfl ?_ | refine op_move rfl rfl ?_ | refine op_assign rfl rfl ?_ | refine op_pick rfl rfl rfl rfl ?_ | refine op_lss rfl rfl rfl (fun hc => ?_) (fun hc => False.elim (by omega)) | refine op_neq rfl rfl rfl (fun hc => ?_) (fun hc => False.elim (by omega)))
      exact post1 (.inl rfl) rfl rfl ⟨rfl, by rw [hbad (goodC_not (by omega))]⟩
  · obtain rfl : i = k.length := by omega
    have hall : k.all goodC = true := List.all_eq_true.2 fun c hc => by
      obtain ⟨j, hj⟩ := List.getElem?_of_mem hc
      exact hgood j c (List.getElem?_eq_some_iff.1 hj).1 hj
    have hm : mayM k = (decide (1 ≤ k.length) && decide (k.length ≤ 20)) := by rw [mayM_eq, hall]; rfl
    repeat (first | refine W_seq ?_ | refine W_region ?_ | refine W_exit ?_ | refine Then_n ?_ | refine Then_x ?_ | refine InBlock_hit ?_ | refine Round_x ?_ | refine WL_nil ?_ | refine W_condF rfl ?_ | refine WL_some rfl rfl rfl ?_ | refine op_move rfl rfl ?_ | refine op_lss rfl rfl rfl (fun hc => False.elim (by omega)) (fun hc => ?_))
    refine op_str_neq (b := []) rfl rfl rfl (fun hne => ?_) (fun he => ?_)
    · have h1 : 1 ≤ k.length := List.length_pos_iff.2 hne
      by_cases h20 : k.length ≤ 20
      · repeat (first | refine W_ret ?_ | refine Then_n ?_ | refine WL_nil ?_ | refine WL_some rfl rfl rfl ?_ | refine WL_guardT rfl rfl rfl rfl ?_ | refine op_len_str T rfl rfl rfl rfl ?_ | refine op_move rfl rfl ?_ | refine op_assign rfl rfl ?_ | refine op_pick rfl rfl rfl rfl ?_ | refine op_leq rfl rfl rfl (fun hc => ?_) (fun hc => False.elim (by omega)))
        exact post1 (.inl rfl) rfl rfl ⟨rfl, by rw [hm]; simp [h1, h20]⟩
      · repeat (first | refine W_ret ?_ | refine Then_n ?_ | refine WL_nil ?_ | refine WL_some rfl rfl rfl ?_ | refine WL_guardT rfl rfl rfl rfl ?_ | refine op_len_str T rfl rfl rfl rfl ?_ | refine op_move rfl rfl ?_ | refine op_assign rfl rfl ?_ | refine op_pick rfl rfl rfl rfl ?_ | refine op_leq rfl rfl rfl (fun hc => False.elim (by omega)) (fun hc => ?_))
        exact post1 (.inl rfl) rfl rfl ⟨rfl, by rw [hm]; simp [h20]⟩
    · subst he
      repeat (first | refine W_ret ?_ | refine Then_n ?_ | refine WL_nil ?_ | refine WL_some rfl rfl rfl ?_ | refine WL_guardF rfl rfl rfl rfl rfl ?_ | refine op_move rfl rfl ?_ | refine op_assign rfl rfl ?_ | refine op_pick rfl rfl rfl rfl ?_)
      exact post1 (.inl rfl) rfl rfl ⟨rfl, rfl⟩

set_option maxHeartbeats 1000000 in
theorem do_has (r : Nat) (fb : List (Nat × Value)) (d : Dir) (c : ChM) (w : World) (hm : MapAt keyV ptrV w r (at2 fb d)) (hd : DirOk fb.length d) (hf : Fit1 d c) (hi : ∀ i, c.id = some i → i < fb.length) :
    Has Go.Proofs.Tryz.prog 66 #[.map (some r), .agg (chV fb c).toArray] w (fun v w' => Chg [r] w w' ∧ MapAt keyV ptrV w' r (at2 fb (doM d c))) := by
  have hr := hd.up
  refine enter Go.Proofs.Tryz.func66 rfl rfl (by decide) rfl (e := [(0, .map (some r)), (1, .agg (chV fb c).toArray)]) ⟨rfl, rfl, trivial⟩ ?_
  repeat (first | refine W_seq ?_ | refine W_region ?_ | refine WL_some rfl rfl rfl ?_)
  refine op_box rfl rfl (fun g1 w1 hs1 hc1 hg1 => ?_)
  have hg1 : Blk w1 g1 108 [.int .i64 c.kind, .string (str c.name), .string (str c.to), idV fb c.id] := hg1
  have hm1 := hm.keep0 hc1
  by_cases h0 : c.kind = 0
  · obtain ⟨i, hci⟩ := Option.ne_none_iff_exists'.1 (hf.1 h0)
    have hil := hi i hci
    have hq : fb[i]? = some fb[i] := List.getElem?_eq_getElem hil
    rw [idV_some hci hq] at hg1
    generalize fb[i] = q at hq hg1
    have hdo : doM d c = ins d c.name i := by unfold doM; rw [if_pos h0, hci]
    repeat (first | refine W_seq ?_ | refine W_block ?_ | refine W_region ?_ | refine Then_n ?_ | refine WL_nil ?_ | refine W_condT rfl ?_ | refine WL_some rfl rfl rfl ?_ | refine WL_none rfl rfl ?_ | refine op_move rfl rfl ?_ | refine op_assign rfl rfl ?_ | refine op_eql rfl rfl rfl (fun hc => ?_) (fun hc => False.elim (by omega)) | refine op_fieldAddr T rfl rfl rfl rfl rfl rfl rfl rfl ?_ | refine op_loadB T rfl rfl rfl rfl (by assumption) (by exact rfl) ?_)
    refine op_mapUpdate T strKey (bv := ptrV) (b := q.1) rfl rfl rfl rfl rfl rfl hm1 (fun w2 hc2 hm2 _ => ?_)
    repeat (first | refine InBlock_n ?_ | refine WL_nil ?_)
    refine post0 (.inr rfl) rfl ⟨((hc1.mono (fun k hk _ => by cases hk)).trans hc2 (fun _ h _ => h)), ?_⟩
    rw [hdo]
    exact hm2.congr (fun k => (at2_ins hr hq k).symm)
  by_cases h1 : c.kind = 1
  · obtain ⟨i, hli⟩ := Option.ne_none_iff_exists'.1 (hf.2 h1)
    have hil := (hd.name _ (looks_mem hli)).2
    have hq : fb[i]? = some fb[i] := List.getElem?_eq_getElem hil
    generalize fb[i] = q at hq
    have hat := at2_some hli hq
    have hdo : doM d c = ins (del d c.name) c.to i := by unfold doM; rw [if_neg h0, if_pos h1, hli]
    repeat (first | refine W_seq ?_ | refine W_block ?_ | refine W_region ?_ | refine Then_n ?_ | refine WL_nil ?_ | refine W_condT rfl ?_ | refine W_condF rfl ?_ | refine WL_some rfl rfl rfl ?_ | refine op_move rfl rfl ?_ | refine op_assign rfl rfl ?_ | refine op_eql rfl rfl rfl (fun hc => ?_) (fun hc => False.elim (by omega)) | refine op_eql rfl rfl rfl (fun hc => False.elim (by omega)) (fun hc => ?_) | refine op_fieldAddr T rfl rfl rfl rfl rfl rfl rfl rfl ?_ | refine op_loadB T rfl rfl rfl rfl (by assumption) (by exact rfl) ?_)
    refine op_lookup_v T strKey rfl rfl rfl rfl rfl rfl hm1 (v := ptrV q.1) (fun b hb => by rw [hat] at hb; injection hb with hb; rw [hb]) (fun hn => by rw [hat] at hn; cases hn) ?_
    repeat (first | refine W_seq ?_ | refine W_region ?_ | refine Then_n ?_ | refine WL_nil ?_ | refine WL_some rfl rfl rfl ?_ | refine WL_none rfl rfl ?_ | refine op_move rfl rfl ?_ | refine op_assign rfl rfl ?_ | refine op_fieldAddr T rfl rfl rfl rfl rfl rfl rfl rfl ?_ | refine op_loadB T rfl rfl rfl rfl (by assumption) (by exact rfl) ?_)
    refine op_delete T strKey rfl rfl rfl rfl rfl rfl hm1 (fun w2 hc2 hm2 _ => ?_)
    have hg2 := hg1.keep hc2 (by simpa using fun e => hm1.ne_blk hg1 e.symm)
    repeat (first | refine W_region ?_ | refine Then_n ?_ | refine WL_nil ?_ | refine WL_some rfl rfl rfl ?_ | refine WL_none rfl rfl ?_ | refine op_move rfl rfl ?_ | refine op_fieldAddr T rfl rfl rfl rfl rfl rfl rfl rfl ?_ | refine op_loadB T rfl rfl rfl rfl (by assumption) (by exact rfl) ?_)
    refine op_mapUpdate T strKey (bv := ptrV) (b := q.1) rfl rfl rfl rfl rfl rfl hm2 (fun w3 hc3 hm3 _ => ?_)
    repeat (first | refine InBlock_n ?_ | refine WL_nil ?_)
    refine post0 (.inr rfl) rfl ⟨((hc1.mono (fun k hk _ => by cases hk)).trans (hc2.trans hc3 (fun _ h _ => h)) (fun _ h _ => h)), ?_⟩
    rw [hdo]
    refine hm3.congr (fun k => ?_)
    rw [at2_ins (del_rising hr c.name) hq k]
    unfold upd
    rw [at2_del]
  · have hdo : doM d c = del d c.name := by unfold doM; rw [if_neg h0, if_neg h1]
    have h0' : ¬ (c.kind : Int) = 0 := by omega
    repeat (first | refine W_seq ?_ | refine W_block ?_ | refine W_region ?_ | refine Then_n ?_ | refine WL_nil ?_ | refine W_condF rfl ?_ | refine WL_some rfl rfl rfl ?_ | refine WL_none rfl rfl ?_ | refine op_move rfl rfl ?_ | refine op_assign rfl rfl ?_ | refine op_eql rfl rfl rfl (fun hc => False.elim (by omega)) (fun hc => ?_) | refine op_fieldAddr T rfl rfl rfl rfl rfl rfl rfl rfl ?_ | refine op_loadB T rfl rfl rfl rfl (by assumption) (by exact rfl) ?_)
    refine op_delete T strKey rfl rfl rfl rfl rfl rfl hm1 (fun w2 hc2 hm2 _ => ?_)
    repeat (first | refine InBlock_n ?_ | refine WL_nil ?_)
    refine post0 (.inr rfl) rfl ⟨((hc1.mono (fun k hk _ => by cases hk)).trans hc2 (fun _ h _ => h)), ?_⟩
    rw [hdo]
    exact hm2.congr (fun k => (at2_del fb d c.name k).symm)
end Go.Proofs.YtiadjkjlifnopaaGreatDoor.Tryz
/-! Files: a change of the directory; new ones. -/
set_option linter.unusedVariables false
set_option linter.unusedSimpArgs false
namespace Go.Vc
open Go
theorem Replay.ids {n : Nat} : ∀ {cs : List ChM} {d d' : Dir}, Replay n d cs d' → ∀ c ∈ cs, ∀ i, c.id = some i → i < n
  | [], d, d', h, c, hc => by cases hc
  | c' :: cs, d, d', h, c, hc => by
    rcases List.mem_cons.1 hc with rfl | hc
    · exact h.2.2.1
    · exact Replay.ids h.2.2.2.2.2 c hc
theorem at2_more {fb : List (Nat × Value)} (q : Nat × Value) {d : Dir} (hd : DirOk fb.length d) (k : Nm) : at2 (fb ++ [q]) d k = at2 fb d k := by
  unfold at2
  cases hl : looks d k with
  | none => rfl
  | some i =>
    have := (hd.name _ (looks_mem hl)).2
    show ((fb ++ [q])[i]?).map _ = (fb[i]?).map _
    rw [List.getElem?_append_left this]
theorem idV_more {fb : List (Nat × Value)} (q : Nat × Value) {o : Option Nat} (h : ∀ i, o = some i → i < fb.length) : idV (fb ++ [q]) o = idV fb o := by
  unfold idV
  cases o with
  | none => rfl
  | some i =>
    simp only [Option.bind_some]
    rw [List.getElem?_append_left (h i rfl)]
theorem chV_more {fb : List (Nat × Value)} (q : Nat × Value) {c : ChM} (h : ∀ i, c.id = some i → i < fb.length) : chV (fb ++ [q]) c = chV fb c := by
  unfold chV; rw [idV_more q h]
theorem flatMap_congr' {α β : Type} {f g : α → List β} : ∀ {l : List α}, (∀ x ∈ l, f x = g x) → l.flatMap f = l.flatMap g
  | [], _ => rfl
  | a :: l, h => by rw [List.flatMap_cons, List.flatMap_cons, h a (by simp), flatMap_congr' (fun x hx => h x (by simp [hx]))]
/-- From a world to the next a file system's blocks are the old ones, or new. -/
def Grows (w : World) (g : Nat) (p p' : FsP) : Prop := ∀ k ∈ p'.fp g, k ∈ p.fp g ∨ w.heap.size ≤ k
theorem Grows.refl (w : World) (g : Nat) (p : FsP) : Grows w g p p := fun _ h => .inl h
theorem Grows.trans {w w' : World} {g : Nat} {p p' p'' : FsP} (h : Grows w g p p') (k : Grows w' g p' p'') (hs : w.heap.size ≤ w'.heap.size) : Grows w g p p'' := fun i hi => by
  rcases k i hi with h1 | h1
  · exact h i h1
  · exact .inr (Nat.le_trans hs h1)
theorem Chg.fps {w w1 w2 : World} {g : Nat} {p p' : FsP} (h1 : Chg (p.fp g) w w1) (hg : Grows w g p p') (h2 : Chg (p'.fp g) w1 w2) : Chg (p.fp g) w w2 :=
  h1.trans h2 (fun k hk hlt => by rcases hg k hk with h | h; exact h; omega)
end Go.Vc
namespace Go.Proofs.YtiadjkjlifnopaaGreatDoor.Tryz
open Go Go.Vc
section
variable {w w' : World} {g : Nat} {s : FsM} {p : FsP} {S : List Nat}
/-- A new file's block is taken in. -/
theorem FsAt.addFile (x : FsAt w g s p) {gf : Nat} (hb : Blk w gf 106 [.slice none 0 0, .int .i64 0]) (hf : gf ∉ p.fp g) (hok : FsOk { s with files := s.files ++ [⟨[], 0⟩] }) :
    FsAt w g { s with files := s.files ++ [⟨[], 0⟩] } { p with fb := p.fb ++ [(gf, .slice none 0 0)] } := by
  have hd : DirOk p.fb.length s.dir := by rw [x.len]; exact x.ok.dir
  have hl : DirOk p.fb.length s.lasts := by rw [x.len]; exact x.ok.lasts
  have hget : ∀ (i : Nat) q, (p.fb ++ [(gf, Value.slice none 0 0)])[i]? = some q → (i < p.fb.length ∧ p.fb[i]? = some q) ∨ (i = p.fb.length ∧ q = (gf, .slice none 0 0)) := fun i q hq => by
    by_cases hi : i < p.fb.length
    · rw [List.getElem?_append_left hi] at hq; exact .inl ⟨hi, hq⟩
    · rw [List.getElem?_append_right (by omega)] at hq
      have := (List.getElem?_eq_some_iff.1 hq).1
      simp at this
      obtain rfl : i = p.fb.length := by omega
      simp at hq
      exact .inr ⟨rfl, hq.symm⟩
  have hgf : ∀ (i : Nat) f, (s.files ++ [(⟨[], 0⟩ : FileM)])[i]? = some f → i < p.fb.length → s.files[i]? = some f := fun i f hf hi => by
    rw [List.getElem?_append_left (by rw [← x.len]; exact hi)] at hf; exact hf
  have hgl : ∀ f, (s.files ++ [(⟨[], 0⟩ : FileM)])[p.fb.length]? = some f → f = ⟨[], 0⟩ := fun f hf => by
    rw [x.len, List.getElem?_append_right (Nat.le_refl _)] at hf
    simp at hf; exact hf.symm
  refine ⟨hok, x.blk, x.dirM.congr (fun k => (at2_more _ hd k).symm), x.lastsM.congr (fun k => (at2_more _ hl k).symm), ?_, by simp [x.len], fun i q f hq hf' => ?_, fun i q f hq hf' => ?_, x.apart1, ?_, fun i j q q' h hq hq' h1 h2 => ?_⟩
  · show Own w _ 4 p.wv s.waits.length (s.waits.flatMap (chV (p.fb ++ [_])))
    rw [flatMap_congr' (g := chV p.fb) (fun c hc => chV_more _ (by rw [x.len]; exact x.ok.replay.ids c hc))]
    exact x.waitsM
  · rcases hget i q hq with ⟨hi, hq⟩ | ⟨rfl, rfl⟩
    · exact x.fblk i q f hq (hgf i f hf' hi)
    · obtain rfl := hgl f hf'; exact hb
  · rcases hget i q hq with ⟨hi, hq⟩ | ⟨rfl, rfl⟩
    · exact x.fown i q f hq (hgf i f hf' hi)
    · obtain rfl := hgl f hf'; exact Own.nil _ _ _
  · rw [List.map_append]
    refine List.nodup_append.2 ⟨x.apart2, by simp, fun a ha b hb e => ?_⟩
    obtain ⟨q, hq, rfl⟩ := List.mem_map.1 ha
    simp at hb
    subst hb
    exact hf (FsP.mem_fp.2 (.inr (.inr (.inr (.inr ⟨q, hq, .inl e.symm⟩)))))
  · rcases hget i q hq with ⟨hi, hq⟩ | ⟨rfl, rfl⟩
    · rcases hget j q' hq' with ⟨hj, hq'⟩ | ⟨rfl, rfl⟩
      · exact x.apart3 i j q q' h hq hq' h1 h2
      · cases h2
    · cases h1
/-- Its directory and the row of what waits have turned. -/
theorem FsAt.rest (x : FsAt w g s p) (hc : Chg S w w') (hS : ∀ k ∈ S, k < w.heap.size → k = g ∨ k = p.md ∨ p.wv.ownBlock = some k) {s' : FsM} {wv' : Value} (hfiles : s'.files = s.files) (hl : s'.lasts = s.lasts)
    (hb : Blk w' g 86 [.int .i64 s'.room, .map (some p.md), .map (some p.ml), wv', .int .i64 s'.calls, .int .i64 s'.fail]) (hdir : MapAt keyV ptrV w' p.md (at2 p.fb s'.dir))
    (hw : Own w' 108 4 wv' s'.waits.length (s'.waits.flatMap (chV p.fb))) (hok : FsOk s') : FsAt w' g s' { p with wv := wv' } := by
  have hc := hc.mono (S' := g :: p.md :: p.wv.ownBlock.toList) (fun k hk hlt => by
    rcases hS k hk hlt with h | h | h
    · simp [h]
    · simp [h]
    · simp [h])
  have hrow : ∀ k t cs, Blk w k t cs → t ≠ 86 → t ≠ 108 → k ∉ g :: p.md :: p.wv.ownBlock.toList := fun k t cs hk h1 h2 hm => by
    rcases List.mem_cons.1 hm with rfl | hm
    · exact hk.ne_ x.blk h1 rfl
    · rcases List.mem_cons.1 hm with rfl | hm
      · exact x.dirM.ne_blk hk rfl
      · obtain ⟨cur, hr⟩ := x.waitsM.row (by simpa using hm)
        exact hk.ne_ hr h2 rfl
  refine ⟨hok, hb, hdir, ?_, hw, by rw [hfiles]; exact x.len, fun i q f hq hf => ?_, fun i q f hq hf => ?_, x.apart1, x.apart2, x.apart3⟩
  · rw [hl]
    refine x.lastsM.keep hc (fun hm => ?_)
    rcases List.mem_cons.1 hm with h | hm
    · exact x.lastsM.ne_blk x.blk h
    · rcases List.mem_cons.1 hm with h | hm
      · exact x.apart1 h.symm
      · obtain ⟨cur, hr⟩ := x.waitsM.row (show p.wv.ownBlock = some p.ml by simpa using hm)
        exact x.lastsM.ne_blk hr rfl
  · rw [hfiles] at hf
    have h1 := x.fblk i q f hq hf
    exact h1.keep hc (hrow _ _ _ h1 (by decide) (by decide))
  · rw [hfiles] at hf
    refine (x.fown i q f hq hf).keep hc (fun h hh => ?_)
    obtain ⟨cur, hr⟩ := (x.fown i q f hq hf).row hh
    exact hrow _ _ _ hr (by decide) (by decide)
end

set_option maxHeartbeats 4000000 in
theorem change_has (g : Nat) (s : FsM) (p : FsP) (c : ChM) (w : World) (x : FsAt w g s p) (hf : Fit1 s.dir c) (hi : ∀ i, c.id = some i → i < s.files.length) (hok : FsOk (changeM s c)) (hcalls : s.calls < 1000000000) :
    Has Go.Proofs.Tryz.prog 56 #[ptrV g, .agg (chV p.fb c).toArray] w
    (fun v w' => Chg (p.fp g) w w' ∧ v = .int .i64 0 ∧ ∃ wv', FsAt w' g (changeM s c) { p with wv := wv' } ∧ Grows w g p { p with wv := wv' }) := by
  refine enter Go.Proofs.Tryz.func56 rfl rfl (by decide) rfl (e := [(0, ptrV g), (1, .agg (chV p.fb c).toArray)]) ⟨rfl, rfl, trivial⟩ ?_
  unfold ptrV
  have hwl := x.ok.waits
  have hwl2 : s.waits.length < 1000000000 := by omega
  repeat (first | refine W_seq ?_ | refine W_region ?_ | refine WL_some rfl rfl rfl ?_)
  refine op_box rfl rfl (fun g1 w1 hs1 hc1 hg1 => ?_)
  have hg1 : Blk w1 g1 108 [.int .i64 c.kind, .string (str c.name), .string (str c.to), idV p.fb c.id] := hg1
  have x1 := x.keep0 hc1
  have hb1 := x1.blk
  repeat (first | refine W_seq ?_ | refine Then_n ?_ | refine WL_nil ?_ | refine WL_some rfl rfl rfl ?_ | refine op_assign rfl rfl ?_)
  refine W_walk 5 [] fol (by kernel_rfl) (by kernel_rfl) ?_
  refine Walk.plain rfl (by intro val w_ hR hp; exact op_move rfl rfl ⟨Chg.refl _ _, rfl⟩) ?_; dsimp only [List.nil_append, List.cons_append]
  refine Walk.plain rfl (by intro val w_ hR hp; exact op_nilCheck rfl rfl ⟨Chg.refl _ _, rfl⟩) ?_; dsimp only [List.nil_append, List.cons_append]
  refine Walk.plain rfl (by intro val w_ hR hp; exact op_fieldAddr T rfl rfl rfl rfl rfl rfl rfl rfl ⟨Chg.refl _ _, rfl⟩) ?_; dsimp only [List.nil_append, List.cons_append]
  refine Walk.plain rfl (by intro val w_ hR hp; exact op_load T rfl rfl rfl rfl ((Blk.keep0 hb1 hR).cell rfl) ⟨Chg.refl _ _, rfl⟩) ?_; dsimp only [List.nil_append, List.cons_append]
  refine Walk.plain rfl (by intro val w_ hR hp; exact op_load_agg T rfl rfl rfl rfl (Blk.keep0 hg1 hR) (Nat.le_of_ble_eq_true rfl) rfl ⟨Chg.refl _ _, rfl⟩) ?_; dsimp only [List.nil_append, List.cons_append]
  refine Walk.fin ?_
  intro val w2 hc2 _
  have x2 := x1.keep0 hc2
  have hg2 := hg1.keep0 hc2
  refine WL_sub (e' := [(0, .pointer (some ⟨g, 0, none⟩)), (3, .pointer (some ⟨g1, 0, none⟩)), (8, .map (some p.md)), (9, .agg (chV p.fb c).toArray)]) ⟨rfl, rfl, rfl, rfl, trivial⟩ ?_
  repeat (refine WL_some rfl rfl rfl ?_)
  refine op_call rfl rfl rfl (do_has p.md p.fb s.dir c w2 x2.dirM (by rw [x2.len]; exact x2.ok.dir) hf (by rw [x2.len]; exact hi)) ?_
  rintro v w3 ⟨hc3, hm3⟩
  have hmdb : ∀ k t cs, Blk w2 k t cs → k ∉ [p.md] := fun k t cs hk hm => by
    simp at hm; subst hm; exact x2.dirM.ne_blk hk rfl
  have hb3 := x2.blk.keep hc3 (hmdb _ _ _ x2.blk)
  have hg3 := hg2.keep hc3 (hmdb _ _ _ hg2)
  have hw3 : Own w3 108 4 p.wv s.waits.length (s.waits.flatMap (chV p.fb)) := x2.waitsM.keep hc3 (fun h hh => by
    obtain ⟨cur, hr⟩ := x2.waitsM.row hh
    exact hmdb _ _ _ hr)
  obtain ⟨Aw, cw, hwf, _, _⟩ := hw3.form
  have hS : ∀ k ∈ p.wv.ownBlock.toList, k < w3.heap.size ∧ k ∈ p.fp g := fun k hk => ⟨hw3.lt (by simpa using hk), FsP.mem_fp.2 (.inr (.inr (.inr (.inl (by simpa using hk)))))⟩
  have hne1 : g ∉ p.wv.ownBlock.toList := fun hm => by
    obtain ⟨cur, hr⟩ := hw3.row (show p.wv.ownBlock = some g by simpa using hm)
    exact hb3.ne_ hr (by decide) rfl
  have hsz1 : w.heap.size ≤ g1 := hs1
  have hne2 : g1 ∉ p.wv.ownBlock.toList := fun hm => by
    have := x.waitsM.lt (show p.wv.ownBlock = some g1 by simpa using hm)
    omega
  repeat (first | refine W_seq ?_ | refine Then_n ?_ | refine WL_nil ?_)
  refine Q.W_walkq 8 7 p.wv.ownBlock.toList fol (by kernel_rfl) (by kernel_rfl) ?_
  refine Q.Walk.plain rfl rfl (by intro val w_ hR hp; exact op_move rfl rfl ⟨Chg.refl _ _, rfl⟩) ?_; dsimp only [List.nil_append, List.cons_append]
  refine Q.Walk.plain rfl rfl (by intro val w_ hR hp; exact op_move rfl rfl ⟨Chg.refl _ _, rfl⟩) ?_; dsimp only [List.nil_append, List.cons_append]
  refine Q.Walk.plain rfl rfl (by intro val w_ hR hp; exact op_nilCheck rfl rfl ⟨Chg.refl _ _, rfl⟩) ?_; dsimp only [List.nil_append, List.cons_append]
  refine Q.Walk.plain rfl rfl (by intro val w_ hR hp; exact op_fieldAddr T rfl rfl rfl rfl rfl rfl rfl rfl ⟨Chg.refl _ _, rfl⟩) ?_; dsimp only [List.nil_append, List.cons_append]
  refine Q.Walk.plain (v := p.wv) rfl rfl (by intro val w_ hR hp; exact op_load T rfl rfl rfl rfl ((hb3.keep hR hne1).cell rfl) ⟨Chg.refl _ _, rfl⟩) ?_; dsimp only [List.nil_append, List.cons_append]
  refine Q.Walk.plain (v := .agg (chV p.fb c).toArray) rfl rfl (by intro val w_ hR hp; exact op_load_agg T rfl rfl rfl rfl (hg3.keep hR hne2) (Nat.le_of_ble_eq_true rfl) rfl ⟨Chg.refl _ _, rfl⟩) ?_; dsimp only [List.nil_append, List.cons_append]
  refine Q.Walk.rel rfl (fun u w => ∃ g5, u = .slice (some ⟨g5, 0, none⟩) 1 1 ∧ Blk w g5 108 (chV p.fb c) ∧ w3.heap.size ≤ g5) rfl (fun u a b ⟨g5, h1, h2, h3⟩ hab => ⟨g5, h1, h2.keep hab (fun hm => by have := (hS _ hm).1; omega), h3⟩) ?_ ?_
  · intro val w_ hR hp
    refine op_buildSlice T rfl rfl rfl rfl rfl rfl rfl (fun g5 w5 hs5 hc5 hg5 => ⟨hc5, g5, rfl, hg5, by have := hR.size; omega⟩)
  dsimp only [List.nil_append, List.cons_append]
  refine Q.Walk.turn rfl (fun u w => Own w 108 4 u (s.waits.length + 1) ((s.waits ++ [c]).flatMap (chV p.fb)) ∧ (u.ownBlock = p.wv.ownBlock ∨ ∃ h, u.ownBlock = some h ∧ w3.heap.size ≤ h)) rfl (fun u a b h hab => ⟨h.1.keep0 hab, h.2⟩) ?_ ?_
  · intro val w_ hR hp
    obtain ⟨g5, he, hg5, hs5⟩ : ∃ g5, val 6 = .slice (some ⟨g5, 0, none⟩) 1 1 ∧ Blk w_ g5 108 (chV p.fb c) ∧ w3.heap.size ≤ g5 := hp 6 rfl _ _ rfl rfl
    have hw_ := hw3.keep0 hR
    refine op_append T (n := s.waits.length) (xs := s.waits.flatMap (chV p.fb)) (m := 1) (news := chV p.fb c) rfl rfl rfl (congrArg some he) rfl rfl rfl rfl hw_ rfl ?_ (by unfold maxLen; omega) (by show (s.waits.length + 1) * _ ≤ _; exact Nat.le_trans (Nat.mul_le_mul_right _ (show s.waits.length + 1 ≤ 1000000000 by omega)) (by decide)) ?_
    · intro j u hj
      refine ⟨⟨_, rfl, by rw [add_plain]; exact hg5.cell hj⟩, ?_⟩
      obtain ⟨ip, hip⟩ := idV_form p.fb c.id
      unfold chV at hj
      rw [hip] at hj
      match j, hj with
      | 0, hj => cases hj; rfl
      | 1, hj => cases hj; rfl
      | 2, hj => cases hj; rfl
      | 3, hj => cases hj; rfl
    · intro u w6 hu hc6 hb6 _
      refine ⟨hc6, ?_, hb6.imp id (fun ⟨h, h1, h2⟩ => ⟨h, h1, by have := hR.size; omega⟩)⟩
      rw [List.flatMap_append]
      simpa using hu
  dsimp only [List.nil_append, List.cons_append]
  refine Q.Walk.fin ?_
  intro val w6 hc6 hp
  obtain ⟨hw6, hwb6⟩ : Own w6 108 4 (val 7) (s.waits.length + 1) ((s.waits ++ [c]).flatMap (chV p.fb)) ∧ ((val 7).ownBlock = p.wv.ownBlock ∨ ∃ h, (val 7).ownBlock = some h ∧ w3.heap.size ≤ h) := hp 7 (by omega) _ _ rfl rfl
  clear hp
  refine WL_sub (e' := [(0, .pointer (some ⟨g, 0, none⟩)), (11, .pointer (some ⟨g, 0, none⟩)), (18, val 7)]) ⟨rfl, rfl, rfl, trivial⟩ ?_
  generalize val 7 = wv6 at hw6 hwb6
  obtain ⟨A6, c6, rfl, _, _⟩ := hw6.form
  have hb6 := hb3.keep hc6 hne1
  have hm6 := hm3.keep hc6 (fun hm => by
    obtain ⟨cur, hr⟩ := hw3.row (show p.wv.ownBlock = some p.md by simpa using hm)
    exact hm3.ne_blk hr rfl)
  repeat (first | refine WL_some rfl rfl rfl ?_ | refine WL_none rfl rfl ?_ | refine op_nilCheck rfl rfl ?_ | refine op_fieldAddr T rfl rfl rfl rfl rfl rfl rfl rfl ?_)
  refine op_store T rfl rfl rfl rfl rfl rfl hb6 (Nat.le_of_ble_eq_true rfl) (fun w7 hc7 hb7 _ => ?_)
  repeat (first | refine W_seq ?_ | refine W_region ?_ | refine W_ret ?_ | refine Then_n ?_ | refine WL_nil ?_ | refine WL_some rfl rfl rfl ?_ | refine op_assign rfl rfl ?_)
  have hc02 : Chg [] w w2 := hc1.trans' hc2
  have hc07 : Chg (g :: p.md :: p.wv.ownBlock.toList) w w7 := (((hc02.mono (fun k hk _ => by cases hk)).trans hc3 (fun k hk _ => by simp at hk; simp [hk])).trans hc6 (fun k hk _ => by simp at hk; simp [hk])).trans hc7 (fun k hk _ => by simp at hk; simp [hk])
  have hsz : w.heap.size ≤ w3.heap.size := Nat.le_trans hc02.size hc3.size
  refine post1 (.inl rfl) rfl rfl ⟨hc07.mono (fun k hk _ => ?_), rfl, _, x.rest hc07 (fun k hk _ => by simpa using hk) rfl rfl hb7 (hm6.keep hc7 (by simpa using hm6.ne_blk hb6)) ?_ hok, ?_⟩
  · simp at hk
    rcases hk with h | h | h
    · exact FsP.mem_fp.2 (.inl h)
    · exact FsP.mem_fp.2 (.inr (.inl h))
    · exact FsP.mem_fp.2 (.inr (.inr (.inr (.inl h))))
  · show Own w7 _ 4 _ (s.waits ++ [c]).length _
    rw [List.length_append]
    refine hw6.keep hc7 (fun h hh hm => ?_)
    simp at hm
    obtain ⟨cur, hr⟩ := hw6.row hh
    rw [hm] at hr
    exact hb6.ne_ hr (by decide) rfl
  · intro k hk
    rcases FsP.mem_fp.1 hk with h | h | h | h | h
    · exact .inl (FsP.mem_fp.2 (.inl h))
    · exact .inl (FsP.mem_fp.2 (.inr (.inl h)))
    · exact .inl (FsP.mem_fp.2 (.inr (.inr (.inl h))))
    · rcases hwb6 with h1 | ⟨i, h1, h2⟩
      · exact .inl (FsP.mem_fp.2 (.inr (.inr (.inr (.inl (h1.symm.trans h))))))
      · have h : Value.ownBlock _ = some k := h
        rw [h1] at h; injection h with h; exact .inr (by omega)
    · exact .inl (FsP.mem_fp.2 (.inr (.inr (.inr (.inr h)))))
end Go.Proofs.YtiadjkjlifnopaaGreatDoor.Tryz
/-! Files: how many bytes; names; Create, Rename, Remove; the scalars. -/
set_option linter.unusedVariables false
set_option linter.unusedSimpArgs false
namespace Go.Vc
open Go
def lenAt (s : FsM) (k : Nm) : Nat := match looks s.dir k with
  | some i => lenOf s i
  | none => 0
theorem usedM_eq {s : FsM} (h : FsOk s) : usedM s = ((s.dir.map (·.1)).map (lenAt s)).sum := by
  unfold usedM
  rw [List.map_map]
  congr 1
  refine List.map_congr_left fun p hp => ?_
  simp only [Function.comp, lenAt, looks_of_mem h.dir.up (k := p.1) (i := p.2) hp]
theorem lenAt_le {s : FsM} (h : FsOk s) (k : Nm) : lenAt s k ≤ 4194304 := by
  unfold lenAt
  split
  · exact lenOf_le h _
  · omega
theorem at2_isSome {fb : List (Nat × Value)} {d : Dir} (hd : DirOk fb.length d) (k : Nm) : (at2 fb d k).isSome = true ↔ k ∈ d.map (·.1) := by
  rw [← looks_isSome]
  unfold at2
  cases hl : looks d k with
  | none => simp
  | some i =>
    have := (hd.name _ (looks_mem hl)).2
    simp [List.getElem?_eq_getElem this]
theorem at2_inv {fb : List (Nat × Value)} {d : Dir} {k : Nm} {b : Nat} (h : at2 fb d k = some b) : ∃ (i : Nat) (q : Nat × Value), looks d k = some i ∧ fb[i]? = some q ∧ b = q.1 := by
  unfold at2 at h
  cases hl : looks d k with
  | none => rw [hl] at h; cases h
  | some i =>
    rw [hl] at h
    cases hq : fb[i]? with
    | none => simp [hq] at h
    | some q => simp [hq] at h; exact ⟨i, q, rfl, hq, h.symm⟩
end Go.Vc
namespace Go.Proofs.YtiadjkjlifnopaaGreatDoor.Tryz
open Go Go.Vc
theorem FsAt.dirOk {w : World} {g : Nat} {s : FsM} {p : FsP} (x : FsAt w g s p) : DirOk p.fb.length s.dir := by rw [x.len]; exact x.ok.dir
theorem FsAt.get {w : World} {g : Nat} {s : FsM} {p : FsP} (x : FsAt w g s p) {k : Nm} {i : Nat} (hl : looks s.dir k = some i) : ∃ (q : Nat × Value) (f : FileM), p.fb[i]? = some q ∧ s.files[i]? = some f := by
  have h := (x.dirOk.name _ (looks_mem hl)).2
  have h2 := h
  rw [x.len] at h2
  exact ⟨_, _, List.getElem?_eq_getElem h, List.getElem?_eq_getElem h2⟩

set_option maxHeartbeats 1000000 in
theorem used_has (g : Nat) (s : FsM) (p : FsP) (w : World) (x : FsAt w g s p) : Has Go.Proofs.Tryz.prog 70 #[ptrV g] w (fun v w' => Chg [] w w' ∧ v = .int .i64 (usedM s)) := by
  refine enter Go.Proofs.Tryz.func70 rfl rfl (by decide) rfl (e := [(0, ptrV g)]) ⟨rfl, trivial⟩ ?_
  unfold ptrV
  have hb := x.blk
  have hd := x.dirOk
  have hnd := hd.up.nodup
  repeat (first | refine W_seq ?_ | refine W_region ?_ | refine Then_n ?_ | refine WL_nil ?_ | refine W_condT rfl ?_ | refine WL_some rfl rfl rfl ?_ | refine op_move rfl rfl ?_ | refine op_assign rfl rfl ?_ | refine op_nilCheck rfl rfl ?_ | refine op_fieldAddr T rfl rfl rfl rfl rfl rfl rfl rfl ?_ | refine op_neq_nilptr T rfl rfl rfl rfl rfl ?_ | refine op_loadB T rfl rfl rfl rfl (by assumption) (by exact rfl) ?_)
  refine op_range T strKey rfl rfl rfl x.dirM (fun it w1 hsi hc1 hI1 => ?_)
  repeat (first | refine W_block ?_ | refine Then_n ?_ | refine WL_nil ?_)
  refine W_loop (σ := List Nm) (fun ks => [(0, .pointer (some ⟨g, 0, none⟩)), (3, .int .i64 ((ks.map (lenAt s)).sum : Nat)), (12, .pointer (some ⟨it, 0, none⟩))])
    (fun (ks : List Nm) w' => Chg [] w w' ∧ IterAt keyV ptrV w' it p.md (at2 p.fb s.dir) ks) (fun ks => 151 - ks.length) [] ⟨rfl, rfl, rfl, trivial⟩ ⟨hc1, hI1⟩ ?_
  rintro ks w2 ⟨hc2, hI2⟩
  have hin : ∀ k ∈ ks, k ∈ s.dir.map (·.1) := fun k hk => by
    obtain ⟨b, hb⟩ := hI2.mem k hk
    exact (at2_isSome hd k).1 (by rw [hb]; rfl)
  have hkl := nodup_length ks _ hI2.nodup hin
  have hfew := hd.few
  rw [List.length_map] at hkl
  have hsum := sum_le (lenAt s) 4194304 (lenAt_le x.ok) ks
  repeat (first | refine W_seq ?_ | refine W_region ?_ | refine WL_some rfl rfl rfl ?_)
  refine op_next strKey rfl rfl hI2 (fun hall => ?_) (fun k b w3 hf hkn hc3 hs3 hI3 => ?_)
  · have hp : ks.Perm (s.dir.map (·.1)) := (List.perm_ext_iff_of_nodup hI2.nodup hnd).2 fun k => ⟨hin k, fun hk => by
      obtain ⟨b, hb⟩ := Option.isSome_iff_exists.1 ((at2_isSome hd k).2 hk)
      exact hall k b hb⟩
    have hu : (ks.map (lenAt s)).sum = usedM s := by rw [usedM_eq x.ok]; exact (hp.map (lenAt s)).sum_nat
    rw [hu]
    repeat (first | refine W_seq ?_ | refine W_region ?_ | refine W_exit ?_ | refine W_ret ?_ | refine Then_n ?_ | refine Then_x ?_ | refine InBlock_hit ?_ | refine Round_x ?_ | refine WL_nil ?_ | refine W_condF rfl ?_ | refine WL_some rfl rfl rfl ?_ | refine op_move rfl rfl ?_ | refine op_assign rfl rfl ?_ | refine op_extract rfl rfl rfl ?_)
    exact post1 (.inl rfl) rfl rfl ⟨hc2, rfl⟩
  · obtain ⟨i, q, hl, hq, rfl⟩ := at2_inv hf
    obtain ⟨q', f, hq', hfi⟩ := x.get hl
    rw [hq] at hq'; injection hq' with hq'; subst hq'
    have hc03 : Chg [] w w3 := hc2.trans hc3 (fun j hj hlt => by simp at hj; omega)
    have hbf := (x.fblk i q f hq hfi).keep0 hc03
    obtain ⟨A, c, hv, hv1, hv2⟩ := (x.fown i q f hq hfi).form
    rw [hv] at hbf
    have hla : lenAt s k = f.b.length := by unfold lenAt lenOf; rw [hl]; simp [hfi]
    have hfl := (x.ok.files f (List.mem_of_getElem? hfi)).2
    repeat (first | refine W_seq ?_ | refine W_block ?_ | refine W_region ?_ | refine W_skip ?_ | refine Then_n ?_ | refine WL_nil ?_ | refine W_condT rfl ?_ | refine WL_some rfl rfl rfl ?_ | refine op_extract rfl rfl rfl ?_)
    refine op_entry strKey rfl rfl hI3 hf ?_
    unfold ptrV
    repeat (first | refine W_region ?_ | refine Then_n ?_ | refine InBlock_n ?_ | refine WL_nil ?_ | refine WL_some rfl rfl rfl ?_ | refine op_move rfl rfl ?_ | refine op_assign rfl rfl ?_ | refine op_len_slice T rfl rfl rfl rfl ?_ | refine op_add rfl rfl rfl (wrap_i64_in (by omega) (by omega)) ?_ | refine op_extract rfl rfl rfl ?_ | refine op_nilCheck rfl rfl ?_ | refine op_fieldAddr T rfl rfl rfl rfl rfl rfl rfl rfl ?_ | refine op_loadB T rfl rfl rfl rfl (by assumption) (by exact rfl) ?_)
    have hin3 : ∀ k' ∈ ks ++ [k], k' ∈ s.dir.map (·.1) := fun k' hk' => by
      obtain ⟨b, hb⟩ := hI3.mem k' hk'
      exact (at2_isSome hd k').1 (by rw [hb]; rfl)
    have hkl3 := nodup_length (ks ++ [k]) _ hI3.nodup hin3
    rw [List.length_map, List.length_append] at hkl3
    simp at hkl3
    refine Round_n (ks ++ [k]) ⟨rfl, ?_, rfl, trivial⟩ ⟨hc03, hI3⟩ (by simp; omega)
    rw [List.map_append, List.sum_append]
    simp only [List.map_cons, List.map_nil, List.sum_cons, List.sum_nil, hla]
    exact some_int (by omega)

theorem calls_has (g : Nat) (s : FsM) (p : FsP) (w : World) (x : FsAt w g s p) : Has Go.Proofs.Tryz.prog 14 #[ptrV g] w (fun v w' => w' = w ∧ v = .int .i64 s.calls) := by
  refine enter Go.Proofs.Tryz.func14 rfl rfl (by decide) rfl (e := [(0, ptrV g)]) ⟨rfl, trivial⟩ ?_
  unfold ptrV
  have hb := x.blk
  repeat (first | refine W_seq ?_ | refine W_region ?_ | refine W_skip ?_ | refine W_ret ?_ | refine Then_n ?_ | refine WL_nil ?_ | refine W_condF rfl ?_ | refine WL_some rfl rfl rfl ?_ | refine op_move rfl rfl ?_ | refine op_assign rfl rfl ?_ | refine op_nilCheck rfl rfl ?_ | refine op_fieldAddr T rfl rfl rfl rfl rfl rfl rfl rfl ?_ | refine op_eql_nilptr T rfl rfl rfl rfl rfl ?_ | refine op_loadB T rfl rfl rfl rfl (by assumption) (by exact rfl) ?_)
  exact post1 (.inl rfl) rfl rfl ⟨rfl, rfl⟩
theorem newFs_has (n : Int) (w : World) : Has Go.Proofs.Tryz.prog 18 #[.int .i64 n] w (fun v w' => Chg [] w w' ∧ ∃ g p, v = ptrV g ∧ FsAt w' g (newM n) p ∧ ∀ k ∈ p.fp g, w.heap.size ≤ k) := by
  refine enter Go.Proofs.Tryz.func18 rfl rfl (by decide) rfl (e := [(0, .int .i64 n)]) ⟨rfl, trivial⟩ ?_
  repeat (first | refine W_seq ?_ | refine W_region ?_ | refine Then_n ?_ | refine WL_nil ?_ | refine WL_some rfl rfl rfl ?_ | refine op_move rfl rfl ?_ | refine op_assign rfl rfl ?_)
  refine op_call rfl rfl rfl (room_has n w) ?_
  rintro _ w1 ⟨rfl, rfl⟩
  repeat (refine WL_some rfl rfl rfl ?_)
  refine op_makeMap keyV ptrV rfl (fun md w2 hs2 hc2 hm2 => ?_)
  repeat (refine WL_some rfl rfl rfl ?_)
  refine op_makeMap keyV ptrV rfl (fun ml w3 hs3 hc3 hm3 => ?_)
  repeat (first | refine WL_some rfl rfl rfl ?_ | refine op_build T rfl rfl rfl rfl rfl rfl ?_)
  refine op_box rfl rfl (fun g w4 hs4 hc4 hg4 => ?_)
  repeat (first | refine W_ret ?_ | refine Then_n ?_ | refine WL_nil ?_ | refine WL_some rfl rfl rfl ?_ | refine op_assign rfl rfl ?_)
  have hml := hm2.lt
  have h2 := hc2.size
  have h3 := hc3.size
  refine post1 (.inl rfl) rfl rfl ⟨(hc2.trans' hc3).trans' hc4, g, ⟨md, ml, .slice none 0 0, []⟩, rfl, ⟨newM_ok n, hg4, (hm2.keep0 (hc3.trans' hc4)).congr (fun k => rfl), (hm3.keep0 hc4).congr (fun k => rfl), Own.nil _ _ _, rfl, fun i q f h => by simp at h, fun i q f h => by simp at h, (show md ≠ ml by omega), List.nodup_nil, fun i j q q' h h1 => by simp at h1⟩, fun k hk => ?_⟩
  rcases FsP.mem_fp.1 hk with h | h | h | h | ⟨q, hq, h⟩
  · omega
  · have h : k = md := h
    omega
  · have h : k = ml := h
    omega
  · cases h
  · cases hq

/-- What a call leaves. -/
def FsDone (w : World) (g : Nat) (p : FsP) (r : FsM × Int) (v : Value) (w' : World) : Prop := Chg (p.fp g) w w' ∧ v = .int .i64 r.2 ∧ ∃ p', FsAt w' g r.1 p' ∧ Grows w g p p'
theorem mem_fp_self (p : FsP) (g : Nat) : g ∈ p.fp g := FsP.mem_fp.2 (.inl rfl)
theorem chg_self {w w' : World} {p : FsP} {g : Nat} (h : Chg [g] w w') : Chg (p.fp g) w w' := h.mono (fun k hk _ => by simp at hk; subst hk; exact mem_fp_self p k)

end Go.Proofs.YtiadjkjlifnopaaGreatDoor.Tryz
/-! Files: Create. -/
set_option linter.unusedVariables false
set_option linter.unusedSimpArgs false
namespace Go.Proofs.YtiadjkjlifnopaaGreatDoor.Tryz
open Go Go.Vc

set_option maxHeartbeats 8000000 in
theorem create_has (g : Nat) (s : FsM) (p : FsP) (k : Nm) (w : World) (x : FsAt w g s p) (hk : k.length ≤ maxLen) (hcalls : s.calls < 1000000000 - 1) :
    Has Go.Proofs.Tryz.prog 20 #[ptrV g, .string (str k)] w (FsDone w g p (createM s k)) := by
  refine enter Go.Proofs.Tryz.func20 rfl rfl (by decide) rfl (e := [(0, ptrV g), (1, .string (str k))]) ⟨rfl, rfl, trivial⟩ ?_
  unfold ptrV
  repeat (first | refine W_seq ?_ | refine W_region ?_ | refine Then_n ?_ | refine WL_nil ?_ | refine WL_some rfl rfl rfl ?_ | refine op_move rfl rfl ?_ | refine op_assign rfl rfl ?_)
  refine op_call rfl rfl rfl (call_has g s p w x (by omega)) ?_
  rintro _ w1 ⟨hc1, rfl, x1⟩
  have hcc : (callM s).calls < 1000000000 := by show s.calls + 1 < _; omega
  cases hfm : failsM s with
  | true =>
    have hr : createM s k = (callM s, 5) := by unfold createM; simp [hfm]
    rw [if_pos rfl]
    repeat (first | refine W_seq ?_ | refine W_region ?_ | refine W_ret ?_ | refine Then_n ?_ | refine Then_r ?_ | refine WL_nil ?_ | refine W_condT rfl ?_ | refine WL_some rfl rfl rfl ?_ | refine op_move rfl rfl ?_ | refine op_assign rfl rfl ?_ | refine op_neq rfl rfl rfl (fun hc => ?_) (fun hc => False.elim (by omega)))
    refine post1 (.inl rfl) rfl rfl ?_
    rw [hr]; exact ⟨chg_self hc1, rfl, p, x1, Grows.refl _ _ _⟩
  | false =>
  rw [if_neg (by simp)]
  repeat (first | refine W_seq ?_ | refine W_block ?_ | refine W_region ?_ | refine W_skip ?_ | refine Then_n ?_ | refine WL_nil ?_ | refine W_condF rfl ?_ | refine WL_some rfl rfl rfl ?_ | refine op_move rfl rfl ?_ | refine op_assign rfl rfl ?_ | refine op_neq rfl rfl rfl (fun hc => False.elim (by omega)) (fun hc => ?_))
  refine op_call rfl rfl rfl (may_has k w1 hk) ?_
  rintro _ w1 ⟨rfl, rfl⟩
  cases hmay : mayM k with
  | false =>
    have hr : createM s k = (callM s, 10) := by unfold createM; simp [hfm, hmay]
    repeat (first | refine W_seq ?_ | refine W_region ?_ | refine W_ret ?_ | refine Then_n ?_ | refine Then_r ?_ | refine InBlock_r ?_ | refine WL_nil ?_ | refine W_condT rfl ?_ | refine WL_some rfl rfl rfl ?_ | refine op_assign rfl rfl ?_ | refine op_notF rfl rfl ?_)
    refine post1 (.inl rfl) rfl rfl ?_
    rw [hr]; exact ⟨chg_self hc1, rfl, p, x1, Grows.refl _ _ _⟩
  | true =>
  have hb1 := x1.blk
  have hd1 := x1.dirOk
  have hend : ∀ w2, Chg [] w1 w2 → ((looks (callM s).dir k).isNone && decide (150 ≤ (callM s).dir.length)) = false →
      createM s k = (changeM { callM s with files := (callM s).files ++ [⟨[], 0⟩] } ⟨0, k, [], some (callM s).files.length⟩, 0) := fun w2 hc2 hn => by
    unfold createM
    simp only [hfm, hmay]
    rw [hn]
    simp
  have hok : ((looks (callM s).dir k).isNone && decide (150 ≤ (callM s).dir.length)) = false → FsOk (changeM { callM s with files := (callM s).files ++ [⟨[], 0⟩] } ⟨0, k, [], some (callM s).files.length⟩) := fun hn => by
    have := createM_ok x.ok k
    rw [hend w1 (Chg.refl _ _) hn] at this; exact this
  have hfile : FsOk { callM s with files := (callM s).files ++ [⟨[], 0⟩] } := by
    have h1 := x1.ok
    exact ⟨h1.room0, h1.room1, h1.calls0, h1.fail0, h1.fail1, fun f hf => by
      rcases List.mem_append.1 hf with hf | hf
      · exact h1.files f hf
      · simp at hf; subst hf; simp, h1.replay.more (by simp), h1.waits⟩
  cases hl : looks (callM s).dir k with
  | none =>
    repeat (first | refine W_seq ?_ | refine W_region ?_ | refine Then_n ?_ | refine WL_nil ?_ | refine W_condF rfl ?_ | refine WL_some rfl rfl rfl ?_ | refine op_move rfl rfl ?_ | refine op_assign rfl rfl ?_ | refine op_notT rfl rfl ?_ | refine op_nilCheck rfl rfl ?_ | refine op_fieldAddr T rfl rfl rfl rfl rfl rfl rfl rfl ?_ | refine op_loadB T rfl rfl rfl rfl (by assumption) (by exact rfl) ?_)
    refine op_lookup_v T strKey rfl rfl rfl rfl rfl rfl x1.dirM (v := .pointer none) (fun b hb => by rw [at2_none hl] at hb; cases hb) (fun _ => rfl) ?_
    repeat (first | refine WL_some rfl rfl rfl ?_ | refine WL_guardT rfl rfl rfl rfl ?_ | refine op_move rfl rfl ?_ | refine op_nilCheck rfl rfl ?_ | refine op_fieldAddr T rfl rfl rfl rfl rfl rfl rfl rfl ?_ | refine op_eql_nilptr T rfl rfl rfl rfl rfl ?_ | refine op_loadB T rfl rfl rfl rfl (by assumption) (by exact rfl) ?_)
    refine op_len_map T strKey (ks := (callM s).dir.map (·.1)) rfl rfl rfl rfl x1.dirM hd1.up.nodup (fun k' => (at2_isSome hd1 k').symm) ?_
    rw [List.length_map]
    by_cases hfull : 150 ≤ (callM s).dir.length
    · have hr : createM s k = (callM s, 4) := by unfold createM; simp [hfm, hmay, hl, hfull]
      repeat (first | refine W_seq ?_ | refine W_region ?_ | refine W_ret ?_ | refine Then_n ?_ | refine Then_r ?_ | refine InBlock_r ?_ | refine WL_nil ?_ | refine W_condT rfl ?_ | refine WL_some rfl rfl rfl ?_ | refine WL_guardT rfl rfl rfl rfl ?_ | refine op_assign rfl rfl ?_ | refine op_pick rfl rfl rfl rfl ?_ | refine op_geq rfl rfl rfl (fun hc => ?_) (fun hc => False.elim (by omega)))
      refine post1 (.inl rfl) rfl rfl ?_
      rw [hr]; exact ⟨chg_self hc1, rfl, p, x1, Grows.refl _ _ _⟩
    have hn : ((looks (callM s).dir k).isNone && decide (150 ≤ (callM s).dir.length)) = false := by simp [hfull]
    rw [hend w1 (Chg.refl _ _) hn]
    have hok := hok hn
    repeat (first | refine W_seq ?_ | refine W_region ?_ | refine W_skip ?_ | refine Then_n ?_ | refine InBlock_n ?_ | refine WL_nil ?_ | refine W_condF rfl ?_ | refine WL_some rfl rfl rfl ?_ | refine WL_guardT rfl rfl rfl rfl ?_ | refine op_move rfl rfl ?_ | refine op_assign rfl rfl ?_ | refine op_pick rfl rfl rfl rfl ?_ | refine op_geq rfl rfl rfl (fun hc => False.elim (by omega)) (fun hc => ?_) | refine op_build T rfl rfl rfl rfl rfl rfl ?_)
    refine op_box rfl rfl (fun gf w2 hs2 hc2 hg2 => ?_)
    have x2 := (x1.keep0 hc2).addFile hg2 (fun hm => by have := x1.lt gf hm; omega) hfile
    have hid : idV (p.fb ++ [(gf, Value.slice none 0 0)]) (some (callM s).files.length) = ptrV gf := idV_some (i := (callM s).files.length) (q := (gf, .slice none 0 0)) rfl (by rw [← x1.len]; simp)
    have hcv : chV (p.fb ++ [(gf, Value.slice none 0 0)]) ⟨0, k, [], some (callM s).files.length⟩ = [.int .i64 ((0 : Nat) : Int), .string (str k), .string (str []), .pointer (some ⟨gf, 0, none⟩)] := by unfold chV; rw [hid]; rfl
    repeat (first | refine WL_some rfl rfl rfl ?_ | refine op_build T rfl rfl rfl rfl rfl rfl ?_)
    have hcall := change_has g _ _ ⟨0, k, [], some (callM s).files.length⟩ w2 x2 ⟨fun _ => by simp, fun e => by simp at e⟩ (fun i hi => by simp at hi; subst hi; simp) hok hcc
    rw [hcv] at hcall
    refine op_call rfl rfl rfl hcall ?_
    rintro _ w3 ⟨hc3, rfl, wv', x3, hgr⟩
    repeat (first | refine W_ret ?_ | refine Then_n ?_ | refine WL_nil ?_ | refine WL_some rfl rfl rfl ?_ | refine op_assign rfl rfl ?_)
    have hg2 : Grows w g p { p with fb := p.fb ++ [(gf, Value.slice none 0 0)] } := fun j hj => by
      rcases FsP.mem_fp.1 hj with h | h | h | h | ⟨q, hq, h⟩
      · exact .inl (FsP.mem_fp.2 (.inl h))
      · exact .inl (FsP.mem_fp.2 (.inr (.inl h)))
      · exact .inl (FsP.mem_fp.2 (.inr (.inr (.inl h))))
      · exact .inl (FsP.mem_fp.2 (.inr (.inr (.inr (.inl h)))))
      · rcases List.mem_append.1 hq with hq | hq
        · exact .inl (FsP.mem_fp.2 (.inr (.inr (.inr (.inr ⟨q, hq, h⟩)))))
        · simp at hq
          subst hq
          rcases h with rfl | h
          · exact .inr (by have := hc1.size; omega)
          · cases h
    have hc02 := (chg_self (p := p) hc1).trans' hc2
    exact post1 (.inl rfl) rfl rfl ⟨hc02.fps hg2 hc3, rfl, _, x3, hg2.trans hgr hc02.size⟩
  | some i =>
    obtain ⟨q, f, hq, hfi⟩ := x1.get hl
    repeat (first | refine W_seq ?_ | refine W_region ?_ | refine Then_n ?_ | refine WL_nil ?_ | refine W_condF rfl ?_ | refine WL_some rfl rfl rfl ?_ | refine op_move rfl rfl ?_ | refine op_assign rfl rfl ?_ | refine op_notT rfl rfl ?_ | refine op_nilCheck rfl rfl ?_ | refine op_fieldAddr T rfl rfl rfl rfl rfl rfl rfl rfl ?_ | refine op_loadB T rfl rfl rfl rfl (by assumption) (by exact rfl) ?_)
    refine op_lookup_v T strKey rfl rfl rfl rfl rfl rfl x1.dirM (v := ptrV q.1) (fun b hb => by rw [at2_some hl hq] at hb; injection hb with hb; rw [hb]) (fun hn => by rw [at2_some hl hq] at hn; cases hn) ?_
    unfold ptrV
    have hn : ((looks (callM s).dir k).isNone && decide (150 ≤ (callM s).dir.length)) = false := by simp [hl]
    rw [hend w1 (Chg.refl _ _) hn]
    have hok := hok hn
    repeat (first | refine W_seq ?_ | refine W_region ?_ | refine W_skip ?_ | refine Then_n ?_ | refine InBlock_n ?_ | refine WL_nil ?_ | refine W_condF rfl ?_ | refine WL_some rfl rfl rfl ?_ | refine WL_guardF rfl rfl rfl rfl rfl ?_ | refine op_move rfl rfl ?_ | refine op_assign rfl rfl ?_ | refine op_pick rfl rfl rfl rfl ?_ | refine op_eql_nilptr T rfl rfl rfl rfl rfl ?_ | refine op_build T rfl rfl rfl rfl rfl rfl ?_)
    refine op_box rfl rfl (fun gf w2 hs2 hc2 hg2 => ?_)
    have x2 := (x1.keep0 hc2).addFile hg2 (fun hm => by have := x1.lt gf hm; omega) hfile
    have hid : idV (p.fb ++ [(gf, Value.slice none 0 0)]) (some (callM s).files.length) = ptrV gf := idV_some (i := (callM s).files.length) (q := (gf, .slice none 0 0)) rfl (by rw [← x1.len]; simp)
    have hcv : chV (p.fb ++ [(gf, Value.slice none 0 0)]) ⟨0, k, [], some (callM s).files.length⟩ = [.int .i64 ((0 : Nat) : Int), .string (str k), .string (str []), .pointer (some ⟨gf, 0, none⟩)] := by unfold chV; rw [hid]; rfl
    repeat (first | refine WL_some rfl rfl rfl ?_ | refine op_build T rfl rfl rfl rfl rfl rfl ?_)
    have hcall := change_has g _ _ ⟨0, k, [], some (callM s).files.length⟩ w2 x2 ⟨fun _ => by simp, fun e => by simp at e⟩ (fun i hi => by simp at hi; subst hi; simp) hok hcc
    rw [hcv] at hcall
    refine op_call rfl rfl rfl hcall ?_
    rintro _ w3 ⟨hc3, rfl, wv', x3, hgr⟩
    repeat (first | refine W_ret ?_ | refine Then_n ?_ | refine WL_nil ?_ | refine WL_some rfl rfl rfl ?_ | refine op_assign rfl rfl ?_)
    have hg2 : Grows w g p { p with fb := p.fb ++ [(gf, Value.slice none 0 0)] } := fun j hj => by
      rcases FsP.mem_fp.1 hj with h | h | h | h | ⟨q, hq, h⟩
      · exact .inl (FsP.mem_fp.2 (.inl h))
      · exact .inl (FsP.mem_fp.2 (.inr (.inl h)))
      · exact .inl (FsP.mem_fp.2 (.inr (.inr (.inl h))))
      · exact .inl (FsP.mem_fp.2 (.inr (.inr (.inr (.inl h)))))
      · rcases List.mem_append.1 hq with hq | hq
        · exact .inl (FsP.mem_fp.2 (.inr (.inr (.inr (.inr ⟨q, hq, h⟩)))))
        · simp at hq
          subst hq
          rcases h with rfl | h
          · exact .inr (by have := hc1.size; omega)
          · cases h
    have hc02 := (chg_self (p := p) hc1).trans' hc2
    exact post1 (.inl rfl) rfl rfl ⟨hc02.fps hg2 hc3, rfl, _, x3, hg2.trans hgr hc02.size⟩
end Go.Proofs.YtiadjkjlifnopaaGreatDoor.Tryz
/-! Files: Rename, Remove, SyncDir. -/
set_option linter.unusedVariables false
set_option linter.unusedSimpArgs false
namespace Go.Proofs.YtiadjkjlifnopaaGreatDoor.Tryz
open Go Go.Vc

set_option maxHeartbeats 4000000 in
theorem rename_has (g : Nat) (s : FsM) (p : FsP) (k k' : Nm) (w : World) (x : FsAt w g s p) (hk : k'.length ≤ maxLen) (hcalls : s.calls < 1000000000 - 1) :
    Has Go.Proofs.Tryz.prog 93 #[ptrV g, .string (str k), .string (str k')] w (FsDone w g p (renameM s k k')) := by
  refine enter Go.Proofs.Tryz.func93 rfl rfl (by decide) rfl (e := [(0, ptrV g), (1, .string (str k)), (2, .string (str k'))]) ⟨rfl, rfl, rfl, trivial⟩ ?_
  unfold ptrV
  repeat (first | refine W_seq ?_ | refine W_region ?_ | refine Then_n ?_ | refine WL_nil ?_ | refine WL_some rfl rfl rfl ?_ | refine op_move rfl rfl ?_ | refine op_assign rfl rfl ?_)
  refine op_call rfl rfl rfl (call_has g s p w x (by omega)) ?_
  rintro _ w1 ⟨hc1, rfl, x1⟩
  have hcc : (callM s).calls < 1000000000 := by show s.calls + 1 < _; omega
  cases hfm : failsM s with
  | true =>
    have hr : renameM s k k' = (callM s, 5) := by unfold renameM; simp [hfm]
    rw [if_pos rfl]
    repeat (first | refine W_seq ?_ | refine W_region ?_ | refine W_ret ?_ | refine Then_n ?_ | refine Then_r ?_ | refine WL_nil ?_ | refine W_condT rfl ?_ | refine WL_some rfl rfl rfl ?_ | refine op_move rfl rfl ?_ | refine op_assign rfl rfl ?_ | refine op_neq rfl rfl rfl (fun hc => ?_) (fun hc => False.elim (by omega)))
    refine post1 (.inl rfl) rfl rfl ?_
    rw [hr]; exact ⟨chg_self hc1, rfl, p, x1, Grows.refl _ _ _⟩
  | false =>
  rw [if_neg (by simp)]
  have hb1 := x1.blk
  cases hl : looks (callM s).dir k with
  | none =>
    have hr : renameM s k k' = (callM s, 3) := by unfold renameM; simp [hfm, hl]
    repeat (first | refine W_seq ?_ | refine W_block ?_ | refine W_region ?_ | refine W_skip ?_ | refine Then_n ?_ | refine WL_nil ?_ | refine W_condF rfl ?_ | refine WL_some rfl rfl rfl ?_ | refine op_move rfl rfl ?_ | refine op_assign rfl rfl ?_ | refine op_nilCheck rfl rfl ?_ | refine op_neq rfl rfl rfl (fun hc => False.elim (by omega)) (fun hc => ?_) | refine op_fieldAddr T rfl rfl rfl rfl rfl rfl rfl rfl ?_ | refine op_loadB T rfl rfl rfl rfl (by assumption) (by exact rfl) ?_)
    refine op_lookup_v T strKey rfl rfl rfl rfl rfl rfl x1.dirM (v := .pointer none) (fun b hb => by rw [at2_none hl] at hb; cases hb) (fun _ => rfl) ?_
    repeat (first | refine W_seq ?_ | refine W_region ?_ | refine W_ret ?_ | refine Then_n ?_ | refine Then_r ?_ | refine InBlock_r ?_ | refine WL_nil ?_ | refine W_condT rfl ?_ | refine WL_some rfl rfl rfl ?_ | refine op_assign rfl rfl ?_ | refine op_eql_nilptr T rfl rfl rfl rfl rfl ?_)
    refine post1 (.inl rfl) rfl rfl ?_
    rw [hr]; exact ⟨chg_self hc1, rfl, p, x1, Grows.refl _ _ _⟩
  | some i =>
  obtain ⟨q, f, hq, hfi⟩ := x1.get hl
  repeat (first | refine W_seq ?_ | refine W_block ?_ | refine W_region ?_ | refine W_skip ?_ | refine Then_n ?_ | refine WL_nil ?_ | refine W_condF rfl ?_ | refine WL_some rfl rfl rfl ?_ | refine op_move rfl rfl ?_ | refine op_assign rfl rfl ?_ | refine op_nilCheck rfl rfl ?_ | refine op_neq rfl rfl rfl (fun hc => False.elim (by omega)) (fun hc => ?_) | refine op_fieldAddr T rfl rfl rfl rfl rfl rfl rfl rfl ?_ | refine op_loadB T rfl rfl rfl rfl (by assumption) (by exact rfl) ?_)
  refine op_lookup_v T strKey rfl rfl rfl rfl rfl rfl x1.dirM (v := ptrV q.1) (fun b hb => by rw [at2_some hl hq] at hb; injection hb with hb; rw [hb]) (fun hn => by rw [at2_some hl hq] at hn; cases hn) ?_
  unfold ptrV
  repeat (first | refine W_seq ?_ | refine W_region ?_ | refine Then_n ?_ | refine WL_nil ?_ | refine W_condF rfl ?_ | refine WL_some rfl rfl rfl ?_ | refine op_move rfl rfl ?_ | refine op_assign rfl rfl ?_ | refine op_eql_nilptr T rfl rfl rfl rfl rfl ?_)
  refine op_call rfl rfl rfl (may_has k' w1 hk) ?_
  rintro _ w1 ⟨rfl, rfl⟩
  cases hmay : mayM k' with
  | false =>
    have hr : renameM s k k' = (callM s, 10) := by unfold renameM; simp [hfm, hl, hmay]
    repeat (first | refine W_seq ?_ | refine W_region ?_ | refine W_ret ?_ | refine Then_n ?_ | refine Then_r ?_ | refine InBlock_r ?_ | refine WL_nil ?_ | refine W_condT rfl ?_ | refine WL_some rfl rfl rfl ?_ | refine op_assign rfl rfl ?_ | refine op_notF rfl rfl ?_)
    refine post1 (.inl rfl) rfl rfl ?_
    rw [hr]; exact ⟨chg_self hc1, rfl, p, x1, Grows.refl _ _ _⟩
  | true =>
  have hr : renameM s k k' = (changeM (callM s) ⟨1, k, k', none⟩, 0) := by unfold renameM; simp [hfm, hl, hmay]
  have hok := renameM_ok x.ok k k'
  rw [hr] at hok
  have hcv : chV p.fb ⟨1, k, k', none⟩ = [.int .i64 ((1 : Nat) : Int), .string (str k), .string (str k'), .pointer none] := rfl
  have hcall := change_has g _ _ ⟨1, k, k', none⟩ w1 x1 ⟨fun e => by simp at e, fun _ => by simp [hl]⟩ (fun i hi => by cases hi) hok hcc
  rw [hcv] at hcall
  repeat (first | refine W_seq ?_ | refine W_region ?_ | refine W_skip ?_ | refine Then_n ?_ | refine InBlock_n ?_ | refine WL_nil ?_ | refine W_condF rfl ?_ | refine WL_some rfl rfl rfl ?_ | refine op_move rfl rfl ?_ | refine op_assign rfl rfl ?_ | refine op_notT rfl rfl ?_ | refine op_build T rfl rfl rfl rfl rfl rfl ?_)
  refine op_call rfl rfl rfl hcall ?_
  rintro _ w2 ⟨hc2, rfl, wv', x2, hgr⟩
  repeat (first | refine W_ret ?_ | refine Then_n ?_ | refine WL_nil ?_ | refine WL_some rfl rfl rfl ?_ | refine op_assign rfl rfl ?_)
  refine post1 (.inl rfl) rfl rfl ?_
  rw [hr]
  exact ⟨(chg_self hc1).fps (Grows.refl _ _ _) hc2, rfl, _, x2, (Grows.refl _ _ _).trans hgr hc1.size⟩

set_option maxHeartbeats 4000000 in
theorem remove_has (g : Nat) (s : FsM) (p : FsP) (k : Nm) (w : World) (x : FsAt w g s p) (hcalls : s.calls < 1000000000 - 1) :
    Has Go.Proofs.Tryz.prog 129 #[ptrV g, .string (str k)] w (FsDone w g p (removeM s k)) := by
  refine enter Go.Proofs.Tryz.func129 rfl rfl (by decide) rfl (e := [(0, ptrV g), (1, .string (str k))]) ⟨rfl, rfl, trivial⟩ ?_
  unfold ptrV
  repeat (first | refine W_seq ?_ | refine W_region ?_ | refine Then_n ?_ | refine WL_nil ?_ | refine WL_some rfl rfl rfl ?_ | refine op_move rfl rfl ?_ | refine op_assign rfl rfl ?_)
  refine op_call rfl rfl rfl (call_has g s p w x (by omega)) ?_
  rintro _ w1 ⟨hc1, rfl, x1⟩
  have hcc : (callM s).calls < 1000000000 := by show s.calls + 1 < _; omega
  cases hfm : failsM s with
  | true =>
    have hr : removeM s k = (callM s, 5) := by unfold removeM; simp [hfm]
    rw [if_pos rfl]
    repeat (first | refine W_seq ?_ | refine W_region ?_ | refine W_ret ?_ | refine Then_n ?_ | refine Then_r ?_ | refine WL_nil ?_ | refine W_condT rfl ?_ | refine WL_some rfl rfl rfl ?_ | refine op_move rfl rfl ?_ | refine op_assign rfl rfl ?_ | refine op_neq rfl rfl rfl (fun hc => ?_) (fun hc => False.elim (by omega)))
    refine post1 (.inl rfl) rfl rfl ?_
    rw [hr]; exact ⟨chg_self hc1, rfl, p, x1, Grows.refl _ _ _⟩
  | false =>
  rw [if_neg (by simp)]
  have hb1 := x1.blk
  cases hl : looks (callM s).dir k with
  | none =>
    have hr : removeM s k = (callM s, 3) := by unfold removeM; simp [hfm, hl]
    repeat (first | refine W_seq ?_ | refine W_region ?_ | refine W_skip ?_ | refine Then_n ?_ | refine WL_nil ?_ | refine W_condF rfl ?_ | refine WL_some rfl rfl rfl ?_ | refine op_move rfl rfl ?_ | refine op_assign rfl rfl ?_ | refine op_nilCheck rfl rfl ?_ | refine op_neq rfl rfl rfl (fun hc => False.elim (by omega)) (fun hc => ?_) | refine op_fieldAddr T rfl rfl rfl rfl rfl rfl rfl rfl ?_ | refine op_loadB T rfl rfl rfl rfl (by assumption) (by exact rfl) ?_)
    refine op_lookup_v T strKey rfl rfl rfl rfl rfl rfl x1.dirM (v := .pointer none) (fun b hb => by rw [at2_none hl] at hb; cases hb) (fun _ => rfl) ?_
    repeat (first | refine W_seq ?_ | refine W_region ?_ | refine W_ret ?_ | refine Then_n ?_ | refine Then_r ?_ | refine WL_nil ?_ | refine W_condT rfl ?_ | refine WL_some rfl rfl rfl ?_ | refine op_assign rfl rfl ?_ | refine op_eql_nilptr T rfl rfl rfl rfl rfl ?_)
    refine post1 (.inl rfl) rfl rfl ?_
    rw [hr]; exact ⟨chg_self hc1, rfl, p, x1, Grows.refl _ _ _⟩
  | some i =>
  obtain ⟨q, f, hq, hfi⟩ := x1.get hl
  repeat (first | refine W_seq ?_ | refine W_region ?_ | refine W_skip ?_ | refine Then_n ?_ | refine WL_nil ?_ | refine W_condF rfl ?_ | refine WL_some rfl rfl rfl ?_ | refine op_move rfl rfl ?_ | refine op_assign rfl rfl ?_ | refine op_nilCheck rfl rfl ?_ | refine op_neq rfl rfl rfl (fun hc => False.elim (by omega)) (fun hc => ?_) | refine op_fieldAddr T rfl rfl rfl rfl rfl rfl rfl rfl ?_ | refine op_loadB T rfl rfl rfl rfl (by assumption) (by exact rfl) ?_)
  refine op_lookup_v T strKey rfl rfl rfl rfl rfl rfl x1.dirM (v := ptrV q.1) (fun b hb => by rw [at2_some hl hq] at hb; injection hb with hb; rw [hb]) (fun hn => by rw [at2_some hl hq] at hn; cases hn) ?_
  unfold ptrV
  have hr : removeM s k = (changeM (callM s) ⟨2, k, [], none⟩, 0) := by unfold removeM; simp [hfm, hl]
  have hok := removeM_ok x.ok k
  rw [hr] at hok
  have hcv : chV p.fb ⟨2, k, [], none⟩ = [.int .i64 ((2 : Nat) : Int), .string (str k), .string (str []), .pointer none] := rfl
  have hcall := change_has g _ _ ⟨2, k, [], none⟩ w1 x1 ⟨fun e => by simp at e, fun e => by simp at e⟩ (fun i hi => by cases hi) hok hcc
  rw [hcv] at hcall
  repeat (first | refine W_seq ?_ | refine W_region ?_ | refine W_skip ?_ | refine Then_n ?_ | refine WL_nil ?_ | refine W_condF rfl ?_ | refine WL_some rfl rfl rfl ?_ | refine op_move rfl rfl ?_ | refine op_eql_nilptr T rfl rfl rfl rfl rfl ?_ | refine op_build T rfl rfl rfl rfl rfl rfl ?_)
  refine op_call rfl rfl rfl hcall ?_
  rintro _ w2 ⟨hc2, rfl, wv', x2, hgr⟩
  repeat (first | refine W_ret ?_ | refine Then_n ?_ | refine WL_nil ?_ | refine WL_some rfl rfl rfl ?_ | refine op_assign rfl rfl ?_)
  refine post1 (.inl rfl) rfl rfl ?_
  rw [hr]
  exact ⟨(chg_self hc1).fps (Grows.refl _ _ _) hc2, rfl, _, x2, (Grows.refl _ _ _).trans hgr hc1.size⟩

/-- The lasting directory is now a copy of the one that is. -/
theorem FsAt.syncD {w w' : World} {g : Nat} {s : FsM} {p : FsP} (x : FsAt w g s p) (hc : Chg [g] w w') {ml : Nat} (hb : Blk w' g 86 [.int .i64 s.room, .map (some p.md), .map (some ml), .slice none 0 0, .int .i64 s.calls, .int .i64 s.fail])
    (hm : MapAt keyV ptrV w' ml (at2 p.fb s.dir)) (hne : p.md ≠ ml) (hok : FsOk { s with lasts := s.dir, waits := [] }) : FsAt w' g { s with lasts := s.dir, waits := [] } { p with ml := ml, wv := .slice none 0 0 } := by
  have hrow : ∀ k t cs, Blk w k t cs → t ≠ 86 → k ∉ [g] := fun k t cs hk h1 hm => by
    simp at hm; subst hm
    exact hk.ne_ x.blk h1 rfl
  refine ⟨hok, hb, x.dirM.keep hc (by simpa using x.dirM.ne_blk x.blk), hm, Own.nil _ _ _, x.len, fun i q f hq hf => ?_, fun i q f hq hf => ?_, hne, x.apart2, x.apart3⟩
  · have h1 := x.fblk i q f hq hf
    exact h1.keep hc (hrow _ _ _ h1 (by decide))
  · refine (x.fown i q f hq hf).keep hc (fun h hh => ?_)
    obtain ⟨cur, hr⟩ := (x.fown i q f hq hf).row hh
    exact hrow _ _ _ hr (by decide)

set_option maxHeartbeats 2000000 in
theorem syncDir_has (g : Nat) (s : FsM) (p : FsP) (w : World) (x : FsAt w g s p) (hcalls : s.calls < 1000000000 - 1) :
    Has Go.Proofs.Tryz.prog 41 #[ptrV g] w (FsDone w g p (syncDirM s)) := by
  refine enter Go.Proofs.Tryz.func41 rfl rfl (by decide) rfl (e := [(0, ptrV g)]) ⟨rfl, trivial⟩ ?_
  unfold ptrV
  repeat (first | refine W_seq ?_ | refine W_region ?_ | refine Then_n ?_ | refine WL_nil ?_ | refine WL_some rfl rfl rfl ?_ | refine op_move rfl rfl ?_ | refine op_assign rfl rfl ?_)
  refine op_call rfl rfl rfl (call_has g s p w x (by omega)) ?_
  rintro _ w1 ⟨hc1, rfl, x1⟩
  cases hfm : failsM s with
  | true =>
    have hr : syncDirM s = (callM s, 5) := by unfold syncDirM; simp [hfm]
    rw [if_pos rfl]
    repeat (first | refine W_seq ?_ | refine W_region ?_ | refine W_ret ?_ | refine Then_n ?_ | refine Then_r ?_ | refine WL_nil ?_ | refine W_condT rfl ?_ | refine WL_some rfl rfl rfl ?_ | refine op_move rfl rfl ?_ | refine op_assign rfl rfl ?_ | refine op_neq rfl rfl rfl (fun hc => ?_) (fun hc => False.elim (by omega)))
    refine post1 (.inl rfl) rfl rfl ?_
    rw [hr]; exact ⟨chg_self hc1, rfl, p, x1, Grows.refl _ _ _⟩
  | false =>
  rw [if_neg (by simp)]
  have hb1 := x1.blk
  have hr : syncDirM s = ({ callM s with lasts := (callM s).dir, waits := [] }, 0) := by unfold syncDirM; simp [hfm]
  have hok := syncDirM_ok x.ok
  rw [hr] at hok
  repeat (first | refine W_seq ?_ | refine W_region ?_ | refine W_skip ?_ | refine Then_n ?_ | refine WL_nil ?_ | refine W_condF rfl ?_ | refine WL_some rfl rfl rfl ?_ | refine op_move rfl rfl ?_ | refine op_assign rfl rfl ?_ | refine op_nilCheck rfl rfl ?_ | refine op_neq rfl rfl rfl (fun hc => False.elim (by omega)) (fun hc => ?_) | refine op_fieldAddr T rfl rfl rfl rfl rfl rfl rfl rfl ?_ | refine op_loadB T rfl rfl rfl rfl (by assumption) (by exact rfl) ?_)
  refine op_call rfl rfl rfl (cloneD_has x1.dirM) ?_
  rintro _ w2 ⟨ml, rfl, hml, hc2, hm2⟩
  have x2 := x1.keep0 hc2
  have hb2 := x2.blk
  repeat (first | refine WL_some rfl rfl rfl ?_ | refine WL_none rfl rfl ?_ | refine op_nilCheck rfl rfl ?_ | refine op_fieldAddr T rfl rfl rfl rfl rfl rfl rfl rfl ?_)
  refine op_store T rfl rfl rfl rfl rfl rfl hb2 (Nat.le_of_ble_eq_true rfl) (fun w3 hc3 hb3 _ => ?_)
  have hb3 : Blk w3 g 86 [.int .i64 (callM s).room, .map (some p.md), .map (some ml), p.wv, .int .i64 (callM s).calls, .int .i64 (callM s).fail] := hb3
  repeat (first | refine WL_some rfl rfl rfl ?_ | refine WL_none rfl rfl ?_ | refine op_nilCheck rfl rfl ?_ | refine op_fieldAddr T rfl rfl rfl rfl rfl rfl rfl rfl ?_)
  refine op_store T rfl rfl rfl rfl rfl rfl hb3 (Nat.le_of_ble_eq_true rfl) (fun w4 hc4 hb4 _ => ?_)
  have hb4 : Blk w4 g 86 [.int .i64 (callM s).room, .map (some p.md), .map (some ml), .slice none 0 0, .int .i64 (callM s).calls, .int .i64 (callM s).fail] := hb4
  repeat (first | refine W_seq ?_ | refine W_region ?_ | refine W_ret ?_ | refine Then_n ?_ | refine WL_nil ?_ | refine WL_some rfl rfl rfl ?_ | refine op_assign rfl rfl ?_)
  have hc24 : Chg [g] w2 w4 := hc3.trans hc4 (fun _ h _ => h)
  have hmd := x1.dirM.lt
  have x4 := x2.syncD hc24 hb4 (hm2.keep hc24 (by simpa using hm2.ne_blk hb2)) (by omega) hok
  refine post1 (.inl rfl) rfl rfl ?_
  rw [hr]
  refine ⟨chg_self ((hc1.trans' hc2).trans hc24 (fun _ h _ => h)), rfl, _, x4, fun k hk => ?_⟩
  rcases FsP.mem_fp.1 hk with h | h | h | h | h
  · exact .inl (FsP.mem_fp.2 (.inl h))
  · exact .inl (FsP.mem_fp.2 (.inr (.inl h)))
  · have h : k = ml := h
    exact .inr (by have := hc1.size; omega)
  · cases h
  · exact .inl (FsP.mem_fp.2 (.inr (.inr (.inr (.inr h)))))
end Go.Proofs.YtiadjkjlifnopaaGreatDoor.Tryz
/-! Files: Sync, Append, Read. -/
set_option linter.unusedVariables false
set_option linter.unusedSimpArgs false
namespace Go.Vc
open Go
theorem at2_fst {fb fb' : List (Nat × Value)} (h : ∀ i : Nat, (fb'[i]?).map (·.1) = (fb[i]?).map (·.1)) (d : Dir) (k : Nm) : at2 fb' d k = at2 fb d k := by
  unfold at2; simp only [h]
theorem chV_fst {fb fb' : List (Nat × Value)} (h : ∀ i : Nat, (fb'[i]?).map (·.1) = (fb[i]?).map (·.1)) (c : ChM) : chV fb' c = chV fb c := by
  unfold chV idV; simp only [h]
theorem set_fst {fb : List (Nat × Value)} {i : Nat} {q : Nat × Value} (hq : fb[i]? = some q) (v : Value) (j : Nat) : ((fb.set i (q.1, v))[j]?).map (·.1) = (fb[j]?).map (·.1) := by
  rw [List.getElem?_set]
  by_cases h : i = j
  · subst h
    obtain ⟨h1, h2⟩ := List.getElem?_eq_some_iff.1 hq
    rw [if_pos rfl, if_pos h1, hq]; rfl
  · rw [if_neg h]
end Go.Vc
namespace Go.Proofs.YtiadjkjlifnopaaGreatDoor.Tryz
open Go Go.Vc

/-- One file's bytes, and how many of them are synced, have turned. -/
theorem FsAt.setFile {w w' : World} {g : Nat} {s : FsM} {p : FsP} {S : List Nat} (x : FsAt w g s p) {i : Nat} {q : Nat × Value} {f : FileM} (hq : p.fb[i]? = some q) (hf : s.files[i]? = some f) (gg : FileM → FileM) {v' : Value} (hc : Chg S w w')
    (hS : ∀ k ∈ S, k < w.heap.size → k = q.1 ∨ q.2.ownBlock = some k) (hb : Blk w' q.1 106 [v', .int .i64 (gg f).synced]) (ho : Own w' 5 1 v' (gg f).b.length (u8s (gg f).b))
    (hv : v'.ownBlock = q.2.ownBlock ∨ ∃ h, v'.ownBlock = some h ∧ w.heap.size ≤ h) (hok : FsOk { s with files := s.files.modify i gg }) :
    FsAt w' g { s with files := s.files.modify i gg } { p with fb := p.fb.set i (q.1, v') } ∧ Grows w g p { p with fb := p.fb.set i (q.1, v') } := by
  have hqb := x.fblk i q f hq hf
  have hc := hc.mono (S' := q.1 :: q.2.ownBlock.toList) (fun k hk hlt => by
    rcases hS k hk hlt with h | h
    · simp [h]
    · simp [h])
  have hil := (List.getElem?_eq_some_iff.1 hq).1
  have hnot : ∀ k, k < w.heap.size → k ≠ q.1 → q.2.ownBlock ≠ some k → k ∉ q.1 :: q.2.ownBlock.toList := fun k _ h1 h2 hm => by
    rcases List.mem_cons.1 hm with h | h
    · exact h1 h
    · exact h2 (by simpa using h)
  have hrow : ∀ k t cs, Blk w k t cs → t ≠ 106 → t ≠ 5 → k ∉ q.1 :: q.2.ownBlock.toList := fun k t cs hk h1 h2 => hnot k hk.lt (fun e => by subst e; exact hk.ne_ hqb h1 rfl) (fun e => by
    obtain ⟨cur, hr⟩ := (x.fown i q f hq hf).row e
    exact hk.ne_ hr h2 rfl)
  have hmap : ∀ (bv : Nat → Value) r ff, MapAt keyV bv w r ff → r ∉ q.1 :: q.2.ownBlock.toList := fun bv r ff hm => hnot r hm.lt (fun e => hm.ne_blk hqb e) (fun e => by
    obtain ⟨cur, hr⟩ := (x.fown i q f hq hf).row e
    exact hm.ne_blk hr rfl)
  have hfst := set_fst hq v'
  have hget : ∀ (j : Nat) q', (p.fb.set i (q.1, v'))[j]? = some q' → (j = i ∧ q' = (q.1, v')) ∨ (j ≠ i ∧ p.fb[j]? = some q') := fun j q' h => by
    rw [List.getElem?_set] at h
    by_cases e : i = j
    · subst e; rw [if_pos rfl, if_pos hil] at h; injection h with h; exact .inl ⟨rfl, h.symm⟩
    · rw [if_neg e] at h; exact .inr ⟨fun e' => e e'.symm, h⟩
  have hfile : ∀ (j : Nat) f', (s.files.modify i gg)[j]? = some f' → (j = i ∧ f' = gg f) ∨ (j ≠ i ∧ s.files[j]? = some f') := fun j f' h => by
    rw [List.getElem?_modify] at h
    by_cases e : i = j
    · subst e; simp [hf] at h; exact .inl ⟨rfl, h.symm⟩
    · simp [e] at h; exact .inr ⟨fun e' => e e'.symm, h⟩
  refine ⟨⟨hok, x.blk.keep hc (hrow _ _ _ x.blk (by decide) (by decide)), (x.dirM.keep hc (hmap _ _ _ x.dirM)).congr (fun k => (at2_fst hfst _ k).symm), (x.lastsM.keep hc (hmap _ _ _ x.lastsM)).congr (fun k => (at2_fst hfst _ k).symm), ?_, by simp [x.len], fun j q' f' h1 h2 => ?_, fun j q' f' h1 h2 => ?_, x.apart1, ?_, fun j j' q1 q2 h h1 h2 h3 h4 => ?_⟩, fun k hk => ?_⟩
  · show Own w' _ 4 p.wv s.waits.length (s.waits.flatMap (chV (p.fb.set i (q.1, v'))))
    rw [flatMap_congr' (g := chV p.fb) (fun c _ => chV_fst hfst c)]
    refine x.waitsM.keep hc (fun h hh => ?_)
    obtain ⟨cur, hr⟩ := x.waitsM.row hh
    exact hrow _ _ _ hr (by decide) (by decide)
  · rcases hget j q' h1 with ⟨rfl, rfl⟩ | ⟨hj, h1⟩
    · rcases hfile j f' h2 with ⟨_, rfl⟩ | ⟨h, _⟩
      · exact hb
      · exact absurd rfl h
    · rcases hfile j f' h2 with ⟨h, _⟩ | ⟨_, h2⟩
      · exact absurd h hj
      · have h5 := x.fblk j q' f' h1 h2
        refine h5.keep hc (hnot _ h5.lt (fun e => hj ?_) (fun e => ?_))
        · have hjl := (List.getElem?_eq_some_iff.1 h1).1
          refine (List.getElem?_inj (l := p.fb.map (·.1)) (by simpa using hjl) x.apart2).1 ?_
          rw [List.getElem?_map, List.getElem?_map, h1, hq]; simp [e]
        · obtain ⟨cur, hr⟩ := (x.fown i q f hq hf).row e
          exact h5.ne_ hr (by decide) rfl
  · rcases hget j q' h1 with ⟨rfl, rfl⟩ | ⟨hj, h1⟩
    · rcases hfile j f' h2 with ⟨_, rfl⟩ | ⟨h, _⟩
      · exact ho
      · exact absurd rfl h
    · rcases hfile j f' h2 with ⟨h, _⟩ | ⟨_, h2⟩
      · exact absurd h hj
      · have h5 := x.fown j q' f' h1 h2
        refine h5.keep hc (fun h hh => hnot _ (h5.lt hh) (fun e => ?_) (fun e => hj (x.apart3 j i q' q h h1 hq hh e)))
        obtain ⟨cur, hr⟩ := h5.row hh
        rw [e] at hr
        exact hqb.ne_ hr (by decide) rfl
  · have : (p.fb.set i (q.1, v')).map (·.1) = p.fb.map (·.1) := by
      apply List.ext_getElem?
      intro j
      rw [List.getElem?_map, List.getElem?_map]; exact hfst j
    show (List.map _ _).Nodup
    rw [this]; exact x.apart2
  · rcases hget j q1 h1 with ⟨rfl, rfl⟩ | ⟨hj, g1⟩
    · rcases hget j' q2 h2 with ⟨rfl, rfl⟩ | ⟨hj', g2⟩
      · rfl
      · have h3 : v'.ownBlock = some h := h3
        rcases hv with hv | ⟨h', hv, hge⟩
        · exact x.apart3 j j' q q2 h hq g2 (hv.symm.trans h3) h4
        · obtain ⟨f2, hf2⟩ : ∃ f2, s.files[j']? = some f2 := ⟨_, List.getElem?_eq_getElem (by rw [← x.len]; exact (List.getElem?_eq_some_iff.1 g2).1)⟩
          have := (x.fown j' q2 f2 g2 hf2).lt h4
          rw [h3] at hv; injection hv with hv; omega
    · rcases hget j' q2 h2 with ⟨rfl, rfl⟩ | ⟨hj', g2⟩
      · have h4 : v'.ownBlock = some h := h4
        rcases hv with hv | ⟨h', hv, hge⟩
        · exact x.apart3 j j' q1 q h g1 hq h3 (hv.symm.trans h4)
        · obtain ⟨f2, hf2⟩ : ∃ f2, s.files[j]? = some f2 := ⟨_, List.getElem?_eq_getElem (by rw [← x.len]; exact (List.getElem?_eq_some_iff.1 g1).1)⟩
          have := (x.fown j q1 f2 g1 hf2).lt h3
          rw [h4] at hv; injection hv with hv; omega
      · exact x.apart3 j j' q1 q2 h g1 g2 h3 h4
  · rcases FsP.mem_fp.1 hk with h | h | h | h | ⟨q', hq', h⟩
    · exact .inl (FsP.mem_fp.2 (.inl h))
    · exact .inl (FsP.mem_fp.2 (.inr (.inl h)))
    · exact .inl (FsP.mem_fp.2 (.inr (.inr (.inl h))))
    · exact .inl (FsP.mem_fp.2 (.inr (.inr (.inr (.inl h)))))
    · rcases List.mem_or_eq_of_mem_set hq' with hq' | rfl
      · exact .inl (FsP.mem_fp.2 (.inr (.inr (.inr (.inr ⟨q', hq', h⟩)))))
      · have hqm := List.mem_of_getElem? hq
        rcases h with h | h
        · exact .inl (FsP.mem_fp.2 (.inr (.inr (.inr (.inr ⟨q, hqm, .inl h⟩)))))
        · have h : v'.ownBlock = some k := h
          rcases hv with hv | ⟨h', hv, hge⟩
          · exact .inl (FsP.mem_fp.2 (.inr (.inr (.inr (.inr ⟨q, hqm, .inr (hv.symm.trans h)⟩)))))
          · rw [h] at hv; injection hv with hv; exact .inr (by omega)

theorem FsAt.mem_file {w : World} {g : Nat} {s : FsM} {p : FsP} (x : FsAt w g s p) {i : Nat} {q : Nat × Value} (hq : p.fb[i]? = some q) : q.1 ∈ p.fp g ∧ ∀ h, q.2.ownBlock = some h → h ∈ p.fp g :=
  ⟨FsP.mem_fp.2 (.inr (.inr (.inr (.inr ⟨q, List.mem_of_getElem? hq, .inl rfl⟩)))), fun h hh => FsP.mem_fp.2 (.inr (.inr (.inr (.inr ⟨q, List.mem_of_getElem? hq, .inr hh⟩))))⟩

set_option maxHeartbeats 2000000 in
theorem sync_has (g : Nat) (s : FsM) (p : FsP) (k : Nm) (w : World) (x : FsAt w g s p) (hcalls : s.calls < 1000000000 - 1) :
    Has Go.Proofs.Tryz.prog 40 #[ptrV g, .string (str k)] w (FsDone w g p (syncM s k)) := by
  refine enter Go.Proofs.Tryz.func40 rfl rfl (by decide) rfl (e := [(0, ptrV g), (1, .string (str k))]) ⟨rfl, rfl, trivial⟩ ?_
  unfold ptrV
  repeat (first | refine W_seq ?_ | refine W_region ?_ | refine Then_n ?_ | refine WL_nil ?_ | refine WL_some rfl rfl rfl ?_ | refine op_move rfl rfl ?_ | refine op_assign rfl rfl ?_)
  refine op_call rfl rfl rfl (call_has g s p w x (by omega)) ?_
  rintro _ w1 ⟨hc1, rfl, x1⟩
  cases hfm : failsM s with
  | true =>
    have hr : syncM s k = (callM s, 5) := by unfold syncM; simp [hfm]
    rw [if_pos rfl]
    repeat (first | refine W_seq ?_ | refine W_region ?_ | refine W_ret ?_ | refine Then_n ?_ | refine Then_r ?_ | refine WL_nil ?_ | refine W_condT rfl ?_ | refine WL_some rfl rfl rfl ?_ | refine op_move rfl rfl ?_ | refine op_assign rfl rfl ?_ | refine op_neq rfl rfl rfl (fun hc => ?_) (fun hc => False.elim (by omega)))
    refine post1 (.inl rfl) rfl rfl ?_
    rw [hr]; exact ⟨chg_self hc1, rfl, p, x1, Grows.refl _ _ _⟩
  | false =>
  rw [if_neg (by simp)]
  have hb1 := x1.blk
  cases hl : looks (callM s).dir k with
  | none =>
    have hr : syncM s k = (callM s, 3) := by unfold syncM; simp [hfm, hl]
    repeat (first | refine W_seq ?_ | refine W_region ?_ | refine W_skip ?_ | refine Then_n ?_ | refine WL_nil ?_ | refine W_condF rfl ?_ | refine WL_some rfl rfl rfl ?_ | refine op_move rfl rfl ?_ | refine op_assign rfl rfl ?_ | refine op_nilCheck rfl rfl ?_ | refine op_neq rfl rfl rfl (fun hc => False.elim (by omega)) (fun hc => ?_) | refine op_fieldAddr T rfl rfl rfl rfl rfl rfl rfl rfl ?_ | refine op_loadB T rfl rfl rfl rfl (by assumption) (by exact rfl) ?_)
    refine op_lookup_v T strKey rfl rfl rfl rfl rfl rfl x1.dirM (v := .pointer none) (fun b hb => by rw [at2_none hl] at hb; cases hb) (fun _ => rfl) ?_
    repeat (first | refine W_seq ?_ | refine W_region ?_ | refine W_ret ?_ | refine Then_n ?_ | refine Then_r ?_ | refine WL_nil ?_ | refine W_condT rfl ?_ | refine WL_some rfl rfl rfl ?_ | refine op_move rfl rfl ?_ | refine op_assign rfl rfl ?_ | refine op_eql_nilptr T rfl rfl rfl rfl rfl ?_)
    refine post1 (.inl rfl) rfl rfl ?_
    rw [hr]; exact ⟨chg_self hc1, rfl, p, x1, Grows.refl _ _ _⟩
  | some i =>
  obtain ⟨q, f, hq, hfi⟩ := x1.get hl
  have hr : syncM s k = ({ callM s with files := (callM s).files.modify i fun f => { f with synced := f.b.length } }, 0) := by unfold syncM; simp [hfm, hl]
  have hok := syncM_ok x.ok k
  rw [hr] at hok
  have hbf := x1.fblk i q f hq hfi
  have hof := x1.fown i q f hq hfi
  obtain ⟨A, c, hv, hv1, hv2⟩ := hof.form
  rw [hv] at hbf
  repeat (first | refine W_seq ?_ | refine W_region ?_ | refine W_skip ?_ | refine Then_n ?_ | refine WL_nil ?_ | refine W_condF rfl ?_ | refine WL_some rfl rfl rfl ?_ | refine op_move rfl rfl ?_ | refine op_assign rfl rfl ?_ | refine op_nilCheck rfl rfl ?_ | refine op_neq rfl rfl rfl (fun hc => False.elim (by omega)) (fun hc => ?_) | refine op_fieldAddr T rfl rfl rfl rfl rfl rfl rfl rfl ?_ | refine op_loadB T rfl rfl rfl rfl (by assumption) (by exact rfl) ?_)
  refine op_lookup_v T strKey rfl rfl rfl rfl rfl rfl x1.dirM (v := ptrV q.1) (fun b hb => by rw [at2_some hl hq] at hb; injection hb with hb; rw [hb]) (fun hn => by rw [at2_some hl hq] at hn; cases hn) ?_
  unfold ptrV
  repeat (first | refine W_seq ?_ | refine W_region ?_ | refine W_skip ?_ | refine Then_n ?_ | refine WL_nil ?_ | refine W_condF rfl ?_ | refine WL_some rfl rfl rfl ?_ | refine WL_none rfl rfl ?_ | refine op_move rfl rfl ?_ | refine op_assign rfl rfl ?_ | refine op_len_slice T rfl rfl rfl rfl ?_ | refine op_nilCheck rfl rfl ?_ | refine op_fieldAddr T rfl rfl rfl rfl rfl rfl rfl rfl ?_ | refine op_eql_nilptr T rfl rfl rfl rfl rfl ?_ | refine op_loadB T rfl rfl rfl rfl (by assumption) (by exact rfl) ?_)
  refine op_store T rfl rfl rfl rfl rfl rfl hbf (Nat.le_of_ble_eq_true rfl) (fun w2 hc2 hb2 _ => ?_)
  repeat (first | refine W_seq ?_ | refine W_region ?_ | refine W_ret ?_ | refine Then_n ?_ | refine WL_nil ?_ | refine WL_some rfl rfl rfl ?_ | refine op_assign rfl rfl ?_)
  have hb2 : Blk w2 q.1 106 [q.2, .int .i64 (f.b.length : Nat)] := by rw [hv]; exact hb2
  obtain ⟨x2, hg2⟩ := x1.setFile hq hfi (fun f => { f with synced := f.b.length }) (v' := q.2) hc2 (fun j hj _ => by simp at hj; exact .inl hj) hb2 (hof.keep hc2 (fun h hh hm => by
    simp at hm
    obtain ⟨cur, hr⟩ := hof.row hh
    rw [hm] at hr
    exact hbf.ne_ hr (by decide) rfl)) (.inl rfl) hok
  refine post1 (.inl rfl) rfl rfl ?_
  rw [hr]
  exact ⟨(chg_self hc1).trans hc2 (fun j hj _ => by simp at hj; subst hj; exact (x1.mem_file hq).1), rfl, _, x2, (Grows.refl _ _ _).trans hg2 hc1.size⟩

set_option maxHeartbeats 4000000 in
theorem append_has (g : Nat) (s : FsM) (p : FsP) (k : Nm) (A : Option Addr) (n c : Nat) (b : List UInt8) (w : World) (x : FsAt w g s p) (hb : Firm (p.fp g) w (fun w => SliceOf Ru8 w (.slice A n c) b)) (hbl : b.length ≤ 1000000000) (hcalls : s.calls < 1000000000 - 1) :
    Has Go.Proofs.Tryz.prog 29 #[ptrV g, .string (str k), .slice A n c] w (FsDone w g p (appendM s k b)) := by
  obtain ⟨rfl, hb1, hb2⟩ := hb.now.len
  refine enter Go.Proofs.Tryz.func29 rfl rfl (by decide) rfl (e := [(0, ptrV g), (1, .string (str k)), (2, .slice A b.length c)]) ⟨rfl, rfl, rfl, trivial⟩ ?_
  unfold ptrV
  repeat (first | refine W_seq ?_ | refine W_region ?_ | refine Then_n ?_ | refine WL_nil ?_ | refine WL_some rfl rfl rfl ?_ | refine op_move rfl rfl ?_ | refine op_assign rfl rfl ?_)
  refine op_call rfl rfl rfl (call_has g s p w x (by omega)) ?_
  rintro _ w1 ⟨hc1, rfl, x1⟩
  have hs1 := hb w1 (chg_self hc1)
  cases hfm : failsM s with
  | true =>
    have hr : appendM s k b = (callM s, 5) := by unfold appendM; simp [hfm]
    rw [if_pos rfl]
    repeat (first | refine W_seq ?_ | refine W_region ?_ | refine W_ret ?_ | refine Then_n ?_ | refine Then_r ?_ | refine WL_nil ?_ | refine W_condT rfl ?_ | refine WL_some rfl rfl rfl ?_ | refine op_move rfl rfl ?_ | refine op_assign rfl rfl ?_ | refine op_neq rfl rfl rfl (fun hc => ?_) (fun hc => False.elim (by omega)))
    refine post1 (.inl rfl) rfl rfl ?_
    rw [hr]; exact ⟨chg_self hc1, rfl, p, x1, Grows.refl _ _ _⟩
  | false =>
  rw [if_neg (by simp)]
  have hbk1 := x1.blk
  cases hl : looks (callM s).dir k with
  | none =>
    have hr : appendM s k b = (callM s, 3) := by unfold appendM; simp [hfm, hl]
    repeat (first | refine W_seq ?_ | refine W_region ?_ | refine W_skip ?_ | refine Then_n ?_ | refine WL_nil ?_ | refine W_condF rfl ?_ | refine WL_some rfl rfl rfl ?_ | refine op_move rfl rfl ?_ | refine op_assign rfl rfl ?_ | refine op_nilCheck rfl rfl ?_ | refine op_neq rfl rfl rfl (fun hc => False.elim (by omega)) (fun hc => ?_) | refine op_fieldAddr T rfl rfl rfl rfl rfl rfl rfl rfl ?_ | refine op_loadB T rfl rfl rfl rfl (by assumption) (by exact rfl) ?_)
    refine op_lookup_v T strKey rfl rfl rfl rfl rfl rfl x1.dirM (v := .pointer none) (fun b hb => by rw [at2_none hl] at hb; cases hb) (fun _ => rfl) ?_
    repeat (first | refine W_seq ?_ | refine W_block ?_ | refine W_region ?_ | refine W_ret ?_ | refine Then_n ?_ | refine Then_r ?_ | refine InBlock_r ?_ | refine WL_nil ?_ | refine W_condT rfl ?_ | refine WL_some rfl rfl rfl ?_ | refine op_move rfl rfl ?_ | refine op_assign rfl rfl ?_ | refine op_eql_nilptr T rfl rfl rfl rfl rfl ?_)
    refine post1 (.inl rfl) rfl rfl ?_
    rw [hr]; exact ⟨chg_self hc1, rfl, p, x1, Grows.refl _ _ _⟩
  | some i =>
  obtain ⟨q, f, hq, hfi⟩ := x1.get hl
  have hul := usedM_le x1.ok
  have hr0 := x1.ok.room0
  have hr1 := x1.ok.room1
  repeat (first | refine W_seq ?_ | refine W_region ?_ | refine W_skip ?_ | refine Then_n ?_ | refine WL_nil ?_ | refine W_condF rfl ?_ | refine WL_some rfl rfl rfl ?_ | refine op_move rfl rfl ?_ | refine op_assign rfl rfl ?_ | refine op_nilCheck rfl rfl ?_ | refine op_neq rfl rfl rfl (fun hc => False.elim (by omega)) (fun hc => ?_) | refine op_fieldAddr T rfl rfl rfl rfl rfl rfl rfl rfl ?_ | refine op_loadB T rfl rfl rfl rfl (by assumption) (by exact rfl) ?_)
  refine op_lookup_v T strKey rfl rfl rfl rfl rfl rfl x1.dirM (v := ptrV q.1) (fun b hb => by rw [at2_some hl hq] at hb; injection hb with hb; rw [hb]) (fun hn => by rw [at2_some hl hq] at hn; cases hn) ?_
  unfold ptrV
  repeat (first | refine W_seq ?_ | refine W_block ?_ | refine W_region ?_ | refine Then_n ?_ | refine WL_nil ?_ | refine W_condF rfl ?_ | refine WL_some rfl rfl rfl ?_ | refine op_move rfl rfl ?_ | refine op_assign rfl rfl ?_ | refine op_eql_nilptr T rfl rfl rfl rfl rfl ?_)
  refine W_walk 10 [] fol (by kernel_rfl) (by kernel_rfl) ?_
  refine Walk.plain rfl (by intro val w_ hR hp; exact op_move rfl rfl ⟨Chg.refl _ _, rfl⟩) ?_; dsimp only [List.nil_append, List.cons_append]
  refine Walk.plain rfl (by intro val w_ hR hp; exact op_len_slice T rfl rfl rfl rfl ⟨Chg.refl _ _, rfl⟩) ?_; dsimp only [List.nil_append, List.cons_append]
  refine Walk.plain rfl (by intro val w_ hR hp; exact op_move rfl rfl ⟨Chg.refl _ _, rfl⟩) ?_; dsimp only [List.nil_append, List.cons_append]
  refine Walk.plain rfl (by intro val w_ hR hp; exact op_nilCheck rfl rfl ⟨Chg.refl _ _, rfl⟩) ?_; dsimp only [List.nil_append, List.cons_append]
  refine Walk.plain rfl (by intro val w_ hR hp; exact op_fieldAddr T rfl rfl rfl rfl rfl rfl rfl rfl ⟨Chg.refl _ _, rfl⟩) ?_; dsimp only [List.nil_append, List.cons_append]
  refine Walk.plain rfl (by intro val w_ hR hp; exact op_load T rfl rfl rfl rfl ((Blk.keep0 hbk1 hR).cell rfl) ⟨Chg.refl _ _, rfl⟩) ?_; dsimp only [List.nil_append, List.cons_append]
  refine Walk.plain rfl (by intro val w_ hR hp; exact op_move rfl rfl ⟨Chg.refl _ _, rfl⟩) ?_; dsimp only [List.nil_append, List.cons_append]
  refine Walk.plain (v := .int .i64 (usedM (callM s))) rfl (by intro val w_ hR hp; exact op_call rfl rfl rfl (used_has g _ p w_ (x1.keep0 hR)) (fun v w' ⟨hc, hv⟩ => ⟨hc, hv⟩)) ?_; dsimp only [List.nil_append, List.cons_append]
  refine Walk.plain rfl (by intro val w_ hR hp; exact op_subt rfl rfl rfl (wrap_i64_in (by omega) (by omega)) ⟨Chg.refl _ _, rfl⟩) ?_; dsimp only [List.nil_append, List.cons_append]
  by_cases hfull : (callM s).room - usedM (callM s) < b.length
  case pos =>
    refine Walk.plain rfl (by intro val w_ hR hp; exact op_gtr rfl rfl rfl (fun hc => ⟨Chg.refl _ _, rfl⟩) (fun hc => False.elim (by omega))) ?_; dsimp only [List.nil_append, List.cons_append]
    refine Walk.fin ?_
    intro val w2 hc2 _
    have x2 := x1.keep0 hc2
    have hr : appendM s k b = (callM s, 4) := by unfold appendM; simp [hfm, hl, hfull]
    refine WL_sub (e' := [(6, .int .i64 0), (33, .bool true)]) ⟨rfl, rfl, trivial⟩ ?_
    repeat (first | refine W_seq ?_ | refine W_region ?_ | refine W_ret ?_ | refine Then_n ?_ | refine Then_r ?_ | refine InBlock_r ?_ | refine WL_nil ?_ | refine W_condT rfl ?_ | refine WL_some rfl rfl rfl ?_ | refine op_assign rfl rfl ?_)
    refine post1 (.inl rfl) rfl rfl ?_
    rw [hr]; exact ⟨(chg_self hc1).trans' hc2, rfl, p, x2, Grows.refl _ _ _⟩
  case neg =>
    refine Walk.plain rfl (by intro val w_ hR hp; exact op_gtr rfl rfl rfl (fun hc => False.elim (by omega)) (fun hc => ⟨Chg.refl _ _, rfl⟩)) ?_; dsimp only [List.nil_append, List.cons_append]
    refine Walk.fin ?_
    intro val w2 hc2 _
    have x2 := x1.keep0 hc2
    have hr : appendM s k b = ({ callM s with files := (callM s).files.modify i fun f => { f with b := f.b ++ b } }, 0) := by unfold appendM; simp [hfm, hl, hfull]
    have hok := appendM_ok x.ok k b
    rw [hr] at hok
    refine WL_sub (e' := [(0, .pointer (some ⟨g, 0, none⟩)), (2, .slice A b.length c), (6, .int .i64 0), (8, .pointer (some ⟨q.1, 0, none⟩)), (33, .bool false)]) ⟨rfl, rfl, rfl, rfl, rfl, trivial⟩ ?_
    have hbf := x2.fblk i q f hq hfi
    have hof := x2.fown i q f hq hfi
    have hs2 := SliceOf.kept Ru8.kept _ _ _ _ hc2 hs1
    have hfl := (x1.ok.files f (List.mem_of_getElem? hfi)).2
    obtain ⟨A2, c2, hv, hv1, hv2⟩ := hof.form
    repeat (first | refine W_seq ?_ | refine W_region ?_ | refine W_skip ?_ | refine Then_n ?_ | refine InBlock_n ?_ | refine WL_nil ?_ | refine W_condF rfl ?_ | refine WL_some rfl rfl rfl ?_ | refine op_move rfl rfl ?_ | refine op_assign rfl rfl ?_ | refine op_nilCheck rfl rfl ?_ | refine op_fieldAddr T rfl rfl rfl rfl rfl rfl rfl rfl ?_ | refine op_loadB T rfl rfl rfl rfl (by assumption) (by exact rfl) ?_)
    refine op_append T (n := f.b.length) (xs := u8s f.b) (m := b.length) (news := u8s b) rfl rfl rfl rfl rfl rfl rfl rfl hof (by rw [u8s_length]; exact (Nat.mul_one _).symm) ?_ (by unfold maxLen; omega) (by show (f.b.length + b.length) * 1 ≤ _; omega) ?_
    · intro j u hj
      obtain ⟨cc, hcc, rfl⟩ := u8s_inv hj
      obtain ⟨ad, u', he, hu, rfl⟩ := hs2.get hcc
      exact ⟨⟨ad, he, hu⟩, rfl⟩
    intro v3 w3 ho3 hc3 hb3 _
    have hq1 : q.1 ∉ q.2.ownBlock.toList := fun hm => by
      obtain ⟨cur, hr⟩ := hof.row (show q.2.ownBlock = some q.1 by simpa using hm)
      exact hbf.ne_ hr (by decide) rfl
    have hbf3 := hbf.keep hc3 hq1
    obtain ⟨A3, c3, rfl, _, _⟩ := ho3.form
    repeat (first | refine WL_some rfl rfl rfl ?_ | refine WL_none rfl rfl ?_ | refine op_nilCheck rfl rfl ?_ | refine op_fieldAddr T rfl rfl rfl rfl rfl rfl rfl rfl ?_)
    refine op_store T rfl rfl rfl rfl rfl rfl hbf3 (Nat.le_of_ble_eq_true rfl) (fun w4 hc4 hb4 _ => ?_)
    repeat (first | refine W_seq ?_ | refine W_region ?_ | refine W_ret ?_ | refine Then_n ?_ | refine WL_nil ?_ | refine WL_some rfl rfl rfl ?_ | refine op_assign rfl rfl ?_)
    have hc24 : Chg (q.1 :: q.2.ownBlock.toList) w2 w4 := (hc3.mono (fun j hj _ => by simp at hj; simp [hj])).trans hc4 (fun j hj _ => by simp at hj; simp [hj])
    obtain ⟨x4, hg4⟩ := x2.setFile hq hfi (fun f => { f with b := f.b ++ b }) hc24 (fun j hj _ => by simpa using hj) hb4 (by
      show Own w4 _ 1 _ (f.b ++ b).length (u8s (f.b ++ b))
      rw [List.length_append, u8s_append]
      refine ho3.keep hc4 (fun h hh hm => ?_)
      simp at hm
      obtain ⟨cur, hr⟩ := ho3.row hh
      rw [hm] at hr
      exact hbf3.ne_ hr (by decide) rfl) hb3 hok
    refine post1 (.inl rfl) rfl rfl ?_
    rw [hr]
    obtain ⟨hm1, hm2⟩ := x2.mem_file hq
    have hc02 := (chg_self (p := p) hc1).trans' hc2
    exact ⟨hc02.trans hc24 (fun j hj _ => by
      rcases List.mem_cons.1 hj with h | h
      · subst h; exact hm1
      · exact hm2 j (by simpa using h)), rfl, _, x4, (Grows.refl _ _ _).trans hg4 hc02.size⟩

/-- What Read leaves: the bytes of a file, in a row of the call's own. -/
def readV (o : Option (List UInt8)) (w0 : World) (v : Value) (w' : World) : Prop := match o with
  | none => v = .tuple #[.slice none 0 0, .int .i64 3]
  | some b => ∃ u, v = .tuple #[u, .int .i64 0] ∧ Own w' 5 1 u b.length (u8s b) ∧ ∀ h, u.ownBlock = some h → w0.heap.size ≤ h
theorem read_has (g : Nat) (s : FsM) (p : FsP) (k : Nm) (w : World) (x : FsAt w g s p) :
    Has Go.Proofs.Tryz.prog 23 #[ptrV g, .string (str k)] w (fun v w' => Chg [] w w' ∧ readV (readM s k) w v w') := by
  refine enter Go.Proofs.Tryz.func23 rfl rfl (by decide) rfl (e := [(0, ptrV g), (1, .string (str k))]) ⟨rfl, rfl, trivial⟩ ?_
  unfold ptrV
  have hb := x.blk
  cases hl : looks s.dir k with
  | none =>
    have hr : readM s k = none := by unfold readM; rw [hl]; rfl
    repeat (first | refine W_seq ?_ | refine W_region ?_ | refine Then_n ?_ | refine WL_nil ?_ | refine WL_some rfl rfl rfl ?_ | refine WL_guardT rfl rfl rfl rfl ?_ | refine op_move rfl rfl ?_ | refine op_assign rfl rfl ?_ | refine op_nilCheck rfl rfl ?_ | refine op_fieldAddr T rfl rfl rfl rfl rfl rfl rfl rfl ?_ | refine op_eql_nilptr T rfl rfl rfl rfl rfl ?_ | refine op_loadB T rfl rfl rfl rfl (by assumption) (by exact rfl) ?_)
    refine op_lookup_v T strKey rfl rfl rfl rfl rfl rfl x.dirM (v := .pointer none) (fun b hb => by rw [at2_none hl] at hb; cases hb) (fun _ => rfl) ?_
    repeat (first | refine W_seq ?_ | refine W_region ?_ | refine W_ret ?_ | refine Then_n ?_ | refine Then_r ?_ | refine WL_nil ?_ | refine W_condT rfl ?_ | refine WL_some rfl rfl rfl ?_ | refine WL_guardT rfl rfl rfl rfl ?_ | refine op_assign rfl rfl ?_ | refine op_pick rfl rfl rfl rfl ?_ | refine op_eql_nilptr T rfl rfl rfl rfl rfl ?_)
    refine post2 (.inl rfl) rfl rfl rfl ⟨Chg.refl _ _, ?_⟩
    rw [hr]; rfl
  | some i =>
    obtain ⟨q, f, hq, hfi⟩ := x.get hl
    have hr : readM s k = some f.b := by unfold readM; rw [hl]; simp [hfi]
    have hbf := x.fblk i q f hq hfi
    have hof := x.fown i q f hq hfi
    have hfl := (x.ok.files f (List.mem_of_getElem? hfi)).2
    obtain ⟨A, c, hv, hv1, hv2⟩ := hof.form
    rw [hv] at hbf hof
    repeat (first | refine W_seq ?_ | refine W_region ?_ | refine Then_n ?_ | refine WL_nil ?_ | refine WL_some rfl rfl rfl ?_ | refine WL_guardT rfl rfl rfl rfl ?_ | refine op_move rfl rfl ?_ | refine op_assign rfl rfl ?_ | refine op_nilCheck rfl rfl ?_ | refine op_fieldAddr T rfl rfl rfl rfl rfl rfl rfl rfl ?_ | refine op_eql_nilptr T rfl rfl rfl rfl rfl ?_ | refine op_loadB T rfl rfl rfl rfl (by assumption) (by exact rfl) ?_)
    refine op_lookup_v T strKey rfl rfl rfl rfl rfl rfl x.dirM (v := ptrV q.1) (fun b hb => by rw [at2_some hl hq] at hb; injection hb with hb; rw [hb]) (fun hn => by rw [at2_some hl hq] at hn; cases hn) ?_
    unfold ptrV
    repeat (first | refine W_seq ?_ | refine W_region ?_ | refine W_skip ?_ | refine Then_n ?_ | refine WL_nil ?_ | refine W_condF rfl ?_ | refine WL_some rfl rfl rfl ?_ | refine WL_guardT rfl rfl rfl rfl ?_ | refine op_move rfl rfl ?_ | refine op_pick rfl rfl rfl rfl ?_ | refine op_nilCheck rfl rfl ?_ | refine op_fieldAddr T rfl rfl rfl rfl rfl rfl rfl rfl ?_ | refine op_eql_nilptr T rfl rfl rfl rfl rfl ?_ | refine op_loadB T rfl rfl rfl rfl (by assumption) (by exact rfl) ?_)
    refine op_lookup_v T strKey rfl rfl rfl rfl rfl rfl x.dirM (v := ptrV q.1) (fun b hb => by rw [at2_some hl hq] at hb; injection hb with hb; rw [hb]) (fun hn => by rw [at2_some hl hq] at hn; cases hn) ?_
    unfold ptrV
    repeat (first | refine WL_some rfl rfl rfl ?_ | refine op_nilCheck rfl rfl ?_ | refine op_fieldAddr T rfl rfl rfl rfl rfl rfl rfl rfl ?_ | refine op_loadB T rfl rfl rfl rfl (by assumption) (by exact rfl) ?_)
    refine op_call rfl rfl rfl (clone_has A _ c f.b w hof.bytes (by omega)) ?_
    rintro v w1 ⟨hc1, ho1, hf1⟩
    repeat (first | refine W_ret ?_ | refine Then_n ?_ | refine WL_nil ?_ | refine WL_some rfl rfl rfl ?_ | refine op_assign rfl rfl ?_)
    refine post2 (.inl rfl) rfl rfl rfl ⟨hc1, ?_⟩
    rw [hr]; exact ⟨v, rfl, ho1, hf1⟩
end Go.Proofs.YtiadjkjlifnopaaGreatDoor.Tryz
/-! Files: Rot. -/
set_option linter.unusedVariables false
set_option linter.unusedSimpArgs false
namespace Go.Vc
open Go
end Go.Vc
namespace Go.Proofs.YtiadjkjlifnopaaGreatDoor.Tryz
open Go Go.Vc

end Go.Proofs.YtiadjkjlifnopaaGreatDoor.Tryz
/-! Files: a crash. Plain laws. -/
set_option linter.unusedVariables false
set_option linter.unusedSimpArgs false
namespace Go.Vc
open Go
end Go.Vc
/-! Files: a crash. -/
set_option linter.unusedVariables false
set_option linter.unusedSimpArgs false
namespace Go.Proofs.YtiadjkjlifnopaaGreatDoor.Tryz
open Go Go.Vc

/-- The file system that a crash leaves, under way: files laid anew so far. -/
structure NewFiles (w0 w : World) (s : FsM) (d : Dir) (tails : List Int) (nb : List (Nat × Value)) : Prop where
  blk : ∀ (j : Nat) q r, nb[j]? = some q → d[j]? = some r → Blk w q.1 106 [q.2, .int .i64 (cutM ((s.files[r.2]?).getD ⟨[], 0⟩) tails j).synced]
  own : ∀ (j : Nat) q r, nb[j]? = some q → d[j]? = some r → Own w 5 1 q.2 (cutM ((s.files[r.2]?).getD ⟨[], 0⟩) tails j).b.length (u8s (cutM ((s.files[r.2]?).getD ⟨[], 0⟩) tails j).b)
  fresh : ∀ q ∈ nb, w0.heap.size ≤ q.1 ∧ q.1 < w.heap.size ∧ ∀ h, q.2.ownBlock = some h → w0.heap.size ≤ h ∧ h < w.heap.size
  apart2 : (nb.map (·.1)).Nodup
  apart3 : ∀ (i j : Nat) q q' h, nb[i]? = some q → nb[j]? = some q' → q.2.ownBlock = some h → q'.2.ownBlock = some h → i = j
theorem NewFiles.keep {w0 w w' : World} {s : FsM} {d : Dir} {tails : List Int} {nb : List (Nat × Value)} {S : List Nat} (x : NewFiles w0 w s d tails nb) (hl : nb.length ≤ d.length) (hc : Chg S w w') (hS : ∀ k ∈ S, ∀ t cs, ¬ Blk w k t cs) : NewFiles w0 w' s d tails nb :=
  ⟨fun j q r h1 h2 => (x.blk j q r h1 h2).keep hc (fun hm => hS _ hm _ _ (x.blk j q r h1 h2)), fun j q r h1 h2 => (x.own j q r h1 h2).keep hc (fun h hh hm => by
    obtain ⟨cur, hr⟩ := (x.own j q r h1 h2).row hh
    exact hS _ hm _ _ hr), fun q hq => by
      obtain ⟨a1, a2, a3⟩ := x.fresh q hq
      have := hc.size
      exact ⟨a1, by omega, fun h hh => ⟨(a3 h hh).1, by have := (a3 h hh).2; omega⟩⟩, x.apart2, x.apart3⟩
theorem NewFiles.snoc {w0 w : World} {s : FsM} {d : Dir} {tails : List Int} {nb : List (Nat × Value)} (x : NewFiles w0 w s d tails nb) {r : Nm × Nat} (hr : d[nb.length]? = some r) {b : Nat} {v : Value}
    (hb : Blk w b 106 [v, .int .i64 (cutM ((s.files[r.2]?).getD ⟨[], 0⟩) tails nb.length).synced]) (ho : Own w 5 1 v (cutM ((s.files[r.2]?).getD ⟨[], 0⟩) tails nb.length).b.length (u8s (cutM ((s.files[r.2]?).getD ⟨[], 0⟩) tails nb.length).b))
    (hb0 : w0.heap.size ≤ b) (hv0 : ∀ h, v.ownBlock = some h → w0.heap.size ≤ h) (hbn : ∀ q ∈ nb, q.1 ≠ b) (hvn : ∀ q ∈ nb, ∀ h, q.2.ownBlock = some h → v.ownBlock ≠ some h) : NewFiles w0 w s d tails (nb ++ [(b, v)]) := by
  have hget : ∀ (j : Nat) q, (nb ++ [(b, v)])[j]? = some q → (j < nb.length ∧ nb[j]? = some q) ∨ (j = nb.length ∧ q = (b, v)) := fun j q h => by
    by_cases hj : j < nb.length
    · rw [List.getElem?_append_left hj] at h; exact .inl ⟨hj, h⟩
    · rw [List.getElem?_append_right (by omega)] at h
      have := (List.getElem?_eq_some_iff.1 h).1
      simp at this
      obtain rfl : j = nb.length := by omega
      simp at h; exact .inr ⟨rfl, h.symm⟩
  refine ⟨fun j q r' h1 h2 => ?_, fun j q r' h1 h2 => ?_, fun q hq => ?_, ?_, fun i j q q' h h1 h2 h3 h4 => ?_⟩
  · rcases hget j q h1 with ⟨_, h1⟩ | ⟨rfl, rfl⟩
    · exact x.blk j q r' h1 h2
    · rw [hr] at h2; injection h2 with h2; subst h2; exact hb
  · rcases hget j q h1 with ⟨_, h1⟩ | ⟨rfl, rfl⟩
    · exact x.own j q r' h1 h2
    · rw [hr] at h2; injection h2 with h2; subst h2; exact ho
  · rcases List.mem_append.1 hq with hq | hq
    · exact x.fresh q hq
    · simp at hq; subst hq; exact ⟨hb0, hb.lt, fun h hh => ⟨hv0 h hh, ho.lt hh⟩⟩
  · rw [List.map_append]
    refine List.nodup_append.2 ⟨x.apart2, by simp, fun a ha c hc e => ?_⟩
    obtain ⟨q, hq, rfl⟩ := List.mem_map.1 ha
    simp at hc
    exact hbn q hq (e.trans hc)
  · rcases hget i q h1 with ⟨_, h1⟩ | ⟨rfl, rfl⟩
    · rcases hget j q' h2 with ⟨_, h2⟩ | ⟨rfl, rfl⟩
      · exact x.apart3 i j q q' h h1 h2 h3 h4
      · exact absurd h4 (hvn q (List.mem_of_getElem? h1) h h3)
    · rcases hget j q' h2 with ⟨_, h2⟩ | ⟨rfl, rfl⟩
      · exact absurd h3 (hvn q' (List.mem_of_getElem? h2) h h4)
      · rfl

end Go.Proofs.YtiadjkjlifnopaaGreatDoor.Tryz
/-! Files: of the call's own; one file. -/
set_option linter.unusedVariables false
set_option linter.unusedSimpArgs false
namespace Go.Proofs.YtiadjkjlifnopaaGreatDoor.Tryz
open Go Go.Vc

/-- A file system that was made since w0; of what lay there nothing has turned. -/
structure FsO (w0 w : World) (g : Nat) (s : FsM) (p : FsP) : Prop where
  chg : Chg [] w0 w
  at_ : FsAt w g s p
  fresh : ∀ k ∈ p.fp g, w0.heap.size ≤ k
section
variable {w0 w w' : World} {g : Nat} {s : FsM} {p : FsP}
theorem FsO.keep0 (x : FsO w0 w g s p) (hc : Chg [] w w') : FsO w0 w' g s p := ⟨x.chg.trans' hc, x.at_.keep0 hc, x.fresh⟩
theorem FsO.base {w1 : World} (x : FsO w1 w g s p) (hc : Chg [] w0 w1) : FsO w0 w g s p := ⟨hc.trans' x.chg, x.at_, fun k hk => by have := x.fresh k hk; have := hc.size; omega⟩
theorem FsO.chgFp (x : FsO w0 w g s p) (hc : Chg (p.fp g) w w') : Chg [] w0 w' := x.chg.trans hc (fun k hk hlt => by have := x.fresh k hk; omega)
/-- A row made behind it, whatever becomes of it. -/
theorem FsO.row (x : FsO w0 w g s p) {w1 : World} (hc : Chg [] w w1) {gb : Nat} (hs : w.heap.size ≤ gb) {vs : List Value} {t : TypeId} {fr : Nat × Nat} (hg : w1.heap[gb]? = some (.cells vs.toArray t fr)) {n c : Nat} {L : List UInt8} (hn : n = L.length) (hnc : n ≤ c) (hcm : c ≤ maxLen)
    (h : ∀ (i : Nat) (y : UInt8), L[i]? = some y → ∃ u, vs[i]? = some u ∧ Ru8 w u y) : Firm (p.fp g) w1 (fun w => SliceOf Ru8 w (.slice (some ⟨gb, 0, none⟩) n c) L) := fun w2 h2 =>
  SliceOf.of_heap ((h2.keep gb (Array.getElem?_eq_some_iff.1 hg).1 (fun hm => by have := x.at_.lt gb hm; omega)).trans hg) hn hnc hcm (fun i y hy => by
    obtain ⟨u, h1, h2⟩ := h i y hy
    exact ⟨u, h1, h2⟩)
end
theorem newO_has (n : Int) (w : World) : Has Go.Proofs.Tryz.prog 18 #[.int .i64 n] w (fun v w' => ∃ g p, v = ptrV g ∧ FsO w w' g (newM n) p) :=
  (newFs_has n w).mono fun v w' ⟨hc, g, p, hv, hx, hf⟩ => ⟨g, p, hv, hc, hx, hf⟩
theorem readO_has {w0 w : World} {g : Nat} {s : FsM} {p : FsP} (x : FsO w0 w g s p) (k : Nm) :
    Has Go.Proofs.Tryz.prog 23 #[ptrV g, .string (str k)] w (fun v w' => FsO w0 w' g s p ∧ Chg [] w w' ∧ readV (readM s k) w v w') := (read_has g s p k w x.at_).mono fun _ _ ⟨h1, h2⟩ => ⟨x.keep0 h1, h1, h2⟩
end Go.Proofs.YtiadjkjlifnopaaGreatDoor.Tryz
/-! Manifests: segments taken out and put in. -/
set_option linter.unusedVariables false
namespace Go.Proofs.YtiadjkjlifnopaaGreatDoor.Tryz
open Go Go.Vc
def segF : Value := .func (.func 97) #[] #[]
theorem segNum_has (x : SegM) (w : World) : Has Go.Proofs.Tryz.prog 97 #[.agg (segL x).toArray] w (fun v w' => Chg [] w w' ∧ v = .int .i64 x.num) := by
  refine enter Go.Proofs.Tryz.func97 rfl rfl (by decide) rfl (e := [(0, .agg (segL x).toArray)]) ⟨rfl, trivial⟩ ?_
  refine run ?_
  refine go T 2 rfl ?_
  refine o1 rfl ?_
  refine op_box rfl rfl (fun g w1 hs1 hc1 hg1 => ?_)
  have hg1 : Blk w1 g 26 (segL x) := hg1
  unfold segL at hg1
  refine go T 6 rfl ?_
  refine ldB T hg1 rfl rfl rfl rfl rfl rfl ?_
  refine go T 4 rfl ?_
  exact post1 (.inl rfl) rfl rfl ⟨hc1, rfl⟩
/-- Is it this number? -/
theorem takeSeg1_has (gf gn : Nat) (x : SegM) (n : Int) (w : World) (hf : Blk w gf 146 [segF]) (hn : Blk w gn 2 [.int .i64 n]) :
    Has Go.Proofs.Tryz.prog 139 #[.agg (segL x).toArray, ptrV gf, ptrV gn] w (fun v w' => Chg [] w w' ∧ v = .bool (decide (x.num = n))) := by
  refine enter Go.Proofs.Tryz.func139 rfl rfl (by decide) rfl (e := [(0, .agg (segL x).toArray), (1, ptrV gf), (2, ptrV gn)]) ⟨rfl, rfl, rfl, trivial⟩ ?_
  unfold ptrV
  refine run ?_
  refine go T 2 rfl ?_
  refine o1 rfl ?_
  refine op_box rfl rfl (fun g w1 hs1 hc1 hg1 => ?_)
  have hg1 : Blk w1 g 26 (segL x) := hg1
  have hf1 := hf.keep0 hc1
  have hn1 := hn.keep0 hc1
  unfold segF at hf1
  refine go T 4 rfl ?_
  refine W_walk 4 [] fol (by kernel_rfl) (by kernel_rfl) ?_
  refine Walk.plain rfl (by intro val w_ hR hp; exact op_load T rfl rfl rfl rfl ((Blk.keep0 hf1 hR).cell rfl) ⟨Chg.refl _ _, rfl⟩) ?_; dsimp only [List.nil_append, List.cons_append]
  refine Walk.plain rfl (by intro val w_ hR hp; exact op_load_agg T rfl rfl rfl rfl (Blk.keep0 hg1 hR) (Nat.le_of_ble_eq_true rfl) rfl ⟨Chg.refl _ _, rfl⟩) ?_; dsimp only [List.nil_append, List.cons_append]
  refine Walk.plain (v := .int .i64 x.num) rfl (by intro val w_ hR hp; exact op_callf rfl rfl rfl (segNum_has x _) (fun v w' h => h)) ?_; dsimp only [List.nil_append, List.cons_append]
  refine Walk.plain rfl (by intro val w_ hR hp; exact op_load T rfl rfl rfl rfl ((Blk.keep0 hn1 hR).cell rfl) ⟨Chg.refl _ _, rfl⟩) ?_; dsimp only [List.nil_append, List.cons_append]
  refine Walk.fin ?_
  intro val w2 hc2 hp
  clear hp
  refine runL ?_
  refine o1 rfl ?_
  refine op_eql_d rfl rfl rfl ?_
  refine go T 4 rfl ?_
  exact post1 (.inl rfl) rfl rfl ⟨hc1.trans' hc2, rfl⟩
/-- Have they one number? -/
theorem putSeg1_has (gf gx : Nat) (x y : SegM) (w : World) (hf : Blk w gf 146 [segF]) (hx : Blk w gx 26 (segL x)) :
    Has Go.Proofs.Tryz.prog 141 #[.agg (segL y).toArray, ptrV gf, ptrV gx] w (fun v w' => Chg [] w w' ∧ v = .bool (decide (x.num = y.num))) := by
  refine enter Go.Proofs.Tryz.func141 rfl rfl (by decide) rfl (e := [(0, .agg (segL y).toArray), (1, ptrV gf), (2, ptrV gx)]) ⟨rfl, rfl, rfl, trivial⟩ ?_
  unfold ptrV
  refine run ?_
  refine go T 2 rfl ?_
  refine o1 rfl ?_
  refine op_box rfl rfl (fun g w1 hs1 hc1 hg1 => ?_)
  have hg1 : Blk w1 g 26 (segL y) := hg1
  have hf1 := hf.keep0 hc1
  have hx1 := hx.keep0 hc1
  unfold segF at hf1
  refine go T 4 rfl ?_
  refine W_walk 6 [] fol (by kernel_rfl) (by kernel_rfl) ?_
  refine Walk.plain rfl (by intro val w_ hR hp; exact op_load T rfl rfl rfl rfl ((Blk.keep0 hf1 hR).cell rfl) ⟨Chg.refl _ _, rfl⟩) ?_; dsimp only [List.nil_append, List.cons_append]
  refine Walk.plain rfl (by intro val w_ hR hp; exact op_load_agg T rfl rfl rfl rfl (Blk.keep0 hx1 hR) (Nat.le_of_ble_eq_true rfl) rfl ⟨Chg.refl _ _, rfl⟩) ?_; dsimp only [List.nil_append, List.cons_append]
  refine Walk.plain (v := .int .i64 x.num) rfl (by intro val w_ hR hp; exact op_callf rfl rfl rfl (segNum_has x _) (fun v w' h => h)) ?_; dsimp only [List.nil_append, List.cons_append]
  refine Walk.plain rfl (by intro val w_ hR hp; exact op_load T rfl rfl rfl rfl ((Blk.keep0 hf1 hR).cell rfl) ⟨Chg.refl _ _, rfl⟩) ?_; dsimp only [List.nil_append, List.cons_append]
  refine Walk.plain rfl (by intro val w_ hR hp; exact op_load_agg T rfl rfl rfl rfl (Blk.keep0 hg1 hR) (Nat.le_of_ble_eq_true rfl) rfl ⟨Chg.refl _ _, rfl⟩) ?_; dsimp only [List.nil_append, List.cons_append]
  refine Walk.plain (v := .int .i64 y.num) rfl (by intro val w_ hR hp; exact op_callf rfl rfl rfl (segNum_has y _) (fun v w' h => h)) ?_; dsimp only [List.nil_append, List.cons_append]
  refine Walk.fin ?_
  intro val w2 hc2 hp
  clear hp
  refine runL ?_
  refine o1 rfl ?_
  refine op_eql_d rfl rfl rfl ?_
  refine go T 4 rfl ?_
  exact post1 (.inl rfl) rfl rfl ⟨hc1.trans' hc2, rfl⟩
set_option maxHeartbeats 2000000 in
theorem take_has (A : Option Addr) (n c : Nat) (L : List SegM) (B : Option Addr) (m d : Nat) (ns : List Int) (w : World) (hl : SliceK 6 (RdL segL) w (.slice A n c) L) (hns : SliceOf Ri64 w (.slice B m d) ns) (hb : L.length ≤ 1000000) :
    Has Go.Proofs.Tryz.prog 96 #[.slice A n c, .slice B m d, segF] w (fun v w' => Chg [] w w' ∧ (takeK (·.num) ns L = none → v = .tuple #[.slice none 0 0, .bool false]) ∧ ∀ L', takeK (·.num) ns L = some L' → ∃ u, v = .tuple #[u, .bool true] ∧ Own w' 26 6 u L'.length (L'.flatMap segL) ∧ ∀ g, u.ownBlock = some g → w.heap.size ≤ g) := by
  obtain ⟨rfl, hm1, hm2⟩ := hns.len
  unfold maxLen at hm2
  refine enter Go.Proofs.Tryz.func96 rfl rfl (by decide) rfl (e := [(0, .slice A n c), (1, .slice B ns.length d), (2, segF)]) ⟨rfl, rfl, rfl, trivial⟩ ?_
  refine run ?_
  refine go T 2 rfl ?_
  refine o1 rfl ?_
  refine op_box rfl rfl (fun gf w1 hs1 hc1 hg1 => ?_)
  have hg1 : Blk w1 gf 146 [segF] := hg1
  have hs1 : w.heap.size ≤ gf := hs1
  refine go T 7 rfl ?_
  refine o1 rfl ?_
  refine op_call rfl rfl rfl (cloneSeg_has A n c L w1 (hl.keepR hc1) hb) ?_
  rintro v2 w2 ⟨hc2, ho2, hf2⟩
  refine go T 12 rfl ?_
  refine W_loop (σ := Nat × List SegM × Value) (fun s => [(0, s.2.2), (5, .pointer (some ⟨gf, 0, none⟩)), (13, .slice B ns.length d), (14, .int .i64 ns.length), (15, .int .i64 s.1)])
    (fun s w' => s.1 ≤ ns.length ∧ takeK (·.num) ns L = takeK (·.num) (ns.drop s.1) s.2.1 ∧ s.2.1.length ≤ L.length ∧ Chg [] w w' ∧ Own w' 26 6 s.2.2 s.2.1.length (s.2.1.flatMap segL) ∧ (∀ g, s.2.2.ownBlock = some g → w1.heap.size ≤ g) ∧ Blk w' gf 146 [segF])
    (fun s => ns.length - s.1) (0, L, v2) ⟨rfl, rfl, rfl, rfl, rfl, trivial⟩ ⟨by omega, by simp, Nat.le_refl _, hc1.trans' hc2, ho2, hf2, hg1.keep0 hc2⟩ ?_
  rintro ⟨i, M, u⟩ w3 ⟨hi, htk, hML, hc3, hu3, hf3, hg3⟩
  dsimp only at hi htk hML hc3 hu3 hf3 hg3 ⊢
  have hz1 := hc1.size
  have hgl := hg1.lt
  obtain ⟨Au, cu, rfl, hcu1, hcu2⟩ := hu3.form
  refine run ?_
  refine go T 2 rfl ?_
  refine ltS rfl rfl rfl rfl (fun hcmp => ?_) (fun hcmp => ?_)
  · have hi2 : i < ns.length := by omega
    obtain ⟨ad, u0, rfl, hu0, rfl, _, _⟩ := hns.get (i := i) (List.getElem?_eq_getElem hi2)
    have hdrop : ns.drop i = ns[i] :: ns.drop (i + 1) := List.drop_eq_getElem_cons hi2
    rw [hdrop] at htk
    generalize ns[i] = x at *
    have hu0' := hc3.cell0 hu0
    refine go T 10 rfl ?_
    refine o1 rfl (op_index_nat T rfl rfl rfl rfl rfl rfl (by omega) ?_)
    refine o1 rfl (op_load T rfl rfl rfl rfl (by assumption) ?_)
    refine o1 rfl ?_
    refine op_alloc T rfl rfl (fun gn w4 hs4 hc4 hg4 => ?_)
    have hg4 : Blk w4 gn 2 [.int .i64 0] := hg4
    have hs4 : w3.heap.size ≤ gn := hs4
    refine op0 rfl rfl ?_
    refine op_store T rfl rfl rfl rfl rfl rfl hg4 (by simp) (fun w5 hc5 hg5 _ => ?_)
    have hg5 : Blk w5 gn 2 [.int .i64 x] := hg5
    have hc35 : Chg [] w3 w5 := hc4.trans hc5 (fun k hk hlt => by simp at hk; omega)
    have hu5 := hu3.keep0 hc35
    have hg5f := hg3.keep0 hc35
    clear hg4
    refine go T 5 rfl ?_
    refine o1 rfl ?_
    refine op_makeFunc (fv := #[]) (cv := #[ptrV gf, ptrV gn]) rfl rfl rfl ?_
    refine o1 rfl ?_
    refine op_call rfl rfl rfl (indexSeg_has Au _ cu M _ _ (fun s => decide (s.num = x)) (hu5.readsK segL_len) (fun wq s hq _ => takeSeg1_has gf gn s x wq (hg5f.keep0 hq) (hg5.keep0 hq))) ?_
    rintro _ w6 ⟨hc6, rfl⟩
    have hix := idxM_lt (fun s : SegM => decide (s.num = x)) M
    have hu6 := hu5.keep0 hc6
    have hg6 := hg5f.keep0 hc6
    have hc36 := hc35.trans' hc6
    by_cases hneg : idxM (fun s : SegM => decide (s.num = x)) M < 0
    · rw [takeK, if_pos hneg] at htk
      refine go T 7 rfl ?_
      refine ltT rfl rfl rfl rfl (by omega) ?_
      refine go T 13 rfl ?_
      refine rndR ?_
      refine go T 2 rfl ?_
      exact post2 (.inl rfl) rfl rfl rfl ⟨hc3.trans' hc36, fun _ => rfl, fun L' h => by rw [htk] at h; cases h⟩
    · rw [takeK, if_neg hneg] at htk
      obtain ⟨k, hk⟩ : ∃ k : Nat, idxM (fun s : SegM => decide (s.num = x)) M = k := ⟨_, (Int.toNat_of_nonneg (by omega)).symm⟩
      rw [hk] at htk hneg hix ⊢
      rw [Int.toNat_natCast] at htk
      have hkl : k < M.length := by omega
      refine go T 7 rfl ?_
      refine ltF rfl rfl rfl rfl (by omega) ?_
      refine go T 9 rfl ?_
      refine adI rfl rfl rfl rfl (by omega) (by omega) ?_
      refine o1 rfl ?_
      refine op_call rfl rfl rfl (deleteSeg_has _ M k w6 hu6 hkl (by omega)) ?_
      rintro v7 w7 ⟨hc7, hb7, hu7⟩
      have hg7 := hg6.keep hc7 (fun hm => by have := hf3 gf (by simpa using hm); omega)
      have hc07 : Chg [] w w7 := (hc3.trans' hc36).trans hc7 (fun k hk hlt => by have := hf3 k (by simpa using hk); omega)
      refine go T 5 rfl ?_
      refine adI rfl rfl rfl rfl (by omega) (by omega) ?_
      refine go T 2 rfl ?_
      refine Round_n (i + 1, M.eraseIdx k, v7) ⟨rfl, rfl, rfl, rfl, rfl, trivial⟩ ⟨by dsimp only; omega, htk, ?_, hc07, hu7, fun g hg => hf3 g (by rw [← hb7]; exact hg), hg7⟩ (by dsimp only; omega)
      dsimp only
      rw [List.length_eraseIdx]; split <;> omega
  obtain rfl : i = ns.length := by omega
  rw [List.drop_length, takeK] at htk
  refine go T 6 rfl ?_
  refine rndX ?_
  refine go T 10 rfl ?_
  refine post2 (.inl rfl) rfl rfl rfl ⟨hc3, ?_, ?_⟩
  · intro h; rw [htk] at h; cases h
  · intro L' h
    rw [htk] at h; injection h with h; subst h
    exact ⟨_, rfl, hu3, fun g hg => by have := hf3 g hg; omega⟩
end Go.Proofs.YtiadjkjlifnopaaGreatDoor.Tryz
/-! Manifests: segments put in. -/
set_option linter.unusedVariables false
namespace Go.Proofs.YtiadjkjlifnopaaGreatDoor.Tryz
open Go Go.Vc
set_option maxHeartbeats 2000000 in
theorem put_has' (v : Value) (M : List SegM) (B : Option Addr) (m d : Nat) (xs : List SegM) (w : World) (hown : Own w 26 6 v M.length (M.flatMap segL)) (hxs : Firm v.ownBlock.toList w (fun w => SliceK 6 (RdL segL) w (.slice B m d) xs)) (hb : M.length + xs.length ≤ 1000000) :
    Has Go.Proofs.Tryz.prog 98 #[v, .slice B m d, segF] w (fun v' w' => Chg v.ownBlock.toList w w' ∧ (putK (·.num) xs M = none → v' = .tuple #[.slice none 0 0, .bool false]) ∧ ∀ M', putK (·.num) xs M = some M' → (M'.map (·.num)).Nodup → ∃ u, v' = .tuple #[u, .bool true] ∧ Own w' 26 6 u (sortK (·.num) M').length ((sortK (·.num) M').flatMap segL) ∧ ∀ g, u.ownBlock = some g → g ∈ v.ownBlock.toList ∨ w.heap.size ≤ g) := by
  obtain ⟨rfl, hm1, hm2⟩ := (hxs w (Chg.refl _ _)).len
  unfold maxLen at hm2
  refine enter Go.Proofs.Tryz.func98 rfl rfl (by decide) rfl (e := [(0, v), (1, .slice B xs.length d), (2, segF)]) ⟨rfl, rfl, rfl, trivial⟩ ?_
  refine run ?_
  refine go T 2 rfl ?_
  refine o1 rfl ?_
  refine op_box rfl rfl (fun gf w1 hs1 hc1 hg1 => ?_)
  have hg1 : Blk w1 gf 146 [segF] := hg1
  have hs1 : w.heap.size ≤ gf := hs1
  have hown1 := hown.keep0 hc1
  have hc0 : Chg v.ownBlock.toList w w1 := hc1.mono (fun k hk _ => by cases hk)
  refine go T 13 rfl ?_
  refine W_loop (σ := Nat × List SegM × Value) (fun s => [(0, s.2.2), (5, .pointer (some ⟨gf, 0, none⟩)), (10, .slice B xs.length d), (11, .int .i64 xs.length), (12, .int .i64 s.1)])
    (fun s w' => s.1 ≤ xs.length ∧ putK (·.num) xs M = putK (·.num) (xs.drop s.1) s.2.1 ∧ s.2.1.length = M.length + s.1 ∧ Chg v.ownBlock.toList w w' ∧ Own w' 26 6 s.2.2 s.2.1.length (s.2.1.flatMap segL) ∧ (∀ g, s.2.2.ownBlock = some g → g ∈ v.ownBlock.toList ∨ w.heap.size ≤ g) ∧ Blk w' gf 146 [segF])
    (fun s => xs.length - s.1) (0, M, v) ⟨rfl, rfl, rfl, rfl, rfl, trivial⟩ ⟨by omega, by simp, by simp, hc0, hown1, fun g hg => .inl (by simpa using hg), hg1⟩ ?_
  rintro ⟨i, N, u⟩ w3 ⟨hi, hpk, hNM, hc3, hu3, hf3, hg3⟩
  dsimp only at hi hpk hNM hc3 hu3 hf3 hg3 ⊢
  obtain ⟨Au, cu, rfl, hcu1, hcu2⟩ := hu3.form
  refine run ?_
  refine go T 2 rfl ?_
  refine ltS rfl rfl rfl rfl (fun hcmp => ?_) (fun hcmp => ?_)
  · have hi2 : i < xs.length := by omega
    obtain ⟨ad, hA, hel⟩ := (hxs w3 hc3).at (i := i) (List.getElem?_eq_getElem hi2)
    subst hA
    have hdrop : xs.drop i = xs[i] :: xs.drop (i + 1) := List.drop_eq_getElem_cons hi2
    rw [hdrop] at hpk
    generalize xs[i] = x at *
    refine go T 10 rfl ?_
    refine o1 rfl (op_indexK T rfl rfl rfl rfl rfl (by omega) ?_)
    refine o1 rfl (op_loadE T hel rfl rfl rfl rfl rfl ?_)
    refine o1 rfl ?_
    refine op_alloc T rfl rfl (fun gn w4 hs4 hc4 hg4 => ?_)
    have hg4 : Blk w4 gn 26 [.int .i64 0, .bool false, .int .i64 0, .int .i64 0, .int .i64 0, .int .u32 0] := hg4
    have hs4 : w3.heap.size ≤ gn := hs4
    refine op0 rfl rfl ?_
    refine op_store_agg T rfl rfl rfl rfl rfl rfl hg4 (by exact Nat.le_of_ble_eq_true rfl) (fun w5 hc5 hg5 _ => ?_)
    have hg5 : Blk w5 gn 26 (segL x) := hg5
    have hc35 : Chg [] w3 w5 := hc4.trans hc5 (fun k hk hlt => by simp at hk; omega)
    have hu5 := hu3.keep0 hc35
    have hg5f := hg3.keep0 hc35
    clear hg4
    refine go T 6 rfl ?_
    refine o1 rfl ?_
    refine op_makeFunc (fv := #[]) (cv := #[ptrV gf, ptrV gn]) rfl rfl rfl ?_
    refine o1 rfl ?_
    refine op_call rfl rfl rfl (hasSeg_has Au _ cu N _ _ (fun s => decide (x.num = s.num)) (hu5.readsK segL_len) (fun wq s hq _ => putSeg1_has gf gn x s wq (hg5f.keep0 hq) (hg5.keep0 hq))) ?_
    rintro _ w6 ⟨hc6, rfl⟩
    have hu6 := hu5.keep0 hc6
    have hg6 := hg5f.keep0 hc6
    have hg6n := hg5.keep0 hc6
    have hc06 := hc3.trans' (hc35.trans' hc6)
    by_cases hany : (N.any fun s => decide (x.num = s.num)) = true
    · rw [putK, if_pos hany] at hpk
      rw [hany]
      refine go T 13 rfl ?_
      refine rndR ?_
      refine go T 2 rfl ?_
      exact post2 (.inl rfl) rfl rfl rfl ⟨hc06, fun _ => rfl, fun L' h => by rw [hpk] at h; cases h⟩
    · rw [putK, if_neg hany] at hpk
      rw [Bool.eq_false_iff.2 hany]
      refine go T 7 rfl ?_
      refine o1 rfl (op_load_agg T rfl rfl rfl rfl hg6n (by exact Nat.le_of_ble_eq_true rfl) (by exact rfl) ?_)
      refine o1 rfl ?_
      refine op_buildSlice T rfl rfl rfl rfl rfl rfl rfl (fun g7 w7 hs7 hc7 hg7 => ?_)
      have hg7 : Blk w7 g7 26 (segL x) := hg7
      have hu7 := hu6.keep0 hc7
      have hg7f := hg6.keep0 hc7
      have hc07 := hc06.trans' hc7
      refine o1 rfl ?_
      refine op_append T (n := N.length) (xs := N.flatMap segL) (m := 1) (news := segL x) rfl rfl rfl rfl rfl rfl rfl rfl hu7 rfl ?_ (by unfold maxLen; omega) (by show (N.length + 1) * 48 ≤ _; omega) ?_
      · intro j u hj
        exact ⟨⟨_, rfl, by rw [add_plain]; exact hg7.cell hj⟩, segL_one _ u (List.mem_of_getElem? hj)⟩
      · intro v8 w8 hu8 hc8 hb8 _
        have hfr : ∀ h, v8.ownBlock = some h → h ∈ v.ownBlock.toList ∨ w.heap.size ≤ h := fun h hh => by
          rcases hb8 with hb | ⟨g', hb, hge⟩
          · exact hf3 h (by rw [← hb]; exact hh)
          · rw [hb] at hh; injection hh with hh; have := hc07.size; exact .inr (by omega)
        have hc08 : Chg v.ownBlock.toList w w8 := hc07.trans hc8 (fun k hk hlt => (hf3 k (by simpa using hk)).resolve_right (by omega))
        have hg8f := hg7f.keep hc8 (fun hm => by
          obtain ⟨cur, hrow⟩ := hu7.row (show _ = some gf by simpa using hm)
          exact hg7f.ne_ hrow (by decide) rfl)
        refine go T 5 rfl ?_
        refine adI rfl rfl rfl rfl (by omega) (by omega) ?_
        refine go T 2 rfl ?_
        refine Round_n (i + 1, N ++ [x], v8) ⟨rfl, rfl, rfl, rfl, rfl, trivial⟩ ⟨by dsimp only; omega, hpk, by dsimp only; rw [List.length_append, List.length_singleton]; omega, hc08, ?_, hfr, hg8f⟩ (by dsimp only; omega)
        dsimp only
        rw [List.length_append, List.flatMap_append]
        simpa using hu8
  obtain rfl : i = xs.length := by omega
  rw [List.drop_length, putK] at hpk
  have hgfo : gf ∉ (Value.slice Au N.length cu).ownBlock.toList := fun hm => by
    obtain ⟨cur, hrow⟩ := hu3.row (show _ = some gf by simpa using hm)
    exact hg3.ne_ hrow (by decide) rfl
  refine go T 6 rfl ?_
  refine rndX ?_
  refine go T 5 rfl ?_
  refine o1 rfl ?_
  refine op_makeFunc (fv := #[]) (cv := #[ptrV gf]) rfl rfl rfl ?_
  refine o1 rfl ?_
  refine op_call rfl rfl rfl (sortSeg_has gf _ N w3 hu3 (by omega) (hg3.cell rfl) hgfo) ?_
  rintro _ w4 ⟨rfl, hc4, N', hp, hpw, hu4⟩
  have hlen4 : N'.length = N.length := hp.length_eq
  have hc04 : Chg v.ownBlock.toList w w4 := hc3.trans hc4 (fun k hk hlt => (hf3 k (by simpa using hk)).resolve_right (by omega))
  refine go T 10 rfl ?_
  refine post2 (.inl rfl) rfl rfl rfl ⟨hc04, ?_, ?_⟩
  · intro h; rw [hpk] at h; cases h
  · intro M' h hn
    rw [hpk] at h; injection h with h; subst h
    obtain rfl := sortK_unique (key := fun s : SegM => s.num) hn hp hpw
    refine ⟨_, rfl, ?_, hf3⟩
    rw [hlen4] at hu4 ⊢
    exact hu4
end Go.Proofs.YtiadjkjlifnopaaGreatDoor.Tryz
/-! Manifests: the library's Clone and Delete of parity segments. -/
set_option linter.unusedVariables false
namespace Go.Vc
open Go
def parKey (s : ParS) : Int := s.1.p.group
theorem parS_all (x : ParS) : ((parSL x).toArray.toList.all fun u => u.oneCell') = true := List.all_eq_true.2 fun u hu => parS_one x u (by simpa using hu)
theorem idxM_map {α β : Type} (g : α → β) (p : β → Bool) : ∀ L : List α, idxM p (L.map g) = idxM (fun x => p (g x)) L
  | [] => rfl
  | a :: l => by rw [List.map_cons, idxM, idxM, idxM_map g p l]
theorem par_reads {w : World} {v : Value} {L : List ParS} (h : SliceK 5 (RdL parSL) w v L) : SliceK 5 (RdL parL) w v (L.map (·.1)) := by
  unfold SliceK at *
  obtain ⟨A, c, rfl, h1, h2, h⟩ := h
  refine ⟨A, c, by rw [List.length_map], by rw [List.length_map]; exact h1, h2, fun i x hx => ?_⟩
  rw [List.getElem?_map] at hx
  cases hi : L[i]? with
  | none => rw [hi] at hx; cases hx
  | some y =>
    rw [hi] at hx
    injection hx with hx
    subst hx
    exact h i y hi
end Go.Vc
namespace Go.Proofs.YtiadjkjlifnopaaGreatDoor.Tryz
open Go Go.Vc
set_option maxHeartbeats 1000000 in
theorem clonePar_has (A : Option Addr) (n c : Nat) (L : List ParS) (w : World) (hl : SliceK 5 (RdL parSL) w (.slice A n c) L) (hb : L.length ≤ 1000000) :
    Has Go.Proofs.Tryz.prog 145 #[.slice A n c] w (fun v w' => Chg [] w w' ∧ Own w' 70 5 v L.length (L.flatMap parSL) ∧ ∀ g, v.ownBlock = some g → w.heap.size ≤ g) := by
  obtain ⟨rfl, hl1, hl2⟩ := hl.len
  refine enter Go.Proofs.Tryz.func145 rfl rfl (by decide) rfl (e := [(0, .slice A L.length c)]) ⟨rfl, trivial⟩ ?_
  refine run ?_
  refine go T 9 rfl ?_
  refine o1 rfl ?_
  refine op_eql_nil T rfl rfl rfl rfl (fun hA => ?_) (fun ad hA => ?_)
  · have hl0 : L = [] := by
      cases L with
      | nil => rfl
      | cons c l => obtain ⟨ad, he, _⟩ := hl.at (i := 0) (x := c) rfl; rw [hA] at he; cases he
    subst hl0
    refine go T 10 rfl ?_
    exact post1 (.inl rfl) rfl rfl ⟨Chg.refl _ _, Own.nil _ _ _, fun g h => by simp [Value.ownBlock] at h⟩
  · subst hA
    refine go T 7 rfl ?_
    refine o1 rfl ?_
    refine op_buildSlice T rfl rfl rfl rfl rfl rfl rfl (fun g w1 hgs hc1 hg1 => ?_)
    have ho : Own w1 70 5 (.slice (some ⟨g, 0, none⟩) 0 0) 0 [] := Own.mk hg1 (Nat.le_refl _) (Nat.zero_le _) rfl rfl
    have hl' := hl.keepR hc1
    refine go T 1 rfl ?_
    refine o1 rfl ?_
    refine op_append T (n := 0) (xs := []) (m := L.length) (news := L.flatMap parSL) rfl rfl rfl rfl rfl rfl rfl rfl ho (rk_len parS_len L) ?_ (by unfold maxLen; omega) (by show (0 + _) * 72 ≤ _; omega) ?_
    · intro j u hu
      have hjl := (List.getElem?_eq_some_iff.1 hu).1
      rw [rk_len parS_len] at hjl
      have hi : j / 5 < L.length := by omega
      have hm : j % 5 < 5 := by omega
      have hx : L[j / 5]? = some L[j / 5] := List.getElem?_eq_getElem hi
      have h1 := rk_get parS_len L hx hm
      rw [show j / 5 * 5 + j % 5 = j from by omega, hu] at h1
      obtain ⟨ad', he, hel⟩ := hl'.at hx
      have h2 := hel (j % 5) u h1.symm
      rw [show j / 5 * 5 + j % 5 = j from by omega] at h2
      exact ⟨⟨ad', he, h2⟩, parS_one _ u (List.mem_of_getElem? h1.symm)⟩
    · intro v w2 hu2 hc2 hb2 _
      rw [Nat.zero_add, List.nil_append] at hu2
      have hgs : w.heap.size ≤ g := hgs
      refine go T 4 rfl ?_
      refine post1 (.inl rfl) rfl rfl ⟨hc1.trans hc2 (fun k hk hlt => by simp [Value.ownBlock] at hk; omega), hu2, fun h hh => ?_⟩
      rcases hb2 with hb2 | ⟨g', hb2, hge⟩
      · rw [hb2] at hh; simp [Value.ownBlock] at hh; omega
      · rw [hb2] at hh; injection hh with hh; have := hc1.size; omega
set_option maxHeartbeats 2000000 in
/-- One goes, in place. -/
theorem deletePar_has (v : Value) (L : List ParS) (k : Nat) (w : World) (hown : Own w 70 5 v L.length (L.flatMap parSL)) (hk : k < L.length) (hb : L.length ≤ 1000000) :
    Has Go.Proofs.Tryz.prog 148 #[v, .int .i64 (k : Int), .int .i64 ((k : Int) + 1)] w (fun v' w' => Chg v.ownBlock.toList w w' ∧ v'.ownBlock = v.ownBlock ∧ Own w' 70 5 v' (L.eraseIdx k).length ((L.eraseIdx k).flatMap parSL)) := by
  obtain ⟨g, cap, cur, rfl, hn, hm, hblk, hl, ht⟩ := hown.blk (by omega)
  have hmm := hm
  unfold maxLen at hmm
  refine enter Go.Proofs.Tryz.func148 rfl rfl (by decide) rfl (e := [(0, .slice (some ⟨g, 0, none⟩) L.length cap), (1, .int .i64 (k : Int)), (2, .int .i64 ((k : Int) + 1))]) ⟨rfl, rfl, rfl, trivial⟩ ?_
  rw [show ((k : Int) + 1) = ((k + 1 : Nat) : Int) from by omega]
  refine run ?_
  refine go T 12 rfl ?_
  refine o1 rfl ?_
  refine op_slice3 T (l := k) (h' := k + 1) (m := L.length) rfl rfl rfl rfl rfl rfl rfl (by omega) (by omega) (by omega) (fun v13 => ?_)
  refine go T 7 rfl ?_
  refine eqF rfl rfl rfl rfl (by omega) ?_
  refine go T 13 rfl ?_
  refine W_walk 6 [] fol (by kernel_rfl) (by kernel_rfl) ?_
  refine Walk.plain rfl (by intro val w_ hR hp; exact op_move rfl rfl ⟨Chg.refl _ _, rfl⟩) ?_; dsimp only [List.nil_append, List.cons_append]
  refine Walk.plain rfl (by intro val w_ hR hp; exact op_move rfl rfl ⟨Chg.refl _ _, rfl⟩) ?_; dsimp only [List.nil_append, List.cons_append]
  refine Walk.plain (v := .slice (some ⟨g, 0, none⟩) k cap) rfl (by intro val w_ hR hp; exact op_slice_to T (h' := k) (k := .i64) rfl rfl rfl rfl rfl (by omega) ⟨Chg.refl _ _, rfl⟩) ?_; dsimp only [List.nil_append, List.cons_append]
  refine Walk.plain rfl (by intro val w_ hR hp; exact op_move rfl rfl ⟨Chg.refl _ _, rfl⟩) ?_; dsimp only [List.nil_append, List.cons_append]
  refine Walk.plain rfl (by intro val w_ hR hp; exact op_move rfl rfl ⟨Chg.refl _ _, rfl⟩) ?_; dsimp only [List.nil_append, List.cons_append]
  refine Walk.plain (v := .slice (if cap = k + 1 then some ⟨g, 0, none⟩ else (some (⟨g, 0, none⟩ : Addr)).map (·.add ((k + 1) * 5))) (L.length - (k + 1)) (cap - (k + 1))) rfl (by intro val w_ hR hp; exact op_slice T (l := k + 1) (h' := L.length) rfl rfl rfl rfl ⟨_, rfl⟩ rfl (by omega) (by omega) ⟨Chg.refl _ _, rfl⟩) ?_; dsimp only [List.nil_append, List.cons_append]
  skip
  refine Walk.fin ?_
  intro val w1 hc1 hp
  clear hp
  replace hown := hown.keep0 hc1
  replace hblk := hblk.keep0 hc1
  have hb1 := hblk
  obtain ⟨a, ha, hav⟩ : ∃ a, (if cap = k + 1 then some ⟨g, 0, none⟩ else (some (⟨g, 0, none⟩ : Addr)).map (·.add ((k + 1) * 5))) = some a ∧ (cap = k + 1 ∨ a = (⟨g, 0, none⟩ : Addr).add ((k + 1) * 5)) := by
    split
    · rename_i h; exact ⟨_, rfl, .inl h⟩
    · exact ⟨_, rfl, .inr rfl⟩
  rw [ha]
  have hcells : ∀ j u, ((L.drop (k + 1)).flatMap parSL)[j]? = some u → w1.cell? (a.add j) = some u := fun j u hj => by
    rcases hav with h | h
    · have : L.drop (k + 1) = [] := List.drop_eq_nil_of_le (by omega)
      rw [this] at hj; simp at hj
    · rw [h, add_of_add, add_plain]
      have hlen : ((L.drop (k + 1)).flatMap parSL).length = (L.length - (k + 1)) * 5 := by rw [rk_len parS_len, List.length_drop]
      have hjl := (List.getElem?_eq_some_iff.1 hj).1
      rw [hlen] at hjl
      refine hb1.cell ?_
      have e1 : (L.flatMap parSL)[(k + 1) * 5 + j]? = some u := by
        have h2 : L.flatMap parSL = (L.take (k + 1)).flatMap parSL ++ (L.drop (k + 1)).flatMap parSL := by rw [← List.flatMap_append, List.take_append_drop]
        rw [h2, List.getElem?_append_right (by rw [rk_len parS_len, List.length_take]; omega), rk_len parS_len, List.length_take, Nat.min_eq_left (by omega), Nat.add_sub_cancel_left]
        exact hj
      rw [← ht, List.getElem?_take] at e1
      split at e1
      · exact e1
      · cases e1
  have hnl : ((L.drop (k + 1)).flatMap parSL).length = (L.length - (k + 1)) * 5 := by rw [rk_len parS_len, List.length_drop]
  have hfitl : k * 5 + ((L.drop (k + 1)).flatMap parSL).length ≤ cur.length := by rw [hnl, hl]; omega
  have hone : ∀ u ∈ (L.drop (k + 1)).flatMap parSL, u.oneCell' = true := fun u hu => by
    obtain ⟨x, _, hx⟩ := List.mem_flatMap.1 hu
    exact parS_one x u hx
  refine runL ?_
  refine o1 rfl ?_
  refine op_appendIn T (t := 47) (el := 70) (g := g) (a := a) (n := k) (cap := cap) (m := L.length - (k + 1)) (news := (L.drop (k + 1)).flatMap parSL) rfl rfl rfl rfl rfl rfl hb1 hnl hcells hone (by omega) hfitl (fun w2 hc2 hb2 => ?_)
  have hb2 : Blk w2 g 70 (cur.take (k * 5) ++ (L.drop (k + 1)).flatMap parSL ++ cur.drop (k * 5 + ((L.drop (k + 1)).flatMap parSL).length)) := hb2
  have hkn : k + (L.length - (k + 1)) = L.length - 1 := by omega
  rw [hkn]
  have htk : cur.take (k * 5) = (L.take k).flatMap parSL := by
    have : cur.take (k * 5) = (L.flatMap parSL).take (k * 5) := by rw [← ht, List.take_take, Nat.min_eq_left (by omega)]
    rw [this]
    have h2 : L.flatMap parSL = (L.take k).flatMap parSL ++ (L.drop k).flatMap parSL := by rw [← List.flatMap_append, List.take_append_drop]
    rw [h2]
    exact List.take_left' (by rw [rk_len parS_len, List.length_take, Nat.min_eq_left (by omega)])
  have her : cur.take (k * 5) ++ (L.drop (k + 1)).flatMap parSL = (L.eraseIdx k).flatMap parSL := by
    rw [htk, eraseIdx_split L k hk, List.flatMap_append]
  rw [her] at hb2
  have hel : (L.eraseIdx k).length = L.length - 1 := by rw [List.length_eraseIdx, if_pos hk]
  have hefl : ((L.eraseIdx k).flatMap parSL).length = (L.length - 1) * 5 := by rw [rk_len parS_len, hel]
  have htot : ((L.eraseIdx k).flatMap parSL ++ cur.drop (k * 5 + ((L.drop (k + 1)).flatMap parSL).length)).length = cap * 5 := by
    rw [List.length_append, hefl, List.length_drop, hnl, hl]; omega
  generalize cur.drop (k * 5 + ((L.drop (k + 1)).flatMap parSL).length) = back at *
  refine go T 9 rfl ?_
  refine o1 rfl ?_
  refine op_slice T (l := L.length - 1) (h' := L.length) rfl rfl rfl rfl ⟨_, rfl⟩ ⟨_, rfl⟩ (by omega) (by omega) ?_
  rw [if_neg (by omega)]
  refine op0 rfl rfl ?_
  refine op_clear T (A := some ⟨g, (L.length - 1) * 5, none⟩) (g := g) (off := (L.length - 1) * 5) (m := L.length - (L.length - 1)) (c := cap - (L.length - 1)) rfl rfl (by show some (Value.slice (some ((⟨g, 0, none⟩ : Addr).add ((L.length - 1) * 5))) _ _) = _; rw [add_plain]) rfl rfl rfl rfl (.inr rfl) hb2 (by rw [htot]; show (L.length - 1) * 5 + (L.length - (L.length - 1)) * 5 ≤ _; omega) (fun w3 rest hc3 hb3 hl3 => ?_)
  rw [List.take_left' hefl] at hb3 hl3
  rw [htot] at hl3
  refine go T 9 rfl ?_
  refine post1 (.inl rfl) rfl rfl ⟨(hc1.mono (fun k hk _ => by cases hk)).trans (hc2.trans hc3 (fun i hi _ => hi)) (fun i hi _ => by simpa [Value.ownBlock] using hi), rfl, ?_⟩
  rw [hel]
  exact Own.mk hb3 (by omega) hm hl3 (List.take_left' hefl)
theorem indexParS_has {w : World} (A : Option Addr) (n c : Nat) (L : List ParS) (fn : Nat) (cv : Array Value) (q : ParS → Bool) (p : ParV → Bool) (hq : ∀ s, q s = p s.1) (hs : SliceK 5 (RdL parSL) w (.slice A n c) L)
    (hf : ∀ w1 x, Chg [] w w1 → Has Go.Proofs.Tryz.prog fn (#[] ++ #[.agg (parL x).toArray] ++ cv) w1 (fun v w' => Chg [] w1 w' ∧ v = .bool (p x))) :
    Has Go.Proofs.Tryz.prog 146 #[.slice A n c, .func (.func fn) #[] cv] w (fun v w' => Chg [] w w' ∧ v = .int .i64 (idxM q L)) := by
  have := indexPar_has A n c (L.map (·.1)) fn cv p (par_reads hs) (fun w1 x h _ => hf w1 x h)
  rw [idxM_map, show (fun x : ParS => p x.1) = q from funext fun s => (hq s).symm] at this
  exact this
theorem hasParS_has {w : World} (A : Option Addr) (n c : Nat) (L : List ParS) (fn : Nat) (cv : Array Value) (q : ParS → Bool) (p : ParV → Bool) (hq : ∀ s, q s = p s.1) (hs : SliceK 5 (RdL parSL) w (.slice A n c) L)
    (hf : ∀ w1 x, Chg [] w w1 → Has Go.Proofs.Tryz.prog fn (#[] ++ #[.agg (parL x).toArray] ++ cv) w1 (fun v w' => Chg [] w1 w' ∧ v = .bool (p x))) :
    Has Go.Proofs.Tryz.prog 136 #[.slice A n c, .func (.func fn) #[] cv] w (fun v w' => Chg [] w w' ∧ v = .bool (L.any q)) := by
  have := hasPar_has A n c (L.map (·.1)) fn cv p (par_reads hs) (fun w1 x h _ => hf w1 x h)
  rw [List.any_map, show (p ∘ fun x : ParS => x.1) = q from funext fun s => (hq s).symm] at this
  exact this
end Go.Proofs.YtiadjkjlifnopaaGreatDoor.Tryz
