/- The walk of one law and the row that it ends in: whatever the arguments that can be read as data, the call returns true and leaves what was there as it was. No condition. -/
import Derived.Test.YtjkbbkomajjegaaBookAllK2
import Derived.Test.YtjkbbkomajjegaaBookAllK1
import Derived.Test.YtjkbbkomajjegaaRows
import Derived.ProofKit
import Derived.OpenShut
import Derived.ChangeOld
import Derived.ChangeCalls
import Derived.Deep.Slices
/-! History: the place of a sight. -/
set_option linter.unusedVariables false
namespace Go.Proofs.Ytjkbbkomajjegaa.Try
open Go Go.Vc
section
variable {w0 w w1 : World} {g r : Nat} {ops : List OpM} {chs : List ChgM} {sts : List OpM} {pls : List Int} {vo vc vs vp : Value}
set_option maxHeartbeats 4000000 in
theorem place_has (x : JAt w0 w g ops chs sts pls vo vc vs vp) {k : Nat} {o : OpM} (hk : sts[k]? = some o) (hpl : pls.length ≤ sts.length) :
    Has Go.Proofs.Try.prog 25 #[ptrB g, .int .i64 k] w (fun v w' => v = .tuple #[.int .i64 (placeM ops chs sts pls o).1, .bool (placeM ops chs sts pls o).2] ∧ Chg [] w w') := by
  refine enter Go.Proofs.Try.func25 rfl rfl (by decide) rfl (e := [(0, ptrB g), (1, .int .i64 k)]) ⟨rfl, rfl, trivial⟩ ?_
  unfold ptrB
  have hb := x.blk
  obtain ⟨Ac, cc, rfl, hl1, hl2⟩ := x.chsR.form
  obtain ⟨As, cs, rfl, hl3, hl4⟩ := x.stsR.form
  unfold maxLen at hl2 hl4
  have hks : k < sts.length := (List.getElem?_eq_some_iff.1 hk).1
  obtain ⟨ads, rfl, he⟩ := x.stsR.at hk
  refine run ?_
  refine go T 11 rfl ?_
  refine ldB T hb rfl rfl rfl rfl rfl rfl ?_
  refine go T 1 rfl ?_
  refine o1 rfl (op_indexK T rfl rfl rfl rfl rfl (by omega) ?_)
  refine o1 rfl (op_loadE T he rfl rfl rfl rfl rfl ?_)
  refine o1 rfl ?_
  refine op_alloc T rfl rfl (fun g6 w3 hs3 hc3 hg6 => ?_)
  have hs3 : w.heap.size ≤ g6 := hs3
  have hg6 : Blk w3 g6 34 [.int .i64 0, .string (str []), .string (str []), .int .i64 0, .int .i64 0, .int .i64 0, .int .i64 0, .string (str []), .int .i64 0] := hg6
  refine op0 rfl rfl ?_
  refine op_store_agg T rfl rfl rfl rfl rfl rfl hg6 (by exact Nat.le_of_ble_eq_true rfl) (fun w4 hc4 hg64 _ => ?_)
  have hg64 : Blk w4 g6 34 (opL o) := hg64
  have hc04 : Chg [] w w4 := hc3.trans hc4 (fun k hk hlt => by simp at hk; omega)
  clear hg6 he hc3 hc4
  replace x := x.keep0 hc04
  clear hb
  unfold opL at hg64
  refine go T 6 rfl ?_
  refine ldB T hg64 rfl rfl rfl rfl rfl rfl ?_
  refine go T 7 rfl ?_
  refine o1 rfl ?_
  refine op_call rfl rfl rfl (least_has x hk hpl) ?_
  rintro _ w5 ⟨rfl, hc5⟩
  replace hg64 := hg64.keep0 hc5
  replace hc04 := hc04.trans' hc5
  replace x := x.keep0 hc5
  refine go T 6 rfl ?_
  refine o1 rfl (op_load_agg T rfl rfl rfl rfl hg64 (by exact Nat.le_of_ble_eq_true rfl) (by exact rfl) ?_)
  refine o1 rfl ?_
  refine op_call rfl rfl rfl (saw_has o w5) ?_
  rintro _ w6 ⟨hc6, rfl⟩
  replace hc5 := hc5.trans' hc6
  replace hg64 := hg64.keep0 hc6
  replace hc04 := hc04.trans' hc6
  replace x := x.keep0 hc6
  generalize hpm : placeM ops chs sts pls o = pm
  unfold placeM at hpm
  generalize leastM chs sts pls o = n0 at *
  refine o1 rfl (op_not rfl rfl rfl ?_)
  refine go T 2 rfl ?_
  refine W_meet (σ := Int) (fun n => [(0, .pointer (some ⟨g, 0, none⟩)), (6, .pointer (some ⟨g6, 0, none⟩)), (7, .string (str o.key)), (8, .int .i64 n)])
    (fun n w' => Chg [] w w' ∧ JAt w0 w' g ops chs sts pls vo (.slice Ac chs.length cc) (.slice (some ads) sts.length cs) vp ∧ Blk w' g6 34 (opL o) ∧ pm = lastM chs o n) ?_ ?_
  · cases hsaw : sawM o with
    | true =>
      rw [if_pos hsaw] at hpm
      refine run ?_
      refine go T 2 rfl ?_
      exact Meet_n n0 ⟨rfl, rfl, rfl, rfl, trivial⟩ ⟨hc04, x, hg64, hpm.symm⟩
    | false =>
    rw [if_neg (by simp [hsaw])] at hpm
    refine run ?_
    refine go T 7 rfl ?_
    refine ldB T hg64 rfl rfl rfl rfl rfl rfl ?_
    refine o1 rfl ?_
    refine op_call rfl rfl rfl (opened_has x 3 o.key o.done) ?_
    rintro _ w7 ⟨hc7, rfl⟩
    replace hc6 := hc6.trans' hc7
    replace hc5 := hc5.trans' hc7
    replace hg64 := hg64.keep0 hc7
    replace hc04 := hc04.trans' hc7
    replace x := x.keep0 hc7
    cases hop : openedM ops 3 o.key o.done with
    | true =>
      rw [if_pos hop] at hpm
      subst hpm
      refine go T 11 rfl ?_
      refine mtR ?_
      refine go T 1 rfl ?_
      exact post2 (.inl rfl) rfl rfl rfl ⟨rfl, hc04⟩
    | false =>
    rw [if_neg (by simp [hop])] at hpm
    refine go T 11 rfl ?_
    refine W_loop (σ := Nat × Int) (fun s => [(0, .pointer (some ⟨g, 0, none⟩)), (6, .pointer (some ⟨g6, 0, none⟩)), (7, .string (str o.key)), (8, .int .i64 s.2), (9, .int .i64 s.1)])
      (fun s w' => s.1 ≤ chs.length ∧ Chg [] w w' ∧ JAt w0 w' g ops chs sts pls vo (.slice Ac chs.length cc) (.slice (some ads) sts.length cs) vp ∧ Blk w' g6 34 (opL o) ∧ climbM chs o.key chs n0 = climbM chs o.key (chs.drop s.1) s.2)
      (fun s => chs.length - s.1) (0, n0) ⟨rfl, rfl, rfl, rfl, rfl, trivial⟩ ⟨Nat.zero_le _, hc04, x, hg64, rfl⟩ ?_
    clear x hg64 hc04
    rintro ⟨i, n⟩ w8 ⟨hi, hc, x, hg6, hcl⟩
    dsimp only at hi hcl ⊢
    unfold opL at hg6
    refine run ?_
    refine go T 6 rfl ?_
    refine o1 rfl ?_
    refine op_call rfl rfl rfl (there_has x o.key n) ?_
    rintro _ w9 ⟨hc9, rfl⟩
    replace hc := hc.trans' hc9
    replace x := x.keep0 hc9
    replace hg6 := hg6.keep0 hc9
    have hb := x.blk
    cases hth : thereM chs o.key n with
    | true =>
      by_cases hlt : i < chs.length
      · have hx := List.getElem?_eq_getElem hlt
        obtain ⟨ad, rfl, he⟩ := x.chsR.at hx
        rw [List.drop_eq_getElem_cons hlt, climbM, if_pos hth] at hcl
        generalize chs[i] = a at *
        unfold chL opL at he
        refine go T 14 rfl ?_
        refine ldB T hb rfl rfl rfl rfl rfl rfl ?_
        refine go T 1 rfl ?_
        refine eqF rfl rfl rfl rfl (by omega) ?_
        refine go T 10 rfl ?_
        refine ldB T hb rfl rfl rfl rfl rfl rfl ?_
        refine go T 1 rfl ?_
        refine o1 rfl (op_indexK T rfl rfl rfl rfl rfl (by omega) ?_)
        refine o1 rfl (op_fieldAddr T rfl rfl rfl rfl rfl rfl rfl rfl ?_)
        refine o1 rfl (op_loadF T he rfl rfl rfl rfl rfl ?_)
        refine o1 rfl (op_max rfl rfl rfl ?_)
        refine go T 6 rfl ?_
        refine adI rfl rfl rfl rfl (by omega) (by omega) ?_
        refine go T 2 rfl ?_
        exact Round_n (i + 1, max n a.seq) ⟨rfl, rfl, rfl, rfl, rfl, trivial⟩ ⟨by dsimp only; omega, hc, x, hg6, hcl⟩ (by dsimp only; omega)
      · obtain rfl : i = chs.length := by omega
        rw [List.drop_length, climbM, if_pos hth] at hcl
        rw [hcl] at hpm
        dsimp only at hpm
        subst hpm
        refine go T 14 rfl ?_
        refine ldB T hb rfl rfl rfl rfl rfl rfl ?_
        refine go T 1 rfl ?_
        refine eqT rfl rfl rfl rfl (by omega) ?_
        refine go T 13 rfl ?_
        refine rndR ?_
        refine go T 1 rfl ?_
        refine mtR ?_
        refine go T 1 rfl ?_
        exact post2 (.inl rfl) rfl rfl rfl ⟨rfl, hc⟩
    | false =>
      have hcl' : climbM chs o.key chs n0 = some n := by
        rw [hcl]
        cases chs.drop i <;> simp [climbM, hth]
      rw [hcl'] at hpm
      refine go T 5 rfl ?_
      refine rndX ?_
      refine go T 1 rfl ?_
      exact Meet_n n ⟨rfl, rfl, rfl, rfl, trivial⟩ ⟨hc, x, hg6, hpm.symm⟩
  clear x hg64 hc04 hpm
  rintro n w7 ⟨hc, x, hg6, rfl⟩
  have hb := x.blk
  refine runX ?_
  refine go T 7 rfl ?_
  refine ldB T hb rfl rfl rfl rfl rfl rfl ?_
  refine go T 5 rfl ?_
  clear hb
  refine W_loop (σ := Nat) (fun i => [(0, .pointer (some ⟨g, 0, none⟩)), (6, .pointer (some ⟨g6, 0, none⟩)), (7, .string (str o.key)), (8, .int .i64 n), (59, .slice Ac chs.length cc), (60, .int .i64 chs.length), (61, .int .i64 i)])
    (fun i w' => i ≤ chs.length ∧ Chg [] w w' ∧ JAt w0 w' g ops chs sts pls vo (.slice Ac chs.length cc) (.slice (some ads) sts.length cs) vp ∧ Blk w' g6 34 (opL o) ∧ chs.any (badM o n) = (chs.drop i).any (badM o n))
    (fun i => chs.length - i) 0 ⟨rfl, rfl, rfl, rfl, rfl, rfl, rfl, trivial⟩ ⟨Nat.zero_le _, hc, x, hg6, rfl⟩ ?_
  clear x hg6 hc
  rintro i w8 ⟨hi, hc, x, hg6, hany⟩
  unfold opL at hg6
  refine run ?_
  refine go T 2 rfl ?_
  refine ltS rfl rfl rfl rfl (fun hcmp => ?_) (fun hcmp => ?_)
  · have hlt : i < chs.length := by omega
    have hx := List.getElem?_eq_getElem hlt
    obtain ⟨ad, rfl, he⟩ := x.chsR.at hx
    rw [List.drop_eq_getElem_cons hlt, List.any_cons] at hany
    generalize chs[i] = a at *
    refine go T 10 rfl ?_
    refine o1 rfl (op_indexK T rfl rfl rfl rfl rfl (by omega) ?_)
    refine o1 rfl (op_loadE T he rfl rfl rfl rfl rfl ?_)
    refine o1 rfl ?_
    refine op_alloc T rfl rfl (fun g11 w9 hs9 hc9 hg11 => ?_)
    have hs9 : w8.heap.size ≤ g11 := hs9
    have hg11 : Blk w9 g11 71 [.int .i64 0, .string (str []), .string (str []), .int .i64 0, .int .i64 0, .int .i64 0, .int .i64 0, .string (str []), .int .i64 0, .int .i64 0, .bool false] := hg11
    refine op0 rfl rfl ?_
    refine op_store_agg T rfl rfl rfl rfl rfl rfl hg11 (by exact Nat.le_of_ble_eq_true rfl) (fun w10 hc10 hg11' _ => ?_)
    have hg11' : Blk w10 g11 71 (chL a) := hg11'
    have hc8' : Chg [] w8 w10 := hc9.trans hc10 (fun k hk hlt => by simp at hk; omega)
    clear hg11 he hc9 hc10
    replace hc := hc.trans' hc8'
    replace hg6 := hg6.keep0 hc8'
    replace x := x.keep0 hc8'
    unfold chL opL at hg11'
    have hno : badM o n a = false → chs.any (badM o n) = (chs.drop (i + 1)).any (badM o n) := fun h => by rw [hany, h, Bool.false_or]
    have hyes : badM o n a = true → lastM chs o n = (0, false) := fun h => by unfold lastM; rw [hany, h]; rfl
    by_cases h1 : a.seq ≤ n
    case neg =>
      replace hno := hno (by unfold badM; simp [h1])
      refine go T 5 rfl ?_
      refine ldB T hg11' rfl rfl rfl rfl rfl rfl ?_
      refine go T 1 rfl ?_
      refine leF rfl rfl rfl rfl (by omega) ?_
      refine go T 35 rfl ?_
      refine adI rfl rfl rfl rfl (by omega) (by omega) ?_
      refine go T 2 rfl ?_
      exact Round_n (i + 1) ⟨rfl, rfl, rfl, rfl, rfl, rfl, rfl, trivial⟩ ⟨by omega, hc, x, hg6, hno⟩ (by omega)
    by_cases h2 : o.done < a.o.asked
    · rw [hyes (by unfold badM; simp [h1, h2])]
      refine go T 5 rfl ?_
      refine ldB T hg11' rfl rfl rfl rfl rfl rfl ?_
      refine go T 1 rfl ?_
      refine leT rfl rfl rfl rfl (by omega) ?_
      refine go T 3 rfl ?_
      refine ldB T hg11' rfl rfl rfl rfl rfl rfl ?_
      refine go T 1 rfl ?_
      refine ldB T hg6 rfl rfl rfl rfl rfl rfl ?_
      refine gtT rfl rfl rfl rfl (by omega) ?_
      refine go T 33 rfl ?_
      refine rndR ?_
      refine go T 2 rfl ?_
      exact post2 (.inl rfl) rfl rfl rfl ⟨rfl, hc⟩
    refine go T 5 rfl ?_
    refine ldB T hg11' rfl rfl rfl rfl rfl rfl ?_
    refine go T 1 rfl ?_
    refine leT rfl rfl rfl rfl (by omega) ?_
    refine go T 3 rfl ?_
    refine ldB T hg11' rfl rfl rfl rfl rfl rfl ?_
    refine go T 1 rfl ?_
    refine ldB T hg6 rfl rfl rfl rfl rfl rfl ?_
    refine gtF rfl rfl rfl rfl (by omega) ?_
    refine go T 1 rfl ?_
    refine o1 rfl (op_load_agg T rfl rfl rfl rfl hg6 (by exact Nat.le_of_ble_eq_true rfl) (by exact rfl) ?_)
    refine o1 rfl ?_
    refine op_call rfl rfl rfl (saw_has o w10) ?_
    rintro _ w11 ⟨hc11, rfl⟩
    replace hg11' := hg11'.keep0 hc11
    replace hc8' := hc8'.trans' hc11
    replace hc := hc.trans' hc11
    replace hg6 := hg6.keep0 hc11
    replace x := x.keep0 hc11
    cases hsaw : sawM o with
    | false =>
      replace hno := hno (by unfold badM; simp [h2, hsaw])
      refine go T 25 rfl ?_
      refine adI rfl rfl rfl rfl (by omega) (by omega) ?_
      refine go T 2 rfl ?_
      exact Round_n (i + 1) ⟨rfl, rfl, rfl, rfl, rfl, rfl, rfl, trivial⟩ ⟨by omega, hc, x, hg6, hno⟩ (by omega)
    | true =>
    by_cases h3 : a.o.key = o.key
    case neg =>
      replace hno := hno (by unfold badM; simp [h2, h3])
      refine go T 4 rfl ?_
      refine ldB T hg11' rfl rfl rfl rfl rfl rfl ?_
      refine go T 1 rfl ?_
      refine o1 rfl ?_
      refine op_str_eql (a := a.o.key) (b := o.key) rfl rfl rfl (fun h => absurd h h3) (fun h => ?_)
      refine go T 18 rfl ?_
      refine adI rfl rfl rfl rfl (by omega) (by omega) ?_
      refine go T 2 rfl ?_
      exact Round_n (i + 1) ⟨rfl, rfl, rfl, rfl, rfl, rfl, rfl, trivial⟩ ⟨by omega, hc, x, hg6, hno⟩ (by omega)
    by_cases h4 : o.seq < a.seq
    case neg =>
      replace hno := hno (by unfold badM; simp [h2, h4])
      refine go T 4 rfl ?_
      refine ldB T hg11' rfl rfl rfl rfl rfl rfl ?_
      refine go T 1 rfl ?_
      refine o1 rfl ?_
      refine op_str_eql (a := a.o.key) (b := o.key) rfl rfl rfl (fun h => ?_) (fun h => absurd h3 h)
      refine go T 3 rfl ?_
      refine ldB T hg11' rfl rfl rfl rfl rfl rfl ?_
      refine go T 2 rfl ?_
      refine ldB T hg6 rfl rfl rfl rfl rfl rfl ?_
      refine gtF rfl rfl rfl rfl (by omega) ?_
      refine go T 10 rfl ?_
      refine adI rfl rfl rfl rfl (by omega) (by omega) ?_
      refine go T 2 rfl ?_
      exact Round_n (i + 1) ⟨rfl, rfl, rfl, rfl, rfl, rfl, rfl, trivial⟩ ⟨by omega, hc, x, hg6, hno⟩ (by omega)
    rw [hyes (by unfold badM; simp [h1, hsaw, h3, h4])]
    refine go T 4 rfl ?_
    refine ldB T hg11' rfl rfl rfl rfl rfl rfl ?_
    refine go T 1 rfl ?_
    refine o1 rfl ?_
    refine op_str_eql (a := a.o.key) (b := o.key) rfl rfl rfl (fun h => ?_) (fun h => absurd h3 h)
    refine go T 3 rfl ?_
    refine ldB T hg11' rfl rfl rfl rfl rfl rfl ?_
    refine go T 2 rfl ?_
    refine ldB T hg6 rfl rfl rfl rfl rfl rfl ?_
    refine gtT rfl rfl rfl rfl (by omega) ?_
    refine go T 15 rfl ?_
    refine rndR ?_
    refine go T 2 rfl ?_
    exact post2 (.inl rfl) rfl rfl rfl ⟨rfl, hc⟩
  obtain rfl : i = chs.length := by omega
  rw [List.drop_length, List.any_nil] at hany
  rw [show lastM chs o n = (n, true) from by unfold lastM; rw [hany]; rfl]
  refine go T 6 rfl ?_
  refine rndX ?_
  refine go T 10 rfl ?_
  exact post2 (.inl rfl) rfl rfl rfl ⟨rfl, hc⟩
end
end Go.Proofs.Ytjkbbkomajjegaa.Try
/-! History: insertion sort, in place. -/
set_option linter.unusedVariables false
namespace Go.Vc
open Go
section
variable {α : Type} {le : α → α → Bool}
def insR (le : α → α → Bool) (x : α) : List α → List α
  | [] => [x]
  | y :: l => if le y x = true then y :: insR le x l else x :: y :: l
structure Tot (le : α → α → Bool) : Prop where
  tot : ∀ x y, le x y = true ∨ le y x = true
  tr : ∀ x y z, le x y = true → le y z = true → le x z = true
theorem insM_insR (h : Tot le) (a x : α) : ∀ l : List α, insM le a (insR le x l) = insR le x (insM le a l)
  | [] => by
    rcases Bool.eq_false_or_eq_true (le a x) with h1 | h1
    · simp [insM, insR, h1]
    · simp [insM, insR, h1]
  | y :: l => by
    have ih := insM_insR h a x l
    rcases Bool.eq_false_or_eq_true (le y x) with h1 | h1 <;> rcases Bool.eq_false_or_eq_true (le a y) with h2 | h2
    · have h3 := h.tr _ _ _ h2 h1
      simp [insM, insR, h1, h2, h3]
    · simp [insM, insR, h1, h2, ih]
    · rcases Bool.eq_false_or_eq_true (le a x) with h3 | h3 <;> simp [insM, insR, h1, h2, h3]
    · have h3 : le a x = false := by
        cases h3 : le a x with
        | false => rfl
        | true =>
          rcases h.tot y x with h4 | h4
          · rw [h1] at h4; cases h4
          · have := h.tr _ _ _ h3 h4; rw [h2] at this; cases this
      simp [insM, insR, h1, h2, h3]
theorem isM_snoc (h : Tot le) (x : α) : ∀ l : List α, isM le (l ++ [x]) = insR le x (isM le l)
  | [] => rfl
  | a :: l => by rw [List.cons_append, isM, isM_snoc h x l, insM_insR h]; rfl
theorem insR_split (x : α) : ∀ (A B : List α), (∀ a ∈ A, le a x = true) → (∀ b ∈ B, le b x = false) → insR le x (A ++ B) = A ++ x :: B
  | [], [], _, _ => rfl
  | [], b :: B, _, hB => by simp [insR, hB b (by simp)]
  | a :: A, B, hA, hB => by
    rw [List.cons_append, insR, if_pos (hA a (by simp)), insR_split x A B (fun y hy => hA y (by simp [hy])) hB]; rfl
theorem isM_one (x : α) : isM le [x] = [x] := rfl
end
end Go.Vc
namespace Go.Proofs.Ytjkbbkomajjegaa.Try
open Go Go.Vc
section
variable {w : World} {g c : Nat} {fn : Nat} {cf : OpM → OpM → Int} {le : OpM → OpM → Bool}
/-- Nothing to sort. -/
theorem insert0_has (s f : Value) (a b : Int) (h0 : 0 ≤ a) (ha : a ≤ 1000000) (h : b ≤ a + 1) (w : World) :
    Has Go.Proofs.Try.prog 60 #[s, .int .i64 a, .int .i64 b, f] w (fun v w' => v = .tuple #[] ∧ w' = w) := by
  refine enter Go.Proofs.Try.func60 rfl rfl (by decide) rfl (e := [(0, s), (1, .int .i64 a), (2, .int .i64 b), (3, f)]) ⟨rfl, rfl, rfl, rfl, trivial⟩ ?_
  refine run ?_
  refine go T 3 rfl ?_
  refine adI rfl rfl rfl rfl (by omega) (by omega) ?_
  refine go T 4 rfl ?_
  refine W_loop (σ := Unit) (fun _ => [(2, .int .i64 b), (8, .int .i64 (a + 1))]) (fun _ w' => w' = w) (fun _ => 0) () ⟨rfl, rfl, trivial⟩ rfl ?_
  rintro _ w1 rfl
  refine run ?_
  refine go T 5 rfl ?_
  refine ltF rfl rfl rfl rfl (by omega) ?_
  refine go T 5 rfl ?_
  refine rndX ?_
  refine go T 1 rfl ?_
  exact post0 (.inr rfl) rfl ⟨rfl, rfl⟩
set_option maxHeartbeats 4000000 in
theorem insert_has (hT : Tot le) (hf : ∀ w1 x y, Has Go.Proofs.Try.prog fn (#[] ++ #[.agg (opL x).toArray, .agg (opL y).toArray] ++ #[]) w1 (fun v w' => Chg [] w1 w' ∧ v = .int .i64 (cf x y))) (hcf : ∀ x y, cf x y < 0 ↔ le y x = false)
    (P M Z : List OpM) {n : Nat} {rest : List Value} (hn : P.length + M.length ≤ n) (hlim : n ≤ 1000000) (hb : RowB w g 34 opL (P ++ M ++ Z) rest) (hnl : (P ++ M ++ Z).length = n) :
    Has Go.Proofs.Try.prog 60 #[.slice (some ⟨g, 0, none⟩) n c, .int .i64 P.length, .int .i64 (P.length + M.length : Nat), .func (.func fn) #[] #[]] w (fun v w' => v = .tuple #[] ∧ Chg [g] w w' ∧ RowB w' g 34 opL (P ++ isM le M ++ Z) rest) := by
  refine enter Go.Proofs.Try.func60 rfl rfl (by decide) rfl (e := [(0, .slice (some ⟨g, 0, none⟩) n c), (1, .int .i64 P.length), (2, .int .i64 (P.length + M.length : Nat)), (3, .func (.func fn) #[] #[])]) ⟨rfl, rfl, rfl, rfl, trivial⟩ ?_
  refine run ?_
  refine go T 3 rfl ?_
  refine adI rfl rfl rfl rfl (by omega) (by omega) ?_
  refine go T 4 rfl ?_
  refine W_loop (σ := Nat) (fun i => [(0, .slice (some ⟨g, 0, none⟩) n c), (1, .int .i64 P.length), (2, .int .i64 (P.length + M.length : Nat)), (3, .func (.func fn) #[] #[]), (8, .int .i64 (P.length + i : Nat))])
    (fun i w' => 1 ≤ i ∧ (i ≤ M.length ∨ i = 1) ∧ Chg [g] w w' ∧ RowB w' g 34 opL (P ++ isM le (M.take i) ++ M.drop i ++ Z) rest) (fun i => M.length - i) 1 ⟨rfl, rfl, rfl, rfl, rfl, trivial⟩ ⟨by omega, .inr rfl, Chg.refl _ _, ?_⟩ ?_
  · have : isM le (M.take 1) ++ M.drop 1 = M := by cases M <;> simp [isM, insM]
    rw [List.append_assoc P, this]; exact hb
  rintro i w1 ⟨hi1, hi2, hc, hrow⟩
  refine run ?_
  refine go T 5 rfl ?_
  refine ltS rfl rfl rfl rfl (fun hcmp => ?_) (fun hcmp => ?_)
  · have hlt : i < M.length := by omega
    have hx := List.getElem?_eq_getElem hlt
    have hd := List.drop_eq_getElem_cons hlt
    have htk : M.take (i + 1) = M.take i ++ [M[i]] := by rw [List.take_add_one, hx]; rfl
    rw [hd] at hrow
    generalize M[i] = x at *
    have hil : (isM le (M.take i)).length = i := by rw [(isM_perm _).length_eq, List.length_take]; omega
    refine go T 14 rfl ?_
    refine W_loop (σ := List OpM × List OpM) (fun s => [(0, .slice (some ⟨g, 0, none⟩) n c), (1, .int .i64 P.length), (2, .int .i64 (P.length + M.length : Nat)), (3, .func (.func fn) #[] #[]), (8, .int .i64 (P.length + i : Nat)), (9, .int .i64 (P.length + s.1.length : Nat))])
      (fun s w' => isM le (M.take i) = s.1 ++ s.2 ∧ (∀ b ∈ s.2, le b x = false) ∧ Chg [g] w w' ∧ RowB w' g 34 opL ((P ++ s.1) ++ x :: (s.2 ++ (M.drop (i + 1) ++ Z))) rest) (fun s => s.1.length) (isM le (M.take i), []) ⟨rfl, rfl, rfl, rfl, rfl, by dsimp only; rw [hil]; exact ⟨rfl, trivial⟩⟩ ⟨by simp, by simp, hc, by simpa using hrow⟩ ?_
    clear hrow hc
    rintro ⟨A, B⟩ w2 ⟨hAB, hB, hc, hrow⟩
    dsimp only at hAB hB hrow ⊢
    have hlen : ((P ++ A) ++ x :: (B ++ (M.drop (i + 1) ++ Z))).length = n := by
      have h1 := congrArg List.length hAB
      rw [hil, List.length_append] at h1
      simp only [List.length_append, List.length_cons, List.length_drop] at hnl ⊢
      omega
    have hsorted : (isM le (M.take i)).Pairwise (fun a b => le a b = true) := isM_sorted hT.tot hT.tr _
    have hdone : (∀ a ∈ A, le a x = true) → isM le (M.take (i + 1)) = A ++ x :: B := fun h => by rw [htk, isM_snoc hT, hAB, insR_split x A B h hB]
    have hxx : ((P ++ A) ++ x :: (B ++ (M.drop (i + 1) ++ Z)))[P.length + A.length]? = some x := by
      rw [← List.length_append, List.getElem?_append_right (Nat.le_refl _)]; simp
    rcases List.eq_nil_or_concat A with rfl | ⟨A', z, hAz⟩
    · have h0 : P.length + ([] : List OpM).length = P.length := rfl
      refine run ?_
      refine go T 2 rfl ?_
      refine W_walk 14 [] fol (by kernel_rfl) (by kernel_rfl) ?_
      refine Walk.plain rfl (by intro val w_ hR hp; exact op_move rfl rfl ⟨Chg.refl _ _, rfl⟩) ?_; dsimp only [List.nil_append, List.cons_append]
      refine Walk.plain rfl (by intro val w_ hR hp; exact op_move rfl rfl ⟨Chg.refl _ _, rfl⟩) ?_; dsimp only [List.nil_append, List.cons_append]
      refine Walk.plain rfl (by intro val w_ hR hp; exact op_gtr rfl rfl rfl (fun hcmp => False.elim (by omega)) (fun hcmp => ⟨Chg.refl _ _, rfl⟩)) ?_; dsimp only [List.nil_append, List.cons_append]
      refine Walk.plain rfl (by intro val w_ hR hp; exact op_move rfl rfl ⟨Chg.refl _ _, rfl⟩) ?_; dsimp only [List.nil_append, List.cons_append]
      refine Walk.guardF rfl rfl rfl (fun _ => rfl) rfl ?_; dsimp only [List.nil_append, List.cons_append]
      refine Walk.guardF rfl rfl rfl (fun _ => rfl) rfl ?_; dsimp only [List.nil_append, List.cons_append]
      refine Walk.guardF rfl rfl rfl (fun _ => rfl) rfl ?_; dsimp only [List.nil_append, List.cons_append]
      refine Walk.guardF rfl rfl rfl (fun _ => rfl) rfl ?_; dsimp only [List.nil_append, List.cons_append]
      refine Walk.guardF rfl rfl rfl (fun _ => rfl) rfl ?_; dsimp only [List.nil_append, List.cons_append]
      refine Walk.guardF rfl rfl rfl (fun _ => rfl) rfl ?_; dsimp only [List.nil_append, List.cons_append]
      refine Walk.guardF rfl rfl rfl (fun _ => rfl) rfl ?_; dsimp only [List.nil_append, List.cons_append]
      refine Walk.guardF rfl rfl rfl (fun _ => rfl) rfl ?_; dsimp only [List.nil_append, List.cons_append]
      refine Walk.guardF rfl rfl rfl (fun _ => rfl) rfl ?_; dsimp only [List.nil_append, List.cons_append]
      refine Walk.guardF rfl rfl rfl (fun _ => rfl) rfl ?_; dsimp only [List.nil_append, List.cons_append]
      skip
      refine Walk.fin ?_
      intro val w3 hc3 hp
      clear hp
      replace hc := hc.trans' hc3
      replace hrow := hrow.keep0 hc3
      refine runL ?_
      refine go T 8 rfl ?_
      refine rndX ?_
      refine go T 5 rfl ?_
      refine adI rfl rfl rfl rfl (by omega) (by omega) ?_
      refine go T 2 rfl ?_
      refine Round_n (i + 1) ⟨rfl, rfl, rfl, rfl, rfl, trivial⟩ ⟨by omega, by omega, hc, ?_⟩ (by omega)
      rw [hdone (by simp)]
      simpa using hrow
    · rw [List.concat_eq_append] at hAz
      subst hAz
      rw [show P.length + (A' ++ [z]).length = P.length + A'.length + 1 from by simp; omega] at *
      have hzz : ((P ++ (A' ++ [z])) ++ x :: (B ++ (M.drop (i + 1) ++ Z)))[P.length + A'.length]? = some z := by
        rw [← List.append_assoc P, List.append_assoc _ [z], ← List.length_append, List.getElem?_append_right (Nat.le_refl _)]; simp
      have hle1 : P.length + A'.length + 1 < n := by
        have := (List.getElem?_eq_some_iff.1 hxx).1
        rw [hlen] at this; exact this
      have hm1 : ((P.length + A'.length + 1 : Nat) : Int) - 1 = ((P.length + A'.length : Nat) : Int) := by omega
      have he1 := hrow.elem opL_len hxx
      have he2 := hrow.elem opL_len hzz
      refine run ?_
      refine go T 2 rfl ?_
      refine W_walk 14 [] fol (by kernel_rfl) (by kernel_rfl) ?_
      refine Walk.plain rfl (by intro val w_ hR hp; exact op_move rfl rfl ⟨Chg.refl _ _, rfl⟩) ?_; dsimp only [List.nil_append, List.cons_append]
      refine Walk.plain rfl (by intro val w_ hR hp; exact op_move rfl rfl ⟨Chg.refl _ _, rfl⟩) ?_; dsimp only [List.nil_append, List.cons_append]
      refine Walk.plain rfl (by intro val w_ hR hp; exact op_gtr rfl rfl rfl (fun hcmp => ⟨Chg.refl _ _, rfl⟩) (fun hcmp => False.elim (by omega))) ?_; dsimp only [List.nil_append, List.cons_append]
      refine Walk.plain rfl (by intro val w_ hR hp; exact op_move rfl rfl ⟨Chg.refl _ _, rfl⟩) ?_; dsimp only [List.nil_append, List.cons_append]
      refine Walk.guardT rfl rfl rfl (fun _ => rfl) (by intro val w_ hR hp; exact op_move rfl rfl ⟨Chg.refl _ _, rfl⟩) ?_; dsimp only [List.nil_append, List.cons_append]
      refine Walk.guardT rfl rfl rfl (fun _ => rfl) (by intro val w_ hR hp; exact op_move rfl rfl ⟨Chg.refl _ _, rfl⟩) ?_; dsimp only [List.nil_append, List.cons_append]
      refine Walk.guardT rfl rfl rfl (fun _ => rfl) (by intro val w_ hR hp; exact op_move rfl rfl ⟨Chg.refl _ _, rfl⟩) ?_; dsimp only [List.nil_append, List.cons_append]
      refine Walk.guardT rfl rfl rfl (fun _ => rfl) (by intro val w_ hR hp; exact op_indexK T rfl rfl rfl rfl rfl (by omega) ⟨Chg.refl _ _, rfl⟩) ?_; dsimp only [List.nil_append, List.cons_append]
      refine Walk.guardT rfl rfl rfl (fun _ => rfl) (by intro val w_ hR hp; exact op_loadE T (he1.keep0 hR) rfl rfl rfl rfl rfl ⟨Chg.refl _ _, rfl⟩) ?_; dsimp only [List.nil_append, List.cons_append]
      refine Walk.guardT rfl rfl rfl (fun _ => rfl) (by intro val w_ hR hp; exact op_move rfl rfl ⟨Chg.refl _ _, rfl⟩) ?_; dsimp only [List.nil_append, List.cons_append]
      refine Walk.guardT rfl rfl rfl (fun _ => rfl) (by intro val w_ hR hp; exact op_move rfl rfl ⟨Chg.refl _ _, rfl⟩) ?_; dsimp only [List.nil_append, List.cons_append]
      refine Walk.guardT rfl rfl rfl (fun _ => rfl) (by intro val w_ hR hp; exact op_subt rfl rfl rfl (wrap_i64_in (by omega) (by omega)) ⟨Chg.refl _ _, rfl⟩) ?_; dsimp only [List.nil_append, List.cons_append]
      refine Walk.guardT (v := .pointer (some ((⟨g, 0, none⟩ : Addr).add ((P.length + A'.length) * 9)))) rfl rfl rfl (fun _ => rfl) (by intro val w_ hR hp; exact op_indexK (i := P.length + A'.length) T rfl rfl (congrArg (fun u => some (Value.int .i64 u)) hm1) rfl rfl (by omega) ⟨Chg.refl _ _, rfl⟩) ?_; dsimp only [List.nil_append, List.cons_append]
      refine Walk.guardT rfl rfl rfl (fun _ => rfl) (by intro val w_ hR hp; exact op_loadE T (he2.keep0 hR) rfl rfl rfl rfl rfl ⟨Chg.refl _ _, rfl⟩) ?_; dsimp only [List.nil_append, List.cons_append]
      skip
      refine Walk.fin ?_
      intro val w3 hc3 hp
      clear hp
      replace hc := hc.trans' hc3
      replace hrow := hrow.keep0 hc3
      replace he1 := he1.keep0 hc3
      replace he2 := he2.keep0 hc3
      refine runL ?_
      refine o1 rfl ?_
      refine op_callf rfl rfl rfl (hf w3 x z) ?_
      rintro _ w4 ⟨hc4, rfl⟩
      replace hc3 := hc3.trans' hc4
      replace hc := hc.trans' hc4
      replace hrow := hrow.keep0 hc4
      replace he1 := he1.keep0 hc4
      replace he2 := he2.keep0 hc4
      have hcfx := hcf x z
      cases hle : le z x with
      | true =>
        have hge : ¬ cf x z < 0 := fun h => by rw [hcfx, hle] at h; cases h
        clear hcfx
        refine ltF rfl rfl rfl rfl (by omega) ?_
        refine go T 6 rfl ?_
        refine rndX ?_
        refine go T 5 rfl ?_
        refine adI rfl rfl rfl rfl (by omega) (by omega) ?_
        refine go T 2 rfl ?_
        refine Round_n (i + 1) ⟨rfl, rfl, rfl, rfl, rfl, trivial⟩ ⟨by omega, by omega, hc, ?_⟩ (by omega)
        rw [hdone (fun a ha => ?_)]
        · simpa using hrow
        · rcases List.mem_append.1 ha with ha | ha
          · rw [hAB, List.append_assoc, List.pairwise_append] at hsorted
            exact hT.tr _ _ _ (hsorted.2.2 a ha z (by simp)) hle
          · simp at ha; rw [ha]; exact hle
      | false =>
        have hlt0 : cf x z < 0 := hcfx.2 hle
        clear hcfx
        have hset : ∀ Y : List OpM, (((P ++ (A' ++ [z])) ++ x :: Y).set (P.length + A'.length + 1) z).set (P.length + A'.length) x = (P ++ A') ++ x :: z :: Y := fun Y => by
          have e1 : (P ++ (A' ++ [z])) ++ x :: Y = (P ++ A') ++ z :: x :: Y := by simp
          rw [e1, ← List.length_append, List.set_append_right _ _ (by omega), List.set_append_right _ _ (Nat.le_refl _)]
          simp
        refine ltT rfl rfl rfl rfl (by omega) ?_
        refine go T 8 rfl ?_
        refine Q.W_walkf 16 15 [g] fol (by kernel_rfl) (by kernel_rfl) ?_
        refine Q.Walk.plain rfl rfl (by intro val w_ hR hp; exact op_move rfl rfl ⟨Chg.refl _ _, rfl⟩) ?_; dsimp only [List.nil_append, List.cons_append]
        refine Q.Walk.plain rfl rfl (by intro val w_ hR hp; exact op_move rfl rfl ⟨Chg.refl _ _, rfl⟩) ?_; dsimp only [List.nil_append, List.cons_append]
        refine Q.Walk.plain rfl rfl (by intro val w_ hR hp; exact op_move rfl rfl ⟨Chg.refl _ _, rfl⟩) ?_; dsimp only [List.nil_append, List.cons_append]
        refine Q.Walk.plain rfl rfl (by intro val w_ hR hp; exact op_move rfl rfl ⟨Chg.refl _ _, rfl⟩) ?_; dsimp only [List.nil_append, List.cons_append]
        refine Q.Walk.plain rfl rfl (by intro val w_ hR hp; exact op_subt rfl rfl rfl (wrap_i64_in (by omega) (by omega)) ⟨Chg.refl _ _, rfl⟩) ?_; dsimp only [List.nil_append, List.cons_append]
        refine Q.Walk.plain rfl rfl (by intro val w_ hR hp; exact op_move rfl rfl ⟨Chg.refl _ _, rfl⟩) ?_; dsimp only [List.nil_append, List.cons_append]
        refine Q.Walk.plain rfl rfl (by intro val w_ hR hp; exact op_move rfl rfl ⟨Chg.refl _ _, rfl⟩) ?_; dsimp only [List.nil_append, List.cons_append]
        refine Q.Walk.plain rfl rfl (by intro val w_ hR hp; exact op_subt rfl rfl rfl (wrap_i64_in (by omega) (by omega)) ⟨Chg.refl _ _, rfl⟩) ?_; dsimp only [List.nil_append, List.cons_append]
        refine Q.Walk.plain (v := .pointer (some ((⟨g, 0, none⟩ : Addr).add ((P.length + A'.length) * 9)))) rfl rfl (by intro val w_ hR hp; exact op_indexK (i := P.length + A'.length) T rfl rfl (congrArg (fun u => some (Value.int .i64 u)) hm1) rfl rfl (by omega) ⟨Chg.refl _ _, rfl⟩) ?_; dsimp only [List.nil_append, List.cons_append]
        refine Q.Walk.plainP (v := .agg (opL z).toArray) rfl rfl rfl (by intro val w_ hR hp; exact op_loadE T (he2.keep0 hR) rfl rfl rfl rfl rfl ⟨Chg.refl _ _, rfl⟩) ?_; dsimp only [List.nil_append, List.cons_append]
        refine Q.Walk.plain rfl rfl (by intro val w_ hR hp; exact op_move rfl rfl ⟨Chg.refl _ _, rfl⟩) ?_; dsimp only [List.nil_append, List.cons_append]
        refine Q.Walk.plain rfl rfl (by intro val w_ hR hp; exact op_move rfl rfl ⟨Chg.refl _ _, rfl⟩) ?_; dsimp only [List.nil_append, List.cons_append]
        refine Q.Walk.plain rfl rfl (by intro val w_ hR hp; exact op_indexK T rfl rfl rfl rfl rfl (by omega) ⟨Chg.refl _ _, rfl⟩) ?_; dsimp only [List.nil_append, List.cons_append]
        refine Q.Walk.plainP (v := .agg (opL x).toArray) rfl rfl rfl (by intro val w_ hR hp; exact op_loadE T (he1.keep0 hR) rfl rfl rfl rfl rfl ⟨Chg.refl _ _, rfl⟩) ?_; dsimp only [List.nil_append, List.cons_append]
        refine Q.Walk.plain rfl rfl (by intro val w_ hR hp; exact op_indexK T rfl rfl rfl rfl rfl (by omega) ⟨Chg.refl _ _, rfl⟩) ?_; dsimp only [List.nil_append, List.cons_append]
        refine Q.Walk.turn rfl (fun _ w' => RowB w' g 34 opL (((P ++ (A' ++ [z])) ++ x :: (B ++ (M.drop (i + 1) ++ Z))).set (P.length + A'.length + 1) z) rest) rfl (fun v a b h hab => h.keep0 hab) ?_ ?_
        · intro val w_ hR hp
          exact op_storeR T opL_len (i := P.length + A'.length + 1) (a := z) (hrow.keep0 hR) rfl rfl rfl rfl rfl rfl (by rw [hlen]; exact hle1) (fun w5 hc5 hr5 _ => ⟨hc5, hr5⟩)
        dsimp only [List.nil_append, List.cons_append]
        refine Q.Walk.fin ?_
        intro val w5 hc5 hp hn5
        obtain ⟨_, hr5⟩ := hn5 15 (by omega) _ rfl rfl
        have hr5 : RowB w5 g 34 opL (((P ++ (A' ++ [z])) ++ x :: (B ++ (M.drop (i + 1) ++ Z))).set (P.length + A'.length + 1) z) rest := hr5
        clear hp hn5
        refine WL_sub (e' := [(0, .slice (some ⟨g, 0, none⟩) n c), (1, .int .i64 P.length), (2, .int .i64 (P.length + M.length : Nat)), (3, .func (.func fn) #[] #[]), (8, .int .i64 (P.length + i : Nat)), (9, .int .i64 (P.length + A'.length + 1 : Nat)), (39, .slice (some ⟨g, 0, none⟩) n c), (41, .int .i64 ((P.length + A'.length + 1 : Nat) - 1)), (50, .agg (opL x).toArray)]) ⟨rfl, rfl, rfl, rfl, rfl, rfl, rfl, rfl, rfl, trivial⟩ ?_
        refine runL ?_
        refine o1 rfl ?_
        refine op_indexK (i := P.length + A'.length) T rfl rfl (congrArg (fun u => some (Value.int .i64 u)) hm1) rfl rfl (by omega) ?_
        refine op0 rfl rfl ?_
        refine op_storeR T opL_len (i := P.length + A'.length) (a := x) hr5 rfl rfl rfl rfl rfl rfl (by rw [List.length_set, hlen]; omega) (fun w6 hc6 hr6 _ => ?_)
        rw [hset] at hr6
        refine go T 5 rfl ?_
        refine sbI rfl rfl rfl rfl (by omega) (by omega) ?_
        refine go T 2 rfl ?_
        have hl2 : (A' ++ [z]).length = A'.length + 1 := by simp
        refine Round_n (A', z :: B) ⟨rfl, rfl, rfl, rfl, rfl, congrArg (fun u => some (Value.int .i64 u)) hm1, trivial⟩ ⟨by rw [hAB]; simp, fun b hb => ?_, (hc.trans hc5 (fun k hk _ => hk)).trans hc6 (fun k hk _ => hk), hr6⟩ (by dsimp only; omega)
        rcases List.mem_cons.1 hb with rfl | hb
        · exact hle
        · exact hB b hb
  · have h1 : M.take i = M := List.take_of_length_le (by omega)
    have h2 : M.drop i = [] := List.drop_eq_nil_of_le (by omega)
    rw [h1, h2, List.append_nil] at hrow
    refine go T 5 rfl ?_
    refine rndX ?_
    refine go T 1 rfl ?_
    exact post0 (.inr rfl) rfl ⟨rfl, hc, hrow⟩
end
end Go.Proofs.Ytjkbbkomajjegaa.Try
/-! History: a stable sort of at most twenty; Judge. -/
set_option linter.unusedVariables false
namespace Go.Vc
open Go
def leAsked (x y : OpM) : Bool := decide (x.asked ≤ y.asked)
theorem totAsked : Tot leAsked := ⟨fun x y => by unfold leAsked; simp; omega, fun x y z h1 h2 => by unfold leAsked at *; simp at *; omega⟩
theorem cmpM_neg (a b : Int) : cmpM a b < 0 ↔ decide (b ≤ a) = false := by
  unfold cmpM
  split
  · simp; omega
  · split <;> simp <;> omega
def placesM (ops : List OpM) (chs : List ChgM) (sts : List OpM) : List OpM → List Int → Bool
  | [], _ => true
  | o :: l, pls => if (placeM ops chs sts pls o).2 = true then placesM ops chs sts l (pls ++ [(placeM ops chs sts pls o).1]) else false
def judgeM (ops : List OpM) : Bool :=
  if (gatherM ops [] []).1 = true then
    match foundM ops (gatherM ops [] []).2.2 (gatherM ops [] []).2.1 with
    | none => false
    | some L => if ordM ops L L 0 = true then placesM ops L (isM leAsked (gatherM ops [] []).2.2) (isM leAsked (gatherM ops [] []).2.2) [] else false
  else false
theorem gather_inv (ops0 : List OpM) : ∀ (l : List OpM) (chs : List ChgM) (sts : List OpM), (∀ o ∈ l, o ∈ ops0) → (chs.map ChgM.seq).Nodup → (∀ c ∈ chs, 1 ≤ c.seq ∧ c.seq = c.o.seq ∧ c.o ∈ ops0) →
    ((gatherM l chs sts).2.1.map ChgM.seq).Nodup ∧ (∀ c ∈ (gatherM l chs sts).2.1, 1 ≤ c.seq ∧ c.seq = c.o.seq ∧ c.o ∈ ops0) ∧ (gatherM l chs sts).2.1.length ≤ chs.length + l.length ∧ (gatherM l chs sts).2.2.length ≤ sts.length + l.length
  | [], chs, sts, _, h1, h2 => ⟨h1, h2, by simp [gatherM], by simp [gatherM]⟩
  | o :: l, chs, sts, hl, h1, h2 => by
    have hst : (if sightM o = true then sts ++ [o] else sts).length ≤ sts.length + 1 := by split <;> simp
    rw [gatherM]
    split
    · obtain ⟨a, b, c, d⟩ := gather_inv ops0 l chs _ (fun x hx => hl x (by simp [hx])) h1 h2
      exact ⟨a, b, by rw [List.length_cons]; omega, by rw [List.length_cons]; omega⟩
    split
    · exact ⟨h1, h2, by simp, Nat.le_trans hst (by rw [List.length_cons]; omega)⟩
    · rename_i h3 h4
      have hA : ((chs ++ [(⟨o, o.seq, true⟩ : ChgM)]).map ChgM.seq).Nodup := by
        rw [List.map_append, List.nodup_append]
        refine ⟨h1, by simp, fun s hs t ht => ?_⟩
        simp at ht; subst ht
        obtain ⟨c, hc, e⟩ := List.mem_map.1 hs
        intro e2
        have := idxM_neg (p := fun c => decide (c.seq = o.seq)) (l := chs) (by have : ¬ (0 ≤ findM chs o.seq) := fun h => h4 (.inr h); unfold findM at this; omega) c hc
        simp at this
        exact this (e.trans e2)
      have hB : ∀ c ∈ chs ++ [(⟨o, o.seq, true⟩ : ChgM)], 1 ≤ c.seq ∧ c.seq = c.o.seq ∧ c.o ∈ ops0 := by
        intro c hc
        rcases List.mem_append.1 hc with hc | hc
        · exact h2 c hc
        · simp at hc; subst hc
          exact ⟨by dsimp only; omega, rfl, hl o (by simp)⟩
      obtain ⟨a, b, c, d⟩ := gather_inv ops0 l (chs ++ [⟨o, o.seq, true⟩]) (if sightM o = true then sts ++ [o] else sts) (fun x hx => hl x (by simp [hx])) hA hB
      refine ⟨a, b, ?_, by rw [List.length_cons]; omega⟩
      rw [List.length_append, List.length_singleton] at c
      rw [List.length_cons]
      omega
theorem takesM_told {ops sts : List OpM} : ∀ {l : List Int} {p p' : List ChgM × TkM}, takesM ops sts l p = some p' → ∀ c ∈ p'.1, c.told = true → c ∈ p.1
  | [], p, p', h, c, hc, _ => by simp [takesM] at h; subst h; exact hc
  | s :: l, p, p', h, c, hc, ht => by
    rw [takesM] at h
    split at h
    · cases h
    · rename_i p1 h1
      obtain ⟨o, _, _, _, e⟩ := takeM_chs h1
      have := takesM_told h c hc ht
      rw [e] at this
      rcases List.mem_append.1 this with h2 | h2
      · exact h2
      · simp at h2; subst h2; cases ht
theorem foundM_told {ops sts : List OpM} {chs L : List ChgM} (h : foundM ops sts chs = some L) : ∀ c ∈ L, c.told = true → c ∈ chs := by
  unfold foundM at h
  split at h
  · cases h
  · split at h
    · cases h
    · rename_i q _ p hp
      injection h with h
      subst h
      intro c hc ht
      exact takesM_told hp c ((isM_perm _).mem_iff.1 hc) ht
end Go.Vc
namespace Go.Proofs.Ytjkbbkomajjegaa.Try
open Go Go.Vc
section
variable {w : World} {fn : Nat} {cf : OpM → OpM → Int} {le : OpM → OpM → Bool}
theorem insertAll_has (hT : Tot le) (hf : ∀ w1 x y, Has Go.Proofs.Try.prog fn (#[] ++ #[.agg (opL x).toArray, .agg (opL y).toArray] ++ #[]) w1 (fun v w' => Chg [] w1 w' ∧ v = .int .i64 (cf x y))) (hcf : ∀ x y, cf x y < 0 ↔ le y x = false)
    (v : Value) (L : List OpM) (hown : Own w 34 9 v L.length (L.flatMap opL)) (hlim : L.length ≤ 1000000) :
    Has Go.Proofs.Try.prog 60 #[v, .int .i64 0, .int .i64 L.length, .func (.func fn) #[] #[]] w (fun u w' => u = .tuple #[] ∧ Chg v.ownBlock.toList w w' ∧ Own w' 34 9 v (isM le L).length ((isM le L).flatMap opL)) := by
  have hll : (isM le L).length = L.length := (isM_perm L).length_eq
  by_cases hpos : 0 < L.length
  · obtain ⟨A, c, rfl, hc1, hc2⟩ := hown.form
    obtain ⟨g, rfl⟩ := hown.addr hpos
    obtain ⟨rest, hr, hrl⟩ := hown.rowB
    have hins := insert_has (w := w) (c := c) hT hf hcf [] L [] (g := g) (rest := rest) (n := L.length) (by simp) hlim (by simpa using hr) (by simp)
    rw [show ([] : List OpM).length + L.length = L.length from by simp] at hins
    refine hins.mono ?_
    rintro _ w' ⟨rfl, hc, hr'⟩
    refine ⟨rfl, hc, ?_⟩
    have hr' : RowB w' g 34 opL (isM le L) rest := by simpa using hr'
    rw [show Value.slice (some ⟨g, 0, none⟩) L.length c = .slice (some ⟨g, 0, none⟩) (isM le L).length c from by rw [hll]]
    refine hr'.own opL_len ?_ (by omega) hc2
    rw [List.length_append, rk_len opL_len, hll, ← hrl, List.length_append, rk_len opL_len]
  · obtain rfl : L = [] := List.eq_nil_of_length_eq_zero (by omega)
    refine (insert0_has v _ 0 0 (by omega) (by omega) (by omega) w).mono ?_
    rintro _ w' ⟨rfl, rfl⟩
    exact ⟨rfl, Chg.refl _ _, hown⟩
theorem stable_has (hT : Tot le) (hf : ∀ w1 x y, Has Go.Proofs.Try.prog fn (#[] ++ #[.agg (opL x).toArray, .agg (opL y).toArray] ++ #[]) w1 (fun v w' => Chg [] w1 w' ∧ v = .int .i64 (cf x y))) (hcf : ∀ x y, cf x y < 0 ↔ le y x = false)
    (v : Value) (L : List OpM) (hown : Own w 34 9 v L.length (L.flatMap opL)) (hlim : L.length ≤ 20) :
    Has Go.Proofs.Try.prog 46 #[v, .int .i64 L.length, .func (.func fn) #[] #[]] w (fun u w' => u = .tuple #[] ∧ Chg v.ownBlock.toList w w' ∧ Own w' 34 9 v (isM le L).length ((isM le L).flatMap opL)) := by
  refine enter Go.Proofs.Try.func46 rfl rfl (by decide) rfl (e := [(0, v), (1, .int .i64 L.length), (2, .func (.func fn) #[] #[])]) ⟨rfl, rfl, rfl, trivial⟩ ?_
  refine run ?_
  refine go T 14 rfl ?_
  have hll : (isM le L).length = L.length := (isM_perm L).length_eq
  by_cases h20 : L.length < 20
  · refine W_loop (σ := Unit) (fun _ => [(0, v), (1, .int .i64 L.length), (2, .func (.func fn) #[] #[]), (6, .int .i64 20), (7, .int .i64 0), (8, .int .i64 20)]) (fun _ w' => w' = w) (fun _ => 0) () ⟨rfl, rfl, rfl, rfl, rfl, rfl, trivial⟩ rfl ?_
    rintro _ w1 rfl
    refine run ?_
    refine go T 5 rfl ?_
    refine leF rfl rfl rfl rfl (by omega) ?_
    refine go T 5 rfl ?_
    refine rndX ?_
    refine go T 8 rfl ?_
    refine o1 rfl ?_
    refine op_call rfl rfl rfl (insertAll_has hT hf hcf v L hown (by omega)) ?_
    rintro _ w2 ⟨rfl, hc, ho⟩
    refine go T 3 rfl ?_
    refine W_loop (σ := Unit) (fun _ => [(1, .int .i64 L.length), (6, .int .i64 20)]) (fun _ w' => w' = w2) (fun _ => 0) () ⟨rfl, rfl, trivial⟩ rfl ?_
    rintro _ w3 rfl
    refine run ?_
    refine go T 5 rfl ?_
    refine ltF rfl rfl rfl rfl (by omega) ?_
    refine go T 5 rfl ?_
    refine rndX ?_
    refine go T 1 rfl ?_
    exact post0 (.inr rfl) rfl ⟨rfl, hc, ho⟩
  · have h20' : L.length = 20 := by omega
    refine W_loop (σ := Nat) (fun b => [(0, v), (1, .int .i64 L.length), (2, .func (.func fn) #[] #[]), (6, .int .i64 20), (7, .int .i64 (20 * b : Nat)), (8, .int .i64 (20 * b + 20 : Nat))]) (fun b w' => (b = 0 ∧ w' = w) ∨ (b = 1 ∧ Chg v.ownBlock.toList w w' ∧ Own w' 34 9 v (isM le L).length ((isM le L).flatMap opL))) (fun b => 1 - b) 0 ⟨rfl, rfl, rfl, rfl, rfl, rfl, trivial⟩ (.inl ⟨rfl, rfl⟩) ?_
    rintro b w1 hb
    rcases hb with ⟨rfl, rfl⟩ | ⟨rfl, hc, ho⟩
    · have hcall := insertAll_has hT hf hcf v L hown (by omega)
      rw [h20'] at hcall
      refine run ?_
      refine go T 5 rfl ?_
      refine leT rfl rfl rfl rfl (by omega) ?_
      refine go T 12 rfl ?_
      refine o1 rfl ?_
      refine op_call rfl rfl rfl hcall ?_
      rintro _ w2 ⟨rfl, hc, ho⟩
      refine go T 11 rfl ?_
      refine adI rfl rfl rfl rfl (by omega) (by omega) ?_
      refine go T 3 rfl ?_
      exact Round_n 1 ⟨rfl, rfl, rfl, rfl, rfl, rfl, trivial⟩ (.inr ⟨rfl, hc, ho⟩) (by omega)
    · refine run ?_
      refine go T 5 rfl ?_
      refine leF rfl rfl rfl rfl (by omega) ?_
      refine go T 5 rfl ?_
      refine rndX ?_
      refine go T 8 rfl ?_
      refine o1 rfl ?_
      refine op_call rfl rfl rfl (insert0_has v _ 20 L.length (by omega) (by omega) (by omega) w1) ?_
      rintro _ w2 ⟨rfl, rfl⟩
      refine go T 3 rfl ?_
      refine W_loop (σ := Unit) (fun _ => [(1, .int .i64 L.length), (6, .int .i64 20)]) (fun _ w' => w' = w2) (fun _ => 0) () ⟨rfl, rfl, trivial⟩ rfl ?_
      rintro _ w3 rfl
      refine run ?_
      refine go T 5 rfl ?_
      refine ltF rfl rfl rfl rfl (by omega) ?_
      refine go T 5 rfl ?_
      refine rndX ?_
      refine go T 1 rfl ?_
      exact post0 (.inr rfl) rfl ⟨rfl, hc, ho⟩
theorem sortStable_has (hT : Tot le) (hf : ∀ w1 x y, Has Go.Proofs.Try.prog fn (#[] ++ #[.agg (opL x).toArray, .agg (opL y).toArray] ++ #[]) w1 (fun v w' => Chg [] w1 w' ∧ v = .int .i64 (cf x y))) (hcf : ∀ x y, cf x y < 0 ↔ le y x = false)
    (v : Value) (L : List OpM) (hown : Own w 34 9 v L.length (L.flatMap opL)) (hlim : L.length ≤ 20) :
    Has Go.Proofs.Try.prog 22 #[v, .func (.func fn) #[] #[]] w (fun u w' => u = .tuple #[] ∧ Chg v.ownBlock.toList w w' ∧ Own w' 34 9 v (isM le L).length ((isM le L).flatMap opL)) := by
  obtain ⟨A, c, rfl, _, _⟩ := hown.form
  refine enter Go.Proofs.Try.func22 rfl rfl (by decide) rfl (e := [(0, .slice A L.length c), (1, .func (.func fn) #[] #[])]) ⟨rfl, rfl, trivial⟩ ?_
  refine run ?_
  refine go T 5 rfl ?_
  refine o1 rfl ?_
  refine op_call rfl rfl rfl (stable_has hT hf hcf _ L hown hlim) ?_
  rintro _ w2 ⟨rfl, hc, ho⟩
  refine go T 1 rfl ?_
  exact post0 (.inr rfl) rfl ⟨rfl, hc, ho⟩
end
end Go.Proofs.Ytjkbbkomajjegaa.Try
/-! History: Judge. -/
set_option linter.unusedVariables false
namespace Go.Proofs.Ytjkbbkomajjegaa.Try
open Go Go.Vc
section
variable {w : World}
set_option maxHeartbeats 4000000 in
theorem judge_has (vo : Value) (ops : List OpM) (hs : SliceK 9 (RdL opL) w vo ops) (hlen : ops.length ≤ 20) (hseq : ∀ o ∈ ops, o.seq ≤ 9223372036854775807) :
    Has Go.Proofs.Try.prog 12 #[vo] w (fun v w' => Chg [] w w' ∧ v = .bool (judgeM ops)) := by
  obtain ⟨Ao, co, rfl, _, _⟩ := hs.form
  refine enter Go.Proofs.Try.func12 rfl rfl (by decide) rfl (e := [(0, .slice Ao ops.length co)]) ⟨rfl, trivial⟩ ?_
  refine run ?_
  refine go T 8 rfl ?_
  refine o1 rfl (op_build T rfl rfl rfl rfl rfl rfl ?_)
  refine o1 rfl ?_
  refine op_box rfl rfl (fun g w1 hs1 hc1 hg => ?_)
  have hg : Blk w1 g 54 [.slice Ao ops.length co, .slice none 0 0, .slice none 0 0, .slice none 0 0] := hg
  have x : JAt w w1 g ops [] [] [] (.slice Ao ops.length co) (.slice none 0 0) (.slice none 0 0) (.slice none 0 0) :=
    ⟨hc1, hg, hs1, hs, Own.nil _ _ _, fun h hh => by simp [Value.ownBlock] at hh, Own.nil _ _ _, fun h hh => by simp [Value.ownBlock] at hh, Own.nil _ _ _, fun h hh => by simp [Value.ownBlock] at hh⟩
  clear hg
  refine go T 7 rfl ?_
  refine o1 rfl ?_
  refine op_call rfl rfl rfl (gather_has x (by omega)) ?_
  rintro _ w2 ⟨rfl, vc, vs, x2⟩
  clear x hc1
  obtain ⟨hnd, htold, hl1, hl2⟩ := gather_inv ops ops [] [] (fun _ h => h) (by simp) (by simp)
  unfold judgeM
  generalize gatherM ops [] [] = gm at *
  obtain ⟨b, chs, sts⟩ := gm
  dsimp only at x2 hnd htold hl1 hl2 ⊢
  rw [List.length_nil, Nat.zero_add] at hl1 hl2
  cases b with
  | false =>
    simp only [Bool.false_eq_true, if_false]
    refine go T 21 rfl ?_
    exact post1 (.inl rfl) rfl rfl ⟨x2.chg, rfl⟩
  | true =>
  simp only [if_true]
  refine go T 3 rfl ?_
  refine o1 rfl ?_
  refine op_call rfl rfl rfl (found_has x2 hnd (by omega) (by omega) (by omega)) ?_
  intro v w3 hp
  cases hfm : foundM ops sts chs with
  | none =>
    rw [hfm] at hp
    obtain ⟨rfl, hc3⟩ := hp
    dsimp only
    refine go T 17 rfl ?_
    exact post1 (.inl rfl) rfl rfl ⟨hc3, rfl⟩
  | some L =>
  rw [hfm] at hp
  obtain ⟨rfl, vc', x3⟩ := hp
  dsimp only
  clear x2
  refine go T 4 rfl ?_
  refine o1 rfl ?_
  refine op_call rfl rfl rfl (ordered_has x3 (fun c hc ht => ?_)) ?_
  · have := htold c (foundM_told hfm c hc ht)
    have := hseq c.o this.2.2
    omega
  rintro _ w4 ⟨rfl, hc4⟩
  replace x3 := x3.keep0 hc4
  cases hord : ordM ops L L 0 with
  | false =>
    simp only [Bool.false_eq_true, if_false]
    refine go T 12 rfl ?_
    exact post1 (.inl rfl) rfl rfl ⟨x3.chg, rfl⟩
  | true =>
  simp only [if_true]
  have hb := x3.blk
  obtain ⟨As, cs, rfl, _, _⟩ := x3.stsR.form
  refine go T 12 rfl ?_
  refine ldB T hb rfl rfl rfl rfl rfl rfl ?_
  refine o1 rfl ?_
  refine op_call rfl rfl rfl (sortStable_has (le := leAsked) (cf := fun a b => cmpM a.asked b.asked) totAsked (fun w1 a b => cmpAsked_has a b w1) (fun a b => cmpM_neg _ _) _ sts x3.sts (by omega)) ?_
  rintro _ w5 ⟨rfl, hc5, ho5⟩
  have hsl : (isM leAsked sts).length = sts.length := (isM_perm sts).length_eq
  have x5 := x3.setSts (sts' := isM leAsked sts) hc5 ho5 (.inl rfl) (Chg.refl _ _) (x3.blk.keep hc5 (out_of x3.blk x3.sts (by decide)))
  clear x3 ho5 hc5 hb
  rw [← hsl] at x5 ⊢
  generalize isM leAsked sts = ss at *
  have hb := x5.blk
  refine go T 8 rfl ?_
  refine ldB T hb rfl rfl rfl rfl rfl rfl ?_
  refine go T 5 rfl ?_
  clear hb
  refine W_loop (σ := Nat × List Int × Value) (fun s => [(3, .pointer (some ⟨g, 0, none⟩)), (32, .int .i64 ss.length), (33, .int .i64 s.1)])
    (fun s w' => s.1 ≤ ss.length ∧ s.2.1.length = s.1 ∧ JAt w w' g ops L ss s.2.1 (.slice Ao ops.length co) vc' (.slice As ss.length cs) s.2.2 ∧ placesM ops L ss ss [] = placesM ops L ss (ss.drop s.1) s.2.1)
    (fun s => ss.length - s.1) (0, [], .slice none 0 0) ⟨rfl, rfl, rfl, trivial⟩ ⟨Nat.zero_le _, rfl, x5, rfl⟩ ?_
  clear x5
  rintro ⟨k, pls, vp⟩ w6 ⟨hk, hpl, x, hpm⟩
  dsimp only at hk hpl x hpm ⊢
  refine run ?_
  refine go T 2 rfl ?_
  refine ltS rfl rfl rfl rfl (fun hcmp => ?_) (fun hcmp => ?_)
  · have hlt : k < ss.length := by omega
    have hx := List.getElem?_eq_getElem hlt
    rw [List.drop_eq_getElem_cons hlt, placesM] at hpm
    generalize ss[k] = y at *
    refine go T 18 rfl ?_
    refine o1 rfl ?_
    refine op_call rfl rfl rfl (place_has x hx (by omega)) ?_
    rintro _ w7 ⟨rfl, hc7⟩
    replace x := x.keep0 hc7
    generalize placeM ops L ss pls y = pm at *
    obtain ⟨n, ok⟩ := pm
    dsimp only at hpm ⊢
    cases ok with
    | false =>
      simp only [Bool.false_eq_true, if_false] at hpm
      rw [hpm]
      refine go T 24 rfl ?_
      refine rndR ?_
      refine go T 2 rfl ?_
      exact post1 (.inl rfl) rfl rfl ⟨x.chg, rfl⟩
    | true =>
    simp only [if_true] at hpm
    have hb := x.blk
    refine go T 22 rfl ?_
    refine ldB T hb rfl rfl rfl rfl rfl rfl ?_
    refine go T 1 rfl ?_
    refine o1 rfl ?_
    refine op_buildSlice T rfl rfl rfl rfl rfl rfl rfl (fun g6 w8 hs8 hc8 hg8 => ?_)
    have hg8 : Blk w8 g6 2 [i64V n] := hg8
    replace hc7 := hc7.trans' hc8
    replace x := x.keep0 hc8
    replace hb := hb.keep0 hc8
    refine o1 rfl ?_
    refine op_append1 T rfl rfl rfl rfl rfl rfl rfl rfl rfl x.pls hg8 rfl (by omega) (fun u' w9 hu9 hc9 hb9 => ?_)
    have hj9 := x.blk.keep hc9 (out_of x.blk x.pls (by decide))
    obtain ⟨Ap, cp, rfl, _, _⟩ := hu9.form
    clear hb
    refine go T 2 rfl ?_
    refine op0 rfl rfl ?_
    refine op_store T rfl rfl rfl rfl rfl rfl hj9 (by simp) (fun w10 hc10 hj10 _ => ?_)
    have hj10 : Blk w10 g 54 [.slice Ao ops.length co, vc', .slice As ss.length cs, .slice Ap (pls ++ [n]).length cp] := hj10
    refine go T 4 rfl ?_
    refine adI rfl rfl rfl rfl (by omega) (by omega) ?_
    refine go T 2 rfl ?_
    exact Round_n (k + 1, pls ++ [n], _) ⟨rfl, rfl, rfl, trivial⟩ ⟨by dsimp only; omega, by dsimp only; rw [List.length_append, List.length_singleton, hpl], x.setPls hc9 hu9 hb9 hc10 hj10, hpm⟩ (by dsimp only; omega)
  obtain rfl : k = ss.length := by omega
  rw [List.drop_length, placesM] at hpm
  rw [hpm]
  refine go T 6 rfl ?_
  refine rndX ?_
  refine go T 8 rfl ?_
  exact post1 (.inl rfl) rfl rfl ⟨x.chg, rfl⟩
end
end Go.Proofs.Ytjkbbkomajjegaa.Try
/-! clear, at a part of a row of the call's own. -/
set_option linter.unusedVariables false
set_option linter.unusedSimpArgs false
namespace Go.Vc
open Go
section
variable {P : Program} {N : Nat} {e : Env} {w : World} {o : Oper} {K : Value → World → Prop}
theorem op_clear (T : Types P) {x : Operand} {t el tb : TypeId} {d : TInfo} {A : Option Addr} {g off m c : Nat} {cs : List Value} {ts : Array TypeId}
    (hop : o.op = .call { callee := .builtin .clear, args := #[x], argTypes := ts }) (hts : ts = #[t]) (hx : ev e x = some (.slice A m c)) (ht : T.d t = some (.slice el)) (hel : T.tbl el = some d)
    (hz : Nat.beq d.zero.cells.size d.size = true) (h1 : d.zero.cells.toList.all (fun u => u.oneCell') = true) (hA : m = 0 ∨ A = some ⟨g, off, none⟩) (hb : Blk w g tb cs) (hfit : off + m * d.size ≤ cs.length)
    (h : ∀ w1 rest, Chg [g] w w1 → Blk w1 g tb (cs.take off ++ rest) → (cs.take off ++ rest).length = cs.length → K (.tuple #[]) w1) : OpW P N o e w K := by
  subst hts
  obtain ⟨q, hq, hzq, hs, hbq⟩ := T.inf el d hel
  have hz' : d.zero.cells.size = d.size := Nat.eq_of_beq_eq_true hz
  rcases Nat.eq_zero_or_pos m with hm | hm
  · subst hm
    have := h w (cs.drop off) (Chg.refl _ _) (by rw [List.take_append_drop]; exact hb) (by rw [List.take_append_drop])
    refine OpW_run (v := .tuple #[]) (w' := w) (fun a ha => ?_) this
    cases A <;> simp [execOp, hop, resolve, invoke, builtin, ha.ev hx, Builtin.clear_, run_underlying (T.und' ht)]
  · have hA' : A = some ⟨g, off, none⟩ := hA.resolve_left (by omega)
    subst hA'
    have hb' := hb
    unfold Blk at hb'
    have hzl : (Builtin.zeroCells d.zero.cells m).toList.length = m * d.size := by simp [Builtin.zeroCells, hz']
    have hall : ∀ v ∈ (Builtin.zeroCells d.zero.cells m).toList, v.oneCell' = true := fun v hv => by
      simp only [Builtin.zeroCells, Array.toList_map, List.mem_map] at hv
      obtain ⟨i, hi, rfl⟩ := hv
      by_cases hsz : 0 < d.zero.cells.size
      · have hlt : i % d.zero.cells.size < d.zero.cells.size := Nat.mod_lt _ hsz
        rw [getElem!_pos d.zero.cells (i % d.zero.cells.size) hlt]
        exact List.all_eq_true.1 h1 _ (by rw [← Array.getElem_toList hlt]; exact List.getElem_mem _)
      · simp at hi
        have : d.zero.cells.size = 0 := by omega
        rw [this] at hi; simp at hi
    have hr := run_storeCells_at (P := P) g off tb (Builtin.zeroCells d.zero.cells m).toList 0 cs.toArray w hb' (by simp only [Nat.add_zero, List.size_toArray]; omega) hall
    have hblk : Blk (w.setRow g (cs.toArray.toList.take (off + 0) ++ (Builtin.zeroCells d.zero.cells m).toList ++ cs.toArray.toList.drop (off + 0 + (Builtin.zeroCells d.zero.cells m).toList.length)).toArray) g tb (cs.take off ++ ((Builtin.zeroCells d.zero.cells m).toList ++ cs.drop (off + m * d.size))) := by
      unfold Blk
      rw [setRow_heap w g cs.toArray _ tb _ hb', Nat.add_zero, hzl]
      simp
    have := h (w.setRow g (cs.toArray.toList.take (off + 0) ++ (Builtin.zeroCells d.zero.cells m).toList ++ cs.toArray.toList.drop (off + 0 + (Builtin.zeroCells d.zero.cells m).toList.length)).toArray) _ ⟨rfl, rfl, rfl, by simp, fun k _ hk => setRow_other w g k _ (by simpa using hk)⟩ hblk (by simp only [List.length_append, hzl, List.length_take, List.length_drop]; omega)
    refine OpW_run (v := .tuple #[]) (fun a ha => ?_) this
    obtain ⟨n', rfl⟩ : ∃ n', m = n' + 1 := ⟨m - 1, by omega⟩
    have hzv : (zeroValue el).run P w = .ok d.zero w := by simp [zeroValue, typeInfo, hq, hzq]
    simp [execOp, hop, resolve, invoke, builtin, ha.ev hx, Builtin.clear_, run_underlying (T.und' ht), hzv, Result.andThen] at hr ⊢
    simp [hr]
end
end Go.Vc
/-! History: what Fold calls. -/
set_option linter.unusedVariables false
namespace Go.Vc
open Go
theorem rk_take {α : Type} {f : α → List Value} {k : Nat} (hf : ∀ x, (f x).length = k) (R : List α) {i : Nat} (hi : i ≤ R.length) (ys : List Value) : (R.flatMap f ++ ys).take (i * k) = (R.take i).flatMap f := by
  have h1 : R.flatMap f ++ ys = (R.take i).flatMap f ++ ((R.drop i).flatMap f ++ ys) := by
    rw [← List.append_assoc, ← List.flatMap_append, List.take_append_drop]
  rw [h1]
  refine List.take_left' ?_
  rw [rk_len hf, List.length_take, Nat.min_eq_left hi]
theorem idxM_pre {α : Type} {p : α → Bool} : ∀ (l : List α) (k : Nat), idxM p l = (k : Int) → ∀ x ∈ l.take k, p x = false
  | [], k, h, x, hx => by simp at hx
  | a :: l, k, h, x, hx => by
    unfold idxM at h
    split at h
    · obtain rfl : k = 0 := by omega
      simp at hx
    · rename_i h1
      split at h
      · omega
      · obtain ⟨k', rfl⟩ : ∃ k', k = k' + 1 := ⟨k - 1, by omega⟩
        rw [List.take_succ_cons] at hx
        rcases List.mem_cons.1 hx with rfl | hx
        · simpa using h1
        · exact idxM_pre l k' (by omega) x hx
end Go.Vc
namespace Go.Proofs.Ytjkbbkomajjegaa.Try
open Go Go.Vc
section
variable {w : World}
theorem cloneOp_has (A : Option Addr) (n c : Nat) (L : List OpM) (w : World) (hl : SliceK 9 (RdL opL) w (.slice A n c) L) (hb : L.length ≤ 1000000) :
    Has Go.Proofs.Try.prog 28 #[.slice A n c] w (fun v w' => Chg [] w w' ∧ Own w' 34 9 v L.length (L.flatMap opL) ∧ ∀ g, v.ownBlock = some g → w.heap.size ≤ g) := by
  obtain ⟨rfl, hl1, hl2⟩ := hl.len
  refine enter Go.Proofs.Try.func28 rfl rfl (by decide) rfl (e := [(0, .slice A L.length c)]) ⟨rfl, trivial⟩ ?_
  refine run ?_
  refine go T 9 rfl ?_
  refine o1 rfl ?_
  refine op_eql_nil T rfl rfl rfl rfl (fun hA => ?_) (fun ad hA => ?_)
  · have hl0 : L = [] := by
      cases L with
      | nil => rfl
      | cons c l => obtain ⟨ad, he, _⟩ := hl.at (i := 0) (x := c) rfl; rw [hA] at he; cases he
    subst hl0
    refine go T 10 rfl ?_
    exact post1 (.inl rfl) rfl rfl ⟨Chg.refl _ _, Own.nil _ _ _, fun g h => by simp [Value.ownBlock] at h⟩
  · subst hA
    refine go T 7 rfl ?_
    refine o1 rfl ?_
    refine op_buildSlice T rfl rfl rfl rfl rfl rfl rfl (fun g w1 hgs hc1 hg1 => ?_)
    have ho : Own w1 34 9 (.slice (some ⟨g, 0, none⟩) 0 0) 0 [] := Own.mk hg1 (Nat.le_refl _) (Nat.zero_le _) rfl rfl
    have hl' := hl.keepR hc1
    refine go T 1 rfl ?_
    refine o1 rfl ?_
    refine op_append T (n := 0) (xs := []) (m := L.length) (news := L.flatMap opL) rfl rfl rfl rfl rfl rfl rfl rfl ho (rk_len opL_len L) ?_ (by unfold maxLen; omega) (by show (0 + _) * 96 ≤ _; omega) ?_
    · intro j u hu
      have hjl := (List.getElem?_eq_some_iff.1 hu).1
      rw [rk_len opL_len] at hjl
      have hi : j / 9 < L.length := by omega
      have hm : j % 9 < 9 := by omega
      have hx : L[j / 9]? = some L[j / 9] := List.getElem?_eq_getElem hi
      have h1 := rk_get opL_len L hx hm
      rw [show j / 9 * 9 + j % 9 = j from by omega, hu] at h1
      obtain ⟨ad', he, hel⟩ := hl'.at hx
      have h2 := hel (j % 9) u h1.symm
      rw [show j / 9 * 9 + j % 9 = j from by omega] at h2
      exact ⟨⟨ad', he, h2⟩, opL_one _ u (List.mem_of_getElem? h1.symm)⟩
    · intro v w2 ho2 hc2 hown2 _
      refine go T 4 rfl ?_
      refine post1 (.inl rfl) rfl rfl ⟨hc1.trans hc2 (by simp [Value.ownBlock]; omega), by simpa using ho2, fun g' hg' => ?_⟩
      have := hc1.size
      rcases hown2 with h | ⟨g2, h, hge⟩
      · rw [h] at hg'; simp [Value.ownBlock] at hg'; omega
      · rw [h] at hg'; injection hg' with hg'; omega
set_option maxHeartbeats 4000000 in
theorem delete_has (v : Value) (L : List OpM) (fn : Nat) (cv : Array Value) (p : OpM → Bool) (w : World) (hown : Own w 34 9 v L.length (L.flatMap opL)) (hlim : L.length ≤ 1000000)
    (hf : ∀ w1 x, Chg v.ownBlock.toList w w1 → Has Go.Proofs.Try.prog fn (#[] ++ #[.agg (opL x).toArray] ++ cv) w1 (fun u w' => Chg [] w1 w' ∧ u = .bool (p x))) :
    Has Go.Proofs.Try.prog 29 #[v, .func (.func fn) #[] cv] w (fun u w' => Chg v.ownBlock.toList w w' ∧ u.ownBlock = v.ownBlock ∧ Own w' 34 9 u (L.filter (fun x => !p x)).length ((L.filter (fun x => !p x)).flatMap opL)) := by
  obtain ⟨A, c, rfl, hl1, hl2⟩ := hown.form
  unfold maxLen at hl2
  refine enter Go.Proofs.Try.func29 rfl rfl (by decide) rfl (e := [(0, .slice A L.length c), (1, .func (.func fn) #[] cv)]) ⟨rfl, rfl, trivial⟩ ?_
  refine run ?_
  refine go T 9 rfl ?_
  refine o1 rfl ?_
  refine op_call rfl rfl rfl (indexOp_has A _ c L fn cv p (hown.readsK opL_len) (fun w1 x hc _ => hf w1 x (hc.mono (fun k hk _ => by cases hk)))) ?_
  rintro _ w1 ⟨hc1, rfl⟩
  by_cases hneg : idxM p L < 0
  · have h1 : idxM p L = -1 := by have := idxM_lt p L; omega
    have h2 : L.filter (fun x => !p x) = L := List.filter_eq_self.2 (fun x hx => by rw [idxM_neg hneg x hx]; rfl)
    rw [h1, h2]
    refine go T 7 rfl ?_
    refine eqT rfl rfl rfl rfl (by omega) ?_
    refine go T 11 rfl ?_
    exact post1 (.inl rfl) rfl rfl ⟨hc1.mono (fun k hk _ => by cases hk), rfl, hown.keep0 hc1⟩
  obtain ⟨k, hk⟩ := Int.eq_ofNat_of_zero_le (show 0 ≤ idxM p L by omega)
  obtain ⟨x0, hx0, hpx0⟩ := idxM_at hneg
  rw [hk, Int.toNat_natCast] at hx0
  have hkl : k < L.length := (List.getElem?_eq_some_iff.1 hx0).1
  obtain ⟨g, rfl⟩ := hown.addr (by omega)
  obtain ⟨rest, hrow, hrl⟩ := hown.rowB
  have hpre : (L.take k).filter (fun x => !p x) = L.take k := by
    exact List.filter_eq_self.2 (fun x hx => by rw [idxM_pre L k hk x hx]; rfl)
  rw [hk]
  replace hrow := hrow.keep0 hc1
  refine go T 7 rfl ?_
  refine eqF rfl rfl rfl rfl (by omega) ?_
  refine go T 9 rfl ?_
  refine adI rfl rfl rfl rfl (by omega) (by omega) ?_
  refine go T 4 rfl ?_
  refine W_loop (σ := Nat × Nat × List OpM) (fun s => [(0, .slice (some ⟨g, 0, none⟩) L.length c), (1, .func (.func fn) #[] cv), (5, .int .i64 s.2.1), (6, .int .i64 s.1)])
    (fun s w' => s.1 ≤ L.length ∧ s.2.1 < s.1 ∧ s.2.2.length = L.length ∧ s.2.2.take s.2.1 = (L.take s.1).filter (fun x => !p x) ∧ s.2.2.drop s.1 = L.drop s.1 ∧ Chg [g] w w' ∧ RowB w' g 34 opL s.2.2 rest)
    (fun s => L.length - s.1) (k + 1, k, L) ⟨rfl, rfl, rfl, rfl, trivial⟩ ⟨by dsimp only; omega, by dsimp only; omega, rfl, ?_, rfl, hc1.mono (fun k hk _ => by cases hk), hrow⟩ ?_
  · dsimp only
    rw [List.take_add_one, List.filter_append, hpre, hx0]
    simp [hpx0]
  clear hrow
  rintro ⟨j, i, R⟩ w2 ⟨hj, hij, hRl, hRt, hRd, hc, hrow⟩
  dsimp only at hj hij hRl hRt hRd hrow ⊢
  refine run ?_
  refine go T 6 rfl ?_
  refine ltS rfl rfl rfl rfl (fun hcmp => ?_) (fun hcmp => ?_)
  · have hlt : j < L.length := by omega
    have hx := List.getElem?_eq_getElem hlt
    have hxR : R[j]? = some L[j] := by
      have := congrArg (fun l => l[0]?) hRd
      simp only [List.getElem?_drop, Nat.add_zero] at this
      rw [this, hx]
    have hd := List.drop_eq_getElem_cons hlt
    have htk : (L.take (j + 1)).filter (fun x => !p x) = (L.take j).filter (fun x => !p x) ++ [L[j]].filter (fun x => !p x) := by rw [List.take_add_one, hx, List.filter_append]; rfl
    have hdr : R.drop (j + 1) = L.drop (j + 1) := by
      have := congrArg (List.drop 1) hRd
      rw [List.drop_drop, List.drop_drop] at this
      exact this
    generalize L[j] = y at *
    have he := hrow.elem opL_len hxR
    refine go T 11 rfl ?_
    refine o1 rfl (op_indexK T rfl rfl rfl rfl rfl (by omega) ?_)
    refine o1 rfl (op_loadE T he rfl rfl rfl rfl rfl ?_)
    refine o1 rfl ?_
    refine op_alloc T rfl rfl (fun g7 w3 hs3 hc3 hg7 => ?_)
    have hs3 : w2.heap.size ≤ g7 := hs3
    have hg7 : Blk w3 g7 34 [.int .i64 0, .string (str []), .string (str []), .int .i64 0, .int .i64 0, .int .i64 0, .int .i64 0, .string (str []), .int .i64 0] := hg7
    refine op0 rfl rfl ?_
    refine op_store_agg T rfl rfl rfl rfl rfl rfl hg7 (by exact Nat.le_of_ble_eq_true rfl) (fun w4 hc4 hg74 _ => ?_)
    have hg74 : Blk w4 g7 34 (opL y) := hg74
    have hc24 : Chg [] w2 w4 := hc3.trans hc4 (fun k hk hlt => by simp at hk; omega)
    have hg7g : g7 ∉ [g] := by have := hrow.lt; simp; omega
    clear hg7 he
    replace hc := hc.trans' hc24
    replace hrow := hrow.keep0 hc24
    refine go T 5 rfl ?_
    refine o1 rfl (op_load_agg T rfl rfl rfl rfl hg74 (by exact Nat.le_of_ble_eq_true rfl) (by exact rfl) ?_)
    refine o1 rfl ?_
    refine op_callf rfl rfl rfl (hf w4 y hc) ?_
    rintro _ w5 ⟨hc5, rfl⟩
    replace hc4 := hc4.trans' hc5
    replace hg74 := hg74.keep0 hc5
    replace hc24 := hc24.trans' hc5
    replace hc := hc.trans' hc5
    replace hrow := hrow.keep0 hc5
    cases hp : p y with
    | true =>
      refine go T 9 rfl ?_
      refine adI rfl rfl rfl rfl (by omega) (by omega) ?_
      refine go T 2 rfl ?_
      exact Round_n (j + 1, i, R) ⟨rfl, rfl, rfl, rfl, trivial⟩ ⟨by dsimp only; omega, by dsimp only; omega, hRl, by rw [htk, ← hRt]; simp [hp], hdr, hc, hrow⟩ (by dsimp only; omega)
    | false =>
      refine go T 8 rfl ?_
      refine o1 rfl (op_load_agg T rfl rfl rfl rfl hg74 (by exact Nat.le_of_ble_eq_true rfl) (by exact rfl) ?_)
      refine o1 rfl (op_indexK T rfl rfl rfl rfl rfl (by omega) ?_)
      refine op0 rfl rfl ?_
      refine op_storeR T opL_len (i := i) (a := y) hrow rfl rfl rfl rfl rfl rfl (by omega) (fun w6 hc6 hr6 _ => ?_)
      refine go T 4 rfl ?_
      refine adI rfl rfl rfl rfl (by omega) (by omega) ?_
      refine go T 6 rfl ?_
      refine adI rfl rfl rfl rfl (by omega) (by omega) ?_
      refine go T 2 rfl ?_
      refine Round_n (j + 1, i + 1, R.set i y) ⟨rfl, rfl, rfl, rfl, trivial⟩ ⟨by dsimp only; omega, by dsimp only; omega, by dsimp only; rw [List.length_set]; exact hRl, ?_, ?_, hc.trans hc6 (fun k hk _ => hk), hr6⟩ (by dsimp only; omega)
      · dsimp only
        rw [htk, ← hRt, List.take_add_one, List.take_set, List.set_eq_of_length_le (by rw [List.length_take]; omega), List.getElem?_set_self (by omega)]
        simp [hp]
      · dsimp only
        rw [List.drop_set_of_lt (by omega)]
        exact hdr
  obtain rfl : j = L.length := by omega
  rw [List.take_length] at hRt
  have hil : i = (L.filter (fun x => !p x)).length := by rw [← hRt, List.length_take]; omega
  have hcut : R.take i = L.filter (fun x => !p x) := hRt
  have hRll : (R.flatMap opL ++ rest).length = c * 9 := by
    rw [List.length_append, rk_len opL_len, hRl, ← hrl, List.length_append, rk_len opL_len]
  refine go T 5 rfl ?_
  refine rndX ?_
  refine go T 6 rfl ?_
  refine o1 rfl ?_
  refine op_slice (l := i) (h' := L.length) T rfl rfl rfl rfl ⟨_, rfl⟩ rfl (by omega) (by omega) ?_
  rw [if_neg (show ¬ c = i by omega)]
  refine op0 rfl rfl ?_
  refine op_clear (g := g) (off := i * 9) (tb := 34) (cs := R.flatMap opL ++ rest) T rfl rfl rfl rfl rfl rfl rfl (.inr ?_) hrow (by rw [hRll]; show i * 9 + (L.length - i) * 9 ≤ c * 9; omega) (fun w3 rest' hc3 hb3 hl3 => ?_)
  · show some ((⟨g, 0, none⟩ : Addr).add (i * 9)) = _
    rw [add_plain]
  refine go T 6 rfl ?_
  refine o1 rfl ?_
  refine op_slice (l := 0) (h' := i) T rfl rfl rfl rfl rfl ⟨_, rfl⟩ (by omega) (by omega) ?_
  rw [if_neg (show ¬ c = 0 by omega)]
  have e1 : (⟨g, 0, none⟩ : Addr).add (0 * 9) = ⟨g, 0, none⟩ := by rw [Nat.zero_mul]; exact add_plain g 0
  refine go T 4 rfl ?_
  refine post1 (.inl rfl) rfl rfl ⟨hc.trans hc3 (fun k hk _ => hk), ?_, ?_⟩
  · show (Value.slice (some ((⟨g, 0, none⟩ : Addr).add (0 * 9))) (i - 0) (c - 0)).ownBlock = _
    rw [e1]; rfl
  · show Own w3 34 9 (Value.slice (some ((⟨g, 0, none⟩ : Addr).add (0 * 9))) i c) _ _
    rw [e1, ← hil]
    refine Own.mk hb3 (by omega) (by unfold maxLen; omega) (by rw [hl3, hRll]) ?_
    have h9 : ((R.flatMap opL ++ rest).take (i * 9)).length = i * 9 := by rw [List.length_take, hRll]; omega
    rw [List.take_left' h9, rk_take opL_len R (by omega), hcut]
end
end Go.Proofs.Ytjkbbkomajjegaa.Try
/-! History: Fold. -/
set_option linter.unusedVariables false
namespace Go.Vc
open Go
def leSeq (x y : OpM) : Bool := decide (x.seq ≤ y.seq)
theorem totSeq : Tot leSeq := ⟨fun x y => by unfold leSeq; simp; omega, fun x y z h1 h2 => by unfold leSeq at *; simp at *; omega⟩
def dropM (upto : Int) (o : OpM) : Bool := decide (toldM o = false ∨ o.seq < 1 ∨ upto < o.seq)
def putDel (m : Bs → Option Bs) (o : OpM) : Bs → Option Bs := if o.kind = 1 then upd m o.key o.val else fun k => if k = o.key then none else m k
def foldL (ops : List OpM) (upto : Int) : List OpM := isM leSeq (ops.filter fun o => !dropM upto o)
def foldM (ops : List OpM) (upto : Int) : Bs → Option Bs := (foldL ops upto).foldl putDel (fun _ => none)
abbrev strV (l : Bs) : Value := .string (str l)
/-- No two neighbours have one number. -/
def Apart : List OpM → Prop
  | [] => True
  | [_] => True
  | a :: b :: l => a.seq ≠ b.seq ∧ Apart (b :: l)
theorem Apart.at : ∀ {l : List OpM} {i : Nat} {a b : OpM}, Apart l → l[i]? = some a → l[i + 1]? = some b → a.seq ≠ b.seq
  | [], i, a, b, _, h, _ => by simp at h
  | [x], i, a, b, _, _, h => by simp at h
  | x :: y :: l, 0, a, b, h, h1, h2 => by simp at h1 h2; subst h1; subst h2; exact h.1
  | x :: y :: l, i + 1, a, b, h, h1, h2 => Apart.at (l := y :: l) (i := i) h.2 (by simpa using h1) (by simpa using h2)
theorem Apart.of_nodup : ∀ {l : List OpM}, (l.map OpM.seq).Nodup → Apart l
  | [], _ => trivial
  | [_], _ => trivial
  | a :: b :: l, h => by
    rw [List.map_cons, List.nodup_cons] at h
    exact ⟨fun e => h.1 (by simp [e]), Apart.of_nodup (l := b :: l) h.2⟩
end Go.Vc
namespace Go.Proofs.Ytjkbbkomajjegaa.Try
open Go Go.Vc
section
variable {w : World}
theorem foldDel_has (o : OpM) (gs : Nat) (upto : Int) (w : World) (hg : Blk w gs 2 [.int .i64 upto]) : Has Go.Proofs.Try.prog 30 (#[] ++ #[.agg (opL o).toArray] ++ #[ptrB gs]) w (fun v w' => Chg [] w w' ∧ v = .bool (dropM upto o)) := by
  refine enter Go.Proofs.Try.func30 rfl rfl (by decide) rfl (e := [(0, .agg (opL o).toArray), (1, ptrB gs)]) ⟨rfl, rfl, trivial⟩ ?_
  unfold ptrB
  refine run ?_
  refine go T 2 rfl ?_
  refine o1 rfl ?_
  refine op_box rfl rfl (fun g1 w1 hs hc1 hg1 => ?_)
  have hg1 : Blk w1 g1 34 (opL o) := hg1
  unfold opL at hg1
  replace hg := hg.keep0 hc1
  refine go T 5 rfl ?_
  refine o1 rfl (op_load_agg T rfl rfl rfl rfl hg1 (by exact Nat.le_of_ble_eq_true rfl) (by exact rfl) ?_)
  refine o1 rfl ?_
  refine op_call rfl rfl rfl (told_has o w1) ?_
  rintro _ w2 ⟨hc2, rfl⟩
  replace hc1 := hc1.trans' hc2
  replace hg1 := hg1.keep0 hc2
  replace hg := hg.keep0 hc2
  unfold dropM
  cases ht : toldM o with
  | false =>
    rw [decide_eq_true (.inl rfl)]
    refine go T 18 rfl ?_
    exact post1 (.inl rfl) rfl rfl ⟨hc1, rfl⟩
  | true =>
  by_cases h1 : o.seq < 1
  · rw [decide_eq_true (.inr (.inl h1))]
    refine go T 4 rfl ?_
    refine ldB T hg1 rfl rfl rfl rfl rfl rfl ?_
    refine ltT rfl rfl rfl rfl (by omega) ?_
    refine go T 12 rfl ?_
    exact post1 (.inl rfl) rfl rfl ⟨hc1, rfl⟩
  by_cases h2 : upto < o.seq
  · rw [decide_eq_true (.inr (.inr h2))]
    refine go T 4 rfl ?_
    refine ldB T hg1 rfl rfl rfl rfl rfl rfl ?_
    refine ltF rfl rfl rfl rfl (by omega) ?_
    refine go T 4 rfl ?_
    refine ldB T hg1 rfl rfl rfl rfl rfl rfl ?_
    refine ldB T hg rfl rfl rfl rfl rfl rfl ?_
    refine gtT rfl rfl rfl rfl (by omega) ?_
    refine go T 5 rfl ?_
    exact post1 (.inl rfl) rfl rfl ⟨hc1, rfl⟩
  rw [decide_eq_false (fun h => by rcases h with h | h | h; cases h; exact h1 h; exact h2 h)]
  refine go T 4 rfl ?_
  refine ldB T hg1 rfl rfl rfl rfl rfl rfl ?_
  refine ltF rfl rfl rfl rfl (by omega) ?_
  refine go T 4 rfl ?_
  refine ldB T hg1 rfl rfl rfl rfl rfl rfl ?_
  refine ldB T hg rfl rfl rfl rfl rfl rfl ?_
  refine gtF rfl rfl rfl rfl (by omega) ?_
  refine go T 5 rfl ?_
  exact post1 (.inl rfl) rfl rfl ⟨hc1, rfl⟩
set_option maxHeartbeats 1000000 in
/-- CompactFunc where no two neighbours have one number. -/
theorem compactF_has (A : Option Addr) (n c : Nat) (L : List OpM) (w : World) (hs : SliceK 9 (RdL opL) w (.slice A n c) L) (hap : Apart L) (hlim : L.length ≤ 1000000) :
    Has Go.Proofs.Try.prog 34 #[.slice A n c, .func (.func 35) #[] #[]] w (fun v w' => Chg [] w w' ∧ v = .slice A n c) := by
  obtain ⟨rfl, hl1, hl2⟩ := hs.len
  refine enter Go.Proofs.Try.func34 rfl rfl (by decide) rfl (e := [(0, .slice A L.length c), (1, .func (.func 35) #[] #[])]) ⟨rfl, rfl, trivial⟩ ?_
  refine run ?_
  refine go T 10 rfl ?_
  refine ltS rfl rfl rfl rfl (fun hcmp => ?_) (fun hcmp => ?_)
  · refine go T 11 rfl ?_
    exact post1 (.inl rfl) rfl rfl ⟨Chg.refl _ _, rfl⟩
  refine go T 12 rfl ?_
  refine W_loop (σ := Nat) (fun i => [(0, .slice A L.length c), (1, .func (.func 35) #[] #[]), (5, .int .i64 (i + 1 : Nat))])
    (fun i w' => i + 1 ≤ L.length ∧ Chg [] w w') (fun i => L.length - i) 0 ⟨rfl, rfl, rfl, trivial⟩ ⟨by omega, Chg.refl _ _⟩ ?_
  rintro i w1 ⟨hi, hc⟩
  refine run ?_
  refine go T 6 rfl ?_
  refine ltS rfl rfl rfl rfl (fun hcmp => ?_) (fun hcmp => ?_)
  · have hlt : i < L.length := by omega
    have hlt1 : i + 1 < L.length := by omega
    have hx := List.getElem?_eq_getElem hlt
    have hx1 := List.getElem?_eq_getElem hlt1
    obtain ⟨ad, rfl, he⟩ := (hs.keepR hc).at hx
    obtain ⟨ad', had, he1⟩ := (hs.keepR hc).at hx1
    injection had with had; subst had
    have hne := hap.at hx hx1
    generalize L[i] = a at *
    generalize L[i + 1] = b at *
    have hm1 : ((i + 1 : Nat) : Int) - 1 = (i : Int) := by omega
    have hdec : decide (b.seq = a.seq) = false := decide_eq_false (fun h => hne h.symm)
    refine go T 8 rfl ?_
    refine W_walk 10 [] fol (by kernel_rfl) (by kernel_rfl) ?_
    refine Walk.plain rfl (by intro val w_ hR hp; exact op_move rfl rfl ⟨Chg.refl _ _, rfl⟩) ?_; dsimp only [List.nil_append, List.cons_append]
    refine Walk.plain rfl (by intro val w_ hR hp; exact op_move rfl rfl ⟨Chg.refl _ _, rfl⟩) ?_; dsimp only [List.nil_append, List.cons_append]
    refine Walk.plain rfl (by intro val w_ hR hp; exact op_move rfl rfl ⟨Chg.refl _ _, rfl⟩) ?_; dsimp only [List.nil_append, List.cons_append]
    refine Walk.plain rfl (by intro val w_ hR hp; exact op_indexK T rfl rfl rfl rfl rfl (by omega) ⟨Chg.refl _ _, rfl⟩) ?_; dsimp only [List.nil_append, List.cons_append]
    refine Walk.plain rfl (by intro val w_ hR hp; exact op_loadE T (he1.keep0 hR) rfl rfl rfl rfl rfl ⟨Chg.refl _ _, rfl⟩) ?_; dsimp only [List.nil_append, List.cons_append]
    refine Walk.plain rfl (by intro val w_ hR hp; exact op_move rfl rfl ⟨Chg.refl _ _, rfl⟩) ?_; dsimp only [List.nil_append, List.cons_append]
    refine Walk.plain rfl (by intro val w_ hR hp; exact op_move rfl rfl ⟨Chg.refl _ _, rfl⟩) ?_; dsimp only [List.nil_append, List.cons_append]
    refine Walk.plain rfl (by intro val w_ hR hp; exact op_subt rfl rfl rfl (wrap_i64_in (by omega) (by omega)) ⟨Chg.refl _ _, rfl⟩) ?_; dsimp only [List.nil_append, List.cons_append]
    refine Walk.plain (v := .pointer (some (ad.add (i * 9)))) rfl (by intro val w_ hR hp; exact op_indexK (i := i) T rfl rfl (congrArg (fun u => some (Value.int .i64 u)) hm1) rfl rfl (by omega) ⟨Chg.refl _ _, rfl⟩) ?_; dsimp only [List.nil_append, List.cons_append]
    refine Walk.plain rfl (by intro val w_ hR hp; exact op_loadE T (he.keep0 hR) rfl rfl rfl rfl rfl ⟨Chg.refl _ _, rfl⟩) ?_; dsimp only [List.nil_append, List.cons_append]
    skip
    refine Walk.fin ?_
    intro val w2 hc2 hp
    clear hp
    replace hc := hc.trans' hc2
    replace he := he.keep0 hc2
    replace he1 := he1.keep0 hc2
    refine runL ?_
    refine o1 rfl ?_
    refine op_callf rfl rfl rfl (sameSeq_has b a w2) ?_
    rintro _ w3 ⟨hc3, rfl⟩
    rw [hdec]
    replace hc2 := hc2.trans' hc3
    replace hc := hc.trans' hc3
    replace he := he.keep0 hc3
    replace he1 := he1.keep0 hc3
    refine go T 8 rfl ?_
    refine adI rfl rfl rfl rfl (by omega) (by omega) ?_
    refine go T 2 rfl ?_
    exact Round_n (i + 1) ⟨rfl, rfl, rfl, trivial⟩ ⟨by omega, hc⟩ (by omega)
  · refine go T 5 rfl ?_
    refine rndX ?_
    refine go T 9 rfl ?_
    exact post1 (.inl rfl) rfl rfl ⟨hc, rfl⟩
/-- The stable sort by numbers, of at most n. -/
def StableAt (n : Nat) : Prop := ∀ (v : Value) (L : List OpM) (w : World), Own w 34 9 v L.length (L.flatMap opL) → L.length ≤ n →
  Has Go.Proofs.Try.prog 22 #[v, .func (.func 32) #[] #[]] w (fun u w' => u = .tuple #[] ∧ Chg v.ownBlock.toList w w' ∧ Own w' 34 9 v (isM leSeq L).length ((isM leSeq L).flatMap opL))
theorem stableAt20 : StableAt 20 := fun v L w ho hl => sortStable_has (le := leSeq) (cf := fun a b => cmpM a.seq b.seq) totSeq (fun w1 a b => cmpSeq_has a b w1) (fun a b => cmpM_neg _ _) v L ho hl
set_option maxHeartbeats 1000000 in
theorem fold_has {n : Nat} (hst : StableAt n) (v : Value) (ops : List OpM) (upto : Int) (w : World) (hs : SliceK 9 (RdL opL) w v ops) (hl : ops.length ≤ n) (hn : n ≤ 1000000) (hap : Apart (foldL ops upto)) :
    Has Go.Proofs.Try.prog 17 #[v, .int .i64 upto] w (fun u w' => Chg [] w w' ∧ ∃ r, u = .map (some r) ∧ w.heap.size ≤ r ∧ MapAt strV strV w' r (foldM ops upto)) := by
  obtain ⟨A, c, rfl, _, _⟩ := hs.form
  refine enter Go.Proofs.Try.func17 rfl rfl (by decide) rfl (e := [(0, .slice A ops.length c), (1, .int .i64 upto)]) ⟨rfl, rfl, trivial⟩ ?_
  refine run ?_
  refine go T 2 rfl ?_
  refine o1 rfl ?_
  refine op_box rfl rfl (fun gu w1 hsu hc1 hgu => ?_)
  have hgu : Blk w1 gu 2 [.int .i64 upto] := hgu
  replace hs := hs.keepR hc1
  refine go T 6 rfl ?_
  refine o1 rfl ?_
  refine op_call rfl rfl rfl (cloneOp_has _ _ _ ops w1 hs (by omega)) ?_
  rintro u w2 ⟨hc2, hou, huf⟩
  obtain ⟨Au, cu, rfl, _, _⟩ := hou.form
  have hgo : gu ∉ (Value.slice Au ops.length cu).ownBlock.toList := out_of (hgu.keep0 hc2) hou (by decide)
  have huw : ∀ k ∈ (Value.slice Au ops.length cu).ownBlock.toList, w.heap.size ≤ k := fun k hk => by
    have := huf k (by simpa using hk)
    have := hc1.size
    omega
  replace hc1 := hc1.trans' hc2
  replace hgu := hgu.keep0 hc2
  replace hs := hs.keepR hc2
  refine o1 rfl ?_
  refine op_makeFunc (fv := #[]) (cv := #[ptrB gu]) rfl rfl rfl ?_
  refine o1 rfl ?_
  refine op_call rfl rfl rfl (delete_has _ ops _ #[ptrB gu] (dropM upto) w2 hou (by omega) (fun w3 x hc3 => foldDel_has x gu upto w3 (hgu.keep hc3 hgo))) ?_
  rintro u3 w3 ⟨hc3, hub, hou3⟩
  have hcw3 : Chg [] w w3 := hc1.trans hc3 (fun k hk hlt => by have := huw k hk; omega)
  rw [← hub] at huw
  have hfl : (ops.filter fun o => !dropM upto o).length ≤ ops.length := List.length_filter_le _ _
  unfold foldM
  unfold foldL at hap ⊢
  generalize (ops.filter fun o => !dropM upto o) = L at *
  obtain ⟨A3, c3, rfl, _, _⟩ := hou3.form
  clear hgo hou hub
  refine go T 6 rfl ?_
  refine o1 rfl ?_
  refine op_call rfl rfl rfl (hst _ L w3 hou3 (by omega)) ?_
  rintro _ w4 ⟨rfl, hc4, ho4⟩
  have hcw4 : Chg [] w w4 := hcw3.trans hc4 (fun k hk hlt => by have := huw k hk; omega)
  have hll : (isM leSeq L).length = L.length := (isM_perm L).length_eq
  rw [← hll] at hfl ho4 ⊢
  generalize isM leSeq L = S at *
  refine go T 5 rfl ?_
  refine o1 rfl ?_
  refine op_call rfl rfl rfl (compactF_has A3 _ c3 S w4 (ho4.readsK opL_len) hap (by omega)) ?_
  rintro _ w5 ⟨hc5, rfl⟩
  have ho5 := ho4.keep0 hc5
  have hcw5 := hcw4.trans' hc5
  refine go T 5 rfl ?_
  refine o1 rfl ?_
  refine op_makeMap strV strV rfl (fun r w6 hr6 hc6 hm6 => ?_)
  have ho6 := ho5.keep0 hc6
  have hcw6 := hcw5.trans' hc6
  have hrw : w.heap.size ≤ r := by have := hcw5.size; omega
  refine go T 12 rfl ?_
  refine W_loop (σ := Nat) (fun i => [(6, .map (some r)), (18, .slice A3 S.length c3), (19, .int .i64 S.length), (20, .int .i64 i)])
    (fun i w' => i ≤ S.length ∧ Chg [] w w' ∧ Own w' 34 9 (.slice A3 S.length c3) S.length (S.flatMap opL) ∧ MapAt strV strV w' r ((S.take i).foldl putDel (fun _ => none))) (fun i => S.length - i) 0 ⟨rfl, rfl, rfl, rfl, trivial⟩ ⟨Nat.zero_le _, hcw6, ho6, hm6⟩ ?_
  clear ho6 hcw6 hm6 hcw5 ho5 hcw4 ho4 
  rintro i w7 ⟨hi, hc, ho, hm⟩
  refine run ?_
  refine go T 2 rfl ?_
  refine ltS rfl rfl rfl rfl (fun hcmp => ?_) (fun hcmp => ?_)
  · have hlt : i < S.length := by omega
    have hx := List.getElem?_eq_getElem hlt
    have htk : (S.take (i + 1)).foldl putDel (fun _ => none) = putDel ((S.take i).foldl putDel (fun _ => none)) S[i] := by
      rw [List.take_add_one, hx]; exact List.foldl_append
    obtain ⟨ad, rfl, he⟩ := (ho.readsK opL_len).at hx
    rw [show Round = Round from rfl]
    generalize S[i] = y at *
    refine go T 10 rfl ?_
    refine o1 rfl (op_indexK T rfl rfl rfl rfl rfl (by omega) ?_)
    refine o1 rfl (op_loadE T he rfl rfl rfl rfl rfl ?_)
    refine o1 rfl ?_
    refine op_alloc T rfl rfl (fun g8 w8 hs8 hc8 hg8 => ?_)
    have hs8 : w7.heap.size ≤ g8 := hs8
    have hg8 : Blk w8 g8 34 [.int .i64 0, .string (str []), .string (str []), .int .i64 0, .int .i64 0, .int .i64 0, .int .i64 0, .string (str []), .int .i64 0] := hg8
    refine op0 rfl rfl ?_
    refine op_store_agg T rfl rfl rfl rfl rfl rfl hg8 (by exact Nat.le_of_ble_eq_true rfl) (fun w9 hc9 hg89 _ => ?_)
    have hg89 : Blk w9 g8 34 (opL y) := hg89
    have hc79 : Chg [] w7 w9 := hc8.trans hc9 (fun k hk hlt => by simp at hk; omega)
    clear hg8 he
    replace hc := hc.trans' hc79
    replace hm := hm.keep0 hc79
    replace ho := ho.keep0 hc79
    unfold opL at hg89
    by_cases hk : y.kind = 1
    · rw [show putDel ((S.take i).foldl putDel (fun _ => none)) y = upd ((S.take i).foldl putDel (fun _ => none)) y.key y.val from by unfold putDel; rw [if_pos hk]] at htk
      refine go T 6 rfl ?_
      refine ldB T hg89 rfl rfl rfl rfl rfl rfl ?_
      refine eqT rfl rfl rfl rfl (by omega) ?_
      refine go T 7 rfl ?_
      refine ldB T hg89 rfl rfl rfl rfl rfl rfl ?_
      refine go T 2 rfl ?_
      refine ldB T hg89 rfl rfl rfl rfl rfl rfl ?_
      refine op0 rfl rfl ?_
      refine op_mapUpdate T strKey (k := y.key) (bv := strV) (b := y.val) rfl rfl rfl rfl rfl rfl hm (fun w10 hc10 hm10 _ => ?_)
      refine go T 4 rfl ?_
      refine adI rfl rfl rfl rfl (by omega) (by omega) ?_
      refine go T 2 rfl ?_
      refine Round_n (i + 1) ⟨rfl, rfl, rfl, rfl, trivial⟩ ⟨by omega, hc.trans hc10 (fun k hk hlt => by simp at hk; omega), ho.keep hc10 (fun k hk hmem => ?_), by rw [htk]; exact hm10⟩ (by omega)
      simp at hmem; subst hmem
      obtain ⟨cur, hb⟩ := ho.row hk
      exact hm.ne_blk hb rfl
    · rw [show putDel ((S.take i).foldl putDel (fun _ => none)) y = (fun k => if k = y.key then none else ((S.take i).foldl putDel (fun _ => none)) k) from by unfold putDel; rw [if_neg hk]] at htk
      refine go T 6 rfl ?_
      refine ldB T hg89 rfl rfl rfl rfl rfl rfl ?_
      refine eqF rfl rfl rfl rfl (by omega) ?_
      refine go T 7 rfl ?_
      refine ldB T hg89 rfl rfl rfl rfl rfl rfl ?_
      refine op0 rfl rfl ?_
      refine op_delete T strKey (k := y.key) (bv := strV) rfl rfl rfl rfl rfl rfl hm (fun w10 hc10 hm10 _ => ?_)
      refine go T 4 rfl ?_
      refine adI rfl rfl rfl rfl (by omega) (by omega) ?_
      refine go T 2 rfl ?_
      refine Round_n (i + 1) ⟨rfl, rfl, rfl, rfl, trivial⟩ ⟨by omega, hc.trans hc10 (fun k hk hlt => by simp at hk; omega), ho.keep hc10 (fun k hk hmem => ?_), by rw [htk]; exact hm10⟩ (by omega)
      simp at hmem; subst hmem
      obtain ⟨cur, hb⟩ := ho.row hk
      exact hm.ne_blk hb rfl
  · obtain rfl : i = S.length := by omega
    rw [List.take_length] at hm
    refine go T 6 rfl ?_
    refine rndX ?_
    refine go T 9 rfl ?_
    exact post1 (.inl rfl) rfl rfl ⟨hc, r, rfl, hrw, hm⟩
end
end Go.Proofs.Ytjkbbkomajjegaa.Try
/-! History: a book. -/
set_option linter.unusedVariables false
namespace Go.Vc
open Go
theorem rk_setN {α : Type} {f : α → List Value} {k : Nat} (hf : ∀ x, (f x).length = k) (rest vs : List Value) {j : Nat} (hj : j + vs.length ≤ k) : ∀ (L : List α) (i : Nat) (x x' : α), L[i]? = some x → (f x).take j ++ vs ++ (f x).drop (j + vs.length) = f x' → (L.flatMap f ++ rest).take (i * k + j) ++ vs ++ (L.flatMap f ++ rest).drop (i * k + j + vs.length) = (L.set i x').flatMap f ++ rest
  | [], i, x, x', h, _ => by simp at h
  | a :: L, 0, x, x', h, h2 => by
    simp at h
    subst h
    rw [List.flatMap_cons, Nat.zero_mul, Nat.zero_add, List.append_assoc (f a), List.take_append_of_le_length (by rw [hf]; omega), List.drop_append_of_le_length (by rw [hf]; omega), ← List.append_assoc, h2, List.set_cons_zero, List.flatMap_cons, List.append_assoc]
  | a :: L, i + 1, x, x', h, h2 => by
    have ih := rk_setN hf rest vs hj L i x x' (by simpa using h) h2
    have e1 : (i + 1) * k + j = (f a).length + (i * k + j) := by rw [hf, Nat.succ_mul]; omega
    have e0 : (a :: L).flatMap f ++ rest = f a ++ (L.flatMap f ++ rest) := by rw [List.flatMap_cons, List.append_assoc]
    rw [e0, e1, List.take_length_add_append, Nat.add_assoc, List.drop_length_add_append, List.set_cons_succ, List.flatMap_cons]
    have ih' := congrArg (fun l => f a ++ l) ih
    simpa only [List.append_assoc] using ih'
structure CallM where
  kind : Int
  key : Bs
  val : Bs
structure AnsM where
  err : Int
  seq : Int
  val : Bs
  num : Int
def callL (c : CallM) : List Value := [.int .i64 c.kind, .string (str c.key), .string (str c.val)]
def ansL (a : AnsM) : List Value := [.int .i64 a.err, .int .i64 a.seq, .string (str a.val), .int .i64 a.num]
def askedOp (c : CallM) (at_ : Int) : OpM := ⟨c.kind, c.key, c.val, at_, 0, 0, 0, [], 0⟩
def answeredOp (o : OpM) (a : AnsM) (at_ : Int) : OpM := ⟨o.kind, o.key, o.val, o.asked, at_, a.err, a.seq, a.val, a.num⟩
def posM (ids : List Int) (id : Int) : Int := idxM (fun x => decide (x = id)) ids
abbrev BookM := List Int × List OpM
def askM (b : BookM) (id : Int) (c : CallM) (at_ : Int) : BookM := if 0 ≤ posM b.1 id then b else (b.1 ++ [id], b.2 ++ [askedOp c at_])
def ansM (b : BookM) (id : Int) (a : AnsM) (at_ : Int) : BookM :=
  if posM b.1 id < 0 then b else
  match b.2[(posM b.1 id).toNat]? with
  | none => b
  | some o => if o.done = 0 ∧ o.asked ≤ at_ then (b.1, b.2.set (posM b.1 id).toNat (answeredOp o a at_)) else b
end Go.Vc
namespace Go.Proofs.Ytjkbbkomajjegaa.Try
open Go Go.Vc
/-- A book in memory, made since w0. -/
structure BkAt (w0 w : World) (g : Nat) (b : BookM) (vi vo : Value) : Prop where
  chg : Chg [] w0 w
  blk : Blk w g 61 [vi, vo]
  fr : w0.heap.size ≤ g
  ids : Own w 3 1 vi b.1.length (b.1.map i64V)
  fri : ∀ h, vi.ownBlock = some h → w0.heap.size ≤ h
  ops : Own w 34 9 vo b.2.length (b.2.flatMap opL)
  fro : ∀ h, vo.ownBlock = some h → w0.heap.size ≤ h
  len : b.1.length = b.2.length
  rng : ∀ i ∈ b.1, -9223372036854775808 ≤ i ∧ i ≤ 9223372036854775807
section
variable {w0 w w1 w2 : World} {g : Nat} {b : BookM} {vi vo : Value}
theorem BkAt.keep0 (x : BkAt w0 w g b vi vo) (hc : Chg [] w w1) : BkAt w0 w1 g b vi vo :=
  ⟨x.chg.trans' hc, x.blk.keep0 hc, x.fr, x.ids.keep0 hc, x.fri, x.ops.keep0 hc, x.fro, x.len, x.rng⟩
theorem new_has (w : World) : Has Go.Proofs.Try.prog 13 #[] w (fun v w' => ∃ g, v = ptrB g ∧ BkAt w w' g ([], []) (.slice none 0 0) (.slice none 0 0)) := by
  refine enter Go.Proofs.Try.func13 rfl rfl (by decide) rfl (e := []) trivial ?_
  refine run ?_
  refine go T 7 rfl ?_
  refine o1 rfl (op_build T rfl rfl rfl rfl rfl rfl ?_)
  refine o1 rfl ?_
  refine op_box rfl rfl (fun g w1 hs1 hc1 hg => ?_)
  have hg : Blk w1 g 61 [.slice none 0 0, .slice none 0 0] := hg
  refine go T 4 rfl ?_
  exact post1 (.inl rfl) rfl rfl ⟨g, rfl, hc1, hg, hs1, Own.nil _ _ _, fun h hh => by simp [Value.ownBlock] at hh, Own.nil _ _ _, fun h hh => by simp [Value.ownBlock] at hh, rfl, by simp⟩
set_option maxHeartbeats 4000000 in
theorem BkAt.idsR (x : BkAt w0 w g b vi vo) : SliceOf Ri64 w vi b.1 := x.ids.reads rfl (fun i y u hy hu => by
  rw [List.getElem?_map, hy] at hu
  injection hu with hu
  subst hu
  exact ⟨rfl, x.rng y (List.mem_of_getElem? hy)⟩)
theorem asked_has (x : BkAt w0 w g b vi vo) (id : Int) (c : CallM) (at_ : Int) (hlim : b.1.length < 1000) (hid : -9223372036854775808 ≤ id ∧ id ≤ 9223372036854775807) :
    Has Go.Proofs.Try.prog 14 #[ptrB g, .int .i64 id, .agg (callL c).toArray, .int .i64 at_] w (fun v w' => v = .tuple #[] ∧ ∃ vi' vo', BkAt w0 w' g (askM b id c at_) vi' vo' ∧ Chg (g :: (vi.ownBlock.toList ++ vo.ownBlock.toList)) w w' ∧ (vi'.ownBlock = vi.ownBlock ∨ ∃ h, vi'.ownBlock = some h ∧ w.heap.size ≤ h) ∧ (vo'.ownBlock = vo.ownBlock ∨ ∃ h, vo'.ownBlock = some h ∧ w.heap.size ≤ h)) := by
  refine enter Go.Proofs.Try.func14 rfl rfl (by decide) rfl (e := [(0, ptrB g), (1, .int .i64 id), (2, .agg (callL c).toArray), (3, .int .i64 at_)]) ⟨rfl, rfl, rfl, rfl, trivial⟩ ?_
  unfold ptrB
  refine run ?_
  refine go T 2 rfl ?_
  refine o1 rfl ?_
  refine op_box rfl rfl (fun g6 w1 hs1 hc1 hg6 => ?_)
  have hg6 : Blk w1 g6 29 (callL c) := hg6
  have hs1 : w.heap.size ≤ g6 := hs1
  have h6g : g6 ∉ [g] := by have := x.blk.lt; simp; omega
  have h6i : g6 ∉ vi.ownBlock.toList := out_lt x.ids hs1
  have h6o : g6 ∉ vo.ownBlock.toList := out_lt x.ops hs1
  replace x := x.keep0 hc1
  have hb := x.blk
  have hr := x.idsR
  have hlen := x.len
  unfold askM
  obtain ⟨bi, bo⟩ := b
  dsimp only at hlim hr hlen ⊢
  obtain ⟨Ai, ci, rfl, _, _⟩ := hr.form
  refine go T 10 rfl ?_
  refine ldB T hb rfl rfl rfl rfl rfl rfl ?_
  refine go T 1 rfl ?_
  refine o1 rfl ?_
  refine op_call rfl rfl rfl (containsI_has Ai _ ci bi id hr) ?_
  rintro _ w2 ⟨rfl, rfl⟩
  change Run _ _ _ _ ((16, .bool (decide (0 ≤ posM bi id))) :: _) _
  by_cases hp : 0 ≤ posM bi id
  · rw [if_pos hp, decide_eq_true hp]
    refine go T 6 rfl ?_
    exact post0 (.inr rfl) rfl ⟨rfl, _, _, x, hc1.mono (fun k hk _ => by cases hk), .inl rfl, .inl rfl⟩
  rw [if_neg hp, decide_eq_false hp]
  refine go T 11 rfl ?_
  refine ldB T hb rfl rfl rfl rfl rfl rfl ?_
  refine go T 1 rfl ?_
  refine o1 rfl ?_
  refine op_buildSlice T rfl rfl rfl rfl rfl rfl rfl (fun g3 w3 hs3 hc3 hg3 => ?_)
  have hg3 : Blk w3 g3 3 [i64V id] := hg3
  replace x := x.keep0 hc3
  replace hg6 := hg6.keep0 hc3
  clear hb
  have hb := x.blk
  refine o1 rfl ?_
  refine op_append1 T rfl rfl rfl rfl rfl rfl rfl rfl rfl x.ids hg3 rfl (by show bi.length < 1000000; omega) (fun u4 w4 hu4 hc4 hb4 => ?_)
  have hu4 : Own w4 3 1 u4 (bi ++ [id]).length ((bi ++ [id]).map i64V) := hu4
  have hgi : g ∉ (Value.slice Ai bi.length ci).ownBlock.toList := out_of x.blk x.ids (by decide)
  have hj4 := x.blk.keep hc4 hgi
  have ho4 := x.ops.keep hc4 (out_own x.ops x.ids (by decide))
  have hg64 := hg6.keep hc4 h6i
  have hcw4 : Chg [] w0 w4 := x.chg.trans hc4 (fun k hk hlt => by have := x.fri k (by simpa using hk); omega)
  have hu4f := fresh_of (w := w3) x.fri x.chg.size hb4
  obtain ⟨A4, c4, rfl, _, _⟩ := hu4.form
  clear hb
  refine go T 2 rfl ?_
  refine op0 rfl rfl ?_
  refine op_store T rfl rfl rfl rfl rfl rfl hj4 (by simp) (fun w5 hc5 hj5 _ => ?_)
  have hj5 : Blk w5 g 61 [.slice A4 (bi ++ [id]).length c4, vo] := hj5
  have hgn : ∀ {t : TypeId} {s n : Nat} {v : Value} {xs : List Value}, Own w4 t s v n xs → 61 ≠ t → ∀ k, v.ownBlock = some k → k ∉ [g] := fun ho hne k hk hm => by
    simp at hm; subst hm
    exact out_of hj4 ho hne (by simpa using hk)
  have hu5 := hu4.keep hc5 (hgn hu4 (by decide))
  have ho5 := ho4.keep hc5 (hgn ho4 (by decide))
  have hg65 := hg64.keep hc5 h6g
  have hcw5 : Chg [] w0 w5 := hcw4.trans hc5 (fun k hk hlt => by simp at hk; have := x.fr; omega)
  have hfo := x.fro
  have hrng : ∀ i ∈ bi, _ := x.rng
  have hfr := x.fr
  clear hg64 hg6 hj4 ho4 hu4 x hr
  have hgo : g ∉ vo.ownBlock.toList := out_of hj5 ho5 (by decide)
  have hio := out_own hu5 ho5 (by decide)
  unfold callL at hg65
  refine go T 2 rfl ?_
  refine Q.W_walkq 10 9 vo.ownBlock.toList fol (by kernel_rfl) (by kernel_rfl) ?_
  refine Q.Walk.plain rfl rfl (by intro val w_ hR hp; exact op_move rfl rfl ⟨Chg.refl _ _, rfl⟩) ?_; dsimp only [List.nil_append, List.cons_append]
  refine Q.Walk.plain rfl rfl (by intro val w_ hR hp; exact op_move rfl rfl ⟨Chg.refl _ _, rfl⟩) ?_; dsimp only [List.nil_append, List.cons_append]
  refine Q.Walk.plain rfl rfl (by intro val w_ hR hp; exact op_nilCheck rfl rfl ⟨Chg.refl _ _, rfl⟩) ?_; dsimp only [List.nil_append, List.cons_append]
  refine Q.Walk.plain rfl rfl (by intro val w_ hR hp; exact op_fieldAddr T rfl rfl rfl rfl rfl rfl rfl rfl ⟨Chg.refl _ _, rfl⟩) ?_; dsimp only [List.nil_append, List.cons_append]
  refine Q.Walk.plain rfl rfl (by intro val w_ hR hp; exact op_loadB T rfl rfl rfl rfl (hj5.keep hR (by assumption)) (by exact rfl) ⟨Chg.refl _ _, rfl⟩) ?_; dsimp only [List.nil_append, List.cons_append]
  refine Q.Walk.plain rfl rfl (by intro val w_ hR hp; exact op_load_agg T rfl rfl rfl rfl (hg65.keep hR (by assumption)) (by exact Nat.le_of_ble_eq_true rfl) (by exact rfl) ⟨Chg.refl _ _, rfl⟩) ?_; dsimp only [List.nil_append, List.cons_append]
  refine Q.Walk.plain rfl rfl (by intro val w_ hR hp; exact op_move rfl rfl ⟨Chg.refl _ _, rfl⟩) ?_; dsimp only [List.nil_append, List.cons_append]
  refine Q.Walk.plain (v := .agg (opL (askedOp c at_)).toArray) rfl rfl (by intro val w_ hR hp; exact op_build T rfl rfl rfl rfl rfl rfl ⟨Chg.refl _ _, rfl⟩) ?_; dsimp only [List.nil_append, List.cons_append]
  refine Q.Walk.rel rfl (fun v w' => ∃ g5, v = .slice (some ⟨g5, 0, none⟩) 1 1 ∧ Blk w' g5 34 (opL (askedOp c at_)) ∧ w5.heap.size ≤ g5) rfl (fun v a b ⟨g5, h1, h2, h3⟩ hab => ⟨g5, h1, h2.keep hab (fun hmem => by have := ho5.lt (show vo.ownBlock = some g5 by simpa using hmem); omega), h3⟩) ?_ ?_
  · intro val w_ hR hp
    exact op_buildSlice T rfl rfl rfl rfl rfl rfl rfl (fun g5 w5 hs5 hc5 hg5 => ⟨hc5, g5, rfl, hg5, by have := hR.size; omega⟩)
  dsimp only [List.nil_append, List.cons_append]
  refine Q.Walk.turn rfl (fun v w' => Own w' 34 9 v (bo ++ [askedOp c at_]).length ((bo ++ [askedOp c at_]).flatMap opL) ∧ (v.ownBlock = vo.ownBlock ∨ ∃ h, v.ownBlock = some h ∧ w5.heap.size ≤ h)) rfl (fun v a b h hab => ⟨h.1.keep0 hab, h.2⟩) ?_ ?_
  · intro val w_ hR hp
    obtain ⟨g5, he5, hg5, hs5⟩ : ∃ g5, val 8 = .slice (some ⟨g5, 0, none⟩) 1 1 ∧ Blk w_ g5 34 (opL (askedOp c at_)) ∧ w5.heap.size ≤ g5 := hp 8 rfl _ _ rfl rfl
    exact op_appendK T opL_len rfl rfl rfl (congrArg some he5) rfl rfl rfl rfl rfl rfl (ho5.keep0 hR) hg5 (opL_one _) (by show bo.length < _; omega) (fun v w6 hu6 hc6 hb6 => ⟨hc6, hu6, hb6.imp _root_.id (fun ⟨h, h1, h2⟩ => ⟨h, h1, by have := hR.size; omega⟩)⟩)
  dsimp only [List.nil_append, List.cons_append]
  refine Q.Walk.fin ?_
  intro val w6 hc6 hp6
  obtain ⟨ho6, hb6⟩ : Own w6 34 9 (val 9) (bo ++ [askedOp c at_]).length ((bo ++ [askedOp c at_]).flatMap opL) ∧ ((val 9).ownBlock = vo.ownBlock ∨ ∃ h, (val 9).ownBlock = some h ∧ w5.heap.size ≤ h) := hp6 9 (by omega) _ _ rfl rfl
  clear hp6
  refine WL_sub (e' := [(29, .pointer (some ⟨g, 0, none⟩)), (38, val 9)]) ⟨rfl, rfl, trivial⟩ ?_
  generalize val 9 = u6 at ho6 hb6
  obtain ⟨A6, c6, rfl, _, _⟩ := ho6.form
  have hj6 := hj5.keep hc6 hgo
  have hu6 := hu5.keep hc6 hio
  have hcw6 : Chg [] w0 w6 := hcw5.trans hc6 (fun k hk hlt => by have := hfo k (by simpa using hk); omega)
  have hou6 := fresh_of (w := w5) hfo hcw5.size hb6
  refine runL ?_
  refine go T 2 rfl ?_
  refine op0 rfl rfl ?_
  refine op_store T rfl rfl rfl rfl rfl rfl hj6 (by simp) (fun w7 hc7 hj7 _ => ?_)
  have hj7 : Blk w7 g 61 [.slice A4 (bi ++ [id]).length c4, .slice A6 (bo ++ [askedOp c at_]).length c6] := hj7
  have hgn6 : ∀ {t : TypeId} {s n : Nat} {v : Value} {xs : List Value}, Own w6 t s v n xs → 61 ≠ t → ∀ k, v.ownBlock = some k → k ∉ [g] := fun ho hne k hk hm => by
    simp at hm; subst hm
    exact out_of hj6 ho hne (by simpa using hk)
  refine go T 1 rfl ?_
  have hall : Chg (g :: ((Value.slice Ai bi.length ci).ownBlock.toList ++ vo.ownBlock.toList)) w w7 :=
    ((((hc1.trans' hc3).mono (S' := g :: ((Value.slice Ai bi.length ci).ownBlock.toList ++ vo.ownBlock.toList)) (fun k hk _ => by cases hk)).trans hc4 (fun k hk _ => List.mem_cons_of_mem _ (List.mem_append_left _ hk))).trans hc5 (fun k hk _ => by simp at hk; subst hk; exact List.mem_cons_self ..)).trans hc6 (fun k hk _ => List.mem_cons_of_mem _ (List.mem_append_right _ hk)) |>.trans hc7 (fun k hk _ => by simp at hk; subst hk; exact List.mem_cons_self ..)
  refine post0 (.inr rfl) rfl ⟨rfl, _, _, ⟨hcw6.trans hc7 (fun k hk hlt => by simp at hk; omega), hj7, hfr, hu6.keep hc7 (hgn6 hu6 (by decide)), hu4f, ho6.keep hc7 (hgn6 ho6 (by decide)), hou6, by simp; exact hlen, fun i hi => ?_⟩, hall, hb4.imp _root_.id (fun ⟨h, h1, h2⟩ => ⟨h, h1, by have := hc1.size; have := hc3.size; omega⟩), hb6.imp _root_.id (fun ⟨h, h1, h2⟩ => ⟨h, h1, by have := hc1.size; have := hc3.size; have := hc4.size; have := hc5.size; omega⟩)⟩
  rcases List.mem_append.1 hi with hi | hi
  · exact hrng i hi
  · simp at hi; subst hi; exact hid
end
end Go.Proofs.Ytjkbbkomajjegaa.Try
/-! History: answers of a book; its ops. -/
set_option linter.unusedVariables false
namespace Go.Proofs.Ytjkbbkomajjegaa.Try
open Go Go.Vc
section
variable {w0 w w1 w2 : World} {g : Nat} {b : BookM} {vi vo : Value}
set_option maxHeartbeats 4000000 in
theorem answered_has (x : BkAt w0 w g b vi vo) (nm : Int) (a : AnsM) (at_ : Int) (hlim : b.1.length ≤ 1000) :
    Has Go.Proofs.Try.prog 15 #[ptrB g, .int .i64 nm, .agg (ansL a).toArray, .int .i64 at_] w (fun v w' => v = .tuple #[] ∧ BkAt w0 w' g (ansM b nm a at_) vi vo ∧ Chg vo.ownBlock.toList w w') := by
  refine enter Go.Proofs.Try.func15 rfl rfl (by decide) rfl (e := [(0, ptrB g), (1, .int .i64 nm), (2, .agg (ansL a).toArray), (3, .int .i64 at_)]) ⟨rfl, rfl, rfl, rfl, trivial⟩ ?_
  unfold ptrB
  refine run ?_
  refine go T 2 rfl ?_
  refine o1 rfl ?_
  refine op_box rfl rfl (fun g6 w1 hs1 hc1 hg6 => ?_)
  have hg6 : Blk w1 g6 32 (ansL a) := hg6
  have hs1 : w.heap.size ≤ g6 := hs1
  have h6o : g6 ∉ vo.ownBlock.toList := out_lt x.ops hs1
  replace x := x.keep0 hc1
  have hb := x.blk
  have hr := x.idsR
  have hlen := x.len
  unfold ansM
  obtain ⟨bi, bo⟩ := b
  dsimp only at hlim hr hlen ⊢
  obtain ⟨Ai, ci, rfl, _, _⟩ := hr.form
  refine go T 17 rfl ?_
  refine ldB T hb rfl rfl rfl rfl rfl rfl ?_
  refine go T 1 rfl ?_
  refine o1 rfl ?_
  refine op_call rfl rfl rfl (indexI_has Ai _ ci bi nm hr) ?_
  rintro _ w2 ⟨rfl, rfl⟩
  change Run _ _ _ _ ((16, .int .i64 (posM bi nm)) :: _) _
  by_cases hneg : posM bi nm < 0
  · rw [if_pos hneg]
    refine go T 6 rfl ?_
    refine geF rfl rfl rfl rfl (by omega) ?_
    refine go T 27 rfl ?_
    exact post0 (.inr rfl) rfl ⟨rfl, x, hc1.mono (fun k hk _ => by cases hk)⟩
  rw [if_neg hneg]
  have hplt : posM bi nm < bi.length := (idxM_lt (fun x => decide (x = nm)) bi).2
  obtain ⟨k, hk⟩ := Int.eq_ofNat_of_zero_le (show 0 ≤ posM bi nm by omega)
  rw [hk] at hplt ⊢
  rw [Int.toNat_natCast]
  have hkl : k < bo.length := by omega
  have hx := List.getElem?_eq_getElem hkl
  have hxo : SliceK 9 (RdL opL) w2 vo bo := x.ops.readsK opL_len
  obtain ⟨Ao, co, rfl, hl3, hl4⟩ := hxo.form
  unfold maxLen at hl4
  have hown : Own w2 34 9 (.slice Ao bo.length co) bo.length (bo.flatMap opL) := x.ops
  obtain ⟨gq, rfl⟩ := hown.addr (by omega)
  obtain ⟨rest, hrow, hrl⟩ := hown.rowB
  have he := hrow.elem opL_len hx
  rw [hx]
  dsimp only
  have hset := fun (x' : OpM) (u : Value) (h2 : (opL bo[k]).set 4 u = opL x') => rk_set1 opL_len rest bo k 4 bo[k] x' u hx h2 (by omega)
  generalize bo[k] = o at *
  unfold opL at he
  by_cases hd : o.done = 0
  case neg =>
    rw [if_neg (fun h => hd h.1)]
    refine go T 6 rfl ?_
    refine geT rfl rfl rfl rfl (by omega) ?_
    refine go T 4 rfl ?_
    refine ldB T hb rfl rfl rfl rfl rfl rfl ?_
    refine go T 1 rfl ?_
    refine o1 rfl (op_indexK T rfl rfl rfl rfl rfl (by omega) ?_)
    refine o1 rfl (op_fieldAddr T rfl rfl rfl rfl rfl rfl rfl rfl ?_)
    refine o1 rfl (op_loadF T he rfl rfl rfl rfl rfl ?_)
    refine eqF rfl rfl rfl rfl (by omega) ?_
    refine go T 17 rfl ?_
    exact post0 (.inr rfl) rfl ⟨rfl, x, hc1.mono (fun k hk _ => by cases hk)⟩
  by_cases hat : o.asked ≤ at_
  case neg =>
    rw [if_neg (fun h => hat h.2)]
    refine go T 6 rfl ?_
    refine geT rfl rfl rfl rfl (by omega) ?_
    refine go T 4 rfl ?_
    refine ldB T hb rfl rfl rfl rfl rfl rfl ?_
    refine go T 1 rfl ?_
    refine o1 rfl (op_indexK T rfl rfl rfl rfl rfl (by omega) ?_)
    refine o1 rfl (op_fieldAddr T rfl rfl rfl rfl rfl rfl rfl rfl ?_)
    refine o1 rfl (op_loadF T he rfl rfl rfl rfl rfl ?_)
    refine eqT rfl rfl rfl rfl (by omega) ?_
    refine go T 6 rfl ?_
    refine ldB T hb rfl rfl rfl rfl rfl rfl ?_
    refine go T 1 rfl ?_
    refine o1 rfl (op_indexK T rfl rfl rfl rfl rfl (by omega) ?_)
    refine o1 rfl (op_fieldAddr T rfl rfl rfl rfl rfl rfl rfl rfl ?_)
    refine o1 rfl (op_loadF T he rfl rfl rfl rfl rfl ?_)
    refine geF rfl rfl rfl rfl (by omega) ?_
    refine go T 5 rfl ?_
    exact post0 (.inr rfl) rfl ⟨rfl, x, hc1.mono (fun k hk _ => by cases hk)⟩
  rw [if_pos ⟨hd, hat⟩]
  refine go T 6 rfl ?_
  refine geT rfl rfl rfl rfl (by omega) ?_
  refine go T 4 rfl ?_
  refine ldB T hb rfl rfl rfl rfl rfl rfl ?_
  refine go T 1 rfl ?_
  refine o1 rfl (op_indexK T rfl rfl rfl rfl rfl (by omega) ?_)
  refine o1 rfl (op_fieldAddr T rfl rfl rfl rfl rfl rfl rfl rfl ?_)
  refine o1 rfl (op_loadF T he rfl rfl rfl rfl rfl ?_)
  refine eqT rfl rfl rfl rfl (by omega) ?_
  refine go T 6 rfl ?_
  refine ldB T hb rfl rfl rfl rfl rfl rfl ?_
  refine go T 1 rfl ?_
  refine o1 rfl (op_indexK T rfl rfl rfl rfl rfl (by omega) ?_)
  refine o1 rfl (op_fieldAddr T rfl rfl rfl rfl rfl rfl rfl rfl ?_)
  refine o1 rfl (op_loadF T he rfl rfl rfl rfl rfl ?_)
  refine geT rfl rfl rfl rfl (by omega) ?_
  refine go T 4 rfl ?_
  clear he
  have hrll : (bo.flatMap opL ++ rest).length = co * 9 := hrl
  have hgo : g ∉ [gq] := by
    have := out_of hb hown (by decide)
    simpa [Value.ownBlock] using this
  have h6o : g6 ∉ [gq] := by simpa [Value.ownBlock] using h6o
  have hgo0 : w0.heap.size ≤ gq := x.fro gq rfl
  have hp4 : ((⟨gq, 0, none⟩ : Addr).add (k * 9)).add 4 = ⟨gq, k * 9 + 4, none⟩ := by rw [add_of_add, add_plain]
  have hp5 : ((⟨gq, 0, none⟩ : Addr).add (k * 9)).add 5 = ⟨gq, k * 9 + 5, none⟩ := by rw [add_of_add, add_plain]
  unfold ansL at hg6
  refine Q.W_walkf 15 14 [gq] fol (by kernel_rfl) (by kernel_rfl) ?_
  refine Q.Walk.plain rfl rfl (by intro val w_ hR hp; exact op_move rfl rfl ⟨Chg.refl _ _, rfl⟩) ?_; dsimp only [List.nil_append, List.cons_append]
  refine Q.Walk.plain rfl rfl (by intro val w_ hR hp; exact op_nilCheck rfl rfl ⟨Chg.refl _ _, rfl⟩) ?_; dsimp only [List.nil_append, List.cons_append]
  refine Q.Walk.plain rfl rfl (by intro val w_ hR hp; exact op_fieldAddr T rfl rfl rfl rfl rfl rfl rfl rfl ⟨Chg.refl _ _, rfl⟩) ?_; dsimp only [List.nil_append, List.cons_append]
  refine Q.Walk.plain rfl rfl (by intro val w_ hR hp; exact op_loadB T rfl rfl rfl rfl (hb.keep hR (by assumption)) (by exact rfl) ⟨Chg.refl _ _, rfl⟩) ?_; dsimp only [List.nil_append, List.cons_append]
  refine Q.Walk.plain rfl rfl (by intro val w_ hR hp; exact op_move rfl rfl ⟨Chg.refl _ _, rfl⟩) ?_; dsimp only [List.nil_append, List.cons_append]
  refine Q.Walk.plain rfl rfl (by intro val w_ hR hp; exact op_move rfl rfl ⟨Chg.refl _ _, rfl⟩) ?_; dsimp only [List.nil_append, List.cons_append]
  refine Q.Walk.plain rfl rfl (by intro val w_ hR hp; exact op_nilCheck rfl rfl ⟨Chg.refl _ _, rfl⟩) ?_; dsimp only [List.nil_append, List.cons_append]
  refine Q.Walk.plain rfl rfl (by intro val w_ hR hp; exact op_fieldAddr T rfl rfl rfl rfl rfl rfl rfl rfl ⟨Chg.refl _ _, rfl⟩) ?_; dsimp only [List.nil_append, List.cons_append]
  refine Q.Walk.plain rfl rfl (by intro val w_ hR hp; exact op_loadB T rfl rfl rfl rfl (hb.keep hR (by assumption)) (by exact rfl) ⟨Chg.refl _ _, rfl⟩) ?_; dsimp only [List.nil_append, List.cons_append]
  refine Q.Walk.plain rfl rfl (by intro val w_ hR hp; exact op_move rfl rfl ⟨Chg.refl _ _, rfl⟩) ?_; dsimp only [List.nil_append, List.cons_append]
  refine Q.Walk.plain rfl rfl (by intro val w_ hR hp; exact op_move rfl rfl ⟨Chg.refl _ _, rfl⟩) ?_; dsimp only [List.nil_append, List.cons_append]
  refine Q.Walk.plain rfl rfl (by intro val w_ hR hp; exact op_load_agg T rfl rfl rfl rfl (hg6.keep hR (by assumption)) (by exact Nat.le_of_ble_eq_true rfl) (by exact rfl) ⟨Chg.refl _ _, rfl⟩) ?_; dsimp only [List.nil_append, List.cons_append]
  refine Q.Walk.plain rfl rfl (by intro val w_ hR hp; exact op_indexK T rfl rfl rfl rfl rfl (by omega) ⟨Chg.refl _ _, rfl⟩) ?_; dsimp only [List.nil_append, List.cons_append]
  refine Q.Walk.plain rfl rfl (by intro val w_ hR hp; exact op_fieldAddr T rfl rfl rfl rfl rfl rfl rfl rfl ⟨Chg.refl _ _, rfl⟩) ?_; dsimp only [List.nil_append, List.cons_append]
  refine Q.Walk.turn rfl (fun _ w' => ∃ j, j = k * 9 + 4 ∧ Blk w' gq 34 ((bo.flatMap opL ++ rest).set j (.int .i64 at_))) rfl (fun v a b ⟨j, h1, h⟩ hab => ⟨j, h1, h.keep0 hab⟩) ?_ ?_
  · intro val w_ hR hp
    have hb0 : Blk w_ gq 34 (bo.flatMap opL ++ rest) := hrow.keep0 hR
    exact op_store T rfl (congrArg (fun p => some (Value.pointer (some p))) hp4) rfl rfl rfl rfl hb0 (by rw [hrll]; omega) (fun w5 hc5 hr5 _ => ⟨hc5, _, rfl, hr5⟩)
  dsimp only [List.nil_append, List.cons_append]
  refine Q.Walk.fin ?_
  intro val w3 hc3 hp hn5
  obtain ⟨_, hr5⟩ := hn5 14 (by omega) _ rfl rfl
  obtain ⟨j, hj, hr5⟩ : ∃ j, j = k * 9 + 4 ∧ Blk w3 gq 34 ((bo.flatMap opL ++ rest).set j (.int .i64 at_)) := hr5
  subst hj
  rw [hset ⟨o.kind, o.key, o.val, o.asked, at_, o.err, o.seq, o.aval, o.num⟩ _ rfl] at hr5
  clear hp hn5
  have hg63 := hg6.keep hc3 h6o
  have hb3 := hb.keep hc3 hgo
  have hrow3 : RowB w3 gq 34 opL (bo.set k ⟨o.kind, o.key, o.val, o.asked, at_, o.err, o.seq, o.aval, o.num⟩) rest := hr5
  refine WL_sub (e' := [(50, .slice (some ⟨gq, 0, none⟩) bo.length co), (51, .int .i64 k), (53, .agg (ansL a).toArray)]) ⟨rfl, rfl, rfl, trivial⟩ ?_
  have hx3 : (bo.set k (⟨o.kind, o.key, o.val, o.asked, at_, o.err, o.seq, o.aval, o.num⟩ : OpM))[k]? = some ⟨o.kind, o.key, o.val, o.asked, at_, o.err, o.seq, o.aval, o.num⟩ := by rw [List.getElem?_set_self hkl]
  refine runL ?_
  refine o1 rfl (op_indexK T rfl rfl rfl rfl rfl (by omega) ?_)
  refine o1 rfl (op_fieldAddr T rfl rfl rfl rfl rfl rfl rfl rfl ?_)
  refine op0 rfl rfl ?_
  refine op_store_agg T rfl (congrArg (fun p => some (Value.pointer (some p))) hp5) rfl rfl rfl rfl hr5 ?_ (fun w4 hc4 hr4 _ => ?_)
  · have : ((bo.set k (⟨o.kind, o.key, o.val, o.asked, at_, o.err, o.seq, o.aval, o.num⟩ : OpM)).flatMap opL ++ rest).length = co * 9 := by
      rw [List.length_append, rk_len opL_len, List.length_set, ← hrll, List.length_append, rk_len opL_len]
    rw [this]
    show k * 9 + 5 + 4 ≤ co * 9
    omega
  have hr4' : Blk w4 gq 34 ((bo.set k (answeredOp o a at_)).flatMap opL ++ rest) := by
    have h1 := rk_setN opL_len rest (ansL a) (j := 5) (by show 5 + 4 ≤ 9; omega) _ k _ (answeredOp o a at_) hx3 rfl
    rw [List.set_set] at h1
    rw [← h1]
    exact hr4
  have hc24 : Chg [gq] w2 w4 := hc3.trans hc4 (fun k hk _ => hk)
  refine go T 1 rfl ?_
  have hbb : RowB w4 gq 34 opL (bo.set k (answeredOp o a at_)) rest := hr4'
  have hiq : ∀ k, (Value.slice Ai bi.length ci).ownBlock = some k → k ∉ [gq] := by
    have := out_own x.ids hown (by decide)
    simpa [Value.ownBlock] using this
  have hoq : Own w4 34 9 (.slice (some ⟨gq, 0, none⟩) bo.length co) (bo.set k (answeredOp o a at_)).length ((bo.set k (answeredOp o a at_)).flatMap opL) := by
    have h1 := hbb.own opL_len (c := co) (by rw [List.length_append, rk_len opL_len, List.length_set, ← hrll, List.length_append, rk_len opL_len]) (by rw [List.length_set]; exact hl3) (by unfold maxLen; exact hl4)
    rw [List.length_set] at h1 ⊢
    exact h1
  exact post0 (.inr rfl) rfl ⟨rfl, ⟨x.chg.trans hc24 (fun k hk hlt => by simp at hk; omega), hb.keep hc24 hgo, x.fr, x.ids.keep hc24 hiq, x.fri, hoq, x.fro, by dsimp only; rw [List.length_set]; exact hlen, x.rng⟩, (hc1.mono (S' := [gq]) (fun k hk _ => by cases hk)).trans hc24 (fun k hk _ => hk)⟩
theorem ops_has (x : BkAt w0 w g b vi vo) (hlim : b.2.length ≤ 1000000) :
    Has Go.Proofs.Try.prog 16 #[ptrB g] w (fun v w' => BkAt w0 w' g b vi vo ∧ Own w' 34 9 v b.2.length (b.2.flatMap opL) ∧ Chg [] w w') := by
  refine enter Go.Proofs.Try.func16 rfl rfl (by decide) rfl (e := [(0, ptrB g)]) ⟨rfl, trivial⟩ ?_
  unfold ptrB
  have hb := x.blk
  have hxo : SliceK 9 (RdL opL) w vo b.2 := x.ops.readsK opL_len
  obtain ⟨Ao, co, rfl, hl3, hl4⟩ := hxo.form
  refine run ?_
  refine go T 20 rfl ?_
  refine ldB T hb rfl rfl rfl rfl rfl rfl ?_
  refine o1 rfl ?_
  refine op_call rfl rfl rfl (cloneOp_has _ _ _ b.2 w hxo hlim) ?_
  rintro v w2 ⟨hc, ho, _⟩
  refine go T 4 rfl ?_
  exact post1 (.inl rfl) rfl rfl ⟨x.keep0 hc, ho, hc⟩
/-- At no book. -/
theorem askedNil_has (nm : Int) (c : CallM) (at_ : Int) (w : World) :
    Has Go.Proofs.Try.prog 14 #[.pointer none, .int .i64 nm, .agg (callL c).toArray, .int .i64 at_] w (fun v w' => v = .tuple #[] ∧ Chg [] w w') := by
  refine enter Go.Proofs.Try.func14 rfl rfl (by decide) rfl (e := [(0, .pointer none), (1, .int .i64 nm), (2, .agg (callL c).toArray), (3, .int .i64 at_)]) ⟨rfl, rfl, rfl, rfl, trivial⟩ ?_
  refine run ?_
  refine go T 2 rfl ?_
  refine o1 rfl ?_
  refine op_box rfl rfl (fun g6 w1 hs1 hc1 hg6 => ?_)
  refine go T 19 rfl ?_
  exact post0 (.inr rfl) rfl ⟨rfl, hc1⟩
theorem answeredNil_has (nm : Int) (a : AnsM) (at_ : Int) (w : World) :
    Has Go.Proofs.Try.prog 15 #[.pointer none, .int .i64 nm, .agg (ansL a).toArray, .int .i64 at_] w (fun v w' => v = .tuple #[] ∧ Chg [] w w') := by
  refine enter Go.Proofs.Try.func15 rfl rfl (by decide) rfl (e := [(0, .pointer none), (1, .int .i64 nm), (2, .agg (ansL a).toArray), (3, .int .i64 at_)]) ⟨rfl, rfl, rfl, rfl, trivial⟩ ?_
  refine run ?_
  refine go T 2 rfl ?_
  refine o1 rfl ?_
  refine op_box rfl rfl (fun g6 w1 hs1 hc1 hg6 => ?_)
  refine go T 12 rfl ?_
  exact post0 (.inl rfl) rfl ⟨rfl, hc1⟩
theorem opsNil_has (w : World) : Has Go.Proofs.Try.prog 16 #[.pointer none] w (fun v w' => v = .slice none 0 0 ∧ w' = w) := by
  refine enter Go.Proofs.Try.func16 rfl rfl (by decide) rfl (e := [(0, .pointer none)]) ⟨rfl, trivial⟩ ?_
  refine run ?_
  refine go T 20 rfl ?_
  exact post1 (.inl rfl) rfl rfl ⟨rfl, rfl⟩
end
end Go.Proofs.Ytjkbbkomajjegaa.Try
/-! History: the beginning of the laws. -/
set_option linter.unusedVariables false
namespace Go.Vc
open Go
def bop1 : OpM := ⟨1, [107], [118], 1, 2, 0, 1, [], 0⟩
def bop2 : OpM := ⟨2, [107], [], 3, 4, 3, 0, [], 0⟩
theorem bj12 : judgeM [bop1, bop2] = false := by decide
theorem bj1 : judgeM [bop1] = true := by decide
theorem bf1 : foldM [bop1, bop2] 1 [107] = some [118] := by decide
section
variable {P : Program} {N : Nat} {e : Env} {w : World} {o : Oper} {K : Value → World → Prop}
/-- The head of a row that begins its block. -/
theorem op_slice_head (T : Types P) {x y : Operand} {t el : TypeId} {j : TInfo} {g n c h' : Nat} {k : IntKind}
    (hop : o.op = .slice t x none (some y) none) (hx : ev e x = some (.slice (some ⟨g, 0, none⟩) n c)) (ht : T.d t = some (.slice el)) (hel : T.tbl el = some j) (hy : ev e y = some (.int k (h' : Int))) (h1 : h' ≤ c) (hc : 0 < c)
    (h : K (.slice (some ⟨g, 0, none⟩) h' c) w) : OpW P N o e w K := by
  refine op_slice (l := 0) (h' := h') T hop hx ht hel rfl ⟨_, hy⟩ (by omega) h1 ?_
  rw [if_neg (show ¬ c = 0 by omega)]
  have e1 : (Option.map (fun x => x.add (0 * j.size)) (some (⟨g, 0, none⟩ : Addr))) = some ⟨g, 0, none⟩ := by rw [Nat.zero_mul]; exact congrArg some (add_plain g 0)
  rw [e1]
  exact h
end
end Go.Vc
namespace Go.Proofs.Ytjkbbkomajjegaa.Try
open Go Go.Vc
set_option maxHeartbeats 4000000 in
theorem begun25_has (w : World) : Has Go.Proofs.Try.prog 11 #[] w (fun v w' => Chg [] w w' ∧ v = .bool true) := by
  refine enter Go.Proofs.Try.func11 rfl rfl (by decide) rfl (e := []) trivial ?_
  refine run ?_
  refine go T 7 rfl ?_
  refine o1 rfl ?_
  refine op_call rfl rfl rfl (new_has w) ?_
  rintro _ w1 ⟨g, rfl, x⟩
  unfold ptrB
  refine go T 16 rfl ?_
  refine o1 rfl (op_build T rfl rfl rfl rfl rfl rfl ?_)
  refine o1 rfl ?_
  refine op_call rfl rfl rfl (asked_has x 1 ⟨1, [107], [118]⟩ 1 (by decide) (by decide)) ?_
  rintro _ w2 ⟨rfl, vi, vo, x2, _⟩
  rw [show askM ([], []) 1 ⟨1, [107], [118]⟩ 1 = ([1], [askedOp ⟨1, [107], [118]⟩ 1]) from rfl] at x2
  refine go T 5 rfl ?_
  refine o1 rfl (op_build T rfl rfl rfl rfl rfl rfl ?_)
  refine o1 rfl ?_
  refine op_call rfl rfl rfl (answered_has x2 1 ⟨0, 1, [], 0⟩ 2 (by decide)) ?_
  rintro _ w3 ⟨rfl, x3, _⟩
  rw [show ansM ([1], [askedOp ⟨1, [107], [118]⟩ 1]) 1 ⟨0, 1, [], 0⟩ 2 = ([1], [bop1]) from rfl] at x3
  refine go T 5 rfl ?_
  refine o1 rfl (op_build T rfl rfl rfl rfl rfl rfl ?_)
  refine o1 rfl ?_
  refine op_call rfl rfl rfl (asked_has x3 2 ⟨2, [107], []⟩ 3 (by decide) (by decide)) ?_
  rintro _ w4 ⟨rfl, vi4, vo4, x4, _⟩
  rw [show askM ([1], [bop1]) 2 ⟨2, [107], []⟩ 3 = ([1, 2], [bop1, askedOp ⟨2, [107], []⟩ 3]) from rfl] at x4
  refine go T 5 rfl ?_
  refine o1 rfl (op_build T rfl rfl rfl rfl rfl rfl ?_)
  refine o1 rfl ?_
  refine op_call rfl rfl rfl (answered_has x4 2 ⟨3, 0, [], 0⟩ 4 (by decide)) ?_
  rintro _ w5 ⟨rfl, x5, _⟩
  rw [show ansM ([1, 2], [bop1, askedOp ⟨2, [107], []⟩ 3]) 2 ⟨3, 0, [], 0⟩ 4 = ([1, 2], [bop1, bop2]) from rfl] at x5
  refine go T 5 rfl ?_
  refine o1 rfl ?_
  refine op_call rfl rfl rfl (ops_has x5 (by decide)) ?_
  rintro v w6 ⟨x6, ho, _⟩
  have hc6 := x6.chg
  have hs : SliceK 9 (RdL opL) w6 v [bop1, bop2] := ho.readsK opL_len
  clear x x2 x3 x4 x5 x6
  obtain ⟨A, c, hv, hl1, hl2⟩ := hs.form
  change v = .slice A 2 c at hv
  subst hv
  have ho : Own w6 34 9 (.slice A 2 c) 2 ([bop1, bop2].flatMap opL) := ho
  obtain ⟨g1, rfl⟩ := ho.addr (by decide)
  obtain ⟨rest, hr, _⟩ := ho.rowB
  have hbk : Blk w6 g1 34 ([.int .i64 1, .string (str [107]), .string (str [118]), .int .i64 1, .int .i64 2, .int .i64 0, .int .i64 1, .string (str []), .int .i64 0] ++ (opL bop2 ++ rest)) := hr
  have hs1 : SliceK 9 (RdL opL) w6 (.slice (some ⟨g1, 0, none⟩) 1 c) [bop1] := hs.take (j := 1) (m := 1) rfl
  have hc2 : 2 ≤ c := hl1
  refine go T 7 rfl ?_
  refine eqT rfl rfl rfl rfl (by omega) ?_
  refine go T 2 rfl ?_
  refine o1 rfl (op_indexK (i := 0) T rfl rfl rfl rfl rfl (by omega) ?_)
  refine go T 1 rfl ?_
  refine ldB T hbk rfl rfl rfl rfl rfl rfl ?_
  refine eqT rfl rfl rfl rfl (by omega) ?_
  refine go T 3 rfl ?_
  refine o1 rfl ?_
  refine op_call rfl rfl rfl (judge_has _ _ hs (by decide) (by decide)) ?_
  rintro _ w7 ⟨hc7, rfl⟩
  rw [bj12]
  replace hc6 := hc6.trans' hc7
  replace ho := ho.keep0 hc7
  replace hs := hs.keepR hc7
  replace hr := hr.keep0 hc7
  replace hbk := hbk.keep0 hc7
  replace hs1 := hs1.keepR hc7
  refine go T 4 rfl ?_
  refine o1 rfl ?_
  refine op_slice_head (h' := 1) T rfl rfl rfl rfl rfl (by omega) (by omega) ?_
  have hcall := judge_has _ _ hs1 (by decide) (by decide)
  rw [bj1] at hcall
  refine o1 rfl ?_
  refine op_call rfl rfl rfl hcall ?_
  rintro _ w8 ⟨hc8, rfl⟩
  replace hc7 := hc7.trans' hc8
  replace hc6 := hc6.trans' hc8
  replace ho := ho.keep0 hc8
  replace hs := hs.keepR hc8
  replace hr := hr.keep0 hc8
  replace hbk := hbk.keep0 hc8
  replace hs1 := hs1.keepR hc8
  clear hcall
  have hap : Apart (foldL [bop1, bop2] 1) := by
    have : foldL [bop1, bop2] 1 = [bop1] := rfl
    rw [this]; exact True.intro
  have hcall := fold_has stableAt20 _ [bop1, bop2] 1 w8 hs (by simp) (by omega) hap
  have hbf := bf1
  generalize foldM [bop1, bop2] 1 = fm at hcall hbf
  refine go T 3 rfl ?_
  refine o1 rfl ?_
  refine op_call rfl rfl rfl hcall ?_
  rintro _ w9 ⟨hc9, r, rfl, hr9, hm⟩
  replace hc8 := hc8.trans' hc9
  replace hc7 := hc7.trans' hc9
  replace hc6 := hc6.trans' hc9
  replace ho := ho.keep0 hc9
  replace hs := hs.keepR hc9
  replace hr := hr.keep0 hc9
  replace hbk := hbk.keep0 hc9
  replace hs1 := hs1.keepR hc9
  refine o1 rfl ?_
  refine op_lookup_v T strKey (k := [107]) (bv := strV) rfl rfl rfl rfl rfl rfl hm (v := .string (str [118])) (fun b hb => by rw [hbf] at hb; injection hb with hb; rw [← hb]) (fun hn => by rw [hbf] at hn; cases hn) ?_
  refine o1 rfl ?_
  refine op_str_eql (a := [118]) (b := [118]) rfl rfl rfl (fun _ => ?_) (fun h => absurd rfl h)
  refine go T 5 rfl ?_
  exact post1 (.inl rfl) rfl rfl ⟨hc6, rfl⟩
end Go.Proofs.Ytjkbbkomajjegaa.Try
/-! History: the law of books. -/
set_option linter.unusedVariables false
namespace Go.Vc
open Go
theorem posM_snoc (x nm : Int) : ∀ l : List Int, posM (l ++ [x]) nm = if 0 ≤ posM l nm then posM l nm else if x = nm then (l.length : Int) else -1
  | [] => by unfold posM; simp [idxM]
  | a :: l => by
    have ih := posM_snoc x nm l
    unfold posM at ih ⊢
    rw [List.cons_append, idxM, idxM, ih]
    by_cases h1 : a = nm
    · simp [h1]
    · simp only [h1, decide_false, Bool.false_eq_true, if_false]
      have hb := idxM_lt (fun y => decide (y = nm)) l
      by_cases h2 : 0 ≤ idxM (fun y => decide (y = nm)) l
      · rw [if_pos h2, if_neg (by omega), if_pos (by omega)]
      · rw [if_neg h2, if_pos (show idxM (fun y => decide (y = nm)) l < 0 by omega)]
        by_cases h3 : x = nm
        · simp only [if_pos h3, List.length_cons]
          rw [if_neg (by omega), if_neg (by omega)]
          omega
        · simp only [if_neg h3]
          rw [if_pos (by omega), if_neg (by omega)]
theorem posM_mem {l : List Int} {nm : Int} (h : nm ∈ l) : 0 ≤ posM l nm := by
  refine Classical.byContradiction fun hn => ?_
  have := idxM_neg (p := fun y => decide (y = nm)) (l := l) (by unfold posM at hn; omega) nm h
  simp at this
theorem posM_not {l : List Int} {nm : Int} (h : nm ∉ l) : posM l nm = -1 := idxM_none (fun x hx => by simp; rintro rfl; exact h hx)
def addK (o : OpM) : OpM := ⟨2, [107], [], o.asked, o.done, o.err, o.seq, o.aval, o.num⟩
def newO (at_ : Int) : OpM := ⟨0, [], [], at_, 0, 0, 0, [], 0⟩
def ansO (o : OpM) (i : Int) : OpM := ⟨o.kind, o.key, o.val, o.asked, i, o.err, i, o.aval, o.num⟩
def Plain0 (o : OpM) : Prop := o.err = 0 ∧ o.aval = [] ∧ o.num = 0
theorem addK_new (at_ : Int) : addK (newO at_) = askedOp ⟨2, [107], []⟩ at_ := rfl
theorem addK_ans {o : OpM} (h : Plain0 o) (i : Int) : answeredOp (addK o) ⟨0, i, [], 0⟩ i = addK (ansO o i) := by
  obtain ⟨h1, h2, h3⟩ := h
  unfold answeredOp addK ansO
  rw [h1, h2, h3]
end Go.Vc
namespace Go.Proofs.Ytjkbbkomajjegaa.Try
open Go Go.Vc
section
variable {w0 w w1 : World} {g : Nat} {b : BookM} {vi vo : Value}
theorem BkAt.keepS {S : List Nat} (x : BkAt w0 w g b vi vo) (h1 : g ∉ S) (h2 : ∀ k, vi.ownBlock = some k → k ∉ S) (h3 : ∀ k, vo.ownBlock = some k → k ∉ S) (hr : ∀ k ∈ S, w0.heap.size ≤ k) (hc : Chg S w w1) : BkAt w0 w1 g b vi vo :=
  ⟨x.chg.trans hc (fun k hk hlt => by have := hr k hk; omega), x.blk.keep hc h1, x.fr, x.ids.keep hc h2, x.fri, x.ops.keep hc h3, x.fro, x.len, x.rng⟩
theorem Own.cellN {t : TypeId} {pls : List Int} {A : Option Addr} {n c : Nat} (h : Own w t 1 (.slice A n c) pls.length (pls.map i64V)) {i : Nat} {s : Int} (hx : pls[i]? = some s) : ∃ ad, A = some ad ∧ w.cell? (ad.add (i * 1)) = some (.int .i64 s) ∧ w.cell? (ad.add i) = some (.int .i64 s) := by
  obtain ⟨A', c', e, _, _⟩ := h.form
  injection e with e1 e2 e3
  subst e2
  obtain ⟨ad, rfl, he⟩ := (Own.readsK (f := fun x => [i64V x]) (fun _ => rfl) (by rw [← map_flat]; exact h)).at hx
  have h1 : w.cell? (ad.add (i * 1)) = some (.int .i64 s) := he 0 _ rfl
  exact ⟨ad, rfl, h1, by rw [Nat.mul_one] at h1; exact h1⟩
end
end Go.Proofs.Ytjkbbkomajjegaa.Try
/-! History: a book beside rows of the law's own. -/
set_option linter.unusedVariables false
namespace Go.Proofs.Ytjkbbkomajjegaa.Try
open Go Go.Vc
structure BInv (w1 w : World) (g : Nat) (b : BookM) (names : List Int) (l : List OpM) (un ul vi vo : Value) : Prop where
  bk : BkAt w1 w g b vi vo
  oun : Own w 3 1 un names.length (names.map i64V)
  unf : ∀ h, un.ownBlock = some h → w1.heap.size ≤ h
  unv : ∀ k, un.ownBlock = some k → k ∉ vi.ownBlock.toList
  oul : Own w 34 9 ul l.length (l.flatMap opL)
  ulf : ∀ h, ul.ownBlock = some h → w1.heap.size ≤ h
  ulv : ∀ k, ul.ownBlock = some k → k ∉ vo.ownBlock.toList
section
variable {w1 w w' : World} {g : Nat} {b b' : BookM} {names names' : List Int} {l l' : List OpM} {un ul vi vo un' ul' vi' vo' : Value}
theorem BInv.keep0 (x : BInv w1 w g b names l un ul vi vo) (hc : Chg [] w w') : BInv w1 w' g b names l un ul vi vo :=
  ⟨x.bk.keep0 hc, x.oun.keep0 hc, x.unf, x.unv, x.oul.keep0 hc, x.ulf, x.ulv⟩
theorem apart_new {t : TypeId} {s n : Nat} {u v v' : Value} {xs : List Value} (hu : Own w t s u n xs) (h : ∀ k, u.ownBlock = some k → k ∉ v.ownBlock.toList) (hb : v'.ownBlock = v.ownBlock ∨ ∃ h, v'.ownBlock = some h ∧ w.heap.size ≤ h) : ∀ k, u.ownBlock = some k → k ∉ v'.ownBlock.toList := fun k hk hm => by
  rcases hb with hb | ⟨h', hb, hge⟩
  · rw [hb] at hm; exact h k hk hm
  · rw [hb] at hm
    simp at hm
    have := hu.lt hk
    omega
theorem BInv.turnBook (x : BInv w1 w g b names l un ul vi vo) (h : BkAt w1 w' g b' vi' vo') (hc : Chg (g :: (vi.ownBlock.toList ++ vo.ownBlock.toList)) w w')
    (hi : vi'.ownBlock = vi.ownBlock ∨ ∃ h, vi'.ownBlock = some h ∧ w.heap.size ≤ h) (ho : vo'.ownBlock = vo.ownBlock ∨ ∃ h, vo'.ownBlock = some h ∧ w.heap.size ≤ h) : BInv w1 w' g b' names l un ul vi' vo' := by
  refine ⟨h, x.oun.keep hc (fun k hk hm => ?_), x.unf, apart_new x.oun x.unv hi, x.oul.keep hc (fun k hk hm => ?_), x.ulf, apart_new x.oul x.ulv ho⟩
  · rcases List.mem_cons.1 hm with rfl | hm
    · exact out_of x.bk.blk x.oun (by decide) (by simpa using hk)
    rcases List.mem_append.1 hm with hm | hm
    · exact x.unv k hk hm
    · exact out_own x.oun x.bk.ops (by decide) k hk hm
  · rcases List.mem_cons.1 hm with rfl | hm
    · exact out_of x.bk.blk x.oul (by decide) (by simpa using hk)
    rcases List.mem_append.1 hm with hm | hm
    · exact out_own x.oul x.bk.ids (by decide) k hk hm
    · exact x.ulv k hk hm
theorem apart_new2 {t : TypeId} {s n : Nat} {u v v' : Value} {xs : List Value} (hu : Own w t s u n xs) (h : ∀ k, v.ownBlock = some k → k ∉ u.ownBlock.toList) (hb : v'.ownBlock = v.ownBlock ∨ ∃ h, v'.ownBlock = some h ∧ w.heap.size ≤ h) : ∀ k, v'.ownBlock = some k → k ∉ u.ownBlock.toList := fun k hk hm => by
  rcases hb with hb | ⟨h', hb, hge⟩
  · rw [hb] at hk; exact h k hk hm
  · rw [hb] at hk
    injection hk with hk
    have := hu.lt (show u.ownBlock = some k by simpa using hm)
    omega
theorem flip_apart {u v : Value} (h : ∀ k, v.ownBlock = some k → k ∉ u.ownBlock.toList) : ∀ k, u.ownBlock = some k → k ∉ v.ownBlock.toList := fun k hk hm => h k (by simpa using hm) (by simpa using hk)
theorem BInv.setUn (x : BInv w1 w g b names l un ul vi vo) (hc : Chg un.ownBlock.toList w w') (hu : Own w' 3 1 un' names'.length (names'.map i64V)) (hb : un'.ownBlock = un.ownBlock ∨ ∃ h, un'.ownBlock = some h ∧ w.heap.size ≤ h) : BInv w1 w' g b names' l un' ul vi vo :=
  ⟨x.bk.keepS (out_of x.bk.blk x.oun (by decide)) (flip_apart x.unv) (out_own x.bk.ops x.oun (by decide)) (fun k hk => x.unf k (by simpa using hk)) hc, hu, fresh_of x.unf x.bk.chg.size hb, apart_new2 x.bk.ids x.unv hb, x.oul.keep hc (out_own x.oul x.oun (by decide)), x.ulf, x.ulv⟩
theorem BInv.setUl (x : BInv w1 w g b names l un ul vi vo) (hc : Chg ul.ownBlock.toList w w') (hu : Own w' 34 9 ul' l'.length (l'.flatMap opL)) (hb : ul'.ownBlock = ul.ownBlock ∨ ∃ h, ul'.ownBlock = some h ∧ w.heap.size ≤ h) : BInv w1 w' g b names l' un ul' vi vo :=
  ⟨x.bk.keepS (out_of x.bk.blk x.oul (by decide)) (out_own x.bk.ids x.oul (by decide)) (flip_apart x.ulv) (fun k hk => x.ulf k (by simpa using hk)) hc, x.oun.keep hc (out_own x.oun x.oul (by decide)), x.unf, x.unv, hu, fresh_of x.ulf x.bk.chg.size hb, apart_new2 x.bk.ops x.ulv hb⟩
end
end Go.Proofs.Ytjkbbkomajjegaa.Try
/-! History: BookAll. -/
set_option linter.unusedVariables false
namespace Go.Proofs.Ytjkbbkomajjegaa.Try
open Go Go.Vc
set_option maxHeartbeats 4000000 in
theorem bookAll_has (A : Option Addr) (n c : Nat) (A' : Option Addr) (n' c' : Nat) (ids kinds : List Int) (w : World) (hs : SliceOf Ri64 w (.slice A n c) ids) (hk : SliceOf Ri64 w (.slice A' n' c') kinds) :
    Has Go.Proofs.Try.prog 4 #[.slice A n c, .slice A' n' c'] w (fun v w' => Chg [] w w' ∧ v = .bool true) := by
  obtain ⟨rfl, hl1, hl2⟩ := hs.len
  obtain ⟨rfl, hl3, hl4⟩ := hk.len
  unfold maxLen at hl2 hl4
  refine enter Go.Proofs.Try.func4 rfl rfl (by decide) rfl (e := [(0, .slice A ids.length c), (1, .slice A' kinds.length c')]) ⟨rfl, rfl, trivial⟩ ?_
  refine run ?_
  refine go T 7 rfl ?_
  refine o1 rfl ?_
  refine op_call rfl rfl rfl (begun25_has w) ?_
  rintro _ w1 ⟨hc1, rfl⟩
  refine go T 15 rfl ?_
  refine o1 rfl ?_
  refine op_call rfl rfl rfl (new_has w1) ?_
  rintro _ w2 ⟨g, rfl, x0⟩
  unfold ptrB
  refine go T 20 rfl ?_
  refine W_loop (σ := Nat × List Int × List OpM × Value × Value × Value × Value) (fun s => [(0, .slice A ids.length c), (1, .slice A' kinds.length c'), (6, .pointer (some ⟨g, 0, none⟩)), (7, s.2.2.2.2.1), (8, s.2.2.2.1), (9, .int .i64 s.1)])
    (fun s w' => s.1 ≤ ids.length ∧ s.1 ≤ 40 ∧ s.2.1.length ≤ s.1 ∧ s.2.1.Nodup ∧ (∀ o ∈ s.2.2.1, Plain0 o) ∧ BInv w1 w' g (s.2.1, s.2.2.1.map addK) s.2.1 s.2.2.1 s.2.2.2.1 s.2.2.2.2.1 s.2.2.2.2.2.1 s.2.2.2.2.2.2)
    (fun s => ids.length - s.1) (0, [], [], .slice none 0 0, .slice none 0 0, .slice none 0 0, .slice none 0 0) ⟨rfl, rfl, rfl, rfl, rfl, rfl, trivial⟩ ⟨Nat.zero_le _, Nat.zero_le _, Nat.zero_le _, List.nodup_nil, (fun o ho => by cases ho),
      ⟨x0, Own.nil _ _ _, fun h hh => by simp [Value.ownBlock] at hh, fun h hh => by simp [Value.ownBlock] at hh, Own.nil _ _ _, fun h hh => by simp [Value.ownBlock] at hh, fun h hh => by simp [Value.ownBlock] at hh⟩⟩ ?_
  clear x0
  rintro ⟨i, names, l, un, ul, vi, vo⟩ w3 ⟨hi, hi40, hnl, hnd, hpl, x⟩
  dsimp only at hi hi40 hnl hnd hpl x ⊢
  have hcw : Chg [] w w3 := hc1.trans' x.bk.chg
  have hlen : names.length = l.length := by have := x.bk.len; simpa using this
  by_cases hgo1 : i < ids.length ∧ i < 40
  · obtain ⟨hlt, hlt40⟩ := hgo1
    have hx := List.getElem?_eq_getElem hlt
    obtain ⟨ad, u0, rfl, hcell, rfl, hrng⟩ := (SliceOf.kept Ri64.kept _ _ _ _ hcw hs).get hx
    generalize ids[i] = nm at *
    obtain ⟨Au, cu, hun, _, _⟩ := x.oun.form
    subst hun
    refine run ?_
    refine go T 6 rfl ?_
    refine ltT rfl rfl rfl rfl (by omega) ?_
    refine go T 2 rfl ?_
    refine ltT rfl rfl rfl rfl (by omega) ?_
    refine go T 20 rfl ?_
    -- the place of the name among those that are known
    refine W_loop (σ := Nat) (fun k => [(0, .slice (some ad) ids.length c), (1, .slice A' kinds.length c'), (6, .pointer (some ⟨g, 0, none⟩)), (7, ul), (8, .slice Au names.length cu), (9, .int .i64 i), (10, .int .i64 (posM (names.take k) nm)), (11, .int .i64 k)])
      (fun k w' => k ≤ names.length ∧ Chg [] w3 w') (fun k => names.length - k) 0 ⟨rfl, rfl, rfl, rfl, rfl, rfl, rfl, rfl, trivial⟩ ⟨Nat.zero_le _, Chg.refl _ _⟩ ?_
    rintro k w4 ⟨hk1, hc4⟩
    refine run ?_
    refine go T 6 rfl ?_
    refine ltS rfl rfl rfl rfl (fun hcmp => ?_) (fun hcmp => ?_)
    · have hkl : k < names.length := by omega
      have hxn := List.getElem?_eq_getElem hkl
      obtain ⟨adn, rfl, hn1, hn2⟩ := Own.cellN (x.oun.keep0 hc4) hxn
      have hcell4 := hc4.cell0 hcell
      have htk : names.take (k + 1) = names.take k ++ [names[k]] := by rw [List.take_add_one, hxn]; rfl
      have hps := posM_snoc names[k] nm (names.take k)
      rw [← htk] at hps
      have hlt' : (names.take k).length = k := by rw [List.length_take]; omega
      have hnot : names[k] = nm → posM (names.take k) nm = -1 := fun e => posM_not (fun hm => by
        have h2 := hnd
        rw [← List.take_append_drop (k + 1) names, htk, List.append_assoc, List.nodup_append] at h2
        exact h2.2.2 nm hm nm (by simp [e]) rfl)
      have hlow := (idxM_lt (fun y => decide (y = nm)) (names.take k)).1
      change -1 ≤ posM (names.take k) nm at hlow
      generalize names[k] = q at *
      rw [hlt'] at hps
      by_cases he : q = nm
      · rw [if_neg (by rw [hnot he]; decide), if_pos he] at hps
        refine go T 8 rfl ?_
        refine W_walk 8 [] fol (by kernel_rfl) (by kernel_rfl) ?_
        refine Walk.plain rfl (by intro val w_ hR hp; exact op_move rfl rfl ⟨Chg.refl _ _, rfl⟩) ?_; dsimp only [List.nil_append, List.cons_append]
        refine Walk.plain rfl (by intro val w_ hR hp; exact op_move rfl rfl ⟨Chg.refl _ _, rfl⟩) ?_; dsimp only [List.nil_append, List.cons_append]
        refine Walk.plain rfl (by intro val w_ hR hp; exact op_index_nat T rfl rfl rfl rfl rfl rfl (by omega) ⟨Chg.refl _ _, rfl⟩) ?_; dsimp only [List.nil_append, List.cons_append]
        refine Walk.plain rfl (by intro val w_ hR hp; exact op_load T rfl rfl rfl rfl (hR.cell0 (by assumption)) ⟨Chg.refl _ _, rfl⟩) ?_; dsimp only [List.nil_append, List.cons_append]
        refine Walk.plain rfl (by intro val w_ hR hp; exact op_move rfl rfl ⟨Chg.refl _ _, rfl⟩) ?_; dsimp only [List.nil_append, List.cons_append]
        refine Walk.plain rfl (by intro val w_ hR hp; exact op_move rfl rfl ⟨Chg.refl _ _, rfl⟩) ?_; dsimp only [List.nil_append, List.cons_append]
        refine Walk.plain rfl (by intro val w_ hR hp; exact op_index_nat T rfl rfl rfl rfl rfl rfl (by omega) ⟨Chg.refl _ _, rfl⟩) ?_; dsimp only [List.nil_append, List.cons_append]
        refine Walk.plain rfl (by intro val w_ hR hp; exact op_load T rfl rfl rfl rfl (hR.cell0 (by assumption)) ⟨Chg.refl _ _, rfl⟩) ?_; dsimp only [List.nil_append, List.cons_append]
        skip
        refine Walk.fin ?_
        intro val w5 hc5 hp
        clear hp
        replace hc4 := hc4.trans' hc5
        replace hcell4 := hc5.cell0 hcell4
        replace hn1 := hc5.cell0 hn1
        replace hn2 := hc5.cell0 hn2
        refine runL ?_
        refine eqT rfl rfl rfl rfl (by omega) ?_
        refine go T 11 rfl ?_
        refine adI rfl rfl rfl rfl (by omega) (by omega) ?_
        refine go T 2 rfl ?_
        exact Round_n (k + 1) ⟨rfl, rfl, rfl, rfl, rfl, rfl, congrArg (fun z => some (Value.int .i64 z)) hps.symm, rfl, trivial⟩ ⟨by omega, hc4⟩ (by omega)
      · have hps' : posM (names.take (k + 1)) nm = posM (names.take k) nm := by rw [hps]; split <;> omega
        refine go T 8 rfl ?_
        refine W_walk 8 [] fol (by kernel_rfl) (by kernel_rfl) ?_
        refine Walk.plain rfl (by intro val w_ hR hp; exact op_move rfl rfl ⟨Chg.refl _ _, rfl⟩) ?_; dsimp only [List.nil_append, List.cons_append]
        refine Walk.plain rfl (by intro val w_ hR hp; exact op_move rfl rfl ⟨Chg.refl _ _, rfl⟩) ?_; dsimp only [List.nil_append, List.cons_append]
        refine Walk.plain rfl (by intro val w_ hR hp; exact op_index_nat T rfl rfl rfl rfl rfl rfl (by omega) ⟨Chg.refl _ _, rfl⟩) ?_; dsimp only [List.nil_append, List.cons_append]
        refine Walk.plain rfl (by intro val w_ hR hp; exact op_load T rfl rfl rfl rfl (hR.cell0 (by assumption)) ⟨Chg.refl _ _, rfl⟩) ?_; dsimp only [List.nil_append, List.cons_append]
        refine Walk.plain rfl (by intro val w_ hR hp; exact op_move rfl rfl ⟨Chg.refl _ _, rfl⟩) ?_; dsimp only [List.nil_append, List.cons_append]
        refine Walk.plain rfl (by intro val w_ hR hp; exact op_move rfl rfl ⟨Chg.refl _ _, rfl⟩) ?_; dsimp only [List.nil_append, List.cons_append]
        refine Walk.plain rfl (by intro val w_ hR hp; exact op_index_nat T rfl rfl rfl rfl rfl rfl (by omega) ⟨Chg.refl _ _, rfl⟩) ?_; dsimp only [List.nil_append, List.cons_append]
        refine Walk.plain rfl (by intro val w_ hR hp; exact op_load T rfl rfl rfl rfl (hR.cell0 (by assumption)) ⟨Chg.refl _ _, rfl⟩) ?_; dsimp only [List.nil_append, List.cons_append]
        skip
        refine Walk.fin ?_
        intro val w5 hc5 hp
        clear hp
        replace hc4 := hc4.trans' hc5
        replace hcell4 := hc5.cell0 hcell4
        replace hn1 := hc5.cell0 hn1
        replace hn2 := hc5.cell0 hn2
        refine runL ?_
        refine eqF rfl rfl rfl rfl (by omega) ?_
        refine go T 8 rfl ?_
        refine adI rfl rfl rfl rfl (by omega) (by omega) ?_
        refine go T 2 rfl ?_
        exact Round_n (k + 1) ⟨rfl, rfl, rfl, rfl, rfl, rfl, congrArg (fun z => some (Value.int .i64 z)) hps'.symm, rfl, trivial⟩ ⟨by omega, hc4⟩ (by omega)
    obtain rfl : k = names.length := by omega
    rw [List.take_length]
    replace x := x.keep0 hc4
    replace hcell := hc4.cell0 hcell
    replace hcw := hcw.trans' hc4
    clear hc4
    have hask : ∀ w5 vi' vo', BInv w1 w5 g (askM (names, l.map addK) nm ⟨2, [107], []⟩ ((i : Int) + 1)) names l (.slice Au names.length cu) ul vi' vo' → True := fun _ _ _ _ => trivial
    clear hask
    have hb3 := idxM_lt (fun y => decide (y = nm)) names
    change -1 ≤ posM names nm ∧ posM names nm < names.length at hb3
    by_cases heven : ∃ q, kinds[i]? = some q ∧ q.tmod 2 = 0
    · obtain ⟨q, hq, hq2⟩ := heven
      have hkl : i < kinds.length := (List.getElem?_eq_some_iff.1 hq).1
      obtain ⟨adk, uk, rfl, hcellk, rfl, hrngk⟩ := (SliceOf.kept Ri64.kept _ _ _ _ hcw hk).get hq
      refine go T 5 rfl ?_
      refine rndX ?_
      refine go T 7 rfl ?_
      refine ltT rfl rfl rfl rfl (by omega) ?_
      refine go T 3 rfl ?_
      refine o1 rfl (op_index_nat T rfl rfl rfl rfl rfl rfl (by omega) ?_)
      refine o1 rfl (op_load T rfl rfl rfl rfl (by assumption) ?_)
      refine o1 rfl (op_rem rfl rfl rfl (by omega) rfl ?_)
      refine eqT rfl rfl rfl rfl (by omega) ?_
      refine go T 9 rfl ?_
      refine o1 rfl (op_index_nat T rfl rfl rfl rfl rfl rfl (by omega) ?_)
      refine o1 rfl (op_load T rfl rfl rfl rfl (by assumption) ?_)
      refine o1 rfl (op_build T rfl rfl rfl rfl rfl rfl ?_)
      refine go T 1 rfl ?_
      refine adI rfl rfl rfl rfl (by omega) (by omega) ?_
      refine o1 rfl ?_
      refine op_call rfl rfl rfl (asked_has x.bk nm ⟨2, [107], []⟩ ((i : Int) + 1) (by show names.length < 1000; omega) hrng) ?_
      rintro _ w5 ⟨rfl, vi', vo', hbk, hcA, hvi, hvo⟩
      replace x := x.turnBook hbk hcA hvi hvo
      have hcw5 : Chg [] w w5 := hc1.trans' x.bk.chg
      obtain ⟨ad', u0, had, hcell, rfl, _⟩ := (SliceOf.kept Ri64.kept _ _ _ _ hcw5 hs).get hx
      injection had with had
      subst had
      clear hcA hbk hcellk hcw
      unfold askM at x
      dsimp only at x
      by_cases hpos : 0 ≤ posM names nm
      · rw [if_pos hpos] at x
        refine go T 5 rfl ?_
        refine ltF rfl rfl rfl rfl (by omega) ?_
        refine go T 8 rfl ?_
        refine adI rfl rfl rfl rfl (by omega) (by omega) ?_
        refine go T 2 rfl ?_
        exact Round_n (i + 1, names, l, _, ul, vi', vo') ⟨rfl, rfl, rfl, rfl, rfl, rfl, trivial⟩ ⟨by dsimp only; omega, by dsimp only; omega, by dsimp only; omega, hnd, hpl, x⟩ (by dsimp only; omega)
      rw [if_neg hpos] at x
      refine go T 5 rfl ?_
      refine ltT rfl rfl rfl rfl (by omega) ?_
      refine go T 8 rfl ?_
      refine o1 rfl (op_index_nat T rfl rfl rfl rfl rfl rfl (by omega) ?_)
      refine o1 rfl (op_load T rfl rfl rfl rfl (by assumption) ?_)
      refine o1 rfl ?_
      refine op_buildSlice T rfl rfl rfl rfl rfl rfl rfl (fun g6 w6 hs6 hc6 hg6 => ?_)
      have hg6 : Blk w6 g6 3 [i64V nm] := hg6
      replace x := x.keep0 hc6
      refine o1 rfl ?_
      refine op_append1 T rfl rfl rfl rfl rfl rfl rfl rfl rfl x.oun hg6 rfl (by omega) (fun un' w7 hu7 hc7 hb7 => ?_)
      replace x := x.setUn (names' := names ++ [nm]) hc7 hu7 hb7
      refine go T 6 rfl ?_
      refine adI rfl rfl rfl rfl (by omega) (by omega) ?_
      refine o1 rfl (op_build T rfl rfl rfl rfl rfl rfl ?_)
      refine o1 rfl ?_
      refine op_buildSlice T rfl rfl rfl rfl rfl rfl rfl (fun g8 w8 hs8 hc8 hg8 => ?_)
      have hg8 : Blk w8 g8 34 (opL (newO ((i : Int) + 1))) := hg8
      replace x := x.keep0 hc8
      refine o1 rfl ?_
      refine op_appendK T opL_len rfl rfl rfl rfl rfl rfl rfl rfl rfl rfl x.oul hg8 (opL_one _) (by omega) (fun ul' w9 hu9 hc9 hb9 => ?_)
      replace x := x.setUl (l' := l ++ [newO ((i : Int) + 1)]) hc9 hu9 hb9
      have hmp : l.map addK ++ [askedOp ⟨2, [107], []⟩ ((i : Int) + 1)] = (l ++ [newO ((i : Int) + 1)]).map addK := by rw [List.map_append]; rfl
      rw [hmp] at x
      refine go T 6 rfl ?_
      refine adI rfl rfl rfl rfl (by omega) (by omega) ?_
      refine go T 2 rfl ?_
      refine Round_n (i + 1, names ++ [nm], l ++ [newO ((i : Int) + 1)], un', ul', vi', vo') ⟨rfl, rfl, rfl, rfl, rfl, rfl, trivial⟩ ⟨by dsimp only; omega, by dsimp only; omega, by dsimp only; rw [List.length_append, List.length_singleton]; omega, ?_, ?_, x⟩ (by dsimp only; omega)
      · dsimp only
        rw [List.nodup_append]
        refine ⟨hnd, by simp, fun a ha b hb e => ?_⟩
        simp at hb
        subst hb
        exact hpos (posM_mem (e ▸ ha))
      · intro o ho
        rcases List.mem_append.1 ho with ho | ho
        · exact hpl o ho
        · simp at ho; subst ho; exact ⟨rfl, rfl, rfl⟩
    · rcases Nat.lt_or_ge i kinds.length with hki | hki
      · have hq := List.getElem?_eq_getElem hki
        have hq2 : ¬ kinds[i].tmod 2 = 0 := fun h => heven ⟨_, hq, h⟩
        obtain ⟨adk, uk, rfl, hcellk, rfl, hrngk⟩ := (SliceOf.kept Ri64.kept _ _ _ _ hcw hk).get hq
        generalize kinds[i] = q at *
        refine go T 5 rfl ?_
        refine rndX ?_
        refine go T 7 rfl ?_
        refine ltT rfl rfl rfl rfl (by omega) ?_
        refine go T 3 rfl ?_
        refine o1 rfl (op_index_nat T rfl rfl rfl rfl rfl rfl (by omega) ?_)
        refine o1 rfl (op_load T rfl rfl rfl rfl (by assumption) ?_)
        refine o1 rfl (op_rem rfl rfl rfl (by omega) rfl ?_)
        refine eqF rfl rfl rfl rfl (by omega) ?_
        refine go T 9 rfl ?_
        refine o1 rfl (op_index_nat T rfl rfl rfl rfl rfl rfl (by omega) ?_)
        refine o1 rfl (op_load T rfl rfl rfl rfl (by assumption) ?_)
        refine go T 1 rfl ?_
        refine o1 rfl (op_build T rfl rfl rfl rfl rfl rfl ?_)
        refine go T 1 rfl ?_
        refine o1 rfl ?_
        refine op_call rfl rfl rfl (answered_has x.bk nm ⟨0, i, [], 0⟩ i (by show names.length ≤ 1000; omega)) ?_
        rintro _ w5 ⟨rfl, hbk, hcB⟩
        replace x := x.turnBook hbk (hcB.mono (fun k hk _ => List.mem_cons_of_mem _ (List.mem_append_right _ hk))) (.inl rfl) (.inl rfl)
        clear hcB hbk hcell hcw
        unfold ansM at x
        dsimp only at x
        by_cases hpos : posM names nm < 0
        · rw [if_pos hpos] at x
          refine go T 5 rfl ?_
          refine geF rfl rfl rfl rfl (by omega) ?_
          refine go T 25 rfl ?_
          refine adI rfl rfl rfl rfl (by omega) (by omega) ?_
          refine go T 2 rfl ?_
          exact Round_n (i + 1, names, l, _, ul, vi, vo) ⟨rfl, rfl, rfl, rfl, rfl, rfl, trivial⟩ ⟨by dsimp only; omega, by dsimp only; omega, by dsimp only; omega, hnd, hpl, x⟩ (by dsimp only; omega)
        rw [if_neg hpos] at x
        obtain ⟨k, hkk⟩ := Int.eq_ofNat_of_zero_le (show 0 ≤ posM names nm by omega)
        rw [hkk] at x hb3 ⊢
        rw [Int.toNat_natCast] at x
        have hkl : k < l.length := by omega
        have hxl := List.getElem?_eq_getElem hkl
        have hmem : l[k] ∈ l := List.getElem_mem hkl
        rw [List.getElem?_map, hxl] at x
        dsimp only [Option.map_some] at x
        obtain ⟨Al, cl, hul, _, hcm⟩ := x.oul.form
        subst hul
        obtain ⟨gl, rfl⟩ := x.oul.addr (by omega)
        obtain ⟨rest, hrow, hrl⟩ := x.oul.rowB
        have he := hrow.elem opL_len hxl
        have hset := fun (j : Nat) (L : List OpM) (o x' : OpM) (u : Value) (hx : L[k]? = some o) (h2 : (opL o).set j u = opL x') (hj : j < 9) => rk_set1 opL_len rest L k j o x' u hx h2 hj
        generalize l[k] = o at *
        have hop := hpl o hmem
        unfold opL at he
        by_cases hd : o.done = 0
        case neg =>
          rw [if_neg (show ¬ ((addK o).done = 0 ∧ (addK o).asked ≤ (i : Int)) from fun h => hd h.1)] at x
          refine go T 5 rfl ?_
          refine geT rfl rfl rfl rfl (by omega) ?_
          refine go T 3 rfl ?_
          refine o1 rfl (op_indexK T rfl rfl rfl rfl rfl (by omega) ?_)
          refine o1 rfl (op_fieldAddr T rfl rfl rfl rfl rfl rfl rfl rfl ?_)
          refine o1 rfl (op_loadF T he rfl rfl rfl rfl rfl ?_)
          refine eqF rfl rfl rfl rfl (by omega) ?_
          refine go T 18 rfl ?_
          refine adI rfl rfl rfl rfl (by omega) (by omega) ?_
          refine go T 2 rfl ?_
          exact Round_n (i + 1, names, l, _, _, vi, vo) ⟨rfl, rfl, rfl, rfl, rfl, rfl, trivial⟩ ⟨by dsimp only; omega, by dsimp only; omega, by dsimp only; omega, hnd, hpl, x⟩ (by dsimp only; omega)
        by_cases hat : o.asked ≤ (i : Int)
        case neg =>
          rw [if_neg (show ¬ ((addK o).done = 0 ∧ (addK o).asked ≤ (i : Int)) from fun h => hat h.2)] at x
          refine go T 5 rfl ?_
          refine geT rfl rfl rfl rfl (by omega) ?_
          refine go T 3 rfl ?_
          refine o1 rfl (op_indexK T rfl rfl rfl rfl rfl (by omega) ?_)
          refine o1 rfl (op_fieldAddr T rfl rfl rfl rfl rfl rfl rfl rfl ?_)
          refine o1 rfl (op_loadF T he rfl rfl rfl rfl rfl ?_)
          refine eqT rfl rfl rfl rfl (by omega) ?_
          refine go T 5 rfl ?_
          refine o1 rfl (op_indexK T rfl rfl rfl rfl rfl (by omega) ?_)
          refine o1 rfl (op_fieldAddr T rfl rfl rfl rfl rfl rfl rfl rfl ?_)
          refine o1 rfl (op_loadF T he rfl rfl rfl rfl rfl ?_)
          refine geF rfl rfl rfl rfl (by omega) ?_
          refine go T 9 rfl ?_
          refine adI rfl rfl rfl rfl (by omega) (by omega) ?_
          refine go T 2 rfl ?_
          exact Round_n (i + 1, names, l, _, _, vi, vo) ⟨rfl, rfl, rfl, rfl, rfl, rfl, trivial⟩ ⟨by dsimp only; omega, by dsimp only; omega, by dsimp only; omega, hnd, hpl, x⟩ (by dsimp only; omega)
        rw [if_pos (show (addK o).done = 0 ∧ (addK o).asked ≤ (i : Int) from ⟨hd, hat⟩), addK_ans hop] at x
        refine go T 5 rfl ?_
        refine geT rfl rfl rfl rfl (by omega) ?_
        refine go T 3 rfl ?_
        refine o1 rfl (op_indexK T rfl rfl rfl rfl rfl (by omega) ?_)
        refine o1 rfl (op_fieldAddr T rfl rfl rfl rfl rfl rfl rfl rfl ?_)
        refine o1 rfl (op_loadF T he rfl rfl rfl rfl rfl ?_)
        refine eqT rfl rfl rfl rfl (by omega) ?_
        refine go T 5 rfl ?_
        refine o1 rfl (op_indexK T rfl rfl rfl rfl rfl (by omega) ?_)
        refine o1 rfl (op_fieldAddr T rfl rfl rfl rfl rfl rfl rfl rfl ?_)
        refine o1 rfl (op_loadF T he rfl rfl rfl rfl rfl ?_)
        refine geT rfl rfl rfl rfl (by omega) ?_
        refine go T 9 rfl ?_
        refine o1 rfl (op_indexK T rfl rfl rfl rfl rfl (by omega) ?_)
        refine o1 rfl (op_fieldAddr T rfl rfl rfl rfl rfl rfl rfl rfl ?_)
        refine op0 rfl rfl ?_
        have hp4 : ((⟨gl, 0, none⟩ : Addr).add (k * 9)).add 4 = ⟨gl, k * 9 + 4, none⟩ := by rw [add_of_add, add_plain]
        have hp6 : (((⟨gl, 0, none⟩ : Addr).add (k * 9)).add 5).add 1 = ⟨gl, k * 9 + 6, none⟩ := by rw [add_of_add, add_of_add, add_plain]
        have hb0 : Blk w5 gl 34 (l.flatMap opL ++ rest) := hrow
        have hcl : l.length ≤ cl := by
          have h1 := hrl
          rw [List.length_append, rk_len opL_len] at h1
          omega
        refine op_store T rfl (congrArg (fun p => some (Value.pointer (some p))) hp4) rfl rfl rfl rfl hb0 (by rw [hrl]; omega) (fun w6 hc6 hr6 _ => ?_)
        rw [hset 4 l o ⟨o.kind, o.key, o.val, o.asked, i, o.err, o.seq, o.aval, o.num⟩ _ hxl rfl (by decide)] at hr6
        have hxl6 : (l.set k (⟨o.kind, o.key, o.val, o.asked, i, o.err, o.seq, o.aval, o.num⟩ : OpM))[k]? = some ⟨o.kind, o.key, o.val, o.asked, i, o.err, o.seq, o.aval, o.num⟩ := by rw [List.getElem?_set_self hkl]
        refine go T 6 rfl ?_
        refine o1 rfl (op_indexK T rfl rfl rfl rfl rfl (by omega) ?_)
        refine o1 rfl (op_fieldAddr T rfl rfl rfl rfl rfl rfl rfl rfl ?_)
        refine go T 1 rfl ?_
        refine op0 rfl rfl ?_
        refine op_store T rfl (congrArg (fun p => some (Value.pointer (some p))) hp6) rfl rfl rfl rfl hr6 (by rw [List.length_append, rk_len opL_len, List.length_set]; omega) (fun w7 hc7 hr7 _ => ?_)
        rw [hset 6 _ _ (ansO o i) (.int .i64 (i : Int)) hxl6 rfl (by decide), List.set_set] at hr7
        have hrow7 : RowB w7 gl 34 opL (l.set k (ansO o i)) rest := hr7
        have hown7 := hrow7.own opL_len (c := cl) (by rw [List.length_append, rk_len opL_len, List.length_set, ← hrl, List.length_append, rk_len opL_len]) (by rw [List.length_set]; exact hcl) hcm
        have hmp : (l.map addK).set k (addK (ansO o i)) = (l.set k (ansO o i)).map addK := by rw [List.map_set]
        rw [hmp] at x
        replace x := x.setUl (ul' := .slice (some ⟨gl, 0, none⟩) l.length cl) (l' := l.set k (ansO o i)) (hc6.trans hc7 (fun k hk _ => hk)) (by rw [List.length_set] at hown7 ⊢; exact hown7) (.inl rfl)
        refine go T 5 rfl ?_
        refine adI rfl rfl rfl rfl (by omega) (by omega) ?_
        refine go T 2 rfl ?_
        refine Round_n (i + 1, names, l.set k (ansO o i), _, _, vi, vo) ⟨rfl, rfl, rfl, rfl, rfl, rfl, trivial⟩ ⟨by dsimp only; omega, by dsimp only; omega, by dsimp only; omega, hnd, fun z hz => ?_, x⟩ (by dsimp only; omega)
        rcases List.mem_or_eq_of_mem_set hz with hz | hz
        · exact hpl z hz
        · subst hz; exact ⟨hop.1, hop.2.1, hop.2.2⟩
      · have hq2 : ¬ ((i : Int) < kinds.length) := by omega
        refine go T 5 rfl ?_
        refine rndX ?_
        refine go T 7 rfl ?_
        refine ltF rfl rfl rfl rfl (by omega) ?_
        refine go T 16 rfl ?_
        refine o1 rfl (op_index_nat T rfl rfl rfl rfl rfl rfl (by omega) ?_)
        refine o1 rfl (op_load T rfl rfl rfl rfl (by assumption) ?_)
        refine go T 1 rfl ?_
        refine o1 rfl (op_build T rfl rfl rfl rfl rfl rfl ?_)
        refine go T 1 rfl ?_
        refine o1 rfl ?_
        refine op_call rfl rfl rfl (answered_has x.bk nm ⟨0, i, [], 0⟩ i (by show names.length ≤ 1000; omega)) ?_
        rintro _ w5 ⟨rfl, hbk, hcB⟩
        replace x := x.turnBook hbk (hcB.mono (fun k hk _ => List.mem_cons_of_mem _ (List.mem_append_right _ hk))) (.inl rfl) (.inl rfl)
        clear hcB hbk hcell hcw
        unfold ansM at x
        dsimp only at x
        by_cases hpos : posM names nm < 0
        · rw [if_pos hpos] at x
          refine go T 5 rfl ?_
          refine geF rfl rfl rfl rfl (by omega) ?_
          refine go T 25 rfl ?_
          refine adI rfl rfl rfl rfl (by omega) (by omega) ?_
          refine go T 2 rfl ?_
          exact Round_n (i + 1, names, l, _, ul, vi, vo) ⟨rfl, rfl, rfl, rfl, rfl, rfl, trivial⟩ ⟨by dsimp only; omega, by dsimp only; omega, by dsimp only; omega, hnd, hpl, x⟩ (by dsimp only; omega)
        rw [if_neg hpos] at x
        obtain ⟨k, hkk⟩ := Int.eq_ofNat_of_zero_le (show 0 ≤ posM names nm by omega)
        rw [hkk] at x hb3 ⊢
        rw [Int.toNat_natCast] at x
        have hkl : k < l.length := by omega
        have hxl := List.getElem?_eq_getElem hkl
        have hmem : l[k] ∈ l := List.getElem_mem hkl
        rw [List.getElem?_map, hxl] at x
        dsimp only [Option.map_some] at x
        obtain ⟨Al, cl, hul, _, hcm⟩ := x.oul.form
        subst hul
        obtain ⟨gl, rfl⟩ := x.oul.addr (by omega)
        obtain ⟨rest, hrow, hrl⟩ := x.oul.rowB
        have he := hrow.elem opL_len hxl
        have hset := fun (j : Nat) (L : List OpM) (o x' : OpM) (u : Value) (hx : L[k]? = some o) (h2 : (opL o).set j u = opL x') (hj : j < 9) => rk_set1 opL_len rest L k j o x' u hx h2 hj
        generalize l[k] = o at *
        have hop := hpl o hmem
        unfold opL at he
        by_cases hd : o.done = 0
        case neg =>
          rw [if_neg (show ¬ ((addK o).done = 0 ∧ (addK o).asked ≤ (i : Int)) from fun h => hd h.1)] at x
          refine go T 5 rfl ?_
          refine geT rfl rfl rfl rfl (by omega) ?_
          refine go T 3 rfl ?_
          refine o1 rfl (op_indexK T rfl rfl rfl rfl rfl (by omega) ?_)
          refine o1 rfl (op_fieldAddr T rfl rfl rfl rfl rfl rfl rfl rfl ?_)
          refine o1 rfl (op_loadF T he rfl rfl rfl rfl rfl ?_)
          refine eqF rfl rfl rfl rfl (by omega) ?_
          refine go T 18 rfl ?_
          refine adI rfl rfl rfl rfl (by omega) (by omega) ?_
          refine go T 2 rfl ?_
          exact Round_n (i + 1, names, l, _, _, vi, vo) ⟨rfl, rfl, rfl, rfl, rfl, rfl, trivial⟩ ⟨by dsimp only; omega, by dsimp only; omega, by dsimp only; omega, hnd, hpl, x⟩ (by dsimp only; omega)
        by_cases hat : o.asked ≤ (i : Int)
        case neg =>
          rw [if_neg (show ¬ ((addK o).done = 0 ∧ (addK o).asked ≤ (i : Int)) from fun h => hat h.2)] at x
          refine go T 5 rfl ?_
          refine geT rfl rfl rfl rfl (by omega) ?_
          refine go T 3 rfl ?_
          refine o1 rfl (op_indexK T rfl rfl rfl rfl rfl (by omega) ?_)
          refine o1 rfl (op_fieldAddr T rfl rfl rfl rfl rfl rfl rfl rfl ?_)
          refine o1 rfl (op_loadF T he rfl rfl rfl rfl rfl ?_)
          refine eqT rfl rfl rfl rfl (by omega) ?_
          refine go T 5 rfl ?_
          refine o1 rfl (op_indexK T rfl rfl rfl rfl rfl (by omega) ?_)
          refine o1 rfl (op_fieldAddr T rfl rfl rfl rfl rfl rfl rfl rfl ?_)
          refine o1 rfl (op_loadF T he rfl rfl rfl rfl rfl ?_)
          refine geF rfl rfl rfl rfl (by omega) ?_
          refine go T 9 rfl ?_
          refine adI rfl rfl rfl rfl (by omega) (by omega) ?_
          refine go T 2 rfl ?_
          exact Round_n (i + 1, names, l, _, _, vi, vo) ⟨rfl, rfl, rfl, rfl, rfl, rfl, trivial⟩ ⟨by dsimp only; omega, by dsimp only; omega, by dsimp only; omega, hnd, hpl, x⟩ (by dsimp only; omega)
        rw [if_pos (show (addK o).done = 0 ∧ (addK o).asked ≤ (i : Int) from ⟨hd, hat⟩), addK_ans hop] at x
        refine go T 5 rfl ?_
        refine geT rfl rfl rfl rfl (by omega) ?_
        refine go T 3 rfl ?_
        refine o1 rfl (op_indexK T rfl rfl rfl rfl rfl (by omega) ?_)
        refine o1 rfl (op_fieldAddr T rfl rfl rfl rfl rfl rfl rfl rfl ?_)
        refine o1 rfl (op_loadF T he rfl rfl rfl rfl rfl ?_)
        refine eqT rfl rfl rfl rfl (by omega) ?_
        refine go T 5 rfl ?_
        refine o1 rfl (op_indexK T rfl rfl rfl rfl rfl (by omega) ?_)
        refine o1 rfl (op_fieldAddr T rfl rfl rfl rfl rfl rfl rfl rfl ?_)
        refine o1 rfl (op_loadF T he rfl rfl rfl rfl rfl ?_)
        refine geT rfl rfl rfl rfl (by omega) ?_
        refine go T 9 rfl ?_
        refine o1 rfl (op_indexK T rfl rfl rfl rfl rfl (by omega) ?_)
        refine o1 rfl (op_fieldAddr T rfl rfl rfl rfl rfl rfl rfl rfl ?_)
        refine op0 rfl rfl ?_
        have hp4 : ((⟨gl, 0, none⟩ : Addr).add (k * 9)).add 4 = ⟨gl, k * 9 + 4, none⟩ := by rw [add_of_add, add_plain]
        have hp6 : (((⟨gl, 0, none⟩ : Addr).add (k * 9)).add 5).add 1 = ⟨gl, k * 9 + 6, none⟩ := by rw [add_of_add, add_of_add, add_plain]
        have hb0 : Blk w5 gl 34 (l.flatMap opL ++ rest) := hrow
        have hcl : l.length ≤ cl := by
          have h1 := hrl
          rw [List.length_append, rk_len opL_len] at h1
          omega
        refine op_store T rfl (congrArg (fun p => some (Value.pointer (some p))) hp4) rfl rfl rfl rfl hb0 (by rw [hrl]; omega) (fun w6 hc6 hr6 _ => ?_)
        rw [hset 4 l o ⟨o.kind, o.key, o.val, o.asked, i, o.err, o.seq, o.aval, o.num⟩ _ hxl rfl (by decide)] at hr6
        have hxl6 : (l.set k (⟨o.kind, o.key, o.val, o.asked, i, o.err, o.seq, o.aval, o.num⟩ : OpM))[k]? = some ⟨o.kind, o.key, o.val, o.asked, i, o.err, o.seq, o.aval, o.num⟩ := by rw [List.getElem?_set_self hkl]
        refine go T 6 rfl ?_
        refine o1 rfl (op_indexK T rfl rfl rfl rfl rfl (by omega) ?_)
        refine o1 rfl (op_fieldAddr T rfl rfl rfl rfl rfl rfl rfl rfl ?_)
        refine go T 1 rfl ?_
        refine op0 rfl rfl ?_
        refine op_store T rfl (congrArg (fun p => some (Value.pointer (some p))) hp6) rfl rfl rfl rfl hr6 (by rw [List.length_append, rk_len opL_len, List.length_set]; omega) (fun w7 hc7 hr7 _ => ?_)
        rw [hset 6 _ _ (ansO o i) (.int .i64 (i : Int)) hxl6 rfl (by decide), List.set_set] at hr7
        have hrow7 : RowB w7 gl 34 opL (l.set k (ansO o i)) rest := hr7
        have hown7 := hrow7.own opL_len (c := cl) (by rw [List.length_append, rk_len opL_len, List.length_set, ← hrl, List.length_append, rk_len opL_len]) (by rw [List.length_set]; exact hcl) hcm
        have hmp : (l.map addK).set k (addK (ansO o i)) = (l.set k (ansO o i)).map addK := by rw [List.map_set]
        rw [hmp] at x
        replace x := x.setUl (ul' := .slice (some ⟨gl, 0, none⟩) l.length cl) (l' := l.set k (ansO o i)) (hc6.trans hc7 (fun k hk _ => hk)) (by rw [List.length_set] at hown7 ⊢; exact hown7) (.inl rfl)
        refine go T 5 rfl ?_
        refine adI rfl rfl rfl rfl (by omega) (by omega) ?_
        refine go T 2 rfl ?_
        refine Round_n (i + 1, names, l.set k (ansO o i), _, _, vi, vo) ⟨rfl, rfl, rfl, rfl, rfl, rfl, trivial⟩ ⟨by dsimp only; omega, by dsimp only; omega, by dsimp only; omega, hnd, fun z hz => ?_, x⟩ (by dsimp only; omega)
        rcases List.mem_or_eq_of_mem_set hz with hz | hz
        · exact hpl z hz
        · subst hz; exact ⟨hop.1, hop.2.1, hop.2.2⟩
  · by_cases h1 : i < ids.length
    · have h2 : ¬ i < 40 := fun h => hgo1 ⟨h1, h⟩
      refine run ?_
      refine go T 6 rfl ?_
      refine ltT rfl rfl rfl rfl (by omega) ?_
      refine go T 2 rfl ?_
      refine ltF rfl rfl rfl rfl (by omega) ?_
      refine go T 6 rfl ?_
      refine rndX ?_
      refine go T 5 rfl ?_
      refine o1 rfl ?_
      refine op_call rfl rfl rfl (ops_has x.bk (by show (l.map addK).length ≤ 1000000; rw [List.length_map]; omega)) ?_
      rintro v w4 ⟨_, ho, hc4⟩
      have hso : SliceK 9 (RdL opL) w4 v (l.map addK) := ho.readsK opL_len
      clear ho
      obtain ⟨Av, cv, rfl, _, _⟩ := hso.form
      replace x := x.keep0 hc4
      have hcw4 : Chg [] w w4 := hcw.trans' hc4
      have hsl : SliceK 9 (RdL opL) w4 ul l := x.oul.readsK opL_len
      obtain ⟨Al, cl, hul, _, _⟩ := hsl.form
      subst hul
      have hml : (l.map addK).length = l.length := List.length_map _
      refine go T 10 rfl ?_
      refine neF rfl rfl rfl rfl (by omega) ?_
      refine go T 12 rfl ?_
      refine W_loop (σ := Nat) (fun k => [(7, .slice Al l.length cl), (12, .slice Av (l.map addK).length cv), (13, .int .i64 k)]) (fun k w' => k ≤ l.length ∧ Chg [] w4 w') (fun k => l.length - k) 0 ⟨rfl, rfl, rfl, trivial⟩ ⟨Nat.zero_le _, Chg.refl _ _⟩ ?_
      rintro k w5 ⟨hk1, hc5⟩
      refine run ?_
      refine go T 6 rfl ?_
      refine ltS rfl rfl rfl rfl (fun hcmp => ?_) (fun hcmp => ?_)
      · have hkl : k < l.length := by omega
        have hxl := List.getElem?_eq_getElem hkl
        have hxm : (l.map addK)[k]? = some (addK l[k]) := by rw [List.getElem?_map, hxl]; rfl
        obtain ⟨a1, rfl, he1⟩ := (hsl.keepR hc5).at hxl
        obtain ⟨a2, rfl, he2⟩ := (hso.keepR hc5).at hxm
        generalize l[k] = o at *
        unfold addK at he2
        unfold opL at he1 he2
        refine go T 8 rfl ?_
        refine W_walk 42 [] fol (by kernel_rfl) (by kernel_rfl) ?_
        refine Walk.plain rfl (by intro val w_ hR hp; exact op_move rfl rfl ⟨Chg.refl _ _, rfl⟩) ?_; dsimp only [List.nil_append, List.cons_append]
        refine Walk.plain rfl (by intro val w_ hR hp; exact op_move rfl rfl ⟨Chg.refl _ _, rfl⟩) ?_; dsimp only [List.nil_append, List.cons_append]
        refine Walk.plain rfl (by intro val w_ hR hp; exact op_indexK T rfl rfl rfl rfl rfl (by omega) ⟨Chg.refl _ _, rfl⟩) ?_; dsimp only [List.nil_append, List.cons_append]
        refine Walk.plain rfl (by intro val w_ hR hp; exact op_fieldAddr T rfl rfl rfl rfl rfl rfl rfl rfl ⟨Chg.refl _ _, rfl⟩) ?_; dsimp only [List.nil_append, List.cons_append]
        refine Walk.plain rfl (by intro val w_ hR hp; exact op_loadF T (he2.keep0 hR) rfl rfl rfl rfl rfl ⟨Chg.refl _ _, rfl⟩) ?_; dsimp only [List.nil_append, List.cons_append]
        refine Walk.plain rfl (by intro val w_ hR hp; exact op_move rfl rfl ⟨Chg.refl _ _, rfl⟩) ?_; dsimp only [List.nil_append, List.cons_append]
        refine Walk.plain rfl (by intro val w_ hR hp; exact op_move rfl rfl ⟨Chg.refl _ _, rfl⟩) ?_; dsimp only [List.nil_append, List.cons_append]
        refine Walk.plain rfl (by intro val w_ hR hp; exact op_indexK T rfl rfl rfl rfl rfl (by omega) ⟨Chg.refl _ _, rfl⟩) ?_; dsimp only [List.nil_append, List.cons_append]
        refine Walk.plain rfl (by intro val w_ hR hp; exact op_fieldAddr T rfl rfl rfl rfl rfl rfl rfl rfl ⟨Chg.refl _ _, rfl⟩) ?_; dsimp only [List.nil_append, List.cons_append]
        refine Walk.plain rfl (by intro val w_ hR hp; exact op_loadF T (he1.keep0 hR) rfl rfl rfl rfl rfl ⟨Chg.refl _ _, rfl⟩) ?_; dsimp only [List.nil_append, List.cons_append]
        refine Walk.plain rfl (by intro val w_ hR hp; exact op_neq rfl rfl rfl (fun hcmp => False.elim (by omega)) (fun hcmp => ⟨Chg.refl _ _, rfl⟩)) ?_; dsimp only [List.nil_append, List.cons_append]
        refine Walk.plain rfl (by intro val w_ hR hp; exact op_move rfl rfl ⟨Chg.refl _ _, rfl⟩) ?_; dsimp only [List.nil_append, List.cons_append]
        refine Walk.guardT rfl rfl rfl (fun _ => rfl) (by intro val w_ hR hp; exact op_move rfl rfl ⟨Chg.refl _ _, rfl⟩) ?_; dsimp only [List.nil_append, List.cons_append]
        refine Walk.guardT rfl rfl rfl (fun _ => rfl) (by intro val w_ hR hp; exact op_move rfl rfl ⟨Chg.refl _ _, rfl⟩) ?_; dsimp only [List.nil_append, List.cons_append]
        refine Walk.guardT rfl rfl rfl (fun _ => rfl) (by intro val w_ hR hp; exact op_indexK T rfl rfl rfl rfl rfl (by omega) ⟨Chg.refl _ _, rfl⟩) ?_; dsimp only [List.nil_append, List.cons_append]
        refine Walk.guardT rfl rfl rfl (fun _ => rfl) (by intro val w_ hR hp; exact op_fieldAddr T rfl rfl rfl rfl rfl rfl rfl rfl ⟨Chg.refl _ _, rfl⟩) ?_; dsimp only [List.nil_append, List.cons_append]
        refine Walk.guardT rfl rfl rfl (fun _ => rfl) (by intro val w_ hR hp; exact op_loadF T (he2.keep0 hR) rfl rfl rfl rfl rfl ⟨Chg.refl _ _, rfl⟩) ?_; dsimp only [List.nil_append, List.cons_append]
        refine Walk.guardT rfl rfl rfl (fun _ => rfl) (by intro val w_ hR hp; exact op_move rfl rfl ⟨Chg.refl _ _, rfl⟩) ?_; dsimp only [List.nil_append, List.cons_append]
        refine Walk.guardT rfl rfl rfl (fun _ => rfl) (by intro val w_ hR hp; exact op_move rfl rfl ⟨Chg.refl _ _, rfl⟩) ?_; dsimp only [List.nil_append, List.cons_append]
        refine Walk.guardT rfl rfl rfl (fun _ => rfl) (by intro val w_ hR hp; exact op_indexK T rfl rfl rfl rfl rfl (by omega) ⟨Chg.refl _ _, rfl⟩) ?_; dsimp only [List.nil_append, List.cons_append]
        refine Walk.guardT rfl rfl rfl (fun _ => rfl) (by intro val w_ hR hp; exact op_fieldAddr T rfl rfl rfl rfl rfl rfl rfl rfl ⟨Chg.refl _ _, rfl⟩) ?_; dsimp only [List.nil_append, List.cons_append]
        refine Walk.guardT rfl rfl rfl (fun _ => rfl) (by intro val w_ hR hp; exact op_loadF T (he1.keep0 hR) rfl rfl rfl rfl rfl ⟨Chg.refl _ _, rfl⟩) ?_; dsimp only [List.nil_append, List.cons_append]
        refine Walk.guardT rfl rfl rfl (fun _ => rfl) (by intro val w_ hR hp; exact op_neq rfl rfl rfl (fun hcmp => False.elim (by omega)) (fun hcmp => ⟨Chg.refl _ _, rfl⟩)) ?_; dsimp only [List.nil_append, List.cons_append]
        refine Walk.plain rfl (by intro val w_ hR hp; exact op_pick rfl rfl rfl rfl ⟨Chg.refl _ _, rfl⟩) ?_; dsimp only [List.nil_append, List.cons_append]
        refine Walk.plain rfl (by intro val w_ hR hp; exact op_move rfl rfl ⟨Chg.refl _ _, rfl⟩) ?_; dsimp only [List.nil_append, List.cons_append]
        refine Walk.guardT rfl rfl rfl (fun _ => rfl) (by intro val w_ hR hp; exact op_move rfl rfl ⟨Chg.refl _ _, rfl⟩) ?_; dsimp only [List.nil_append, List.cons_append]
        refine Walk.guardT rfl rfl rfl (fun _ => rfl) (by intro val w_ hR hp; exact op_move rfl rfl ⟨Chg.refl _ _, rfl⟩) ?_; dsimp only [List.nil_append, List.cons_append]
        refine Walk.guardT rfl rfl rfl (fun _ => rfl) (by intro val w_ hR hp; exact op_indexK T rfl rfl rfl rfl rfl (by omega) ⟨Chg.refl _ _, rfl⟩) ?_; dsimp only [List.nil_append, List.cons_append]
        refine Walk.guardT rfl rfl rfl (fun _ => rfl) (by intro val w_ hR hp; exact op_fieldAddr T rfl rfl rfl rfl rfl rfl rfl rfl ⟨Chg.refl _ _, rfl⟩) ?_; dsimp only [List.nil_append, List.cons_append]
        refine Walk.guardT rfl rfl rfl (fun _ => rfl) (by intro val w_ hR hp; exact op_fieldAddr T rfl rfl rfl rfl rfl rfl rfl rfl ⟨Chg.refl _ _, rfl⟩) ?_; dsimp only [List.nil_append, List.cons_append]
        refine Walk.guardT rfl rfl rfl (fun _ => rfl) (by intro val w_ hR hp; exact op_loadF2 T (he2.keep0 hR) rfl rfl rfl rfl rfl ⟨Chg.refl _ _, rfl⟩) ?_; dsimp only [List.nil_append, List.cons_append]
        refine Walk.guardT rfl rfl rfl (fun _ => rfl) (by intro val w_ hR hp; exact op_move rfl rfl ⟨Chg.refl _ _, rfl⟩) ?_; dsimp only [List.nil_append, List.cons_append]
        refine Walk.guardT rfl rfl rfl (fun _ => rfl) (by intro val w_ hR hp; exact op_move rfl rfl ⟨Chg.refl _ _, rfl⟩) ?_; dsimp only [List.nil_append, List.cons_append]
        refine Walk.guardT rfl rfl rfl (fun _ => rfl) (by intro val w_ hR hp; exact op_indexK T rfl rfl rfl rfl rfl (by omega) ⟨Chg.refl _ _, rfl⟩) ?_; dsimp only [List.nil_append, List.cons_append]
        refine Walk.guardT rfl rfl rfl (fun _ => rfl) (by intro val w_ hR hp; exact op_fieldAddr T rfl rfl rfl rfl rfl rfl rfl rfl ⟨Chg.refl _ _, rfl⟩) ?_; dsimp only [List.nil_append, List.cons_append]
        refine Walk.guardT rfl rfl rfl (fun _ => rfl) (by intro val w_ hR hp; exact op_fieldAddr T rfl rfl rfl rfl rfl rfl rfl rfl ⟨Chg.refl _ _, rfl⟩) ?_; dsimp only [List.nil_append, List.cons_append]
        refine Walk.guardT rfl rfl rfl (fun _ => rfl) (by intro val w_ hR hp; exact op_loadF2 T (he1.keep0 hR) rfl rfl rfl rfl rfl ⟨Chg.refl _ _, rfl⟩) ?_; dsimp only [List.nil_append, List.cons_append]
        refine Walk.guardT rfl rfl rfl (fun _ => rfl) (by intro val w_ hR hp; exact op_neq rfl rfl rfl (fun hcmp => False.elim (by omega)) (fun hcmp => ⟨Chg.refl _ _, rfl⟩)) ?_; dsimp only [List.nil_append, List.cons_append]
        refine Walk.plain rfl (by intro val w_ hR hp; exact op_pick rfl rfl rfl rfl ⟨Chg.refl _ _, rfl⟩) ?_; dsimp only [List.nil_append, List.cons_append]
        refine Walk.plain rfl (by intro val w_ hR hp; exact op_move rfl rfl ⟨Chg.refl _ _, rfl⟩) ?_; dsimp only [List.nil_append, List.cons_append]
        refine Walk.guardT rfl rfl rfl (fun _ => rfl) (by intro val w_ hR hp; exact op_move rfl rfl ⟨Chg.refl _ _, rfl⟩) ?_; dsimp only [List.nil_append, List.cons_append]
        refine Walk.guardT rfl rfl rfl (fun _ => rfl) (by intro val w_ hR hp; exact op_move rfl rfl ⟨Chg.refl _ _, rfl⟩) ?_; dsimp only [List.nil_append, List.cons_append]
        skip
        refine Walk.fin ?_
        intro val w6 hc6 hp
        clear hp
        replace hc5 := hc5.trans' hc6
        replace he1 := he1.keep0 hc6
        replace he2 := he2.keep0 hc6
        refine runL ?_
        refine o1 rfl (op_indexK T rfl rfl rfl rfl rfl (by omega) ?_)
        refine o1 rfl (op_fieldAddr T rfl rfl rfl rfl rfl rfl rfl rfl ?_)
        refine o1 rfl (op_fieldAddr T rfl rfl rfl rfl rfl rfl rfl rfl ?_)
        refine o1 rfl (op_loadF T he2 rfl rfl rfl rfl rfl ?_)
        refine o1 rfl ?_
        refine op_str_neq (a := [107]) (b := [107]) rfl rfl rfl (fun h => absurd rfl h) (fun _ => ?_)
        refine go T 9 rfl ?_
        refine adI rfl rfl rfl rfl (by omega) (by omega) ?_
        refine go T 2 rfl ?_
        exact Round_n (k + 1) ⟨rfl, rfl, rfl, trivial⟩ ⟨by omega, hc5⟩ (by omega)
      refine go T 5 rfl ?_
      refine rndX ?_
      refine go T 8 rfl ?_
      exact post1 (.inl rfl) rfl rfl ⟨hcw4.trans' hc5, rfl⟩
    · clear hgo1
      refine run ?_
      refine go T 6 rfl ?_
      refine ltF rfl rfl rfl rfl (by omega) ?_
      refine go T 9 rfl ?_
      refine rndX ?_
      refine go T 5 rfl ?_
      refine o1 rfl ?_
      refine op_call rfl rfl rfl (ops_has x.bk (by show (l.map addK).length ≤ 1000000; rw [List.length_map]; omega)) ?_
      rintro v w4 ⟨_, ho, hc4⟩
      have hso : SliceK 9 (RdL opL) w4 v (l.map addK) := ho.readsK opL_len
      clear ho
      obtain ⟨Av, cv, rfl, _, _⟩ := hso.form
      replace x := x.keep0 hc4
      have hcw4 : Chg [] w w4 := hcw.trans' hc4
      have hsl : SliceK 9 (RdL opL) w4 ul l := x.oul.readsK opL_len
      obtain ⟨Al, cl, hul, _, _⟩ := hsl.form
      subst hul
      have hml : (l.map addK).length = l.length := List.length_map _
      refine go T 10 rfl ?_
      refine neF rfl rfl rfl rfl (by omega) ?_
      refine go T 12 rfl ?_
      refine W_loop (σ := Nat) (fun k => [(7, .slice Al l.length cl), (12, .slice Av (l.map addK).length cv), (13, .int .i64 k)]) (fun k w' => k ≤ l.length ∧ Chg [] w4 w') (fun k => l.length - k) 0 ⟨rfl, rfl, rfl, trivial⟩ ⟨Nat.zero_le _, Chg.refl _ _⟩ ?_
      rintro k w5 ⟨hk1, hc5⟩
      refine run ?_
      refine go T 6 rfl ?_
      refine ltS rfl rfl rfl rfl (fun hcmp => ?_) (fun hcmp => ?_)
      · have hkl : k < l.length := by omega
        have hxl := List.getElem?_eq_getElem hkl
        have hxm : (l.map addK)[k]? = some (addK l[k]) := by rw [List.getElem?_map, hxl]; rfl
        obtain ⟨a1, rfl, he1⟩ := (hsl.keepR hc5).at hxl
        obtain ⟨a2, rfl, he2⟩ := (hso.keepR hc5).at hxm
        generalize l[k] = o at *
        unfold addK at he2
        unfold opL at he1 he2
        refine go T 8 rfl ?_
        refine W_walk 42 [] fol (by kernel_rfl) (by kernel_rfl) ?_
        refine Walk.plain rfl (by intro val w_ hR hp; exact op_move rfl rfl ⟨Chg.refl _ _, rfl⟩) ?_; dsimp only [List.nil_append, List.cons_append]
        refine Walk.plain rfl (by intro val w_ hR hp; exact op_move rfl rfl ⟨Chg.refl _ _, rfl⟩) ?_; dsimp only [List.nil_append, List.cons_append]
        refine Walk.plain rfl (by intro val w_ hR hp; exact op_indexK T rfl rfl rfl rfl rfl (by omega) ⟨Chg.refl _ _, rfl⟩) ?_; dsimp only [List.nil_append, List.cons_append]
        refine Walk.plain rfl (by intro val w_ hR hp; exact op_fieldAddr T rfl rfl rfl rfl rfl rfl rfl rfl ⟨Chg.refl _ _, rfl⟩) ?_; dsimp only [List.nil_append, List.cons_append]
        refine Walk.plain rfl (by intro val w_ hR hp; exact op_loadF T (he2.keep0 hR) rfl rfl rfl rfl rfl ⟨Chg.refl _ _, rfl⟩) ?_; dsimp only [List.nil_append, List.cons_append]
        refine Walk.plain rfl (by intro val w_ hR hp; exact op_move rfl rfl ⟨Chg.refl _ _, rfl⟩) ?_; dsimp only [List.nil_append, List.cons_append]
        refine Walk.plain rfl (by intro val w_ hR hp; exact op_move rfl rfl ⟨Chg.refl _ _, rfl⟩) ?_; dsimp only [List.nil_append, List.cons_append]
        refine Walk.plain rfl (by intro val w_ hR hp; exact op_indexK T rfl rfl rfl rfl rfl (by omega) ⟨Chg.refl _ _, rfl⟩) ?_; dsimp only [List.nil_append, List.cons_append]
        refine Walk.plain rfl (by intro val w_ hR hp; exact op_fieldAddr T rfl rfl rfl rfl rfl rfl rfl rfl ⟨Chg.refl _ _, rfl⟩) ?_; dsimp only [List.nil_append, List.cons_append]
        refine Walk.plain rfl (by intro val w_ hR hp; exact op_loadF T (he1.keep0 hR) rfl rfl rfl rfl rfl ⟨Chg.refl _ _, rfl⟩) ?_; dsimp only [List.nil_append, List.cons_append]
        refine Walk.plain rfl (by intro val w_ hR hp; exact op_neq rfl rfl rfl (fun hcmp => False.elim (by omega)) (fun hcmp => ⟨Chg.refl _ _, rfl⟩)) ?_; dsimp only [List.nil_append, List.cons_append]
        refine Walk.plain rfl (by intro val w_ hR hp; exact op_move rfl rfl ⟨Chg.refl _ _, rfl⟩) ?_; dsimp only [List.nil_append, List.cons_append]
        refine Walk.guardT rfl rfl rfl (fun _ => rfl) (by intro val w_ hR hp; exact op_move rfl rfl ⟨Chg.refl _ _, rfl⟩) ?_; dsimp only [List.nil_append, List.cons_append]
        refine Walk.guardT rfl rfl rfl (fun _ => rfl) (by intro val w_ hR hp; exact op_move rfl rfl ⟨Chg.refl _ _, rfl⟩) ?_; dsimp only [List.nil_append, List.cons_append]
        refine Walk.guardT rfl rfl rfl (fun _ => rfl) (by intro val w_ hR hp; exact op_indexK T rfl rfl rfl rfl rfl (by omega) ⟨Chg.refl _ _, rfl⟩) ?_; dsimp only [List.nil_append, List.cons_append]
        refine Walk.guardT rfl rfl rfl (fun _ => rfl) (by intro val w_ hR hp; exact op_fieldAddr T rfl rfl rfl rfl rfl rfl rfl rfl ⟨Chg.refl _ _, rfl⟩) ?_; dsimp only [List.nil_append, List.cons_append]
        refine Walk.guardT rfl rfl rfl (fun _ => rfl) (by intro val w_ hR hp; exact op_loadF T (he2.keep0 hR) rfl rfl rfl rfl rfl ⟨Chg.refl _ _, rfl⟩) ?_; dsimp only [List.nil_append, List.cons_append]
        refine Walk.guardT rfl rfl rfl (fun _ => rfl) (by intro val w_ hR hp; exact op_move rfl rfl ⟨Chg.refl _ _, rfl⟩) ?_; dsimp only [List.nil_append, List.cons_append]
        refine Walk.guardT rfl rfl rfl (fun _ => rfl) (by intro val w_ hR hp; exact op_move rfl rfl ⟨Chg.refl _ _, rfl⟩) ?_; dsimp only [List.nil_append, List.cons_append]
        refine Walk.guardT rfl rfl rfl (fun _ => rfl) (by intro val w_ hR hp; exact op_indexK T rfl rfl rfl rfl rfl (by omega) ⟨Chg.refl _ _, rfl⟩) ?_; dsimp only [List.nil_append, List.cons_append]
        refine Walk.guardT rfl rfl rfl (fun _ => rfl) (by intro val w_ hR hp; exact op_fieldAddr T rfl rfl rfl rfl rfl rfl rfl rfl ⟨Chg.refl _ _, rfl⟩) ?_; dsimp only [List.nil_append, List.cons_append]
        refine Walk.guardT rfl rfl rfl (fun _ => rfl) (by intro val w_ hR hp; exact op_loadF T (he1.keep0 hR) rfl rfl rfl rfl rfl ⟨Chg.refl _ _, rfl⟩) ?_; dsimp only [List.nil_append, List.cons_append]
        refine Walk.guardT rfl rfl rfl (fun _ => rfl) (by intro val w_ hR hp; exact op_neq rfl rfl rfl (fun hcmp => False.elim (by omega)) (fun hcmp => ⟨Chg.refl _ _, rfl⟩)) ?_; dsimp only [List.nil_append, List.cons_append]
        refine Walk.plain rfl (by intro val w_ hR hp; exact op_pick rfl rfl rfl rfl ⟨Chg.refl _ _, rfl⟩) ?_; dsimp only [List.nil_append, List.cons_append]
        refine Walk.plain rfl (by intro val w_ hR hp; exact op_move rfl rfl ⟨Chg.refl _ _, rfl⟩) ?_; dsimp only [List.nil_append, List.cons_append]
        refine Walk.guardT rfl rfl rfl (fun _ => rfl) (by intro val w_ hR hp; exact op_move rfl rfl ⟨Chg.refl _ _, rfl⟩) ?_; dsimp only [List.nil_append, List.cons_append]
        refine Walk.guardT rfl rfl rfl (fun _ => rfl) (by intro val w_ hR hp; exact op_move rfl rfl ⟨Chg.refl _ _, rfl⟩) ?_; dsimp only [List.nil_append, List.cons_append]
        refine Walk.guardT rfl rfl rfl (fun _ => rfl) (by intro val w_ hR hp; exact op_indexK T rfl rfl rfl rfl rfl (by omega) ⟨Chg.refl _ _, rfl⟩) ?_; dsimp only [List.nil_append, List.cons_append]
        refine Walk.guardT rfl rfl rfl (fun _ => rfl) (by intro val w_ hR hp; exact op_fieldAddr T rfl rfl rfl rfl rfl rfl rfl rfl ⟨Chg.refl _ _, rfl⟩) ?_; dsimp only [List.nil_append, List.cons_append]
        refine Walk.guardT rfl rfl rfl (fun _ => rfl) (by intro val w_ hR hp; exact op_fieldAddr T rfl rfl rfl rfl rfl rfl rfl rfl ⟨Chg.refl _ _, rfl⟩) ?_; dsimp only [List.nil_append, List.cons_append]
        refine Walk.guardT rfl rfl rfl (fun _ => rfl) (by intro val w_ hR hp; exact op_loadF2 T (he2.keep0 hR) rfl rfl rfl rfl rfl ⟨Chg.refl _ _, rfl⟩) ?_; dsimp only [List.nil_append, List.cons_append]
        refine Walk.guardT rfl rfl rfl (fun _ => rfl) (by intro val w_ hR hp; exact op_move rfl rfl ⟨Chg.refl _ _, rfl⟩) ?_; dsimp only [List.nil_append, List.cons_append]
        refine Walk.guardT rfl rfl rfl (fun _ => rfl) (by intro val w_ hR hp; exact op_move rfl rfl ⟨Chg.refl _ _, rfl⟩) ?_; dsimp only [List.nil_append, List.cons_append]
        refine Walk.guardT rfl rfl rfl (fun _ => rfl) (by intro val w_ hR hp; exact op_indexK T rfl rfl rfl rfl rfl (by omega) ⟨Chg.refl _ _, rfl⟩) ?_; dsimp only [List.nil_append, List.cons_append]
        refine Walk.guardT rfl rfl rfl (fun _ => rfl) (by intro val w_ hR hp; exact op_fieldAddr T rfl rfl rfl rfl rfl rfl rfl rfl ⟨Chg.refl _ _, rfl⟩) ?_; dsimp only [List.nil_append, List.cons_append]
        refine Walk.guardT rfl rfl rfl (fun _ => rfl) (by intro val w_ hR hp; exact op_fieldAddr T rfl rfl rfl rfl rfl rfl rfl rfl ⟨Chg.refl _ _, rfl⟩) ?_; dsimp only [List.nil_append, List.cons_append]
        refine Walk.guardT rfl rfl rfl (fun _ => rfl) (by intro val w_ hR hp; exact op_loadF2 T (he1.keep0 hR) rfl rfl rfl rfl rfl ⟨Chg.refl _ _, rfl⟩) ?_; dsimp only [List.nil_append, List.cons_append]
        refine Walk.guardT rfl rfl rfl (fun _ => rfl) (by intro val w_ hR hp; exact op_neq rfl rfl rfl (fun hcmp => False.elim (by omega)) (fun hcmp => ⟨Chg.refl _ _, rfl⟩)) ?_; dsimp only [List.nil_append, List.cons_append]
        refine Walk.plain rfl (by intro val w_ hR hp; exact op_pick rfl rfl rfl rfl ⟨Chg.refl _ _, rfl⟩) ?_; dsimp only [List.nil_append, List.cons_append]
        refine Walk.plain rfl (by intro val w_ hR hp; exact op_move rfl rfl ⟨Chg.refl _ _, rfl⟩) ?_; dsimp only [List.nil_append, List.cons_append]
        refine Walk.guardT rfl rfl rfl (fun _ => rfl) (by intro val w_ hR hp; exact op_move rfl rfl ⟨Chg.refl _ _, rfl⟩) ?_; dsimp only [List.nil_append, List.cons_append]
        refine Walk.guardT rfl rfl rfl (fun _ => rfl) (by intro val w_ hR hp; exact op_move rfl rfl ⟨Chg.refl _ _, rfl⟩) ?_; dsimp only [List.nil_append, List.cons_append]
        skip
        refine Walk.fin ?_
        intro val w6 hc6 hp
        clear hp
        replace hc5 := hc5.trans' hc6
        replace he1 := he1.keep0 hc6
        replace he2 := he2.keep0 hc6
        refine runL ?_
        refine o1 rfl (op_indexK T rfl rfl rfl rfl rfl (by omega) ?_)
        refine o1 rfl (op_fieldAddr T rfl rfl rfl rfl rfl rfl rfl rfl ?_)
        refine o1 rfl (op_fieldAddr T rfl rfl rfl rfl rfl rfl rfl rfl ?_)
        refine o1 rfl (op_loadF T he2 rfl rfl rfl rfl rfl ?_)
        refine o1 rfl ?_
        refine op_str_neq (a := [107]) (b := [107]) rfl rfl rfl (fun h => absurd rfl h) (fun _ => ?_)
        refine go T 9 rfl ?_
        refine adI rfl rfl rfl rfl (by omega) (by omega) ?_
        refine go T 2 rfl ?_
        exact Round_n (k + 1) ⟨rfl, rfl, rfl, trivial⟩ ⟨by omega, hc5⟩ (by omega)
      refine go T 5 rfl ?_
      refine rndX ?_
      refine go T 8 rfl ?_
      exact post1 (.inl rfl) rfl rfl ⟨hcw4.trans' hc5, rfl⟩
end Go.Proofs.Ytjkbbkomajjegaa.Try
/-! From a law's walk to its row: arguments opened by their types' shape; arguments stay; the contract. -/
set_option linter.unusedVariables false
set_option linter.unusedSimpArgs false
namespace Go.Vc
open Go Go.RowKit Go.ChangeShapes Go.WideShapes Go.ChangeAt

/-- A reading of one cell at type t gives some a with R. -/
def Opens (P : Program) (t : TypeId) {α : Type} (R : World → Value → α → Prop) : Prop :=
  ∀ {H : Type} (enc : TypeId × Value → H) (w : World) (base : Nat) (spare : Nat → Bool) (held : Bool) (fuel : Nat) (cs : List Value) (x : DataW H × List MemPlace),
    DataW.trod enc P w base spare held fuel t cs = some x → ∃ u a, cs = [u] ∧ R w u a

theorem list_of {α : Type} {p : Nat → α → Prop} : ∀ n, (∀ i, i < n → ∃ a, p i a) → ∃ L : List α, L.length = n ∧ ∀ i a, L[i]? = some a → p i a
  | 0, _ => ⟨[], rfl, fun i a h => by simp at h⟩
  | n + 1, h => by
    obtain ⟨L, hl, hp⟩ := list_of n (fun i hi => h i (by omega))
    obtain ⟨a, ha⟩ := h n (by omega)
    refine ⟨L ++ [a], by simp [hl], fun i b hb => ?_⟩
    by_cases hi : i < L.length
    · rw [List.getElem?_append_left hi] at hb; exact hp i b hb
    · have : i = L.length := by have := (List.getElem?_eq_some_iff.1 hb).1; simp at this; omega
      subst this
      rw [List.getElem?_append_right (Nat.le_refl _)] at hb
      simp at hb; subst hb; rw [hl]; exact ha

theorem Opens.slice {P : Program} {t e : TypeId} {α : Type} {R : World → Value → α → Prop} (ht : P.underlying t = some (.slice e)) (hc : P.cellsOf e = 1) (hR : Opens P e R) : Opens P t (SliceOf R) := by
  intro H enc w base spare held fuel cs x h
  rcases Go.Deep.open_slice1 ht hc h with ⟨rfl, _⟩ | ⟨a, len, cap, m, n, V, D, Pl, rfl, hb, hl, hm, hmm, _, hx⟩
  · exact ⟨_, [], rfl, SliceOf.nil _ _⟩
  · have hlm : len ≤ m := by rw [hmm]; split <;> omega
    obtain ⟨L, hlen, hL⟩ := list_of (p := fun i a' => R w (V i) a') len (fun i hi => by
      obtain ⟨_, htr⟩ := hx i (by omega)
      obtain ⟨u, a', hu, hr⟩ := hR enc w base spare held n _ _ htr
      injection hu with hu _
      subst hu
      exact ⟨a', hr⟩)
    refine ⟨_, L, rfl, SliceOf.mk hlen.symm (by omega) hm fun i a' ha => ?_⟩
    have hi : i < len := by have := (List.getElem?_eq_some_iff.1 ha).1; omega
    exact ⟨a, V i, rfl, (hx i (by omega)).1, hL i a' ha⟩

theorem Opens.u8 {P : Program} {t : TypeId} (ht : P.underlying t = some (.int .u8)) : Opens P t Ru8 := by
  intro H enc w base spare held fuel cs x h
  obtain ⟨n, rfl, _, hw⟩ := DataW.trod_int ht h
  have hb : 0 ≤ n ∧ n ≤ 255 := by simp [Lit.wf, IntKind.min, IntKind.max, IntKind.signed, IntKind.bits] at hw; omega
  refine ⟨_, UInt8.ofNat n.toNat, rfl, ?_⟩
  unfold Ru8
  have : ((UInt8.ofNat n.toNat).toNat : Int) = n := by
    rw [UInt8.toNat_ofNat']; omega
  rw [this]
theorem Opens.i64 {P : Program} {t : TypeId} (ht : P.underlying t = some (.int .i64)) : Opens P t Ri64 := by
  intro H enc w base spare held fuel cs x h
  obtain ⟨n, rfl, _, hw⟩ := DataW.trod_int ht h
  have hb : -9223372036854775808 ≤ n ∧ n ≤ 9223372036854775807 := by simp [Lit.wf, IntKind.min, IntKind.max, IntKind.signed, IntKind.bits] at hw; omega
  exact ⟨_, n, rfl, rfl, hb.1, hb.2⟩
theorem Opens.bool {P : Program} {t : TypeId} (ht : P.underlying t = some .bool) : Opens P t Rbool := by
  intro H enc w base spare held fuel cs x h
  obtain ⟨b, rfl, _⟩ := DataW.trod_bool ht h
  exact ⟨_, b, rfl, rfl⟩
theorem Opens.str {P : Program} {t : TypeId} (ht : P.underlying t = some .string) : Opens P t Rstr := by
  intro H enc w base spare held fuel cs x h
  obtain ⟨s, rfl, _, hs⟩ := DataW.trod_string ht h
  exact ⟨_, s, rfl, rfl, hs⟩

/-- An argument, opened. -/
theorem Opens.arg {P : Program} {t : TypeId} {α : Type} {R : World → Value → α → Prop} (h : Opens P t R) {w : World} {r : Reach} {base : Nat} {v : Value} {H : Type} {enc : TypeId × Value → H} {sp : Nat → Bool} {held : Bool} {d : DataW H} {ps : List MemPlace} {b0 : Nat}
    (hd : P.underlying t = some .bool ∨ P.underlying t = some .string ∨ (∃ k, P.underlying t = some (.int k)) ∨ ∃ e, P.underlying t = some (.slice e))
    (hval : Value.okWide P w r base t v) (ht : DataW.Trod enc P w b0 sp held t v d ps) : ∃ a, R w v a := by
  obtain ⟨fuel, hf⟩ := ht
  obtain ⟨u, a, hu, hr⟩ := h enc w b0 sp held fuel _ _ hf
  have hv : v.cells = #[v] := by
    rcases hd with hd | hd | ⟨k, hd⟩ | ⟨e, hd⟩
    · obtain ⟨b, rfl⟩ := okWide_bool hd hval; rfl
    · obtain ⟨b, rfl⟩ := okWide_string hd hval; rfl
    · obtain ⟨b, rfl⟩ := okWide_int hd hval; rfl
    · obtain ⟨a, l, c, rfl⟩ := okWide_slice hd hval; rfl
  rw [hv] at hu
  simp at hu
  subst hu
  exact ⟨a, hr⟩

theorem args_stay {H : Type} {enc : TypeId × Value → H} {P : Program} (hl : laidOutB P = true) {W W' : World} (hb : Below W.heap.size W W') :
    ∀ (ts : List TypeId) (vs : List Value) (ds : List (DataW H)) (ps : List MemPlace), (∀ t ∈ ts, P.readableRec t = true ∧ t < P.types.size) → DataW.TrodAll enc P W 0 (fun _ => true) true ts vs ds ps → (∀ x ∈ ps, x.block < W.heap.size) →
      DataW.TrodAll enc P W' 0 (fun b => decide (b < W.heap.size)) true ts vs ds ps
  | [], vs, ds, ps, _, h, _ => by
    obtain ⟨rfl, rfl, rfl⟩ := trodAll_nil h
    exact trodAll_mk0
  | t :: ts, vs, ds, ps, ht, h, hlt => by
    obtain ⟨v, vs', d, ds', p, q, rfl, rfl, rfl, h0, r0⟩ := trodAll_cons h
    exact trodAll_cons_mk (Below.trod hl (ht t (by simp)).1 (ht t (by simp)).2 h0 hb (fun x hx => hlt x (by simp [hx])))
      (args_stay hl hb ts vs' ds' q (fun t' h' => ht t' (by simp [h'])) r0 (fun x hx => hlt x (by simp [hx])))

/-- The contract of a law's row, from its walk. -/
theorem law_lifted {C : Checked} {os : Os} {f : FuncId} {fn : Func} {s : ChangeSpec} {H : Type} {enc : TypeId × Value → H} {tb : TypeId}
    (own : ownKnob C.prog.godebug = none) (laid : laidOutB C.prog = true) (started : os.Started) (noInit : C.prog.inits.idxOf? f = none) (hfn : C.prog.funcs[f]? = some fn)
    (hvars : s.vars = []) (hres : fn.resultTypes = #[tb]) (htb : C.prog.underlying tb = some .bool)
    (hparams : ∀ t ∈ fn.params.toList, C.prog.readableRec t = true ∧ t < C.prog.types.size)
    (hspec : ∀ ds : List (DataW H), ds.length = fn.params.size → s.fn H ds = { results := [.lit (.bool true)], args := ds })
    (witness : ∃ (w : World) (tape : Tape) (i : Input), w.os = os ∧ (w.forCall tape i).Shaped C.prog ∧ i.vars = [] ∧ Input.okWide C.prog (w.forCall tape i) .any w.heap.size f i ∧
      s.pre6 enc C.prog fn [] false (w.forCall tape i).memory i.args ∧ ({} : Assume).holds C.prog (lone (Frame.enter C.prog f i.args .normal) [] (w.forCall tape i)))
    (walk : ∀ (W : World) (base : Nat) (args : Array Value) (ds : List (DataW H)) (ps : List MemPlace), (∀ (j : Nat) t v, fn.params[j]? = some t → args[j]? = some v → Value.okWide C.prog W .any base t v) →
      DataW.TrodAll enc C.prog W 0 (fun _ => true) true fn.params.toList args.toList ds ps → Calls C.prog f args W fun e W' => e = .returned (.bool true) ∧ Chg [] W W') :
    ReturnsInHanded {} C os f .any (s.pre6 enc C.prog fn [] false) (s.post enc C.prog fn false true false false) := by
  refine returnsInHanded_of_change own started noInit hfn witness ?_
  intro W base args ds gs before hval hW _ _
  have hW' := hW
  obtain ⟨p, q, hA, hV, rfl, hfz, hnd⟩ := hW
  rw [hvars] at hV
  obtain ⟨rfl, rfl⟩ := trodVars_none hV
  refine (walk W base args ds p hval hA).mono fun e W' ⟨he, hc⟩ => ?_
  subst he
  have bel := hc.below
  have hlen : ds.length = fn.params.size := by
    have := trodAll_length hA
    have h2 := this.1; have h3 := this.2
    simp at h2 h3 ⊢
    omega
  have hsp := hspec ds hlen
  refine ⟨_, rfl, ds, [], p ++ [], [], p, [], hW', ?_, ?_, ?_, bel.frame _, fun h => by cases h⟩
  · rw [List.append_nil, hsp, hres]
    exact trodAll_mk1 (shut_bool htb _)
  · rw [List.append_nil, hsp]
    exact args_stay laid bel _ _ _ _ hparams hA (fun x hx => hW'.lt x (by simp [hx]))
  · rw [hvars, List.append_nil, hsp]; exact rfl
end Go.Vc
/- BookAll: whatever the arguments that can be read as data, in whatever memory, the call returns true and leaves what was there as it was. No condition. -/
set_option linter.unusedVariables false
namespace Go.Proofs.Ytjkbbkomajjegaa
open Go Go.Vc Go.ChangeShapes Go.WideShapes Go.ChangeAt Go.RowKit
theorem bookAll_own : ownKnob Go.Proofs.Try.prog.godebug = none := by kernel_rfl
theorem bookAll_laid : laidOutB Go.Proofs.Try.prog = true := by kernel_rfl
set_option maxRecDepth 100000 in
theorem bookAll_walk (W : World) (base : Nat) (args : Array Value) {H : Type} {enc : TypeId × Value → H} (ds : List (DataW H)) (ps : List MemPlace) (hval0 : ∀ (j : Nat) t v, Go.Proofs.Try.f4.params[j]? = some t → args[j]? = some v → Value.okWide Go.Proofs.Try.prog W .any base t v)
    (hA : DataW.TrodAll enc Go.Proofs.Try.prog W 0 (fun _ => true) true Go.Proofs.Try.f4.params.toList args.toList ds ps) : Calls Go.Proofs.Try.prog 4 args W fun e W' => e = .returned (.bool true) ∧ Chg [] W W' := by
  have hval := hval0
  rw [Go.Proofs.Try.params4] at hA hval
  obtain ⟨v0, vs0, d0, ds0, p0, q0, hargs, rfl, rfl, h0, r0⟩ := trodAll_cons hA
  obtain ⟨v1, vs1, d1, ds1, p1, q1, rfl, rfl, rfl, h1, r1⟩ := trodAll_cons r0
  obtain ⟨rfl, rfl, rfl⟩ := trodAll_nil r1
  obtain rfl : args = #[v0, v1] := by cases args; simp_all
  obtain ⟨a0, x0⟩ := Opens.arg (Opens.slice Go.Proofs.Try.underlying22 (by kernel_rfl : Go.Proofs.Try.prog.cellsOf 3 = 1) (Opens.i64 Go.Proofs.Try.underlying3)) (.inr (.inr (.inr ⟨_, Go.Proofs.Try.underlying22⟩))) (hval 0 _ v0 rfl rfl) h0
  obtain ⟨a1, x1⟩ := Opens.arg (Opens.slice Go.Proofs.Try.underlying22 (by kernel_rfl : Go.Proofs.Try.prog.cellsOf 3 = 1) (Opens.i64 Go.Proofs.Try.underlying3)) (.inr (.inr (.inr ⟨_, Go.Proofs.Try.underlying22⟩))) (hval 1 _ v1 rfl rfl) h1
  obtain ⟨A, c, rfl, _⟩ := x0.form; obtain ⟨A2, c2, rfl, _⟩ := x1.form
  refine (Try.bookAll_has A _ c A2 _ c2 a0 a1 W x0 x1).2.mono ?_
  rintro e W' ⟨v, rfl, hc, rfl⟩
  exact ⟨rfl, hc⟩
set_option maxRecDepth 100000 in
theorem bookAll_lifted (os : Os) (started : os.Started) (H : Type) (enc : TypeId × Value → H) :
    ReturnsInHanded {} Go.Proofs.Try.checked os 4 .any (Rows.bookAllSpec.pre6 enc Go.Proofs.Try.prog Go.Proofs.Try.f4 Rows.bookAllRow.domain false) (Rows.bookAllSpec.post enc Go.Proofs.Try.prog Go.Proofs.Try.f4 false true false false) := by
  refine law_lifted (C := Go.Proofs.Try.checked) (tb := 4) bookAll_own bookAll_laid started (by kernel_rfl) Go.Proofs.Try.func4 rfl rfl Go.Proofs.Try.underlying4 ?_ ?_
    (ChangeSpec.witness6 (enc := enc) (C := Go.Proofs.Try.checked) false ⟨#[], #[.slice none 0 0, .slice none 0 0], []⟩ 8 (by kernel_rfl) (by kernel_rfl) (by kernel_rfl) (by kernel_rfl)) (fun W base args ds ps hval hA => bookAll_walk W base args ds ps hval hA)
  · intro t ht
    rw [Go.Proofs.Try.params4] at ht
    simp only [List.mem_cons, List.not_mem_nil, or_false] at ht
    rcases ht with rfl | rfl
    all_goals exact ⟨by kernel_rfl, of_decide_eq_true (by kernel_rfl)⟩
  · intro ds hd
    rw [Go.Proofs.Try.params4] at hd
    match ds, hd with
    | [d0, d1], _ => rfl
theorem bookAll_holds : Rows.BookAllSaid :=
  OpenClaim.holds_of_wide 4 Go.Proofs.Try.f4 rfl rfl rfl rfl rfl rfl rfl ⟨rfl, rfl, rfl, rfl, rfl⟩ rfl rfl rfl rfl rfl (by kernel_rfl) Go.Proofs.Try.func4 (by kernel_rfl)
    (of_decide_eq_true (by kernel_rfl)) (by unfold Func.isWrapper; first | (rw [if_pos (by decide +kernel)]; kernel_rfl) | (rw [if_neg (by decide +kernel)]; exact ⟨rfl, rfl⟩))
    (fun os started H enc _ => bookAll_lifted os started H enc)
#print axioms bookAll_holds
end Go.Proofs.Ytjkbbkomajjegaa
