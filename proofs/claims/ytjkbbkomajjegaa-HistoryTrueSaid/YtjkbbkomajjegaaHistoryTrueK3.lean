/- The walk of one law and the row that it ends in: whatever the arguments that can be read as data, the call returns true and leaves what was there as it was. No condition. -/
import Derived.Test.YtjkbbkomajjegaaHistoryTrueK2
import Derived.Test.YtjkbbkomajjegaaHistoryTrueK1
import Derived.Test.YtjkbbkomajjegaaRows
import Derived.ProofKit
import Derived.OpenShut
import Derived.ChangeOld
import Derived.ChangeCalls
import Derived.Deep.Slices
/-! History: the place of a sight. -/
set_option linter.unusedVariables false
namespace Go.Proofs.Ytjkbbkomajjegaa.Try
open Go Go.Vc
section
variable {w0 w w1 : World} {g r : Nat} {ops : List OpM} {chs : List ChgM} {sts : List OpM} {pls : List Int} {vo vc vs vp : Value}
set_option maxHeartbeats 4000000 in
theorem place_has (x : JAt w0 w g ops chs sts pls vo vc vs vp) {k : Nat} {o : OpM} (hk : sts[k]? = some o) (hpl : pls.length ≤ sts.length) :
    Has Go.Proofs.Try.prog 25 #[ptrB g, .int .i64 k] w (fun v w' => v = .tuple #[.int .i64 (placeM ops chs sts pls o).1, .bool (placeM ops chs sts pls o).2] ∧ Chg [] w w') := by
  refine enter Go.Proofs.Try.func25 rfl rfl (by decide) rfl (e := [(0, ptrB g), (1, .int .i64 k)]) ⟨rfl, rfl, trivial⟩ ?_
  unfold ptrB
  have hb := x.blk
  obtain ⟨Ac, cc, rfl, hl1, hl2⟩ := x.chsR.form
  obtain ⟨As, cs, rfl, hl3, hl4⟩ := x.stsR.form
  unfold maxLen at hl2 hl4
  have hks : k < sts.length := (List.getElem?_eq_some_iff.1 hk).1
  obtain ⟨ads, rfl, he⟩ := x.stsR.at hk
  refine run ?_
  refine go T 11 rfl ?_
  refine ldB T hb rfl rfl rfl rfl rfl rfl ?_
  refine go T 1 rfl ?_
  refine o1 rfl (op_indexK T rfl rfl rfl rfl rfl (by omega) ?_)
  refine o1 rfl (op_loadE T he rfl rfl rfl rfl rfl ?_)
  refine o1 rfl ?_
  refine op_alloc T rfl rfl (fun g6 w3 hs3 hc3 hg6 => ?_)
  have hs3 : w.heap.size ≤ g6 := hs3
  have hg6 : Blk w3 g6 34 [.int .i64 0, .string (str []), .string (str []), .int .i64 0, .int .i64 0, .int .i64 0, .int .i64 0, .string (str []), .int .i64 0] := hg6
  refine op0 rfl rfl ?_
  refine op_store_agg T rfl rfl rfl rfl rfl rfl hg6 (by exact Nat.le_of_ble_eq_true rfl) (fun w4 hc4 hg64 _ => ?_)
  have hg64 : Blk w4 g6 34 (opL o) := hg64
  have hc04 : Chg [] w w4 := hc3.trans hc4 (fun k hk hlt => by simp at hk; omega)
  clear hg6 he hc3 hc4
  replace x := x.keep0 hc04
  clear hb
  unfold opL at hg64
  refine go T 6 rfl ?_
  refine ldB T hg64 rfl rfl rfl rfl rfl rfl ?_
  refine go T 7 rfl ?_
  refine o1 rfl ?_
  refine op_call rfl rfl rfl (least_has x hk hpl) ?_
  rintro _ w5 ⟨rfl, hc5⟩
  replace hg64 := hg64.keep0 hc5
  replace hc04 := hc04.trans' hc5
  replace x := x.keep0 hc5
  refine go T 6 rfl ?_
  refine o1 rfl (op_load_agg T rfl rfl rfl rfl hg64 (by exact Nat.le_of_ble_eq_true rfl) (by exact rfl) ?_)
  refine o1 rfl ?_
  refine op_call rfl rfl rfl (saw_has o w5) ?_
  rintro _ w6 ⟨hc6, rfl⟩
  replace hc5 := hc5.trans' hc6
  replace hg64 := hg64.keep0 hc6
  replace hc04 := hc04.trans' hc6
  replace x := x.keep0 hc6
  generalize hpm : placeM ops chs sts pls o = pm
  unfold placeM at hpm
  generalize leastM chs sts pls o = n0 at *
  refine o1 rfl (op_not rfl rfl rfl ?_)
  refine go T 2 rfl ?_
  refine W_meet (σ := Int) (fun n => [(0, .pointer (some ⟨g, 0, none⟩)), (6, .pointer (some ⟨g6, 0, none⟩)), (7, .string (str o.key)), (8, .int .i64 n)])
    (fun n w' => Chg [] w w' ∧ JAt w0 w' g ops chs sts pls vo (.slice Ac chs.length cc) (.slice (some ads) sts.length cs) vp ∧ Blk w' g6 34 (opL o) ∧ pm = lastM chs o n) ?_ ?_
  · cases hsaw : sawM o with
    | true =>
      rw [if_pos hsaw] at hpm
      refine run ?_
      refine go T 2 rfl ?_
      exact Meet_n n0 ⟨rfl, rfl, rfl, rfl, trivial⟩ ⟨hc04, x, hg64, hpm.symm⟩
    | false =>
    rw [if_neg (by simp [hsaw])] at hpm
    refine run ?_
    refine go T 7 rfl ?_
    refine ldB T hg64 rfl rfl rfl rfl rfl rfl ?_
    refine o1 rfl ?_
    refine op_call rfl rfl rfl (opened_has x 3 o.key o.done) ?_
    rintro _ w7 ⟨hc7, rfl⟩
    replace hc6 := hc6.trans' hc7
    replace hc5 := hc5.trans' hc7
    replace hg64 := hg64.keep0 hc7
    replace hc04 := hc04.trans' hc7
    replace x := x.keep0 hc7
    cases hop : openedM ops 3 o.key o.done with
    | true =>
      rw [if_pos hop] at hpm
      subst hpm
      refine go T 11 rfl ?_
      refine mtR ?_
      refine go T 1 rfl ?_
      exact post2 (.inl rfl) rfl rfl rfl ⟨rfl, hc04⟩
    | false =>
    rw [if_neg (by simp [hop])] at hpm
    refine go T 11 rfl ?_
    refine W_loop (σ := Nat × Int) (fun s => [(0, .pointer (some ⟨g, 0, none⟩)), (6, .pointer (some ⟨g6, 0, none⟩)), (7, .string (str o.key)), (8, .int .i64 s.2), (9, .int .i64 s.1)])
      (fun s w' => s.1 ≤ chs.length ∧ Chg [] w w' ∧ JAt w0 w' g ops chs sts pls vo (.slice Ac chs.length cc) (.slice (some ads) sts.length cs) vp ∧ Blk w' g6 34 (opL o) ∧ climbM chs o.key chs n0 = climbM chs o.key (chs.drop s.1) s.2)
      (fun s => chs.length - s.1) (0, n0) ⟨rfl, rfl, rfl, rfl, rfl, trivial⟩ ⟨Nat.zero_le _, hc04, x, hg64, rfl⟩ ?_
    clear x hg64 hc04
    rintro ⟨i, n⟩ w8 ⟨hi, hc, x, hg6, hcl⟩
    dsimp only at hi hcl ⊢
    unfold opL at hg6
    refine run ?_
    refine go T 6 rfl ?_
    refine o1 rfl ?_
    refine op_call rfl rfl rfl (there_has x o.key n) ?_
    rintro _ w9 ⟨hc9, rfl⟩
    replace hc := hc.trans' hc9
    replace x := x.keep0 hc9
    replace hg6 := hg6.keep0 hc9
    have hb := x.blk
    cases hth : thereM chs o.key n with
    | true =>
      by_cases hlt : i < chs.length
      · have hx := List.getElem?_eq_getElem hlt
        obtain ⟨ad, rfl, he⟩ := x.chsR.at hx
        rw [List.drop_eq_getElem_cons hlt, climbM, if_pos hth] at hcl
        generalize chs[i] = a at *
        unfold chL opL at he
        refine go T 14 rfl ?_
        refine ldB T hb rfl rfl rfl rfl rfl rfl ?_
        refine go T 1 rfl ?_
        refine eqF rfl rfl rfl rfl (by omega) ?_
        refine go T 10 rfl ?_
        refine ldB T hb rfl rfl rfl rfl rfl rfl ?_
        refine go T 1 rfl ?_
        refine o1 rfl (op_indexK T rfl rfl rfl rfl rfl (by omega) ?_)
        refine o1 rfl (op_fieldAddr T rfl rfl rfl rfl rfl rfl rfl rfl ?_)
        refine o1 rfl (op_loadF T he rfl rfl rfl rfl rfl ?_)
        refine o1 rfl (op_max rfl rfl rfl ?_)
        refine go T 6 rfl ?_
        refine adI rfl rfl rfl rfl (by omega) (by omega) ?_
        refine go T 2 rfl ?_
        exact Round_n (i + 1, max n a.seq) ⟨rfl, rfl, rfl, rfl, rfl, trivial⟩ ⟨by dsimp only; omega, hc, x, hg6, hcl⟩ (by dsimp only; omega)
      · obtain rfl : i = chs.length := by omega
        rw [List.drop_length, climbM, if_pos hth] at hcl
        rw [hcl] at hpm
        dsimp only at hpm
        subst hpm
        refine go T 14 rfl ?_
        refine ldB T hb rfl rfl rfl rfl rfl rfl ?_
        refine go T 1 rfl ?_
        refine eqT rfl rfl rfl rfl (by omega) ?_
        refine go T 13 rfl ?_
        refine rndR ?_
        refine go T 1 rfl ?_
        refine mtR ?_
        refine go T 1 rfl ?_
        exact post2 (.inl rfl) rfl rfl rfl ⟨rfl, hc⟩
    | false =>
      have hcl' : climbM chs o.key chs n0 = some n := by
        rw [hcl]
        cases chs.drop i <;> simp [climbM, hth]
      rw [hcl'] at hpm
      refine go T 5 rfl ?_
      refine rndX ?_
      refine go T 1 rfl ?_
      exact Meet_n n ⟨rfl, rfl, rfl, rfl, trivial⟩ ⟨hc, x, hg6, hpm.symm⟩
  clear x hg64 hc04 hpm
  rintro n w7 ⟨hc, x, hg6, rfl⟩
  have hb := x.blk
  refine runX ?_
  refine go T 7 rfl ?_
  refine ldB T hb rfl rfl rfl rfl rfl rfl ?_
  refine go T 5 rfl ?_
  clear hb
  refine W_loop (σ := Nat) (fun i => [(0, .pointer (some ⟨g, 0, none⟩)), (6, .pointer (some ⟨g6, 0, none⟩)), (7, .string (str o.key)), (8, .int .i64 n), (59, .slice Ac chs.length cc), (60, .int .i64 chs.length), (61, .int .i64 i)])
    (fun i w' => i ≤ chs.length ∧ Chg [] w w' ∧ JAt w0 w' g ops chs sts pls vo (.slice Ac chs.length cc) (.slice (some ads) sts.length cs) vp ∧ Blk w' g6 34 (opL o) ∧ chs.any (badM o n) = (chs.drop i).any (badM o n))
    (fun i => chs.length - i) 0 ⟨rfl, rfl, rfl, rfl, rfl, rfl, rfl, trivial⟩ ⟨Nat.zero_le _, hc, x, hg6, rfl⟩ ?_
  clear x hg6 hc
  rintro i w8 ⟨hi, hc, x, hg6, hany⟩
  unfold opL at hg6
  refine run ?_
  refine go T 2 rfl ?_
  refine ltS rfl rfl rfl rfl (fun hcmp => ?_) (fun hcmp => ?_)
  · have hlt : i < chs.length := by omega
    have hx := List.getElem?_eq_getElem hlt
    obtain ⟨ad, rfl, he⟩ := x.chsR.at hx
    rw [List.drop_eq_getElem_cons hlt, List.any_cons] at hany
    generalize chs[i] = a at *
    refine go T 10 rfl ?_
    refine o1 rfl (op_indexK T rfl rfl rfl rfl rfl (by omega) ?_)
    refine o1 rfl (op_loadE T he rfl rfl rfl rfl rfl ?_)
    refine o1 rfl ?_
    refine op_alloc T rfl rfl (fun g11 w9 hs9 hc9 hg11 => ?_)
    have hs9 : w8.heap.size ≤ g11 := hs9
    have hg11 : Blk w9 g11 71 [.int .i64 0, .string (str []), .string (str []), .int .i64 0, .int .i64 0, .int .i64 0, .int .i64 0, .string (str []), .int .i64 0, .int .i64 0, .bool false] := hg11
    refine op0 rfl rfl ?_
    refine op_store_agg T rfl rfl rfl rfl rfl rfl hg11 (by exact Nat.le_of_ble_eq_true rfl) (fun w10 hc10 hg11' _ => ?_)
    have hg11' : Blk w10 g11 71 (chL a) := hg11'
    have hc8' : Chg [] w8 w10 := hc9.trans hc10 (fun k hk hlt => by simp at hk; omega)
    clear hg11 he hc9 hc10
    replace hc := hc.trans' hc8'
    replace hg6 := hg6.keep0 hc8'
    replace x := x.keep0 hc8'
    unfold chL opL at hg11'
    have hno : badM o n a = false → chs.any (badM o n) = (chs.drop (i + 1)).any (badM o n) := fun h => by rw [hany, h, Bool.false_or]
    have hyes : badM o n a = true → lastM chs o n = (0, false) := fun h => by unfold lastM; rw [hany, h]; rfl
    by_cases h1 : a.seq ≤ n
    case neg =>
      replace hno := hno (by unfold badM; simp [h1])
      refine go T 5 rfl ?_
      refine ldB T hg11' rfl rfl rfl rfl rfl rfl ?_
      refine go T 1 rfl ?_
      refine leF rfl rfl rfl rfl (by omega) ?_
      refine go T 35 rfl ?_
      refine adI rfl rfl rfl rfl (by omega) (by omega) ?_
      refine go T 2 rfl ?_
      exact Round_n (i + 1) ⟨rfl, rfl, rfl, rfl, rfl, rfl, rfl, trivial⟩ ⟨by omega, hc, x, hg6, hno⟩ (by omega)
    by_cases h2 : o.done < a.o.asked
    · rw [hyes (by unfold badM; simp [h1, h2])]
      refine go T 5 rfl ?_
      refine ldB T hg11' rfl rfl rfl rfl rfl rfl ?_
      refine go T 1 rfl ?_
      refine leT rfl rfl rfl rfl (by omega) ?_
      refine go T 3 rfl ?_
      refine ldB T hg11' rfl rfl rfl rfl rfl rfl ?_
      refine go T 1 rfl ?_
      refine ldB T hg6 rfl rfl rfl rfl rfl rfl ?_
      refine gtT rfl rfl rfl rfl (by omega) ?_
      refine go T 33 rfl ?_
      refine rndR ?_
      refine go T 2 rfl ?_
      exact post2 (.inl rfl) rfl rfl rfl ⟨rfl, hc⟩
    refine go T 5 rfl ?_
    refine ldB T hg11' rfl rfl rfl rfl rfl rfl ?_
    refine go T 1 rfl ?_
    refine leT rfl rfl rfl rfl (by omega) ?_
    refine go T 3 rfl ?_
    refine ldB T hg11' rfl rfl rfl rfl rfl rfl ?_
    refine go T 1 rfl ?_
    refine ldB T hg6 rfl rfl rfl rfl rfl rfl ?_
    refine gtF rfl rfl rfl rfl (by omega) ?_
    refine go T 1 rfl ?_
    refine o1 rfl (op_load_agg T rfl rfl rfl rfl hg6 (by exact Nat.le_of_ble_eq_true rfl) (by exact rfl) ?_)
    refine o1 rfl ?_
    refine op_call rfl rfl rfl (saw_has o w10) ?_
    rintro _ w11 ⟨hc11, rfl⟩
    replace hg11' := hg11'.keep0 hc11
    replace hc8' := hc8'.trans' hc11
    replace hc := hc.trans' hc11
    replace hg6 := hg6.keep0 hc11
    replace x := x.keep0 hc11
    cases hsaw : sawM o with
    | false =>
      replace hno := hno (by unfold badM; simp [h2, hsaw])
      refine go T 25 rfl ?_
      refine adI rfl rfl rfl rfl (by omega) (by omega) ?_
      refine go T 2 rfl ?_
      exact Round_n (i + 1) ⟨rfl, rfl, rfl, rfl, rfl, rfl, rfl, trivial⟩ ⟨by omega, hc, x, hg6, hno⟩ (by omega)
    | true =>
    by_cases h3 : a.o.key = o.key
    case neg =>
      replace hno := hno (by unfold badM; simp [h2, h3])
      refine go T 4 rfl ?_
      refine ldB T hg11' rfl rfl rfl rfl rfl rfl ?_
      refine go T 1 rfl ?_
      refine o1 rfl ?_
      refine op_str_eql (a := a.o.key) (b := o.key) rfl rfl rfl (fun h => absurd h h3) (fun h => ?_)
      refine go T 18 rfl ?_
      refine adI rfl rfl rfl rfl (by omega) (by omega) ?_
      refine go T 2 rfl ?_
      exact Round_n (i + 1) ⟨rfl, rfl, rfl, rfl, rfl, rfl, rfl, trivial⟩ ⟨by omega, hc, x, hg6, hno⟩ (by omega)
    by_cases h4 : o.seq < a.seq
    case neg =>
      replace hno := hno (by unfold badM; simp [h2, h4])
      refine go T 4 rfl ?_
      refine ldB T hg11' rfl rfl rfl rfl rfl rfl ?_
      refine go T 1 rfl ?_
      refine o1 rfl ?_
      refine op_str_eql (a := a.o.key) (b := o.key) rfl rfl rfl (fun h => ?_) (fun h => absurd h3 h)
      refine go T 3 rfl ?_
      refine ldB T hg11' rfl rfl rfl rfl rfl rfl ?_
      refine go T 2 rfl ?_
      refine ldB T hg6 rfl rfl rfl rfl rfl rfl ?_
      refine gtF rfl rfl rfl rfl (by omega) ?_
      refine go T 10 rfl ?_
      refine adI rfl rfl rfl rfl (by omega) (by omega) ?_
      refine go T 2 rfl ?_
      exact Round_n (i + 1) ⟨rfl, rfl, rfl, rfl, rfl, rfl, rfl, trivial⟩ ⟨by omega, hc, x, hg6, hno⟩ (by omega)
    rw [hyes (by unfold badM; simp [h1, hsaw, h3, h4])]
    refine go T 4 rfl ?_
    refine ldB T hg11' rfl rfl rfl rfl rfl rfl ?_
    refine go T 1 rfl ?_
    refine o1 rfl ?_
    refine op_str_eql (a := a.o.key) (b := o.key) rfl rfl rfl (fun h => ?_) (fun h => absurd h3 h)
    refine go T 3 rfl ?_
    refine ldB T hg11' rfl rfl rfl rfl rfl rfl ?_
    refine go T 2 rfl ?_
    refine ldB T hg6 rfl rfl rfl rfl rfl rfl ?_
    refine gtT rfl rfl rfl rfl (by omega) ?_
    refine go T 15 rfl ?_
    refine rndR ?_
    refine go T 2 rfl ?_
    exact post2 (.inl rfl) rfl rfl rfl ⟨rfl, hc⟩
  obtain rfl : i = chs.length := by omega
  rw [List.drop_length, List.any_nil] at hany
  rw [show lastM chs o n = (n, true) from by unfold lastM; rw [hany]; rfl]
  refine go T 6 rfl ?_
  refine rndX ?_
  refine go T 10 rfl ?_
  exact post2 (.inl rfl) rfl rfl rfl ⟨rfl, hc⟩
end
end Go.Proofs.Ytjkbbkomajjegaa.Try
/-! History: insertion sort, in place. -/
set_option linter.unusedVariables false
namespace Go.Vc
open Go
section
variable {α : Type} {le : α → α → Bool}
def insR (le : α → α → Bool) (x : α) : List α → List α
  | [] => [x]
  | y :: l => if le y x = true then y :: insR le x l else x :: y :: l
structure Tot (le : α → α → Bool) : Prop where
  tot : ∀ x y, le x y = true ∨ le y x = true
  tr : ∀ x y z, le x y = true → le y z = true → le x z = true
theorem insM_insR (h : Tot le) (a x : α) : ∀ l : List α, insM le a (insR le x l) = insR le x (insM le a l)
  | [] => by
    rcases Bool.eq_false_or_eq_true (le a x) with h1 | h1
    · simp [insM, insR, h1]
    · simp [insM, insR, h1]
  | y :: l => by
    have ih := insM_insR h a x l
    rcases Bool.eq_false_or_eq_true (le y x) with h1 | h1 <;> rcases Bool.eq_false_or_eq_true (le a y) with h2 | h2
    · have h3 := h.tr _ _ _ h2 h1
      simp [insM, insR, h1, h2, h3]
    · simp [insM, insR, h1, h2, ih]
    · rcases Bool.eq_false_or_eq_true (le a x) with h3 | h3 <;> simp [insM, insR, h1, h2, h3]
    · have h3 : le a x = false := by
        cases h3 : le a x with
        | false => rfl
        | true =>
          rcases h.tot y x with h4 | h4
          · rw [h1] at h4; cases h4
          · have := h.tr _ _ _ h3 h4; rw [h2] at this; cases this
      simp [insM, insR, h1, h2, h3]
theorem isM_snoc (h : Tot le) (x : α) : ∀ l : List α, isM le (l ++ [x]) = insR le x (isM le l)
  | [] => rfl
  | a :: l => by rw [List.cons_append, isM, isM_snoc h x l, insM_insR h]; rfl
theorem insR_split (x : α) : ∀ (A B : List α), (∀ a ∈ A, le a x = true) → (∀ b ∈ B, le b x = false) → insR le x (A ++ B) = A ++ x :: B
  | [], [], _, _ => rfl
  | [], b :: B, _, hB => by simp [insR, hB b (by simp)]
  | a :: A, B, hA, hB => by
    rw [List.cons_append, insR, if_pos (hA a (by simp)), insR_split x A B (fun y hy => hA y (by simp [hy])) hB]; rfl
theorem isM_one (x : α) : isM le [x] = [x] := rfl
end
end Go.Vc
namespace Go.Proofs.Ytjkbbkomajjegaa.Try
open Go Go.Vc
section
variable {w : World} {g c : Nat} {fn : Nat} {cf : OpM → OpM → Int} {le : OpM → OpM → Bool}
/-- Nothing to sort. -/
theorem insert0_has (s f : Value) (a b : Int) (h0 : 0 ≤ a) (ha : a ≤ 1000000) (h : b ≤ a + 1) (w : World) :
    Has Go.Proofs.Try.prog 60 #[s, .int .i64 a, .int .i64 b, f] w (fun v w' => v = .tuple #[] ∧ w' = w) := by
  refine enter Go.Proofs.Try.func60 rfl rfl (by decide) rfl (e := [(0, s), (1, .int .i64 a), (2, .int .i64 b), (3, f)]) ⟨rfl, rfl, rfl, rfl, trivial⟩ ?_
  refine run ?_
  refine go T 3 rfl ?_
  refine adI rfl rfl rfl rfl (by omega) (by omega) ?_
  refine go T 4 rfl ?_
  refine W_loop (σ := Unit) (fun _ => [(2, .int .i64 b), (8, .int .i64 (a + 1))]) (fun _ w' => w' = w) (fun _ => 0) () ⟨rfl, rfl, trivial⟩ rfl ?_
  rintro _ w1 rfl
  refine run ?_
  refine go T 5 rfl ?_
  refine ltF rfl rfl rfl rfl (by omega) ?_
  refine go T 5 rfl ?_
  refine rndX ?_
  refine go T 1 rfl ?_
  exact post0 (.inr rfl) rfl ⟨rfl, rfl⟩
set_option maxHeartbeats 4000000 in
theorem insert_has (hT : Tot le) (hf : ∀ w1 x y, Has Go.Proofs.Try.prog fn (#[] ++ #[.agg (opL x).toArray, .agg (opL y).toArray] ++ #[]) w1 (fun v w' => Chg [] w1 w' ∧ v = .int .i64 (cf x y))) (hcf : ∀ x y, cf x y < 0 ↔ le y x = false)
    (P M Z : List OpM) {n : Nat} {rest : List Value} (hn : P.length + M.length ≤ n) (hlim : n ≤ 1000000) (hb : RowB w g 34 opL (P ++ M ++ Z) rest) (hnl : (P ++ M ++ Z).length = n) :
    Has Go.Proofs.Try.prog 60 #[.slice (some ⟨g, 0, none⟩) n c, .int .i64 P.length, .int .i64 (P.length + M.length : Nat), .func (.func fn) #[] #[]] w (fun v w' => v = .tuple #[] ∧ Chg [g] w w' ∧ RowB w' g 34 opL (P ++ isM le M ++ Z) rest) := by
  refine enter Go.Proofs.Try.func60 rfl rfl (by decide) rfl (e := [(0, .slice (some ⟨g, 0, none⟩) n c), (1, .int .i64 P.length), (2, .int .i64 (P.length + M.length : Nat)), (3, .func (.func fn) #[] #[])]) ⟨rfl, rfl, rfl, rfl, trivial⟩ ?_
  refine run ?_
  refine go T 3 rfl ?_
  refine adI rfl rfl rfl rfl (by omega) (by omega) ?_
  refine go T 4 rfl ?_
  refine W_loop (σ := Nat) (fun i => [(0, .slice (some ⟨g, 0, none⟩) n c), (1, .int .i64 P.length), (2, .int .i64 (P.length + M.length : Nat)), (3, .func (.func fn) #[] #[]), (8, .int .i64 (P.length + i : Nat))])
    (fun i w' => 1 ≤ i ∧ (i ≤ M.length ∨ i = 1) ∧ Chg [g] w w' ∧ RowB w' g 34 opL (P ++ isM le (M.take i) ++ M.drop i ++ Z) rest) (fun i => M.length - i) 1 ⟨rfl, rfl, rfl, rfl, rfl, trivial⟩ ⟨by omega, .inr rfl, Chg.refl _ _, ?_⟩ ?_
  · have : isM le (M.take 1) ++ M.drop 1 = M := by cases M <;> simp [isM, insM]
    rw [List.append_assoc P, this]; exact hb
  rintro i w1 ⟨hi1, hi2, hc, hrow⟩
  refine run ?_
  refine go T 5 rfl ?_
  refine ltS rfl rfl rfl rfl (fun hcmp => ?_) (fun hcmp => ?_)
  · have hlt : i < M.length := by omega
    have hx := List.getElem?_eq_getElem hlt
    have hd := List.drop_eq_getElem_cons hlt
    have htk : M.take (i + 1) = M.take i ++ [M[i]] := by rw [List.take_add_one, hx]; rfl
    rw [hd] at hrow
    generalize M[i] = x at *
    have hil : (isM le (M.take i)).length = i := by rw [(isM_perm _).length_eq, List.length_take]; omega
    refine go T 14 rfl ?_
    refine W_loop (σ := List OpM × List OpM) (fun s => [(0, .slice (some ⟨g, 0, none⟩) n c), (1, .int .i64 P.length), (2, .int .i64 (P.length + M.length : Nat)), (3, .func (.func fn) #[] #[]), (8, .int .i64 (P.length + i : Nat)), (9, .int .i64 (P.length + s.1.length : Nat))])
      (fun s w' => isM le (M.take i) = s.1 ++ s.2 ∧ (∀ b ∈ s.2, le b x = false) ∧ Chg [g] w w' ∧ RowB w' g 34 opL ((P ++ s.1) ++ x :: (s.2 ++ (M.drop (i + 1) ++ Z))) rest) (fun s => s.1.length) (isM le (M.take i), []) ⟨rfl, rfl, rfl, rfl, rfl, by dsimp only; rw [hil]; exact ⟨rfl, trivial⟩⟩ ⟨by simp, by simp, hc, by simpa using hrow⟩ ?_
    clear hrow hc
    rintro ⟨A, B⟩ w2 ⟨hAB, hB, hc, hrow⟩
    dsimp only at hAB hB hrow ⊢
    have hlen : ((P ++ A) ++ x :: (B ++ (M.drop (i + 1) ++ Z))).length = n := by
      have h1 := congrArg List.length hAB
      rw [hil, List.length_append] at h1
      simp only [List.length_append, List.length_cons, List.length_drop] at hnl ⊢
      omega
    have hsorted : (isM le (M.take i)).Pairwise (fun a b => le a b = true) := isM_sorted hT.tot hT.tr _
    have hdone : (∀ a ∈ A, le a x = true) → isM le (M.take (i + 1)) = A ++ x :: B := fun h => by rw [htk, isM_snoc hT, hAB, insR_split x A B h hB]
    have hxx : ((P ++ A) ++ x :: (B ++ (M.drop (i + 1) ++ Z)))[P.length + A.length]? = some x := by
      rw [← List.length_append, List.getElem?_append_right (Nat.le_refl _)]; simp
    rcases List.eq_nil_or_concat A with rfl | ⟨A', z, hAz⟩
    · have h0 : P.length + ([] : List OpM).length = P.length := rfl
      refine run ?_
      refine go T 2 rfl ?_
      refine W_walk 14 [] fol (by kernel_rfl) (by kernel_rfl) ?_
      refine Walk.plain rfl (by intro val w_ hR hp; exact op_move rfl rfl ⟨Chg.refl _ _, rfl⟩) ?_; dsimp only [List.nil_append, List.cons_append]
      refine Walk.plain rfl (by intro val w_ hR hp; exact op_move rfl rfl ⟨Chg.refl _ _, rfl⟩) ?_; dsimp only [List.nil_append, List.cons_append]
      refine Walk.plain rfl (by intro val w_ hR hp; exact op_gtr rfl rfl rfl (fun hcmp => False.elim (by omega)) (fun hcmp => ⟨Chg.refl _ _, rfl⟩)) ?_; dsimp only [List.nil_append, List.cons_append]
      refine Walk.plain rfl (by intro val w_ hR hp; exact op_move rfl rfl ⟨Chg.refl _ _, rfl⟩) ?_; dsimp only [List.nil_append, List.cons_append]
      refine Walk.guardF rfl rfl rfl (fun _ => rfl) rfl ?_; dsimp only [List.nil_append, List.cons_append]
      refine Walk.guardF rfl rfl rfl (fun _ => rfl) rfl ?_; dsimp only [List.nil_append, List.cons_append]
      refine Walk.guardF rfl rfl rfl (fun _ => rfl) rfl ?_; dsimp only [List.nil_append, List.cons_append]
      refine Walk.guardF rfl rfl rfl (fun _ => rfl) rfl ?_; dsimp only [List.nil_append, List.cons_append]
      refine Walk.guardF rfl rfl rfl (fun _ => rfl) rfl ?_; dsimp only [List.nil_append, List.cons_append]
      refine Walk.guardF rfl rfl rfl (fun _ => rfl) rfl ?_; dsimp only [List.nil_append, List.cons_append]
      refine Walk.guardF rfl rfl rfl (fun _ => rfl) rfl ?_; dsimp only [List.nil_append, List.cons_append]
      refine Walk.guardF rfl rfl rfl (fun _ => rfl) rfl ?_; dsimp only [List.nil_append, List.cons_append]
      refine Walk.guardF rfl rfl rfl (fun _ => rfl) rfl ?_; dsimp only [List.nil_append, List.cons_append]
      refine Walk.guardF rfl rfl rfl (fun _ => rfl) rfl ?_; dsimp only [List.nil_append, List.cons_append]
      skip
      refine Walk.fin ?_
      intro val w3 hc3 hp
      clear hp
      replace hc := hc.trans' hc3
      replace hrow := hrow.keep0 hc3
      refine runL ?_
      refine go T 8 rfl ?_
      refine rndX ?_
      refine go T 5 rfl ?_
      refine adI rfl rfl rfl rfl (by omega) (by omega) ?_
      refine go T 2 rfl ?_
      refine Round_n (i + 1) ⟨rfl, rfl, rfl, rfl, rfl, trivial⟩ ⟨by omega, by omega, hc, ?_⟩ (by omega)
      rw [hdone (by simp)]
      simpa using hrow
    · rw [List.concat_eq_append] at hAz
      subst hAz
      rw [show P.length + (A' ++ [z]).length = P.length + A'.length + 1 from by simp; omega] at *
      have hzz : ((P ++ (A' ++ [z])) ++ x :: (B ++ (M.drop (i + 1) ++ Z)))[P.length + A'.length]? = some z := by
        rw [← List.append_assoc P, List.append_assoc _ [z], ← List.length_append, List.getElem?_append_right (Nat.le_refl _)]; simp
      have hle1 : P.length + A'.length + 1 < n := by
        have := (List.getElem?_eq_some_iff.1 hxx).1
        rw [hlen] at this; exact this
      have hm1 : ((P.length + A'.length + 1 : Nat) : Int) - 1 = ((P.length + A'.length : Nat) : Int) := by omega
      have he1 := hrow.elem opL_len hxx
      have he2 := hrow.elem opL_len hzz
      refine run ?_
      refine go T 2 rfl ?_
      refine W_walk 14 [] fol (by kernel_rfl) (by kernel_rfl) ?_
      refine Walk.plain rfl (by intro val w_ hR hp; exact op_move rfl rfl ⟨Chg.refl _ _, rfl⟩) ?_; dsimp only [List.nil_append, List.cons_append]
      refine Walk.plain rfl (by intro val w_ hR hp; exact op_move rfl rfl ⟨Chg.refl _ _, rfl⟩) ?_; dsimp only [List.nil_append, List.cons_append]
      refine Walk.plain rfl (by intro val w_ hR hp; exact op_gtr rfl rfl rfl (fun hcmp => ⟨Chg.refl _ _, rfl⟩) (fun hcmp => False.elim (by omega))) ?_; dsimp only [List.nil_append, List.cons_append]
      refine Walk.plain rfl (by intro val w_ hR hp; exact op_move rfl rfl ⟨Chg.refl _ _, rfl⟩) ?_; dsimp only [List.nil_append, List.cons_append]
      refine Walk.guardT rfl rfl rfl (fun _ => rfl) (by intro val w_ hR hp; exact op_move rfl rfl ⟨Chg.refl _ _, rfl⟩) ?_; dsimp only [List.nil_append, List.cons_append]
      refine Walk.guardT rfl rfl rfl (fun _ => rfl) (by intro val w_ hR hp; exact op_move rfl rfl ⟨Chg.refl _ _, rfl⟩) ?_; dsimp only [List.nil_append, List.cons_append]
      refine Walk.guardT rfl rfl rfl (fun _ => rfl) (by intro val w_ hR hp; exact op_move rfl rfl ⟨Chg.refl _ _, rfl⟩) ?_; dsimp only [List.nil_append, List.cons_append]
      refine Walk.guardT rfl rfl rfl (fun _ => rfl) (by intro val w_ hR hp; exact op_indexK T rfl rfl rfl rfl rfl (by omega) ⟨Chg.refl _ _, rfl⟩) ?_; dsimp only [List.nil_append, List.cons_append]
      refine Walk.guardT rfl rfl rfl (fun _ => rfl) (by intro val w_ hR hp; exact op_loadE T (he1.keep0 hR) rfl rfl rfl rfl rfl ⟨Chg.refl _ _, rfl⟩) ?_; dsimp only [List.nil_append, List.cons_append]
      refine Walk.guardT rfl rfl rfl (fun _ => rfl) (by intro val w_ hR hp; exact op_move rfl rfl ⟨Chg.refl _ _, rfl⟩) ?_; dsimp only [List.nil_append, List.cons_append]
      refine Walk.guardT rfl rfl rfl (fun _ => rfl) (by intro val w_ hR hp; exact op_move rfl rfl ⟨Chg.refl _ _, rfl⟩) ?_; dsimp only [List.nil_append, List.cons_append]
      refine Walk.guardT rfl rfl rfl (fun _ => rfl) (by intro val w_ hR hp; exact op_subt rfl rfl rfl (wrap_i64_in (by omega) (by omega)) ⟨Chg.refl _ _, rfl⟩) ?_; dsimp only [List.nil_append, List.cons_append]
      refine Walk.guardT (v := .pointer (some ((⟨g, 0, none⟩ : Addr).add ((P.length + A'.length) * 9)))) rfl rfl rfl (fun _ => rfl) (by intro val w_ hR hp; exact op_indexK (i := P.length + A'.length) T rfl rfl (congrArg (fun u => some (Value.int .i64 u)) hm1) rfl rfl (by omega) ⟨Chg.refl _ _, rfl⟩) ?_; dsimp only [List.nil_append, List.cons_append]
      refine Walk.guardT rfl rfl rfl (fun _ => rfl) (by intro val w_ hR hp; exact op_loadE T (he2.keep0 hR) rfl rfl rfl rfl rfl ⟨Chg.refl _ _, rfl⟩) ?_; dsimp only [List.nil_append, List.cons_append]
      skip
      refine Walk.fin ?_
      intro val w3 hc3 hp
      clear hp
      replace hc := hc.trans' hc3
      replace hrow := hrow.keep0 hc3
      replace he1 := he1.keep0 hc3
      replace he2 := he2.keep0 hc3
      refine runL ?_
      refine o1 rfl ?_
      refine op_callf rfl rfl rfl (hf w3 x z) ?_
      rintro _ w4 ⟨hc4, rfl⟩
      replace hc3 := hc3.trans' hc4
      replace hc := hc.trans' hc4
      replace hrow := hrow.keep0 hc4
      replace he1 := he1.keep0 hc4
      replace he2 := he2.keep0 hc4
      have hcfx := hcf x z
      cases hle : le z x with
      | true =>
        have hge : ¬ cf x z < 0 := fun h => by rw [hcfx, hle] at h; cases h
        clear hcfx
        refine ltF rfl rfl rfl rfl (by omega) ?_
        refine go T 6 rfl ?_
        refine rndX ?_
        refine go T 5 rfl ?_
        refine adI rfl rfl rfl rfl (by omega) (by omega) ?_
        refine go T 2 rfl ?_
        refine Round_n (i + 1) ⟨rfl, rfl, rfl, rfl, rfl, trivial⟩ ⟨by omega, by omega, hc, ?_⟩ (by omega)
        rw [hdone (fun a ha => ?_)]
        · simpa using hrow
        · rcases List.mem_append.1 ha with ha | ha
          · rw [hAB, List.append_assoc, List.pairwise_append] at hsorted
            exact hT.tr _ _ _ (hsorted.2.2 a ha z (by simp)) hle
          · simp at ha; rw [ha]; exact hle
      | false =>
        have hlt0 : cf x z < 0 := hcfx.2 hle
        clear hcfx
        have hset : ∀ Y : List OpM, (((P ++ (A' ++ [z])) ++ x :: Y).set (P.length + A'.length + 1) z).set (P.length + A'.length) x = (P ++ A') ++ x :: z :: Y := fun Y => by
          have e1 : (P ++ (A' ++ [z])) ++ x :: Y = (P ++ A') ++ z :: x :: Y := by simp
          rw [e1, ← List.length_append, List.set_append_right _ _ (by omega), List.set_append_right _ _ (Nat.le_refl _)]
          simp
        refine ltT rfl rfl rfl rfl (by omega) ?_
        refine go T 8 rfl ?_
        refine Q.W_walkf 16 15 [g] fol (by kernel_rfl) (by kernel_rfl) ?_
        refine Q.Walk.plain rfl rfl (by intro val w_ hR hp; exact op_move rfl rfl ⟨Chg.refl _ _, rfl⟩) ?_; dsimp only [List.nil_append, List.cons_append]
        refine Q.Walk.plain rfl rfl (by intro val w_ hR hp; exact op_move rfl rfl ⟨Chg.refl _ _, rfl⟩) ?_; dsimp only [List.nil_append, List.cons_append]
        refine Q.Walk.plain rfl rfl (by intro val w_ hR hp; exact op_move rfl rfl ⟨Chg.refl _ _, rfl⟩) ?_; dsimp only [List.nil_append, List.cons_append]
        refine Q.Walk.plain rfl rfl (by intro val w_ hR hp; exact op_move rfl rfl ⟨Chg.refl _ _, rfl⟩) ?_; dsimp only [List.nil_append, List.cons_append]
        refine Q.Walk.plain rfl rfl (by intro val w_ hR hp; exact op_subt rfl rfl rfl (wrap_i64_in (by omega) (by omega)) ⟨Chg.refl _ _, rfl⟩) ?_; dsimp only [List.nil_append, List.cons_append]
        refine Q.Walk.plain rfl rfl (by intro val w_ hR hp; exact op_move rfl rfl ⟨Chg.refl _ _, rfl⟩) ?_; dsimp only [List.nil_append, List.cons_append]
        refine Q.Walk.plain rfl rfl (by intro val w_ hR hp; exact op_move rfl rfl ⟨Chg.refl _ _, rfl⟩) ?_; dsimp only [List.nil_append, List.cons_append]
        refine Q.Walk.plain rfl rfl (by intro val w_ hR hp; exact op_subt rfl rfl rfl (wrap_i64_in (by omega) (by omega)) ⟨Chg.refl _ _, rfl⟩) ?_; dsimp only [List.nil_append, List.cons_append]
        refine Q.Walk.plain (v := .pointer (some ((⟨g, 0, none⟩ : Addr).add ((P.length + A'.length) * 9)))) rfl rfl (by intro val w_ hR hp; exact op_indexK (i := P.length + A'.length) T rfl rfl (congrArg (fun u => some (Value.int .i64 u)) hm1) rfl rfl (by omega) ⟨Chg.refl _ _, rfl⟩) ?_; dsimp only [List.nil_append, List.cons_append]
        refine Q.Walk.plainP (v := .agg (opL z).toArray) rfl rfl rfl (by intro val w_ hR hp; exact op_loadE T (he2.keep0 hR) rfl rfl rfl rfl rfl ⟨Chg.refl _ _, rfl⟩) ?_; dsimp only [List.nil_append, List.cons_append]
        refine Q.Walk.plain rfl rfl (by intro val w_ hR hp; exact op_move rfl rfl ⟨Chg.refl _ _, rfl⟩) ?_; dsimp only [List.nil_append, List.cons_append]
        refine Q.Walk.plain rfl rfl (by intro val w_ hR hp; exact op_move rfl rfl ⟨Chg.refl _ _, rfl⟩) ?_; dsimp only [List.nil_append, List.cons_append]
        refine Q.Walk.plain rfl rfl (by intro val w_ hR hp; exact op_indexK T rfl rfl rfl rfl rfl (by omega) ⟨Chg.refl _ _, rfl⟩) ?_; dsimp only [List.nil_append, List.cons_append]
        refine Q.Walk.plainP (v := .agg (opL x).toArray) rfl rfl rfl (by intro val w_ hR hp; exact op_loadE T (he1.keep0 hR) rfl rfl rfl rfl rfl ⟨Chg.refl _ _, rfl⟩) ?_; dsimp only [List.nil_append, List.cons_append]
        refine Q.Walk.plain rfl rfl (by intro val w_ hR hp; exact op_indexK T rfl rfl rfl rfl rfl (by omega) ⟨Chg.refl _ _, rfl⟩) ?_; dsimp only [List.nil_append, List.cons_append]
        refine Q.Walk.turn rfl (fun _ w' => RowB w' g 34 opL (((P ++ (A' ++ [z])) ++ x :: (B ++ (M.drop (i + 1) ++ Z))).set (P.length + A'.length + 1) z) rest) rfl (fun v a b h hab => h.keep0 hab) ?_ ?_
        · intro val w_ hR hp
          exact op_storeR T opL_len (i := P.length + A'.length + 1) (a := z) (hrow.keep0 hR) rfl rfl rfl rfl rfl rfl (by rw [hlen]; exact hle1) (fun w5 hc5 hr5 _ => ⟨hc5, hr5⟩)
        dsimp only [List.nil_append, List.cons_append]
        refine Q.Walk.fin ?_
        intro val w5 hc5 hp hn5
        obtain ⟨_, hr5⟩ := hn5 15 (by omega) _ rfl rfl
        have hr5 : RowB w5 g 34 opL (((P ++ (A' ++ [z])) ++ x :: (B ++ (M.drop (i + 1) ++ Z))).set (P.length + A'.length + 1) z) rest := hr5
        clear hp hn5
        refine WL_sub (e' := [(0, .slice (some ⟨g, 0, none⟩) n c), (1, .int .i64 P.length), (2, .int .i64 (P.length + M.length : Nat)), (3, .func (.func fn) #[] #[]), (8, .int .i64 (P.length + i : Nat)), (9, .int .i64 (P.length + A'.length + 1 : Nat)), (39, .slice (some ⟨g, 0, none⟩) n c), (41, .int .i64 ((P.length + A'.length + 1 : Nat) - 1)), (50, .agg (opL x).toArray)]) ⟨rfl, rfl, rfl, rfl, rfl, rfl, rfl, rfl, rfl, trivial⟩ ?_
        refine runL ?_
        refine o1 rfl ?_
        refine op_indexK (i := P.length + A'.length) T rfl rfl (congrArg (fun u => some (Value.int .i64 u)) hm1) rfl rfl (by omega) ?_
        refine op0 rfl rfl ?_
        refine op_storeR T opL_len (i := P.length + A'.length) (a := x) hr5 rfl rfl rfl rfl rfl rfl (by rw [List.length_set, hlen]; omega) (fun w6 hc6 hr6 _ => ?_)
        rw [hset] at hr6
        refine go T 5 rfl ?_
        refine sbI rfl rfl rfl rfl (by omega) (by omega) ?_
        refine go T 2 rfl ?_
        have hl2 : (A' ++ [z]).length = A'.length + 1 := by simp
        refine Round_n (A', z :: B) ⟨rfl, rfl, rfl, rfl, rfl, congrArg (fun u => some (Value.int .i64 u)) hm1, trivial⟩ ⟨by rw [hAB]; simp, fun b hb => ?_, (hc.trans hc5 (fun k hk _ => hk)).trans hc6 (fun k hk _ => hk), hr6⟩ (by dsimp only; omega)
        rcases List.mem_cons.1 hb with rfl | hb
        · exact hle
        · exact hB b hb
  · have h1 : M.take i = M := List.take_of_length_le (by omega)
    have h2 : M.drop i = [] := List.drop_eq_nil_of_le (by omega)
    rw [h1, h2, List.append_nil] at hrow
    refine go T 5 rfl ?_
    refine rndX ?_
    refine go T 1 rfl ?_
    exact post0 (.inr rfl) rfl ⟨rfl, hc, hrow⟩
end
end Go.Proofs.Ytjkbbkomajjegaa.Try
/-! History: a stable sort of at most twenty; Judge. -/
set_option linter.unusedVariables false
namespace Go.Vc
open Go
def leAsked (x y : OpM) : Bool := decide (x.asked ≤ y.asked)
theorem totAsked : Tot leAsked := ⟨fun x y => by unfold leAsked; simp; omega, fun x y z h1 h2 => by unfold leAsked at *; simp at *; omega⟩
theorem cmpM_neg (a b : Int) : cmpM a b < 0 ↔ decide (b ≤ a) = false := by
  unfold cmpM
  split
  · simp; omega
  · split <;> simp <;> omega
def placesM (ops : List OpM) (chs : List ChgM) (sts : List OpM) : List OpM → List Int → Bool
  | [], _ => true
  | o :: l, pls => if (placeM ops chs sts pls o).2 = true then placesM ops chs sts l (pls ++ [(placeM ops chs sts pls o).1]) else false
def judgeM (ops : List OpM) : Bool :=
  if (gatherM ops [] []).1 = true then
    match foundM ops (gatherM ops [] []).2.2 (gatherM ops [] []).2.1 with
    | none => false
    | some L => if ordM ops L L 0 = true then placesM ops L (isM leAsked (gatherM ops [] []).2.2) (isM leAsked (gatherM ops [] []).2.2) [] else false
  else false
theorem gather_inv (ops0 : List OpM) : ∀ (l : List OpM) (chs : List ChgM) (sts : List OpM), (∀ o ∈ l, o ∈ ops0) → (chs.map ChgM.seq).Nodup → (∀ c ∈ chs, 1 ≤ c.seq ∧ c.seq = c.o.seq ∧ c.o ∈ ops0) →
    ((gatherM l chs sts).2.1.map ChgM.seq).Nodup ∧ (∀ c ∈ (gatherM l chs sts).2.1, 1 ≤ c.seq ∧ c.seq = c.o.seq ∧ c.o ∈ ops0) ∧ (gatherM l chs sts).2.1.length ≤ chs.length + l.length ∧ (gatherM l chs sts).2.2.length ≤ sts.length + l.length
  | [], chs, sts, _, h1, h2 => ⟨h1, h2, by simp [gatherM], by simp [gatherM]⟩
  | o :: l, chs, sts, hl, h1, h2 => by
    have hst : (if sightM o = true then sts ++ [o] else sts).length ≤ sts.length + 1 := by split <;> simp
    rw [gatherM]
    split
    · obtain ⟨a, b, c, d⟩ := gather_inv ops0 l chs _ (fun x hx => hl x (by simp [hx])) h1 h2
      exact ⟨a, b, by rw [List.length_cons]; omega, by rw [List.length_cons]; omega⟩
    split
    · exact ⟨h1, h2, by simp, Nat.le_trans hst (by rw [List.length_cons]; omega)⟩
    · rename_i h3 h4
      have hA : ((chs ++ [(⟨o, o.seq, true⟩ : ChgM)]).map ChgM.seq).Nodup := by
        rw [List.map_append, List.nodup_append]
        refine ⟨h1, by simp, fun s hs t ht => ?_⟩
        simp at ht; subst ht
        obtain ⟨c, hc, e⟩ := List.mem_map.1 hs
        intro e2
        have := idxM_neg (p := fun c => decide (c.seq = o.seq)) (l := chs) (by have : ¬ (0 ≤ findM chs o.seq) := fun h => h4 (.inr h); unfold findM at this; omega) c hc
        simp at this
        exact this (e.trans e2)
      have hB : ∀ c ∈ chs ++ [(⟨o, o.seq, true⟩ : ChgM)], 1 ≤ c.seq ∧ c.seq = c.o.seq ∧ c.o ∈ ops0 := by
        intro c hc
        rcases List.mem_append.1 hc with hc | hc
        · exact h2 c hc
        · simp at hc; subst hc
          exact ⟨by dsimp only; omega, rfl, hl o (by simp)⟩
      obtain ⟨a, b, c, d⟩ := gather_inv ops0 l (chs ++ [⟨o, o.seq, true⟩]) (if sightM o = true then sts ++ [o] else sts) (fun x hx => hl x (by simp [hx])) hA hB
      refine ⟨a, b, ?_, by rw [List.length_cons]; omega⟩
      rw [List.length_append, List.length_singleton] at c
      rw [List.length_cons]
      omega
theorem takesM_told {ops sts : List OpM} : ∀ {l : List Int} {p p' : List ChgM × TkM}, takesM ops sts l p = some p' → ∀ c ∈ p'.1, c.told = true → c ∈ p.1
  | [], p, p', h, c, hc, _ => by simp [takesM] at h; subst h; exact hc
  | s :: l, p, p', h, c, hc, ht => by
    rw [takesM] at h
    split at h
    · cases h
    · rename_i p1 h1
      obtain ⟨o, _, _, _, e⟩ := takeM_chs h1
      have := takesM_told h c hc ht
      rw [e] at this
      rcases List.mem_append.1 this with h2 | h2
      · exact h2
      · simp at h2; subst h2; cases ht
theorem foundM_told {ops sts : List OpM} {chs L : List ChgM} (h : foundM ops sts chs = some L) : ∀ c ∈ L, c.told = true → c ∈ chs := by
  unfold foundM at h
  split at h
  · cases h
  · split at h
    · cases h
    · rename_i q _ p hp
      injection h with h
      subst h
      intro c hc ht
      exact takesM_told hp c ((isM_perm _).mem_iff.1 hc) ht
end Go.Vc
namespace Go.Proofs.Ytjkbbkomajjegaa.Try
open Go Go.Vc
section
variable {w : World} {fn : Nat} {cf : OpM → OpM → Int} {le : OpM → OpM → Bool}
theorem insertAll_has (hT : Tot le) (hf : ∀ w1 x y, Has Go.Proofs.Try.prog fn (#[] ++ #[.agg (opL x).toArray, .agg (opL y).toArray] ++ #[]) w1 (fun v w' => Chg [] w1 w' ∧ v = .int .i64 (cf x y))) (hcf : ∀ x y, cf x y < 0 ↔ le y x = false)
    (v : Value) (L : List OpM) (hown : Own w 34 9 v L.length (L.flatMap opL)) (hlim : L.length ≤ 1000000) :
    Has Go.Proofs.Try.prog 60 #[v, .int .i64 0, .int .i64 L.length, .func (.func fn) #[] #[]] w (fun u w' => u = .tuple #[] ∧ Chg v.ownBlock.toList w w' ∧ Own w' 34 9 v (isM le L).length ((isM le L).flatMap opL)) := by
  have hll : (isM le L).length = L.length := (isM_perm L).length_eq
  by_cases hpos : 0 < L.length
  · obtain ⟨A, c, rfl, hc1, hc2⟩ := hown.form
    obtain ⟨g, rfl⟩ := hown.addr hpos
    obtain ⟨rest, hr, hrl⟩ := hown.rowB
    have hins := insert_has (w := w) (c := c) hT hf hcf [] L [] (g := g) (rest := rest) (n := L.length) (by simp) hlim (by simpa using hr) (by simp)
    rw [show ([] : List OpM).length + L.length = L.length from by simp] at hins
    refine hins.mono ?_
    rintro _ w' ⟨rfl, hc, hr'⟩
    refine ⟨rfl, hc, ?_⟩
    have hr' : RowB w' g 34 opL (isM le L) rest := by simpa using hr'
    rw [show Value.slice (some ⟨g, 0, none⟩) L.length c = .slice (some ⟨g, 0, none⟩) (isM le L).length c from by rw [hll]]
    refine hr'.own opL_len ?_ (by omega) hc2
    rw [List.length_append, rk_len opL_len, hll, ← hrl, List.length_append, rk_len opL_len]
  · obtain rfl : L = [] := List.eq_nil_of_length_eq_zero (by omega)
    refine (insert0_has v _ 0 0 (by omega) (by omega) (by omega) w).mono ?_
    rintro _ w' ⟨rfl, rfl⟩
    exact ⟨rfl, Chg.refl _ _, hown⟩
theorem stable_has (hT : Tot le) (hf : ∀ w1 x y, Has Go.Proofs.Try.prog fn (#[] ++ #[.agg (opL x).toArray, .agg (opL y).toArray] ++ #[]) w1 (fun v w' => Chg [] w1 w' ∧ v = .int .i64 (cf x y))) (hcf : ∀ x y, cf x y < 0 ↔ le y x = false)
    (v : Value) (L : List OpM) (hown : Own w 34 9 v L.length (L.flatMap opL)) (hlim : L.length ≤ 20) :
    Has Go.Proofs.Try.prog 46 #[v, .int .i64 L.length, .func (.func fn) #[] #[]] w (fun u w' => u = .tuple #[] ∧ Chg v.ownBlock.toList w w' ∧ Own w' 34 9 v (isM le L).length ((isM le L).flatMap opL)) := by
  refine enter Go.Proofs.Try.func46 rfl rfl (by decide) rfl (e := [(0, v), (1, .int .i64 L.length), (2, .func (.func fn) #[] #[])]) ⟨rfl, rfl, rfl, trivial⟩ ?_
  refine run ?_
  refine go T 14 rfl ?_
  have hll : (isM le L).length = L.length := (isM_perm L).length_eq
  by_cases h20 : L.length < 20
  · refine W_loop (σ := Unit) (fun _ => [(0, v), (1, .int .i64 L.length), (2, .func (.func fn) #[] #[]), (6, .int .i64 20), (7, .int .i64 0), (8, .int .i64 20)]) (fun _ w' => w' = w) (fun _ => 0) () ⟨rfl, rfl, rfl, rfl, rfl, rfl, trivial⟩ rfl ?_
    rintro _ w1 rfl
    refine run ?_
    refine go T 5 rfl ?_
    refine leF rfl rfl rfl rfl (by omega) ?_
    refine go T 5 rfl ?_
    refine rndX ?_
    refine go T 8 rfl ?_
    refine o1 rfl ?_
    refine op_call rfl rfl rfl (insertAll_has hT hf hcf v L hown (by omega)) ?_
    rintro _ w2 ⟨rfl, hc, ho⟩
    refine go T 3 rfl ?_
    refine W_loop (σ := Unit) (fun _ => [(1, .int .i64 L.length), (6, .int .i64 20)]) (fun _ w' => w' = w2) (fun _ => 0) () ⟨rfl, rfl, trivial⟩ rfl ?_
    rintro _ w3 rfl
    refine run ?_
    refine go T 5 rfl ?_
    refine ltF rfl rfl rfl rfl (by omega) ?_
    refine go T 5 rfl ?_
    refine rndX ?_
    refine go T 1 rfl ?_
    exact post0 (.inr rfl) rfl ⟨rfl, hc, ho⟩
  · have h20' : L.length = 20 := by omega
    refine W_loop (σ := Nat) (fun b => [(0, v), (1, .int .i64 L.length), (2, .func (.func fn) #[] #[]), (6, .int .i64 20), (7, .int .i64 (20 * b : Nat)), (8, .int .i64 (20 * b + 20 : Nat))]) (fun b w' => (b = 0 ∧ w' = w) ∨ (b = 1 ∧ Chg v.ownBlock.toList w w' ∧ Own w' 34 9 v (isM le L).length ((isM le L).flatMap opL))) (fun b => 1 - b) 0 ⟨rfl, rfl, rfl, rfl, rfl, rfl, trivial⟩ (.inl ⟨rfl, rfl⟩) ?_
    rintro b w1 hb
    rcases hb with ⟨rfl, rfl⟩ | ⟨rfl, hc, ho⟩
    · have hcall := insertAll_has hT hf hcf v L hown (by omega)
      rw [h20'] at hcall
      refine run ?_
      refine go T 5 rfl ?_
      refine leT rfl rfl rfl rfl (by omega) ?_
      refine go T 12 rfl ?_
      refine o1 rfl ?_
      refine op_call rfl rfl rfl hcall ?_
      rintro _ w2 ⟨rfl, hc, ho⟩
      refine go T 11 rfl ?_
      refine adI rfl rfl rfl rfl (by omega) (by omega) ?_
      refine go T 3 rfl ?_
      exact Round_n 1 ⟨rfl, rfl, rfl, rfl, rfl, rfl, trivial⟩ (.inr ⟨rfl, hc, ho⟩) (by omega)
    · refine run ?_
      refine go T 5 rfl ?_
      refine leF rfl rfl rfl rfl (by omega) ?_
      refine go T 5 rfl ?_
      refine rndX ?_
      refine go T 8 rfl ?_
      refine o1 rfl ?_
      refine op_call rfl rfl rfl (insert0_has v _ 20 L.length (by omega) (by omega) (by omega) w1) ?_
      rintro _ w2 ⟨rfl, rfl⟩
      refine go T 3 rfl ?_
      refine W_loop (σ := Unit) (fun _ => [(1, .int .i64 L.length), (6, .int .i64 20)]) (fun _ w' => w' = w2) (fun _ => 0) () ⟨rfl, rfl, trivial⟩ rfl ?_
      rintro _ w3 rfl
      refine run ?_
      refine go T 5 rfl ?_
      refine ltF rfl rfl rfl rfl (by omega) ?_
      refine go T 5 rfl ?_
      refine rndX ?_
      refine go T 1 rfl ?_
      exact post0 (.inr rfl) rfl ⟨rfl, hc, ho⟩
theorem sortStable_has (hT : Tot le) (hf : ∀ w1 x y, Has Go.Proofs.Try.prog fn (#[] ++ #[.agg (opL x).toArray, .agg (opL y).toArray] ++ #[]) w1 (fun v w' => Chg [] w1 w' ∧ v = .int .i64 (cf x y))) (hcf : ∀ x y, cf x y < 0 ↔ le y x = false)
    (v : Value) (L : List OpM) (hown : Own w 34 9 v L.length (L.flatMap opL)) (hlim : L.length ≤ 20) :
    Has Go.Proofs.Try.prog 22 #[v, .func (.func fn) #[] #[]] w (fun u w' => u = .tuple #[] ∧ Chg v.ownBlock.toList w w' ∧ Own w' 34 9 v (isM le L).length ((isM le L).flatMap opL)) := by
  obtain ⟨A, c, rfl, _, _⟩ := hown.form
  refine enter Go.Proofs.Try.func22 rfl rfl (by decide) rfl (e := [(0, .slice A L.length c), (1, .func (.func fn) #[] #[])]) ⟨rfl, rfl, trivial⟩ ?_
  refine run ?_
  refine go T 5 rfl ?_
  refine o1 rfl ?_
  refine op_call rfl rfl rfl (stable_has hT hf hcf _ L hown hlim) ?_
  rintro _ w2 ⟨rfl, hc, ho⟩
  refine go T 1 rfl ?_
  exact post0 (.inr rfl) rfl ⟨rfl, hc, ho⟩
end
end Go.Proofs.Ytjkbbkomajjegaa.Try
/-! History: Judge. -/
set_option linter.unusedVariables false
namespace Go.Proofs.Ytjkbbkomajjegaa.Try
open Go Go.Vc
section
variable {w : World}
set_option maxHeartbeats 4000000 in
theorem judge_has (vo : Value) (ops : List OpM) (hs : SliceK 9 (RdL opL) w vo ops) (hlen : ops.length ≤ 20) (hseq : ∀ o ∈ ops, o.seq ≤ 9223372036854775807) :
    Has Go.Proofs.Try.prog 12 #[vo] w (fun v w' => Chg [] w w' ∧ v = .bool (judgeM ops)) := by
  obtain ⟨Ao, co, rfl, _, _⟩ := hs.form
  refine enter Go.Proofs.Try.func12 rfl rfl (by decide) rfl (e := [(0, .slice Ao ops.length co)]) ⟨rfl, trivial⟩ ?_
  refine run ?_
  refine go T 8 rfl ?_
  refine o1 rfl (op_build T rfl rfl rfl rfl rfl rfl ?_)
  refine o1 rfl ?_
  refine op_box rfl rfl (fun g w1 hs1 hc1 hg => ?_)
  have hg : Blk w1 g 54 [.slice Ao ops.length co, .slice none 0 0, .slice none 0 0, .slice none 0 0] := hg
  have x : JAt w w1 g ops [] [] [] (.slice Ao ops.length co) (.slice none 0 0) (.slice none 0 0) (.slice none 0 0) :=
    ⟨hc1, hg, hs1, hs, Own.nil _ _ _, fun h hh => by simp [Value.ownBlock] at hh, Own.nil _ _ _, fun h hh => by simp [Value.ownBlock] at hh, Own.nil _ _ _, fun h hh => by simp [Value.ownBlock] at hh⟩
  clear hg
  refine go T 7 rfl ?_
  refine o1 rfl ?_
  refine op_call rfl rfl rfl (gather_has x (by omega)) ?_
  rintro _ w2 ⟨rfl, vc, vs, x2⟩
  clear x hc1
  obtain ⟨hnd, htold, hl1, hl2⟩ := gather_inv ops ops [] [] (fun _ h => h) (by simp) (by simp)
  unfold judgeM
  generalize gatherM ops [] [] = gm at *
  obtain ⟨b, chs, sts⟩ := gm
  dsimp only at x2 hnd htold hl1 hl2 ⊢
  rw [List.length_nil, Nat.zero_add] at hl1 hl2
  cases b with
  | false =>
    simp only [Bool.false_eq_true, if_false]
    refine go T 21 rfl ?_
    exact post1 (.inl rfl) rfl rfl ⟨x2.chg, rfl⟩
  | true =>
  simp only [if_true]
  refine go T 3 rfl ?_
  refine o1 rfl ?_
  refine op_call rfl rfl rfl (found_has x2 hnd (by omega) (by omega) (by omega)) ?_
  intro v w3 hp
  cases hfm : foundM ops sts chs with
  | none =>
    rw [hfm] at hp
    obtain ⟨rfl, hc3⟩ := hp
    dsimp only
    refine go T 17 rfl ?_
    exact post1 (.inl rfl) rfl rfl ⟨hc3, rfl⟩
  | some L =>
  rw [hfm] at hp
  obtain ⟨rfl, vc', x3⟩ := hp
  dsimp only
  clear x2
  refine go T 4 rfl ?_
  refine o1 rfl ?_
  refine op_call rfl rfl rfl (ordered_has x3 (fun c hc ht => ?_)) ?_
  · have := htold c (foundM_told hfm c hc ht)
    have := hseq c.o this.2.2
    omega
  rintro _ w4 ⟨rfl, hc4⟩
  replace x3 := x3.keep0 hc4
  cases hord : ordM ops L L 0 with
  | false =>
    simp only [Bool.false_eq_true, if_false]
    refine go T 12 rfl ?_
    exact post1 (.inl rfl) rfl rfl ⟨x3.chg, rfl⟩
  | true =>
  simp only [if_true]
  have hb := x3.blk
  obtain ⟨As, cs, rfl, _, _⟩ := x3.stsR.form
  refine go T 12 rfl ?_
  refine ldB T hb rfl rfl rfl rfl rfl rfl ?_
  refine o1 rfl ?_
  refine op_call rfl rfl rfl (sortStable_has (le := leAsked) (cf := fun a b => cmpM a.asked b.asked) totAsked (fun w1 a b => cmpAsked_has a b w1) (fun a b => cmpM_neg _ _) _ sts x3.sts (by omega)) ?_
  rintro _ w5 ⟨rfl, hc5, ho5⟩
  have hsl : (isM leAsked sts).length = sts.length := (isM_perm sts).length_eq
  have x5 := x3.setSts (sts' := isM leAsked sts) hc5 ho5 (.inl rfl) (Chg.refl _ _) (x3.blk.keep hc5 (out_of x3.blk x3.sts (by decide)))
  clear x3 ho5 hc5 hb
  rw [← hsl] at x5 ⊢
  generalize isM leAsked sts = ss at *
  have hb := x5.blk
  refine go T 8 rfl ?_
  refine ldB T hb rfl rfl rfl rfl rfl rfl ?_
  refine go T 5 rfl ?_
  clear hb
  refine W_loop (σ := Nat × List Int × Value) (fun s => [(3, .pointer (some ⟨g, 0, none⟩)), (32, .int .i64 ss.length), (33, .int .i64 s.1)])
    (fun s w' => s.1 ≤ ss.length ∧ s.2.1.length = s.1 ∧ JAt w w' g ops L ss s.2.1 (.slice Ao ops.length co) vc' (.slice As ss.length cs) s.2.2 ∧ placesM ops L ss ss [] = placesM ops L ss (ss.drop s.1) s.2.1)
    (fun s => ss.length - s.1) (0, [], .slice none 0 0) ⟨rfl, rfl, rfl, trivial⟩ ⟨Nat.zero_le _, rfl, x5, rfl⟩ ?_
  clear x5
  rintro ⟨k, pls, vp⟩ w6 ⟨hk, hpl, x, hpm⟩
  dsimp only at hk hpl x hpm ⊢
  refine run ?_
  refine go T 2 rfl ?_
  refine ltS rfl rfl rfl rfl (fun hcmp => ?_) (fun hcmp => ?_)
  · have hlt : k < ss.length := by omega
    have hx := List.getElem?_eq_getElem hlt
    rw [List.drop_eq_getElem_cons hlt, placesM] at hpm
    generalize ss[k] = y at *
    refine go T 18 rfl ?_
    refine o1 rfl ?_
    refine op_call rfl rfl rfl (place_has x hx (by omega)) ?_
    rintro _ w7 ⟨rfl, hc7⟩
    replace x := x.keep0 hc7
    generalize placeM ops L ss pls y = pm at *
    obtain ⟨n, ok⟩ := pm
    dsimp only at hpm ⊢
    cases ok with
    | false =>
      simp only [Bool.false_eq_true, if_false] at hpm
      rw [hpm]
      refine go T 24 rfl ?_
      refine rndR ?_
      refine go T 2 rfl ?_
      exact post1 (.inl rfl) rfl rfl ⟨x.chg, rfl⟩
    | true =>
    simp only [if_true] at hpm
    have hb := x.blk
    refine go T 22 rfl ?_
    refine ldB T hb rfl rfl rfl rfl rfl rfl ?_
    refine go T 1 rfl ?_
    refine o1 rfl ?_
    refine op_buildSlice T rfl rfl rfl rfl rfl rfl rfl (fun g6 w8 hs8 hc8 hg8 => ?_)
    have hg8 : Blk w8 g6 2 [i64V n] := hg8
    replace hc7 := hc7.trans' hc8
    replace x := x.keep0 hc8
    replace hb := hb.keep0 hc8
    refine o1 rfl ?_
    refine op_append1 T rfl rfl rfl rfl rfl rfl rfl rfl rfl x.pls hg8 rfl (by omega) (fun u' w9 hu9 hc9 hb9 => ?_)
    have hj9 := x.blk.keep hc9 (out_of x.blk x.pls (by decide))
    obtain ⟨Ap, cp, rfl, _, _⟩ := hu9.form
    clear hb
    refine go T 2 rfl ?_
    refine op0 rfl rfl ?_
    refine op_store T rfl rfl rfl rfl rfl rfl hj9 (by simp) (fun w10 hc10 hj10 _ => ?_)
    have hj10 : Blk w10 g 54 [.slice Ao ops.length co, vc', .slice As ss.length cs, .slice Ap (pls ++ [n]).length cp] := hj10
    refine go T 4 rfl ?_
    refine adI rfl rfl rfl rfl (by omega) (by omega) ?_
    refine go T 2 rfl ?_
    exact Round_n (k + 1, pls ++ [n], _) ⟨rfl, rfl, rfl, trivial⟩ ⟨by dsimp only; omega, by dsimp only; rw [List.length_append, List.length_singleton, hpl], x.setPls hc9 hu9 hb9 hc10 hj10, hpm⟩ (by dsimp only; omega)
  obtain rfl : k = ss.length := by omega
  rw [List.drop_length, placesM] at hpm
  rw [hpm]
  refine go T 6 rfl ?_
  refine rndX ?_
  refine go T 8 rfl ?_
  exact post1 (.inl rfl) rfl rfl ⟨x.chg, rfl⟩
end
end Go.Proofs.Ytjkbbkomajjegaa.Try
/-! History: what is judged alike. -/
set_option linter.unusedVariables false
namespace Go.Vc
open Go
/-- f turns ops, s their numbers, and no comparison of a judge sees it; D: of which ops. -/
structure Tr (f : OpM → OpM) (s : Int → Int) (D : OpM → Prop) : Prop where
  kind : ∀ o, (f o).kind = o.kind
  key : ∀ o, (f o).key = o.key
  val : ∀ o, (f o).val = o.val
  err : ∀ o, (f o).err = o.err
  aval : ∀ o, (f o).aval = o.aval
  seq : ∀ o, (f o).seq = s o.seq
  done0 : ∀ o, D o → ((f o).done = 0 ↔ o.done = 0)
  ask : ∀ a b, (f a).asked ≤ (f b).asked ↔ a.asked ≤ b.asked
  da : ∀ a b, D a → a.done ≠ 0 → ((f a).done < (f b).asked ↔ a.done < b.asked)
  ad : ∀ a b, D b → b.done ≠ 0 → ((f a).asked < (f b).done ↔ a.asked < b.done)
  mono : ∀ a b : Int, s a < s b ↔ a < b
  s0 : s 0 = 0
  s1 : s (-1) = -1
def Fc (f : OpM → OpM) (s : Int → Int) (c : ChgM) : ChgM := ⟨f c.o, s c.seq, c.told⟩
theorem isM_map {α β : Type} {le : α → α → Bool} {le' : β → β → Bool} {h : α → β} (hh : ∀ x y, le' (h x) (h y) = le x y) : ∀ l : List α, isM le' (l.map h) = (isM le l).map h
  | [] => rfl
  | x :: l => by
    have hi : ∀ l : List α, insM le' (h x) (l.map h) = (insM le x l).map h := fun l => by
      induction l with
      | nil => rfl
      | cons y l ih =>
        rw [List.map_cons, insM, insM, hh]
        split
        · rfl
        · rw [ih]; rfl
    rw [List.map_cons, isM, isM_map hh l, hi]; rfl
theorem compact_map {s : Int → Int} (hs : ∀ a b : Int, s a = s b ↔ a = b) (L : List Int) : Lib.compact (L.map s) = (Lib.compact L).map s := by
  have hg : ∀ j, j < L.length → (L.map s).toArray[j]! = s (L.toArray[j]!) := fun j hj => by simp [hj]
  unfold Lib.compact Lib.compactUpTo
  rw [List.length_map, List.map_map]
  have hk : ∀ j ∈ List.range L.length, Lib.keeps (L.map s).toArray j = Lib.keeps L.toArray j := fun j hj => by
    have hj' := List.mem_range.1 hj
    unfold Lib.keeps
    congr 1
    rw [hg j hj', hg (j - 1) (by omega)]
    simp only [ne_eq, hs]
  rw [List.filter_congr hk]
  refine List.map_congr_left (fun j hj => ?_)
  exact hg j (List.mem_range.1 (List.mem_filter.1 hj).1)
theorem idxM_map {α β : Type} {p : α → Bool} {p' : β → Bool} {h : α → β} : ∀ {l : List α}, (∀ x ∈ l, p' (h x) = p x) → idxM p' (l.map h) = idxM p l
  | [], _ => rfl
  | x :: l, hh => by
    have ih := idxM_map (p := p) (p' := p') (h := h) (l := l) (fun y hy => hh y (by simp [hy]))
    rw [List.map_cons, idxM, idxM, ih, hh x (by simp)]
section
variable {f : OpM → OpM} {s : Int → Int} {D : OpM → Prop} (t : Tr f s D)
include t
theorem Tr.inj (a b : Int) : s a = s b ↔ a = b := by
  constructor
  · intro h
    have h1 := t.mono a b
    have h2 := t.mono b a
    omega
  · rintro rfl; rfl
theorem Tr.le (a b : Int) : s a ≤ s b ↔ a ≤ b := by
  have := t.mono b a
  omega
theorem Tr.max (a b : Int) : s (max a b) = max (s a) (s b) := by
  have h1 := t.le a b
  have h2 := t.le b a
  by_cases h : a ≤ b
  · rw [Int.max_eq_right h, Int.max_eq_right (h1.2 h)]
  · rw [Int.max_eq_left (by omega), Int.max_eq_left (h2.2 (by omega))]
theorem Tr.lt1 (a : Int) : s a < 1 ↔ a < 1 := by
  have h := t.le a 0
  rw [t.s0] at h
  omega
theorem Tr.told {o : OpM} (hD : D o) : toldM (f o) = toldM o := by unfold toldM; rw [t.kind, t.err]; simp only [ne_eq, t.done0 o hD]
theorem Tr.openE {o : OpM} (hD : D o) : openM (f o) = openM o := by unfold openM; rw [t.kind, t.err]; simp only [t.done0 o hD]
theorem Tr.sight {o : OpM} (hD : D o) : sightM (f o) = sightM o := by unfold sightM; rw [t.kind, t.err]; simp only [ne_eq, t.done0 o hD]
theorem Tr.saw {o : OpM} (hD : D o) : sawM (f o) = sawM o := by unfold sawM; rw [t.sight hD, t.err]
theorem Tr.find (chs : List ChgM) (x : Int) : findM (chs.map (Fc f s)) (s x) = findM chs x := by
  unfold findM
  exact idxM_map (fun c _ => by unfold Fc; simp only [t.inj])
theorem Tr.gather : ∀ (l : List OpM) (chs : List ChgM) (sts : List OpM), (∀ o ∈ l, D o) →
    gatherM (l.map f) (chs.map (Fc f s)) (sts.map f) = ((gatherM l chs sts).1, (gatherM l chs sts).2.1.map (Fc f s), (gatherM l chs sts).2.2.map f)
  | [], chs, sts, _ => rfl
  | o :: l, chs, sts, hD => by
    have hDo := hD o (by simp)
    have hst : (if sightM (f o) = true then sts.map f ++ [f o] else sts.map f) = (if sightM o = true then sts ++ [o] else sts).map f := by
      rw [t.sight hDo]; split <;> simp
    rw [List.map_cons, gatherM, gatherM, t.told hDo, hst, t.seq, t.find]
    simp only [t.lt1]
    split
    · exact Tr.gather l chs _ (fun x hx => hD x (by simp [hx]))
    split
    · rfl
    · have := Tr.gather l (chs ++ [⟨o, o.seq, true⟩]) (if sightM o = true then sts ++ [o] else sts) (fun x hx => hD x (by simp [hx]))
      rw [← this]
      simp [Fc]
theorem Tr.seen (x : Int) : ∀ (l : List OpM) (g g' : OpM), (∀ o ∈ l, D o) → (g'.done = 0 ↔ g.done = 0) → g'.key = g.key → g'.aval = g.aval →
    (seenM x l g = none ∧ seenM (s x) (l.map f) g' = none) ∨ ∃ h h', seenM x l g = some h ∧ seenM (s x) (l.map f) g' = some h' ∧ h'.key = h.key ∧ h'.aval = h.aval
  | [], g, g', _, h1, h2, h3 => .inr ⟨g, g', rfl, rfl, h2, h3⟩
  | o :: l, g, g', hD, h1, h2, h3 => by
    have hDo := hD o (by simp)
    rw [List.map_cons, seenM, seenM, t.saw hDo, t.seq]
    by_cases hc : sawM o = true ∧ o.seq = x
    · rw [if_pos hc, if_pos (show sawM o = true ∧ s o.seq = s x from ⟨hc.1, (t.inj _ _).2 hc.2⟩)]
      have hn : ((if g'.done = 0 then f o else g').done = 0 ↔ (if g.done = 0 then o else g).done = 0) ∧ (if g'.done = 0 then f o else g').key = (if g.done = 0 then o else g).key ∧ (if g'.done = 0 then f o else g').aval = (if g.done = 0 then o else g).aval := by
        by_cases hg : g.done = 0
        · rw [if_pos hg, if_pos (h1.2 hg)]
          exact ⟨t.done0 o hDo, t.key o, t.aval o⟩
        · rw [if_neg hg, if_neg (fun h => hg (h1.1 h))]
          exact ⟨h1, h2, h3⟩
      rw [t.key, t.aval, hn.2.1, hn.2.2]
      by_cases hk : o.key = (if g.done = 0 then o else g).key ∧ o.aval = (if g.done = 0 then o else g).aval
      · simp only [if_pos hk]
        exact Tr.seen x l _ _ (fun y hy => hD y (by simp [hy])) hn.1 hn.2.1 hn.2.2
      · exact .inl ⟨if_neg hk, if_neg hk⟩
    · rw [if_neg hc, if_neg (show ¬ (sawM o = true ∧ s o.seq = s x) from fun h => hc ⟨h.1, (t.inj _ _).1 h.2⟩)]
      exact Tr.seen x l g g' (fun y hy => hD y (by simp [hy])) h1 h2 h3
theorem Tr.pick (tk : TkM) (h h' : OpM) (hk : h'.key = h.key) (ha : h'.aval = h.aval) : ∀ (l : List OpM) (i : Nat), (∀ o ∈ l, D o) → pickM tk h' (l.map f) i = (pickM tk h l i).map (fun q => (q.1, f q.2))
  | [], i, _ => rfl
  | o :: l, i, hD => by
    have hDo := hD o (by simp)
    have hf : fitsM tk h' (f o) i = fitsM tk h o i := by
      unfold fitsM
      rw [t.openE hDo, t.kind, t.key, t.val, hk, ha]
    rw [List.map_cons, pickM, pickM, hf]
    split
    · rfl
    · exact Tr.pick tk h h' hk ha l (i + 1) (fun y hy => hD y (by simp [hy]))
theorem Tr.take {ops sts : List OpM} (hO : ∀ o ∈ ops, D o) (hS : ∀ o ∈ sts, D o) (x : Int) (p : List ChgM × TkM) : takeM (ops.map f) (sts.map f) (s x) (p.1.map (Fc f s), p.2) = (takeM ops sts x p).map (fun q => (q.1.map (Fc f s), q.2)) := by
  unfold takeM
  rcases t.seen x sts zeroOp zeroOp hS Iff.rfl rfl rfl with ⟨h1, h2⟩ | ⟨h, h', h1, h2, h3, h4⟩
  · rw [h1, h2]; rfl
  · rw [h1, h2]
    dsimp only
    rw [t.pick p.2 h h' h3 h4 ops 0 hO]
    cases pickM p.2 h ops 0 with
    | none => rfl
    | some q => simp [Fc]
theorem Tr.takes {ops sts : List OpM} (hO : ∀ o ∈ ops, D o) (hS : ∀ o ∈ sts, D o) : ∀ (l : List Int) (p : List ChgM × TkM), takesM (ops.map f) (sts.map f) (l.map s) (p.1.map (Fc f s), p.2) = (takesM ops sts l p).map (fun q => (q.1.map (Fc f s), q.2))
  | [], p => rfl
  | x :: l, p => by
    rw [List.map_cons, takesM, takesM, t.take hO hS x p]
    cases takeM ops sts x p with
    | none => rfl
    | some q => exact Tr.takes hO hS l q
theorem Tr.seqs (chs : List ChgM) : ∀ (l : List OpM) (q : List Int), (∀ o ∈ l, D o) → seqsM (chs.map (Fc f s)) (l.map f) (q.map s) = (seqsM chs l q).map (fun r => r.map s)
  | [], q, _ => rfl
  | o :: l, q, hD => by
    have hDo := hD o (by simp)
    have ih := fun q => Tr.seqs chs l q (fun y hy => hD y (by simp [hy]))
    rw [List.map_cons, seqsM, seqsM, t.saw hDo, t.seq, t.find]
    simp only [t.lt1]
    split
    · split
      · rfl
      split
      · rw [← ih]; simp
      · rw [List.getElem?_map]
        cases chs[(findM chs o.seq).toNat]? with
        | none => rfl
        | some c =>
          dsimp only [Option.map_some]
          rw [show (Fc f s c).o = f c.o from rfl, t.kind, t.key, t.val, t.key, t.aval]
          split
          · exact ih q
          · rfl
    · exact ih q
theorem Tr.found {ops sts : List OpM} (hO : ∀ o ∈ ops, D o) (hS : ∀ o ∈ sts, D o) (chs : List ChgM) : foundM (ops.map f) (sts.map f) (chs.map (Fc f s)) = (foundM ops sts chs).map (fun L => L.map (Fc f s)) := by
  unfold foundM
  have h0 := t.seqs chs sts [] hS
  rw [List.map_nil] at h0
  rw [h0]
  cases seqsM chs sts [] with
  | none => rfl
  | some q =>
    dsimp only [Option.map_some]
    rw [isM_map (le := leI) (le' := leI) (h := s) (fun x y => by unfold leI; simp only [t.le]), compact_map t.inj, t.takes hO hS _ (chs, fun _ => none)]
    cases takesM ops sts (Lib.compact (isM leI q)) (chs, fun _ => none) with
    | none => rfl
    | some p =>
      dsimp only [Option.map_some]
      rw [isM_map (le := leC) (le' := leC) (h := Fc f s) (fun x y => by unfold leC Fc; simp only [t.le])]
theorem Tr.there (chs : List ChgM) (key : Bs) (u u' : Int) (hu : ∀ c ∈ chs, (s c.seq ≤ u' ↔ c.seq ≤ u)) : thereM (chs.map (Fc f s)) key u' = thereM chs key u := by
  unfold thereM
  have : ∀ (l : List ChgM) (b : Bool), (∀ c ∈ l, (s c.seq ≤ u' ↔ c.seq ≤ u)) → (l.map (Fc f s)).foldl (fun is c => if c.seq ≤ u' ∧ c.o.key = key then decide (c.o.kind = 1) else is) b = l.foldl (fun is c => if c.seq ≤ u ∧ c.o.key = key then decide (c.o.kind = 1) else is) b := by
    intro l
    induction l with
    | nil => intro b _; rfl
    | cons c l ih =>
      intro b h
      rw [List.map_cons, List.foldl_cons, List.foldl_cons, ih _ (fun x hx => h x (by simp [hx]))]
      congr 1
      unfold Fc
      simp only [t.key, t.kind, h c (by simp)]
  exact this chs false hu
theorem Tr.opened {ops : List OpM} (hO : ∀ o ∈ ops, D o) (kind : Int) (key : Bs) {b : OpM} (hb : D b) (hb0 : b.done ≠ 0) : openedM (ops.map f) kind key (f b).done = openedM ops kind key b.done := by
  unfold openedM
  rw [List.any_map]
  have : ∀ (l : List OpM), (∀ o ∈ l, D o) → l.any ((fun o => openM o && decide (o.kind = kind ∧ o.key = key ∧ o.asked < (f b).done)) ∘ f) = l.any (fun o => openM o && decide (o.kind = kind ∧ o.key = key ∧ o.asked < b.done)) := by
    intro l
    induction l with
    | nil => intro _; rfl
    | cons o l ih =>
      intro h
      rw [List.any_cons, List.any_cons, ih (fun x hx => h x (by simp [hx]))]
      congr 1
      simp only [Function.comp, t.openE (h o (by simp)), t.kind, t.key, t.ad o b hb hb0]
  exact this ops hO
/-- What a list of changes must be for the rest: those told were answered. -/
def Told0 (D : OpM → Prop) (chs : List ChgM) : Prop := ∀ c ∈ chs, D c.o ∧ (c.told = true → c.o.done ≠ 0)
theorem Tr.row (i : Nat) {a : ChgM} (ha : D a.o ∧ (a.told = true → a.o.done ≠ 0)) : ∀ (l : List ChgM) (k : Nat), rowM i (Fc f s a) (l.map (Fc f s)) k = rowM i a l k
  | [], _ => rfl
  | b :: l, k => by
    have hc : clashM i k (Fc f s a) (Fc f s b) = clashM i k a b := by
      unfold clashM Fc
      by_cases htold : a.told = true
      · simp only [t.da a.o b.o ha.1 (ha.2 htold), t.le]
      · simp [htold]
    rw [List.map_cons, rowM, rowM, hc, Tr.row i ha l (k + 1)]
theorem Tr.ord {ops : List OpM} (hO : ∀ o ∈ ops, D o) (chs : List ChgM) : ∀ (l : List ChgM) (i : Nat), Told0 D l → ordM (ops.map f) (chs.map (Fc f s)) (l.map (Fc f s)) i = ordM ops chs l i
  | [], _, _ => rfl
  | a :: l, i, h => by
    have ha := h a (by simp)
    have hd : delM (ops.map f) (chs.map (Fc f s)) (Fc f s a) = delM ops chs a := by
      unfold delM
      by_cases htold : a.told = true
      · have h1 : openedM (ops.map f) 1 (Fc f s a).o.key (Fc f s a).o.done = openedM ops 1 a.o.key a.o.done := by
          rw [show (Fc f s a).o = f a.o from rfl, t.key]
          exact t.opened hO 1 a.o.key ha.1 (ha.2 htold)
        have h2 : thereM (chs.map (Fc f s)) (Fc f s a).o.key ((Fc f s a).seq - 1) = thereM chs a.o.key (a.seq - 1) := by
          rw [show (Fc f s a).o = f a.o from rfl, t.key]
          refine t.there chs a.o.key _ _ (fun c _ => ?_)
          have := t.mono c.seq a.seq
          show s c.seq ≤ s a.seq - 1 ↔ _
          omega
        rw [h1, h2, show (Fc f s a).o.kind = a.o.kind from t.kind _]
        rfl
      · rw [show (Fc f s a).told = a.told from rfl]
        simp [htold]
    rw [List.map_cons, ordM, ordM, t.row i ha, hd, Tr.ord hO chs l (i + 1) (fun c hc => h c (by simp [hc]))]
theorem Tr.least {chs : List ChgM} (hC : Told0 D chs) {sts : List OpM} (hS : ∀ o ∈ sts, D o ∧ o.done ≠ 0) (pls : List Int) {o : OpM} (ho : D o) : leastM (chs.map (Fc f s)) (sts.map f) (pls.map s) (f o) = s (leastM chs sts pls o) := by
  unfold leastM
  have h0 : (if sawM (f o) = true then (f o).seq else 0) = s (if sawM o = true then o.seq else 0) := by
    rw [t.saw ho, t.seq]
    split
    · rfl
    · exact t.s0.symm
  rw [h0]
  generalize (if sawM o = true then o.seq else 0) = n0
  have h1 : ∀ (l : List ChgM) (n : Int), Told0 D l → (l.map (Fc f s)).foldl (lowM (f o)) (s n) = s (l.foldl (lowM o) n) := by
    intro l
    induction l with
    | nil => intro n _; rfl
    | cons c l ih =>
      intro n h
      have hc := h c (by simp)
      rw [List.map_cons, List.foldl_cons, List.foldl_cons, ← ih _ (fun x hx => h x (by simp [hx]))]
      congr 1
      unfold lowM Fc
      by_cases htold : c.told = true
      · simp only [htold, true_and, t.da c.o o hc.1 (hc.2 htold)]
        split
        · exact (t.max _ _).symm
        · rfl
      · simp [htold]
  have h2 : ∀ (l : List Int) (S : List OpM) (n : Int), (∀ o ∈ S, D o ∧ o.done ≠ 0) → ((l.map s).zip (S.map f)).foldl (low2M (f o)) (s n) = s ((l.zip S).foldl (low2M o) n) := by
    intro l
    induction l with
    | nil => intro S n _; rfl
    | cons p l ih =>
      intro S n h
      cases S with
      | nil => rfl
      | cons y S =>
        have hy := h y (by simp)
        rw [List.map_cons, List.map_cons, List.zip_cons_cons, List.zip_cons_cons, List.foldl_cons, List.foldl_cons, ← ih S _ (fun x hx => h x (by simp [hx]))]
        congr 1
        unfold low2M
        simp only [t.da y o hy.1 hy.2]
        split
        · exact (t.max _ _).symm
        · rfl
  rw [h1 chs n0 hC, h2 pls sts _ hS]
theorem Tr.climb (chs : List ChgM) (key : Bs) : ∀ (l : List ChgM) (n : Int), climbM (chs.map (Fc f s)) key (l.map (Fc f s)) (s n) = (climbM chs key l n).map s
  | [], n => by
    rw [List.map_nil, climbM, climbM, t.there chs key n (s n) (fun c _ => t.le _ _)]
    split <;> rfl
  | c :: l, n => by
    rw [List.map_cons, climbM, climbM, t.there chs key n (s n) (fun c _ => t.le _ _)]
    split
    · rw [← Tr.climb chs key l]
      rw [t.max]; rfl
    · rfl
theorem Tr.last {chs : List ChgM} (hC : Told0 D chs) {o : OpM} (ho : D o) (ho0 : o.done ≠ 0) (n : Int) : lastM (chs.map (Fc f s)) (f o) (s n) = (s (lastM chs o n).1, (lastM chs o n).2) := by
  unfold lastM
  have : (chs.map (Fc f s)).any (badM (f o) (s n)) = chs.any (badM o n) := by
    rw [List.any_map]
    congr 1
    funext c
    unfold badM Fc Function.comp
    simp only [t.le, t.da o c.o ho ho0, t.saw ho, t.key, t.seq, t.mono]
  rw [this]
  split
  · rw [t.s0]
  · rfl
theorem Tr.place {ops : List OpM} (hO : ∀ o ∈ ops, D o) {chs : List ChgM} (hC : Told0 D chs) {sts : List OpM} (hS : ∀ o ∈ sts, D o ∧ o.done ≠ 0) (pls : List Int) {o : OpM} (ho : D o) (ho0 : o.done ≠ 0) :
    placeM (ops.map f) (chs.map (Fc f s)) (sts.map f) (pls.map s) (f o) = (s (placeM ops chs sts pls o).1, (placeM ops chs sts pls o).2) := by
  unfold placeM
  rw [t.saw ho, t.least hC hS pls ho, t.last hC ho ho0, t.key, t.opened hO 3 o.key ho ho0, t.climb chs o.key chs]
  split
  · rfl
  split
  · rw [t.s1]
  · cases climbM chs o.key chs (leastM chs sts pls o) with
    | none => simp [t.s0]
    | some n => exact t.last hC ho ho0 n
theorem Tr.places {ops : List OpM} (hO : ∀ o ∈ ops, D o) {chs : List ChgM} (hC : Told0 D chs) {sts : List OpM} (hS : ∀ o ∈ sts, D o ∧ o.done ≠ 0) : ∀ (l : List OpM) (pls : List Int), (∀ o ∈ l, D o ∧ o.done ≠ 0) → placesM (ops.map f) (chs.map (Fc f s)) (sts.map f) (l.map f) (pls.map s) = placesM ops chs sts l pls
  | [], pls, _ => rfl
  | o :: l, pls, h => by
    have ho := h o (by simp)
    rw [List.map_cons, placesM, placesM, t.place hO hC hS pls ho.1 ho.2]
    dsimp only
    split
    · rw [← Tr.places hO hC hS l _ (fun x hx => h x (by simp [hx]))]
      simp
    · rfl
end
theorem gather_told0 {D : OpM → Prop} : ∀ (l : List OpM) (chs : List ChgM) (sts : List OpM), (∀ o ∈ l, D o) → Told0 D chs → (∀ o ∈ sts, D o ∧ o.done ≠ 0) → Told0 D (gatherM l chs sts).2.1 ∧ ∀ o ∈ (gatherM l chs sts).2.2, D o ∧ o.done ≠ 0
  | [], chs, sts, _, h1, h2 => ⟨h1, h2⟩
  | o :: l, chs, sts, hD, h1, h2 => by
    have hDo := hD o (by simp)
    have hs : ∀ x ∈ (if sightM o = true then sts ++ [o] else sts), D x ∧ x.done ≠ 0 := fun x hx => by
      split at hx
      · rename_i hsi
        rcases List.mem_append.1 hx with hx | hx
        · exact h2 x hx
        · simp at hx; subst hx
          unfold sightM at hsi
          exact ⟨hDo, (of_decide_eq_true hsi).1⟩
      · exact h2 x hx
    rw [gatherM]
    split
    · exact gather_told0 l chs _ (fun x hx => hD x (by simp [hx])) h1 hs
    rename_i ht
    split
    · exact ⟨h1, hs⟩
    · refine gather_told0 l _ _ (fun x hx => hD x (by simp [hx])) (fun c hc => ?_) hs
      rcases List.mem_append.1 hc with hc | hc
      · exact h1 c hc
      · simp at hc; subst hc
        have ht' : toldM o = true := by cases h : toldM o with
          | true => rfl
          | false => exact absurd h ht
        unfold toldM at ht'
        exact ⟨hDo, fun _ => (of_decide_eq_true ht').2.1⟩
theorem takes_told0 {D : OpM → Prop} {ops sts : List OpM} (hO : ∀ o ∈ ops, D o) : ∀ {l : List Int} {p p' : List ChgM × TkM}, takesM ops sts l p = some p' → Told0 D p.1 → Told0 D p'.1
  | [], p, p', h, h1 => by simp [takesM] at h; subst h; exact h1
  | s :: l, p, p', h, h1 => by
    rw [takesM] at h
    split at h
    · cases h
    · rename_i p1 hp1
      obtain ⟨o, ho, _, _, e⟩ := takeM_chs hp1
      refine takes_told0 hO h (fun c hc => ?_)
      rw [e] at hc
      rcases List.mem_append.1 hc with hc | hc
      · exact h1 c hc
      · simp at hc; subst hc
        exact ⟨hO o ho, fun h => by cases h⟩
theorem found_told0 {D : OpM → Prop} {ops sts : List OpM} {chs L : List ChgM} (hO : ∀ o ∈ ops, D o) (h : foundM ops sts chs = some L) (h1 : Told0 D chs) : Told0 D L := by
  unfold foundM at h
  split at h
  · cases h
  · split at h
    · cases h
    · rename_i q _ p hp
      injection h with h
      subst h
      exact fun c hc => takes_told0 hO hp h1 c ((isM_perm _).mem_iff.1 hc)
/-- **What no comparison sees is judged alike.** -/
theorem Tr.judge {f : OpM → OpM} {s : Int → Int} {D : OpM → Prop} (t : Tr f s D) {ops : List OpM} (hO : ∀ o ∈ ops, D o) : judgeM (ops.map f) = judgeM ops := by
  unfold judgeM
  have hg := t.gather ops [] [] hO
  rw [List.map_nil, List.map_nil] at hg
  obtain ⟨h1, h2⟩ := gather_told0 (D := D) ops [] [] hO (fun c hc => by cases hc) (fun o ho => by cases ho)
  rw [hg]
  generalize gatherM ops [] [] = gm at *
  obtain ⟨b, chs, sts⟩ := gm
  dsimp only at h1 h2 ⊢
  rw [t.found hO (fun o ho => (h2 o ho).1) chs]
  cases b with
  | false => rfl
  | true =>
  simp only [if_true]
  cases hf : foundM ops sts chs with
  | none => rfl
  | some L =>
    have hL := found_told0 hO hf h1
    dsimp only [Option.map_some]
    have hS : ∀ o ∈ isM leAsked sts, D o ∧ o.done ≠ 0 := fun o ho => h2 o ((isM_perm _).mem_iff.1 ho)
    rw [t.ord hO L L 0 hL, isM_map (le := leAsked) (le' := leAsked) (h := f) (fun x y => by unfold leAsked; simp only [t.ask])]
    have := t.places hO hL hS (isM leAsked sts) [] hS
    rw [List.map_nil] at this
    rw [this]
/-- At other times. -/
def shiftO (by_ : Int) (o : OpM) : OpM := ⟨o.kind, o.key, o.val, o.asked + by_, if 0 < o.done then o.done + by_ else o.done, o.err, o.seq, o.aval, o.num⟩
theorem shiftTr (by_ : Int) (h : 0 ≤ by_) : Tr (shiftO by_) (fun x => x) (fun o => 0 ≤ o.done) where
  kind _ := rfl
  key _ := rfl
  val _ := rfl
  err _ := rfl
  aval _ := rfl
  seq _ := rfl
  done0 o ho := by unfold shiftO; dsimp only; split <;> omega
  ask a b := by unfold shiftO; dsimp only; omega
  da a b ha h0 := by unfold shiftO; dsimp only; rw [if_pos (by omega)]; omega
  ad a b hb h0 := by unfold shiftO; dsimp only; rw [if_pos (by omega)]; omega
  mono a b := Iff.rfl
  s0 := rfl
  s1 := rfl
def twice (x : Int) : Int := if x < 0 then x else x * 2
def twiceO (o : OpM) : OpM := ⟨o.kind, o.key, o.val, o.asked, o.done, o.err, twice o.seq, o.aval, o.num⟩
theorem twiceTr : Tr twiceO twice (fun _ => True) where
  kind _ := rfl
  key _ := rfl
  val _ := rfl
  err _ := rfl
  aval _ := rfl
  seq _ := rfl
  done0 o ho := Iff.rfl
  ask a b := Iff.rfl
  da a b _ _ := Iff.rfl
  ad a b _ _ := Iff.rfl
  mono a b := by unfold twice; split <;> split <;> omega
  s0 := rfl
  s1 := rfl
end Go.Vc
/-! History: what a map makes is judged right; with one answer turned it is not. The plain law. -/
set_option linter.unusedVariables false
namespace Go.Vc
open Go
def chO (o : OpM) : ChgM := ⟨o, o.seq, true⟩
def toldF (L : List OpM) : List OpM := L.filter toldM
def lastF (T : List OpM) (key : Bs) : Bool := T.foldl (fun is o => if o.key = key then decide (o.kind = 1) else is) false
structure Base (L : List OpM) : Prop where
  time : L.Pairwise (fun a b => a.done < b.asked)
  rise : (toldF L).Pairwise (fun a b => a.seq < b.seq)
  each : ∀ o ∈ L, o.asked < o.done ∧ 0 < o.asked ∧ (o.err = 0 ∨ o.err = 3)
  pos : ∀ o ∈ L, toldM o = true → 1 ≤ o.seq
  del : ∀ (i : Nat) o, L[i]? = some o → toldM o = true → o.kind = 3 → lastF (toldF (L.take i)) o.key = true
def Saws (L : List OpM) : Prop := ∀ (i : Nat) o, L[i]? = some o → sawM o = true → lastF (toldF (L.take i)) o.key = true ∧ ∃ c ∈ toldF (L.take i), c.kind = 1 ∧ c.key = o.key ∧ c.val = o.aval ∧ c.seq = o.seq ∧ ∀ d ∈ toldF (L.take i), d.key = o.key → d.seq ≤ o.seq
structure Sights (L : List OpM) : Prop where
  saw : Saws L
  not : ∀ (i : Nat) o, L[i]? = some o → sightM o = true → sawM o = false → lastF (toldF (L.take i)) o.key = false
theorem isM_id {α : Type} {le : α → α → Bool} : ∀ {l : List α}, l.Pairwise (fun a b => le a b = true) → isM le l = l
  | [], _ => rfl
  | x :: l, h => by
    rw [List.pairwise_cons] at h
    rw [isM, isM_id h.2]
    cases l with
    | nil => rfl
    | cons y l => rw [insM, if_pos (h.1 y (by simp))]
theorem toldF_mem {L : List OpM} {o : OpM} : o ∈ toldF L ↔ o ∈ L ∧ toldM o = true := by unfold toldF; rw [List.mem_filter]
theorem toldF_split (L : List OpM) (i : Nat) : toldF L = toldF (L.take i) ++ toldF (L.drop i) := by
  unfold toldF
  rw [← List.filter_append, List.take_append_drop]
theorem Base.noopen {L : List OpM} (h : Base L) {o : OpM} (ho : o ∈ L) : openM o = false := by
  have := h.each o ho
  unfold openM
  rw [decide_eq_false_iff_not]
  omega
theorem Base.noopened {L : List OpM} (h : Base L) (kind : Int) (key : Bs) (n : Int) : openedM L kind key n = false := by
  unfold openedM
  rw [List.any_eq_false]
  intro o ho
  rw [h.noopen ho]
  simp
theorem Base.cross {L : List OpM} (h : Base L) (i : Nat) : (∀ a ∈ toldF (L.take i), ∀ b ∈ toldF (L.drop i), a.seq < b.seq) ∧ ∀ a ∈ L.take i, ∀ b ∈ L.drop i, a.done < b.asked := by
  constructor
  · have := h.rise
    rw [toldF_split L i, List.pairwise_append] at this
    exact this.2.2
  · have := h.time
    rw [← List.take_append_drop i L, List.pairwise_append] at this
    exact this.2.2
theorem gather_tale : ∀ (L : List OpM) (chs : List ChgM) (sts : List OpM), (∀ o ∈ L, toldM o = true → 1 ≤ o.seq) → (toldF L).Pairwise (fun a b => a.seq < b.seq) → (∀ c ∈ chs, ∀ o ∈ toldF L, c.seq < o.seq) →
    gatherM L chs sts = (true, chs ++ (toldF L).map chO, sts ++ L.filter sightM)
  | [], chs, sts, _, _, _ => by simp [gatherM, toldF]
  | o :: L, chs, sts, h1, h2, h3 => by
    have hs : (if sightM o = true then sts ++ [o] else sts) ++ L.filter sightM = sts ++ (o :: L).filter sightM := by
      rw [List.filter_cons]
      split <;> simp
    rw [gatherM]
    by_cases ht : toldM o = true
    · have hf : toldF (o :: L) = o :: toldF L := by unfold toldF; rw [List.filter_cons, if_pos ht]
      rw [hf] at h2 h3 ⊢
      rw [List.pairwise_cons] at h2
      have hfind : findM chs o.seq = -1 := idxM_none (fun c hc => by
        have := h3 c hc o (by simp)
        simp; omega)
      have hp := h1 o (by simp) ht
      rw [if_neg (by simp [ht]), if_neg (by rw [hfind]; omega), gather_tale L _ _ (fun x hx => h1 x (by simp [hx])) h2.2 (fun c hc x hx => by
        rcases List.mem_append.1 hc with hc | hc
        · exact h3 c hc x (by simp [hx])
        · simp at hc; subst hc; exact h2.1 x hx), hs]
      simp [chO]
    · have hf : toldF (o :: L) = toldF L := by unfold toldF; rw [List.filter_cons, if_neg ht]
      rw [hf] at h2 h3 ⊢
      rw [if_pos (by simpa using ht), gather_tale L _ _ (fun x hx => h1 x (by simp [hx])) h2 h3, hs]
theorem there_at {L : List OpM} (h : Base L) (i : Nat) (key : Bs) (n : Int) (h1 : ∀ a ∈ toldF (L.take i), a.seq ≤ n) (h2 : ∀ b ∈ toldF (L.drop i), n < b.seq) : thereM ((toldF L).map chO) key n = lastF (toldF (L.take i)) key := by
  have hA : ∀ (T : List OpM) (b : Bool), (∀ a ∈ T, a.seq ≤ n) → (T.map chO).foldl (fun is c => if c.seq ≤ n ∧ c.o.key = key then decide (c.o.kind = 1) else is) b = T.foldl (fun is o => if o.key = key then decide (o.kind = 1) else is) b := by
    intro T
    induction T with
    | nil => intro b _; rfl
    | cons a T ih =>
      intro b hT
      have ha := hT a (by simp)
      rw [List.map_cons, List.foldl_cons, List.foldl_cons, ih _ (fun x hx => hT x (by simp [hx]))]
      have e : (if (chO a).seq ≤ n ∧ (chO a).o.key = key then decide ((chO a).o.kind = 1) else b) = if a.key = key then decide (a.kind = 1) else b := by
        by_cases hk : a.key = key
        · rw [if_pos hk, if_pos ⟨ha, hk⟩]; rfl
        · rw [if_neg hk, if_neg (fun h => hk h.2)]
      rw [e]
  have hB : ∀ (T : List OpM) (b : Bool), (∀ a ∈ T, n < a.seq) → (T.map chO).foldl (fun is c => if c.seq ≤ n ∧ c.o.key = key then decide (c.o.kind = 1) else is) b = b := by
    intro T
    induction T with
    | nil => intro b _; rfl
    | cons a T ih =>
      intro b hT
      have ha := hT a (by simp)
      rw [List.map_cons, List.foldl_cons, ih _ (fun x hx => hT x (by simp [hx]))]
      rw [if_neg (by simp [chO]; omega)]
  unfold thereM lastF
  rw [toldF_split L i, List.map_append, List.foldl_append, hA _ _ h1, hB _ _ h2]
theorem low_ge {o : OpM} : ∀ (chs : List ChgM) (n : Int), n ≤ chs.foldl (lowM o) n ∧ ∀ c ∈ chs, c.told = true → c.o.done < o.asked → c.seq ≤ chs.foldl (lowM o) n
  | [], n => ⟨Int.le_refl _, fun c hc => by cases hc⟩
  | a :: chs, n => by
    obtain ⟨h1, h2⟩ := low_ge (o := o) chs (lowM o n a)
    have h3 : n ≤ lowM o n a := by unfold lowM; split <;> omega
    rw [List.foldl_cons]
    refine ⟨by omega, fun c hc ht hd => ?_⟩
    rcases List.mem_cons.1 hc with rfl | hc
    · have : c.seq ≤ lowM o n c := by unfold lowM; rw [if_pos ⟨ht, hd⟩]; omega
      omega
    · exact h2 c hc ht hd
theorem low_lt {o : OpM} {b : Int} : ∀ (chs : List ChgM) (n : Int), n < b → (∀ c ∈ chs, c.o.done < o.asked → c.seq < b) → chs.foldl (lowM o) n < b
  | [], n, h, _ => h
  | a :: chs, n, h, hc => by
    rw [List.foldl_cons]
    refine low_lt chs _ ?_ (fun c h => hc c (by simp [h]))
    unfold lowM
    split
    · rename_i h1
      have := hc a (by simp) h1.2
      omega
    · exact h
theorem low2_ge {o : OpM} : ∀ (q : List (Int × OpM)) (n : Int), n ≤ q.foldl (low2M o) n
  | [], n => Int.le_refl _
  | a :: q, n => by
    have h1 := low2_ge (o := o) q (low2M o n a)
    have h3 : n ≤ low2M o n a := by unfold low2M; split <;> omega
    rw [List.foldl_cons]
    omega
theorem low2_lt {o : OpM} {b : Int} : ∀ (q : List (Int × OpM)) (n : Int), n < b → (∀ c ∈ q, c.1 < b) → q.foldl (low2M o) n < b
  | [], n, h, _ => h
  | a :: q, n, h, hc => by
    rw [List.foldl_cons]
    refine low2_lt q _ ?_ (fun c h => hc c (by simp [h]))
    have := hc a (by simp)
    unfold low2M
    split <;> omega
theorem least_ge {L : List OpM} (h : Base L) {i : Nat} {o : OpM} (hi : L[i]? = some o) (sts : List OpM) (pls : List Int) : ∀ a ∈ toldF (L.take i), a.seq ≤ leastM ((toldF L).map chO) sts pls o := by
  intro a ha
  have hd : a.done < o.asked := (h.cross i).2 a (toldF_mem.1 ha).1 o (by
    have hlt := (List.getElem?_eq_some_iff.1 hi).1
    rw [List.drop_eq_getElem_cons hlt]
    have : L[i] = o := by rw [List.getElem?_eq_getElem hlt] at hi; injection hi
    rw [this]; simp)
  have h1 := (low_ge (o := o) ((toldF L).map chO) (if sawM o = true then o.seq else 0)).2 (chO a) (List.mem_map.2 ⟨a, by rw [toldF_split L i]; simp [ha], rfl⟩) rfl hd
  have h2 := low2_ge (o := o) (pls.zip sts) (((toldF L).map chO).foldl (lowM o) (if sawM o = true then o.seq else 0))
  unfold leastM
  have : (chO a).seq = a.seq := rfl
  omega
theorem drop_head {L : List OpM} {i : Nat} {o : OpM} (hi : L[i]? = some o) : L.drop i = o :: L.drop (i + 1) := by
  have hlt := (List.getElem?_eq_some_iff.1 hi).1
  rw [List.drop_eq_getElem_cons hlt]
  have : L[i] = o := by rw [List.getElem?_eq_getElem hlt] at hi; injection hi
  rw [this]
theorem least_lt {L : List OpM} (h : Base L) {i : Nat} {o : OpM} (hi : L[i]? = some o) (hq : sawM o = true → ∀ b ∈ toldF (L.drop i), o.seq < b.seq) (sts : List OpM) (pls : List Int) (hp : ∀ q ∈ pls, ∀ b ∈ toldF (L.drop i), q < b.seq) :
    ∀ b ∈ toldF (L.drop i), leastM ((toldF L).map chO) sts pls o < b.seq := by
  intro b hb
  unfold leastM
  have hbL := (toldF_mem.1 hb)
  have hb1 := h.pos b (List.mem_of_mem_drop hbL.1) hbL.2
  refine low2_lt _ _ (low_lt _ _ ?_ (fun c hc hd => ?_)) (fun c hc => hp c.1 (List.of_mem_zip hc).1 b hb)
  · split
    · rename_i hs; exact hq hs b hb
    · omega
  · obtain ⟨a, ha, rfl⟩ := List.mem_map.1 hc
    rw [toldF_split L i, List.mem_append] at ha
    rcases ha with ha | ha
    · exact (h.cross i).1 a ha b hb
    · exfalso
      have hd : a.done < o.asked := hd
      have hm := (toldF_mem.1 ha).1
      have e := h.each a (List.mem_of_mem_drop hm)
      rw [drop_head hi] at hm
      have eo := h.each o (List.mem_of_getElem? hi)
      rcases List.mem_cons.1 hm with rfl | hm
      · omega
      · have := (h.cross (i + 1)).2 o (by rw [List.take_add_one, hi]; simp) a hm
        omega
theorem last_ok {L : List OpM} (h : Base L) {i : Nat} {o : OpM} (hi : L[i]? = some o) {n : Int} (hn : ∀ b ∈ toldF (L.drop i), n < b.seq) (hs : sawM o = true → ∀ d ∈ toldF (L.take i), d.key = o.key → d.seq ≤ o.seq) : lastM ((toldF L).map chO) o n = (n, true) := by
  unfold lastM
  rw [if_neg]
  rw [Bool.not_eq_true, List.any_eq_false]
  intro c hc
  obtain ⟨a, ha, rfl⟩ := List.mem_map.1 hc
  unfold badM
  rw [decide_eq_true_iff]
  rintro ⟨h1, h2⟩
  have h1 : a.seq ≤ n := h1
  rw [toldF_split L i, List.mem_append] at ha
  rcases ha with ha | ha
  · rcases h2 with h2 | ⟨h2, h3, h4⟩
    · have h2 : o.done < a.asked := h2
      have := (h.cross i).2 a (toldF_mem.1 ha).1 o (by rw [drop_head hi]; simp)
      have := h.each a (List.mem_of_mem_take (toldF_mem.1 ha).1)
      have := h.each o (List.mem_of_getElem? hi)
      omega
    · have := hs h2 a ha h3
      have h4 : o.seq < a.seq := h4
      omega
  · have := hn a ha
    omega
theorem places_tale {L : List OpM} (h : Base L) (hs : Sights L) (sts : List OpM) : ∀ (m i : Nat) (pls : List Int), L.length ≤ i + m → (∀ q ∈ pls, ∀ b ∈ toldF (L.drop i), q < b.seq) → placesM L ((toldF L).map chO) sts ((L.drop i).filter sightM) pls = true
  | 0, i, pls, hm, _ => by rw [List.drop_eq_nil_of_le (by omega)]; rfl
  | m + 1, i, pls, hm, hp => by
    rcases Nat.lt_or_ge i L.length with hlt | hge
    rotate_left
    · rw [List.drop_eq_nil_of_le hge]; rfl
    have hi := List.getElem?_eq_getElem hlt
    generalize L[i] = o at hi
    have hsub : ∀ b ∈ toldF (L.drop (i + 1)), b ∈ toldF (L.drop i) := fun b hb => by
      rw [drop_head hi]
      rw [toldF_mem] at hb ⊢
      exact ⟨by simp [hb.1], hb.2⟩
    by_cases hsi : sightM o = true
    rotate_left
    · rw [drop_head hi, List.filter_cons, if_neg hsi]
      exact places_tale h hs sts m (i + 1) pls (by omega) (fun q hq b hb => hp q hq b (hsub b hb))
    have hsaw := hs.saw i o hi
    have hlt2 := least_lt h hi (fun hw b hb => by
      obtain ⟨_, c, hc, _, _, _, e, _⟩ := hsaw hw
      have := (h.cross i).1 c hc b hb
      omega) sts pls hp
    have hge2 := least_ge h hi sts pls
    have hpl : placeM L ((toldF L).map chO) sts pls o = (leastM ((toldF L).map chO) sts pls o, true) := by
      unfold placeM
      generalize leastM ((toldF L).map chO) sts pls o = n at *
      by_cases hw : sawM o = true
      · rw [if_pos hw]
        exact last_ok h hi hlt2 (fun _ => (hsaw hw).2.elim fun c hc => hc.2.2.2.2.2)
      · rw [if_neg hw, h.noopened, if_neg (by decide)]
        have hth := there_at h i o.key n hge2 hlt2
        rw [hs.not i o hi hsi (by simpa using hw)] at hth
        have hcl : climbM ((toldF L).map chO) o.key ((toldF L).map chO) n = some n := by
          generalize hg : (toldF L).map chO = chs at *
          have : ∀ l : List ChgM, climbM chs o.key l n = some n := fun l => by cases l <;> simp [climbM, hth]
          exact this _
        rw [hcl]
        exact last_ok h hi hlt2 (fun h => absurd h hw)
    rw [drop_head hi, List.filter_cons, if_pos hsi, placesM, hpl]
    simp only [if_true]
    refine places_tale h hs sts m (i + 1) _ (by omega) (fun q hq b hb => ?_)
    rcases List.mem_append.1 hq with hq | hq
    · exact hp q hq b (hsub b hb)
    · simp at hq; subst hq; exact hlt2 b (hsub b hb)
theorem rise_nodup {L : List OpM} (h : Base L) : ∀ c ∈ (toldF L).map chO, ∀ d ∈ (toldF L).map chO, c.seq = d.seq → c = d := by
  have key : ∀ T : List OpM, T.Pairwise (fun a b => a.seq < b.seq) → ∀ a ∈ T, ∀ b ∈ T, a.seq = b.seq → a = b := by
    intro T
    induction T with
    | nil => intro _ a ha; cases ha
    | cons x T ih =>
      intro hT a ha b hb e
      rw [List.pairwise_cons] at hT
      rcases List.mem_cons.1 ha with e1 | ha
      · rcases List.mem_cons.1 hb with e2 | hb
        · rw [e1, e2]
        · have := hT.1 b hb; rw [e1] at e; omega
      · rcases List.mem_cons.1 hb with e2 | hb
        · have := hT.1 a ha; rw [e2] at e; omega
        · exact ih hT.2 a ha b hb e
  intro c hc d hd e
  obtain ⟨a, ha, rfl⟩ := List.mem_map.1 hc
  obtain ⟨b, hb, rfl⟩ := List.mem_map.1 hd
  rw [key _ h.rise a ha b hb e]
theorem seqs_tale {L : List OpM} (h : Base L) : ∀ (l : List OpM), (∀ o ∈ l, sawM o = true → 1 ≤ o.seq ∧ ∃ c ∈ toldF L, c.kind = 1 ∧ c.key = o.key ∧ c.val = o.aval ∧ c.seq = o.seq) → seqsM ((toldF L).map chO) l [] = some []
  | [], _ => rfl
  | o :: l, hl => by
    have ih := seqs_tale h l (fun x hx => hl x (by simp [hx]))
    rw [seqsM]
    split
    · rename_i hw
      obtain ⟨h1, c, hc, h2, h3, h4, h5⟩ := hl o (by simp) hw
      have hcm : chO c ∈ (toldF L).map chO := List.mem_map.2 ⟨c, hc, rfl⟩
      have hf : ¬ findM ((toldF L).map chO) o.seq < 0 := fun hneg => by
        have := idxM_neg hneg (chO c) hcm
        simp [chO, h5] at this
      obtain ⟨x, hx1, hx2⟩ := idxM_at hf
      have hxe : x = chO c := rise_nodup h x (List.mem_of_getElem? hx1) _ hcm (by
        have := of_decide_eq_true hx2
        rw [this]; exact h5.symm)
      rw [if_neg (by omega), if_neg hf]
      unfold findM
      rw [hx1, hxe]
      dsimp only [chO]
      rw [if_pos ⟨h2, h3, h4⟩]
      exact ih
    · exact ih
theorem chs_pair {L : List OpM} (h : Base L) : ((toldF L).map chO).Pairwise (fun a b => a.seq < b.seq ∧ a.o.done < b.o.asked) := by
  rw [List.pairwise_map]
  have h1 := h.rise
  have h2 : (toldF L).Pairwise (fun a b => a.done < b.asked) := by unfold toldF; exact h.time.filter _
  exact h1.and h2 |>.imp (fun {a b} hab => hab)
theorem row_tale {L : List OpM} (h : Base L) {i : Nat} {a : ChgM} (ha : ((toldF L).map chO)[i]? = some a) : rowM i a ((toldF L).map chO) 0 = true := by
  have key : ∀ (l : List ChgM) (k : Nat), (∀ j b, l[j]? = some b → clashM i (k + j) a b = false) → rowM i a l k = true := by
    intro l
    induction l with
    | nil => intro k _; rfl
    | cons b l ih =>
      intro k hk
      rw [rowM, if_neg (by have := hk 0 b rfl; rw [Nat.add_zero] at this; rw [this]; decide)]
      exact ih (k + 1) (fun j c hc => by have := hk (j + 1) c (by simpa using hc); rwa [show k + 1 + j = k + (j + 1) from by omega])
  refine key _ 0 (fun j b hb => ?_)
  rw [Nat.zero_add]
  unfold clashM
  rw [decide_eq_false_iff_not]
  rintro ⟨h1, h2, h3, h4⟩
  have hp := List.pairwise_iff_getElem.1 (chs_pair h)
  obtain ⟨hil, hie⟩ := List.getElem?_eq_some_iff.1 ha
  obtain ⟨hjl, hje⟩ := List.getElem?_eq_some_iff.1 hb
  have hea : a.o.asked < a.o.done := by
    obtain ⟨x, hx, rfl⟩ := List.mem_map.1 (List.mem_of_getElem? ha)
    exact (h.each x (toldF_mem.1 hx).1).1
  have heb : b.o.asked < b.o.done := by
    obtain ⟨x, hx, rfl⟩ := List.mem_map.1 (List.mem_of_getElem? hb)
    exact (h.each x (toldF_mem.1 hx).1).1
  rcases Nat.lt_trichotomy i j with hlt | heq | hgt
  · have := hp i j hil hjl hlt
    rw [hie, hje] at this
    omega
  · exact h1 heq
  · have := hp j i hjl hil hgt
    rw [hie, hje] at this
    omega
theorem told_at {L : List OpM} {a : OpM} (ha : a ∈ toldF L) : ∃ i : Nat, L[i]? = some a := List.getElem?_of_mem (toldF_mem.1 ha).1
theorem del_tale {L : List OpM} (h : Base L) {a : OpM} (ha : a ∈ toldF L) : delM L ((toldF L).map chO) (chO a) = false := by
  unfold delM
  rw [decide_eq_false_iff_not]
  rintro ⟨_, h2, h3, _⟩
  obtain ⟨i, hi⟩ := told_at ha
  have ht := (toldF_mem.1 ha).2
  have hin : a ∈ toldF (L.drop i) := toldF_mem.2 ⟨by rw [drop_head hi]; simp, ht⟩
  have h4 := there_at h i a.key (a.seq - 1) (fun b hb => by have := (h.cross i).1 b hb a hin; omega) (fun b hb => by
    have : toldF (L.drop i) = a :: toldF (L.drop (i + 1)) := by rw [drop_head hi]; unfold toldF; rw [List.filter_cons, if_pos ht]
    rw [this] at hb
    rcases List.mem_cons.1 hb with rfl | hb
    · omega
    · have := (h.cross (i + 1)).1 a (toldF_mem.2 ⟨by rw [List.take_add_one, hi]; simp, ht⟩) b hb
      omega)
  rw [h.del i a hi ht h2] at h4
  have h3 : thereM ((toldF L).map chO) a.key (a.seq - 1) = false := h3
  rw [h3] at h4
  cases h4
theorem ord_tale {L : List OpM} (h : Base L) : ordM L ((toldF L).map chO) ((toldF L).map chO) 0 = true := by
  have key : ∀ (m i : Nat), ((toldF L).map chO).length ≤ i + m → ordM L ((toldF L).map chO) (((toldF L).map chO).drop i) i = true := by
    intro m
    induction m with
    | zero => intro i hi; rw [List.drop_eq_nil_of_le (by omega)]; rfl
    | succ m ih =>
      intro i hi
      rcases Nat.lt_or_ge i ((toldF L).map chO).length with hlt | hge
      · have hx := List.getElem?_eq_getElem hlt
        rw [List.drop_eq_getElem_cons hlt, ordM, row_tale h hx]
        obtain ⟨a, ha, e⟩ := List.mem_map.1 (List.getElem_mem hlt)
        rw [← e, del_tale h ha, if_pos ⟨rfl, rfl⟩]
        exact ih (i + 1) (by omega)
      · rw [List.drop_eq_nil_of_le hge]; rfl
  exact key ((toldF L).map chO).length 0 (by omega)
theorem gather_base {L : List OpM} (h : Base L) : gatherM L [] [] = (true, (toldF L).map chO, L.filter sightM) := by
  have := gather_tale L [] [] h.pos h.rise (fun c hc => by cases hc)
  simpa using this
theorem sorted_sights {L : List OpM} (h : Base L) : isM leAsked (L.filter sightM) = L.filter sightM := by
  refine isM_id ?_
  have h1 : L.Pairwise (fun a b => leAsked a b = true) := h.time.imp_of_mem (fun {a b} ha hb hab => by
    have := h.each a ha
    unfold leAsked
    rw [decide_eq_true_iff]; omega)
  exact h1.filter _
theorem sorted_chs {L : List OpM} (h : Base L) : isM leC ((toldF L).map chO) = (toldF L).map chO :=
  isM_id ((chs_pair h).imp (fun {a b} hab => by unfold leC; rw [decide_eq_true_iff]; omega))
theorem found_tale {L : List OpM} (h : Base L) (hs : Saws L) : foundM L (L.filter sightM) ((toldF L).map chO) = some ((toldF L).map chO) := by
  have hseq : seqsM ((toldF L).map chO) (L.filter sightM) [] = some [] := seqs_tale h _ (fun o ho hw => by
    obtain ⟨i, hi⟩ := List.getElem?_of_mem (List.mem_filter.1 ho).1
    obtain ⟨_, c, hc, h1, h2, h3, h4, _⟩ := hs i o hi hw
    have hcL : c ∈ toldF L := by rw [toldF_split L i]; simp [hc]
    have := h.pos c (toldF_mem.1 hcL).1 (toldF_mem.1 hcL).2
    exact ⟨by omega, c, hcL, h1, h2, h3, h4⟩)
  have hf : foundM L (L.filter sightM) ((toldF L).map chO) = some ((toldF L).map chO) := by
    unfold foundM
    rw [hseq]
    show (match takesM L (L.filter sightM) [] ((toldF L).map chO, fun _ => none) with | none => none | some p => some (isM leC p.1)) = _
    rw [takesM]
    dsimp only
    rw [sorted_chs h]
  exact hf
/-- **What a map makes is judged right.** -/
theorem judge_tale {L : List OpM} (h : Base L) (hs : Sights L) : judgeM L = true := by
  unfold judgeM
  rw [gather_base h]
  dsimp only
  rw [if_pos rfl]
  rw [found_tale h hs.saw]
  dsimp only
  rw [ord_tale h, if_pos rfl, sorted_sights h]
  have := places_tale h hs (L.filter sightM) L.length 0 [] (by omega) (fun q hq => by cases hq)
  simpa using this
/-- A sight that saw what is not there any more, or not at all. -/
theorem judge_gone {L : List OpM} (h : Base L) (hsw2 : Saws L) {t : Nat} {o : OpM} (ht : L[t]? = some o) (hsi : sightM o = true) (hsw : sawM o = false) (hl : lastF (toldF (L.take t)) o.key = true) : judgeM L = false := by
  unfold judgeM
  rw [gather_base h]
  dsimp only
  rw [if_pos rfl]
  have hplace : ∀ sts pls, (placeM L ((toldF L).map chO) sts pls o).2 = false := by
    intro sts pls
    have hge := least_ge h ht sts pls
    unfold placeM
    rw [if_neg (by simp [hsw]), h.noopened, if_neg (by decide)]
    have hcl : ∀ (l : List ChgM) (n m : Int), climbM ((toldF L).map chO) o.key l n = some m → n ≤ m ∧ thereM ((toldF L).map chO) o.key m = false := by
      intro l
      induction l with
      | nil =>
        intro n m e
        rw [climbM] at e
        split at e
        · cases e
        · injection e with e; subst e; rename_i h1; exact ⟨Int.le_refl _, by simpa using h1⟩
      | cons c l ih =>
        intro n m e
        rw [climbM] at e
        split at e
        · have := ih _ _ e; exact ⟨by omega, this.2⟩
        · injection e with e; subst e; rename_i h1; exact ⟨Int.le_refl _, by simpa using h1⟩
    have hcl2 := hcl ((toldF L).map chO) (leastM ((toldF L).map chO) sts pls o)
    cases hcm : climbM ((toldF L).map chO) o.key ((toldF L).map chO) (leastM ((toldF L).map chO) sts pls o) with
    | none => rfl
    | some m =>
      obtain ⟨hm1, hm2⟩ := hcl2 m hcm
      dsimp only
      unfold lastM
      rw [if_pos]
      refine Classical.byContradiction fun hno => ?_
      rw [Bool.not_eq_true, List.any_eq_false] at hno
      have hthere := there_at h t o.key m (fun a ha => by have := hge a ha; omega) (fun b hb => by
        refine Classical.byContradiction fun hlt => ?_
        have hbm := toldF_mem.1 hb
        have := hno (chO b) (List.mem_map.2 ⟨b, by rw [toldF_split L t]; simp [hb], rfl⟩)
        refine this ?_
        unfold badM
        rw [decide_eq_true_iff]
        refine ⟨by show b.seq ≤ m; omega, .inl ?_⟩
        show o.done < b.asked
        have hbm1 := hbm.1
        rw [drop_head ht] at hbm1
        rcases List.mem_cons.1 hbm1 with rfl | hb2
        · exfalso
          have h1 := hbm.2
          unfold toldM at h1
          unfold sightM at hsi
          have h1 := of_decide_eq_true h1
          have h2 := of_decide_eq_true hsi
          omega
        · exact (h.cross (t + 1)).2 o (by rw [List.take_add_one, ht]; simp) b hb2)
      rw [hl, hm2] at hthere
      cases hthere
  have hpl : ∀ (sts : List OpM) (m i : Nat) (pls : List Int), t = i + m → placesM L ((toldF L).map chO) sts ((L.drop i).filter sightM) pls = false := by
    intro sts m
    induction m with
    | zero =>
      intro i pls e
      obtain rfl : t = i := by omega
      rw [drop_head ht, List.filter_cons, if_pos hsi, placesM, hplace]
      rfl
    | succ m ih =>
      intro i pls e
      have hlt : i < L.length := by have := (List.getElem?_eq_some_iff.1 ht).1; omega
      have hi := List.getElem?_eq_getElem hlt
      rw [drop_head hi, List.filter_cons]
      split
      · rw [placesM]
        split
        · exact ih (i + 1) _ (by omega)
        · rfl
      · exact ih (i + 1) _ (by omega)
  rw [found_tale h hsw2]
  dsimp only
  rw [sorted_sights h]
  split
  · have := hpl (L.filter sightM) t 0 [] (by omega)
    simpa using this
  · rfl
/-- A sight of a number that nobody was told, and no call is open. -/
theorem judge_new {L : List OpM} (h : Base L) {t : Nat} {o : OpM} (ht : L[t]? = some o) (hsw : sawM o = true) (hn : ∀ a ∈ toldF L, a.seq < o.seq) : judgeM L = false := by
  unfold judgeM
  rw [gather_base h]
  dsimp only
  rw [if_pos rfl]
  have hf : foundM L (L.filter sightM) ((toldF L).map chO) = none := by
    have hneg : findM ((toldF L).map chO) o.seq < 0 := by
      have : findM ((toldF L).map chO) o.seq = -1 := idxM_none (fun c hc => by
        obtain ⟨a, ha, rfl⟩ := List.mem_map.1 hc
        have := hn a ha
        show decide (a.seq = o.seq) = false
        rw [decide_eq_false_iff_not]; omega)
      omega
    have hseq : ∀ (l : List OpM) (q r : List Int), seqsM ((toldF L).map chO) l q = some r → (q ≠ [] ∨ o ∈ l) → r ≠ [] := by
      intro l
      induction l with
      | nil =>
        intro q r e hq
        simp only [seqsM] at e
        injection e with e; subst e
        rcases hq with hq | hq
        · exact hq
        · cases hq
      | cons x l ih =>
        intro q r e hq
        rw [seqsM] at e
        by_cases hx : x = o
        · subst hx
          rw [if_pos hsw] at e
          split at e
          · cases e
          · first | rw [if_pos hneg] at e | skip
            exact ih _ _ e (.inl (by simp))
        · have hq' : q ≠ [] ∨ o ∈ l := by
            rcases hq with hq | hq
            · exact .inl hq
            · rcases List.mem_cons.1 hq with e2 | hq
              · exact absurd e2.symm hx
              · exact .inr hq
          split at e
          · split at e
            · cases e
            split at e
            · exact ih _ _ e (.inl (by simp))
            · split at e
              · split at e
                · exact ih _ _ e hq'
                · cases e
              · cases e
          · exact ih _ _ e hq'
    unfold foundM
    cases hs : seqsM ((toldF L).map chO) (L.filter sightM) [] with
    | none => rfl
    | some q =>
      have hq := hseq _ _ _ hs (.inr (List.mem_filter.2 ⟨List.mem_of_getElem? ht, by
        unfold sawM at hsw
        exact (Bool.and_eq_true_iff.1 hsw).1⟩))
      dsimp only
      have hc : Lib.compact (isM leI q) ≠ [] := by
        have hl : 0 < (isM leI q).length := by rw [(isM_perm q).length_eq]; exact List.length_pos_iff.2 hq
        unfold Lib.compact Lib.compactUpTo
        intro e
        rw [List.map_eq_nil_iff, List.filter_eq_nil_iff] at e
        exact e 0 (List.mem_range.2 hl) (by unfold Lib.keeps; simp)
      cases hcq : Lib.compact (isM leI q) with
      | nil => exact absurd hcq hc
      | cons x l =>
        rw [takesM]
        have htk : ∀ p, takeM L (L.filter sightM) x p = none := by
          intro p
          unfold takeM
          split
          · rfl
          · rename_i f _
            have : ∀ (l : List OpM) (i : Nat), (∀ y ∈ l, openM y = false) → pickM p.2 f l i = none := by
              intro l
              induction l with
              | nil => intro i _; rfl
              | cons y l ih =>
                intro i hl
                rw [pickM, if_neg (by unfold fitsM; rw [hl y (by simp)]; simp)]
                exact ih _ (fun z hz => hl z (by simp [hz]))
            rw [this L 0 (fun y hy => h.noopen hy)]
        rw [htk]
  rw [hf]
/-! ### Turning one answer -/
theorem filter_set {α : Type} {p : α → Bool} {x : α} (hx : p x = false) : ∀ (L : List α) (t : Nat) (y : α), L[t]? = some y → p y = false → (L.set t x).filter p = L.filter p
  | [], _, _, h, _ => by simp at h
  | a :: L, 0, y, h, hy => by
    simp at h; subst h
    rw [List.set_cons_zero, List.filter_cons, List.filter_cons, hx, hy]; rfl
  | a :: L, t + 1, y, h, hy => by
    rw [List.set_cons_succ, List.filter_cons, List.filter_cons, filter_set hx L t y (by simpa using h) hy]
theorem toldF_set {L : List OpM} {t : Nat} {y x : OpM} (hy : L[t]? = some y) (hty : toldM y = false) (htx : toldM x = false) : toldF (L.set t x) = toldF L := filter_set htx L t y hy hty
theorem toldF_set_take {L : List OpM} {t : Nat} {y x : OpM} (hy : L[t]? = some y) (hty : toldM y = false) (htx : toldM x = false) (i : Nat) : toldF ((L.set t x).take i) = toldF (L.take i) := by
  rcases Nat.lt_or_ge t i with h | h
  · rw [List.take_set]
    exact toldF_set (by rw [List.getElem?_take_of_lt h]; exact hy) hty htx
  · rw [List.take_set_of_le h]
theorem Base.turn {L : List OpM} (h : Base L) {t : Nat} {y x : OpM} (hy : L[t]? = some y) (hty : toldM y = false) (htx : toldM x = false) (ha : x.asked = y.asked) (hd : x.done = y.done) (he : x.err = 0 ∨ x.err = 3) : Base (L.set t x) where
  time := by
    have key : ∀ l : List OpM, l.Pairwise (fun a b => a.done < b.asked) ↔ (l.map fun o => (o.asked, o.done)).Pairwise (fun a b => a.2 < b.1) := fun l => by rw [List.pairwise_map]
    rw [key, List.map_set]
    have : (L.map fun o => (o.asked, o.done)).set t (x.asked, x.done) = L.map fun o => (o.asked, o.done) := by
      apply List.ext_getElem?
      intro i
      rw [List.getElem?_set, List.getElem?_map]
      by_cases e : t = i
      · subst e
        rw [hy]
        have := (List.getElem?_eq_some_iff.1 hy).1
        simp [this, ha, hd]
      · rw [if_neg e]
    rw [this, ← key]
    exact h.time
  rise := by rw [toldF_set hy hty htx]; exact h.rise
  each := fun o ho => by
    rcases List.mem_or_eq_of_mem_set ho with ho | rfl
    · exact h.each o ho
    · have := h.each y (List.mem_of_getElem? hy)
      omega
  pos := fun o ho ht => by
    rcases List.mem_or_eq_of_mem_set ho with ho | rfl
    · exact h.pos o ho ht
    · rw [htx] at ht; cases ht
  del := fun i o hi ht hk => by
    rw [toldF_set_take hy hty htx]
    rw [List.getElem?_set] at hi
    split at hi
    · split at hi
      · injection hi with hi; subst hi; rw [htx] at ht; cases ht
      · cases hi
    · exact h.del i o hi ht hk
theorem Saws.turn {L : List OpM} (h : Saws L) {t : Nat} {y x : OpM} (hy : L[t]? = some y) (hty : toldM y = false) (htx : toldM x = false) (hsx : sawM x = false) : Saws (L.set t x) := fun i o hi hs => by
  rw [toldF_set_take hy hty htx]
  rw [List.getElem?_set] at hi
  split at hi
  · split at hi
    · injection hi with hi; subst hi; rw [hsx] at hs; cases hs
    · cases hi
  · exact h i o hi hs
/-! ### What a map makes -/
structure TalS where
  seq : Int
  vals : Bs → Option Int
  text : Bs → Option Bs
def keyT (k : Int) : Bs := [UInt8.ofNat (97 + ((k.tmod 3 + 3).tmod 3).toNat)]
def actT (k : Int) : Int := ((k.tdiv 3).tmod 3 + 3).tmod 3
def valT (s : TalS) (k : Bs) : Int := (s.vals k).getD 0
def stepT (i : Nat) (k : Int) (s : TalS) : OpM × TalS :=
  if actT k = 0 then (⟨1, keyT k, [UInt8.ofNat (65 + i)], 2 * i + 1, 2 * i + 2, 0, s.seq + 1, [], 0⟩, ⟨s.seq + 1, upd s.vals (keyT k) (s.seq + 1), upd s.text (keyT k) [UInt8.ofNat (65 + i)]⟩)
  else if actT k = 1 then
    if valT s (keyT k) = 0 then (⟨3, keyT k, [], 2 * i + 1, 2 * i + 2, 3, 0, [], 0⟩, s)
    else (⟨3, keyT k, [], 2 * i + 1, 2 * i + 2, 0, s.seq + 1, [], 0⟩, ⟨s.seq + 1, rid s.vals (keyT k), s.text⟩)
  else if valT s (keyT k) = 0 then (⟨2, keyT k, [], 2 * i + 1, 2 * i + 2, 3, 0, [], 0⟩, s)
  else (⟨2, keyT k, [], 2 * i + 1, 2 * i + 2, 0, valT s (keyT k), (s.text (keyT k)).getD [], 0⟩, s)
/-- What is known behind so many ops. -/
structure TInv (i : Nat) (L : List OpM) (s : TalS) : Prop where
  len : L.length = i
  base : Base L
  sights : Sights L
  most : ∀ o ∈ toldF L, o.seq ≤ s.seq
  all : ∀ o ∈ L, o.seq ≤ s.seq
  seq0 : 0 ≤ s.seq
  seq1 : s.seq ≤ i
  ends : ∀ o ∈ L, o.done ≤ 2 * i
  there : ∀ k n, s.vals k = some n → 1 ≤ n ∧ n ≤ s.seq ∧ lastF (toldF L) k = true ∧ ∃ c ∈ toldF L, c.kind = 1 ∧ c.key = k ∧ c.val = (s.text k).getD [] ∧ c.seq = n ∧ ∀ d ∈ toldF L, d.key = k → d.seq ≤ n
  gone : ∀ k, s.vals k = none → lastF (toldF L) k = false
theorem TInv.nil : TInv 0 [] ⟨0, fun _ => none, fun _ => none⟩ where
  len := rfl
  base := { time := List.Pairwise.nil, rise := List.Pairwise.nil, each := (fun o h => by cases h), pos := (fun o h => by cases h), del := (fun i o h => by simp at h) }
  sights := { saw := (fun i o h => by simp at h), not := (fun i o h => by simp at h) }
  most := fun o h => by cases h
  all := fun o h => by cases h
  seq0 := Int.le_refl _
  seq1 := Int.le_refl _
  ends := fun o h => by cases h
  there := fun k n h => by cases h
  gone := fun k _ => rfl
theorem get_snoc {α : Type} {L : List α} {o x : α} {i : Nat} (h : (L ++ [o])[i]? = some x) : (i < L.length ∧ L[i]? = some x) ∨ (i = L.length ∧ x = o) := by
  rcases Nat.lt_or_ge i L.length with hlt | hge
  · rw [List.getElem?_append_left hlt] at h; exact .inl ⟨hlt, h⟩
  · rw [List.getElem?_append_right hge] at h
    have : i - L.length = 0 := by
      have := (List.getElem?_eq_some_iff.1 h).1
      simp at this; omega
    rw [this] at h
    simp at h
    exact .inr ⟨by omega, h.symm⟩
theorem take_snoc {α : Type} {L : List α} {o : α} {i : Nat} (h : i ≤ L.length) : (L ++ [o]).take i = L.take i := List.take_append_of_le_length h
theorem base_snoc {i : Nat} {L : List OpM} {s : TalS} (h : TInv i L s) {o : OpM} (ha : o.asked = 2 * i + 1) (hd : o.done = 2 * i + 2) (he : o.err = 0 ∨ o.err = 3) (hq : toldM o = true → o.seq = s.seq + 1) (hk : toldM o = true → o.kind = 3 → lastF (toldF L) o.key = true) : Base (L ++ [o]) where
  time := by
    rw [List.pairwise_append]
    refine ⟨h.base.time, by simp, fun a ha' b hb => ?_⟩
    simp at hb; subst hb
    have := h.ends a ha'
    omega
  rise := by
    unfold toldF
    rw [List.filter_append, List.pairwise_append]
    refine ⟨h.base.rise, ?_, fun a ha' b hb => ?_⟩
    · cases ht : toldM o <;> simp [ht]
    · have h1 := List.mem_filter.1 hb
      simp at h1
      obtain ⟨rfl, h2⟩ := h1
      have := h.most a ha'
      have := hq h2
      omega
  each := fun x hx => by
    rcases List.mem_append.1 hx with hx | hx
    · exact h.base.each x hx
    · simp at hx; subst hx; omega
  pos := fun x hx ht => by
    rcases List.mem_append.1 hx with hx | hx
    · exact h.base.pos x hx ht
    · simp at hx; subst hx
      have := hq ht
      have := h.seq0
      omega
  del := fun j x hx ht hk' => by
    rcases get_snoc hx with ⟨hlt, hx⟩ | ⟨rfl, rfl⟩
    · rw [take_snoc (Nat.le_of_lt hlt)]; exact h.base.del j x hx ht hk'
    · rw [take_snoc (Nat.le_refl _), List.take_length]; exact hk ht hk'
theorem sights_snoc {L : List OpM} (h : Sights L) {o : OpM} (h1 : sawM o = true → lastF (toldF L) o.key = true ∧ ∃ c ∈ toldF L, c.kind = 1 ∧ c.key = o.key ∧ c.val = o.aval ∧ c.seq = o.seq ∧ ∀ d ∈ toldF L, d.key = o.key → d.seq ≤ o.seq)
    (h2 : sightM o = true → sawM o = false → lastF (toldF L) o.key = false) : Sights (L ++ [o]) where
  saw := fun j x hx hs => by
    rcases get_snoc hx with ⟨hlt, hx⟩ | ⟨rfl, rfl⟩
    · rw [take_snoc (Nat.le_of_lt hlt)]; exact h.saw j x hx hs
    · rw [take_snoc (Nat.le_refl _), List.take_length]; exact h1 hs
  not := fun j x hx hs hw => by
    rcases get_snoc hx with ⟨hlt, hx⟩ | ⟨rfl, rfl⟩
    · rw [take_snoc (Nat.le_of_lt hlt)]; exact h.not j x hx hs hw
    · rw [take_snoc (Nat.le_refl _), List.take_length]; exact h2 hs hw
theorem toldF_snocT {L : List OpM} {o : OpM} (h : toldM o = true) : toldF (L ++ [o]) = toldF L ++ [o] := by unfold toldF; rw [List.filter_append]; simp [h]
theorem toldF_snocF {L : List OpM} {o : OpM} (h : toldM o = false) : toldF (L ++ [o]) = toldF L := by unfold toldF; rw [List.filter_append]; simp [h]
theorem lastF_snoc (T : List OpM) (o : OpM) (k : Bs) : lastF (T ++ [o]) k = if o.key = k then decide (o.kind = 1) else lastF T k := by unfold lastF; rw [List.foldl_append]; rfl
/-- What is not told leaves all but the list. -/
theorem TInv.quiet {i : Nat} {L : List OpM} {s : TalS} (h : TInv i L s) {o : OpM} (ht : toldM o = false) (hb : Base (L ++ [o])) (hs : Sights (L ++ [o])) (hd : o.done = 2 * i + 2) (hq : o.seq ≤ s.seq) : TInv (i + 1) (L ++ [o]) s where
  len := by rw [List.length_append, h.len]; rfl
  base := hb
  sights := hs
  most := by rw [toldF_snocF ht]; exact h.most
  all := fun x hx => by
    rcases List.mem_append.1 hx with hx | hx
    · exact h.all x hx
    · simp at hx; subst hx; exact hq
  seq0 := h.seq0
  seq1 := by have := h.seq1; omega
  ends := fun x hx => by
    rcases List.mem_append.1 hx with hx | hx
    · have := h.ends x hx; omega
    · simp at hx; subst hx; omega
  there := by rw [toldF_snocF ht]; exact h.there
  gone := by rw [toldF_snocF ht]; exact h.gone
theorem TInv.step {i : Nat} {L : List OpM} {s : TalS} (h : TInv i L s) (k : Int) : TInv (i + 1) (L ++ [(stepT i k s).1]) (stepT i k s).2 := by
  have hpos : valT s (keyT k) = 0 ↔ s.vals (keyT k) = none := by
    unfold valT
    cases hv : s.vals (keyT k) with
    | none => simp
    | some n =>
      have := (h.there _ _ hv).1
      simp only [Option.getD_some, reduceCtorEq, iff_false]; omega
  unfold stepT
  generalize keyT k = key at *
  split
  · -- a put
    refine ⟨by rw [List.length_append, h.len]; rfl, base_snoc h rfl rfl (.inl rfl) (fun _ => rfl) (fun _ e => by simp at e), sights_snoc h.sights (fun hs => by simp [sawM, sightM] at hs) (fun hs => by simp [sightM] at hs), ?_, ?_, ?_, ?_, ?_, ?_, ?_⟩
    · rw [toldF_snocT (by simp [toldM]; omega)]
      intro o ho
      rcases List.mem_append.1 ho with ho | ho
      · have := h.most o ho; dsimp only; omega
      · simp at ho; subst ho; dsimp only; omega
    · intro o ho
      rcases List.mem_append.1 ho with ho | ho
      · have := h.all o ho; dsimp only; omega
      · simp at ho; subst ho; dsimp only; omega
    · have := h.seq0; dsimp only; omega
    · have := h.seq1; dsimp only; omega
    · intro o ho
      rcases List.mem_append.1 ho with ho | ho
      · have := h.ends o ho; omega
      · simp at ho; subst ho; dsimp only; omega
    · rw [toldF_snocT (by simp [toldM]; omega)]
      intro k' n hv
      dsimp only at hv ⊢
      unfold upd at hv
      rw [lastF_snoc]
      dsimp only
      by_cases e : key = k'
      · subst e
        rw [if_pos rfl] at hv ⊢
        injection hv with hv; subst hv
        have := h.seq0
        refine ⟨by omega, Int.le_refl _, rfl, _, List.mem_append_right _ (List.mem_singleton.2 rfl), rfl, rfl, ?_, rfl, fun d hd _ => ?_⟩
        · unfold upd; rw [if_pos rfl]; rfl
        · rcases List.mem_append.1 hd with hd | hd
          · have := h.most d hd; omega
          · simp at hd; subst hd; exact Int.le_refl _
      · rw [if_neg (fun e' => e e'.symm)] at hv
        rw [if_neg e]
        obtain ⟨h1, h2, h3, c, hc, h4, h5, h6, h7, h8⟩ := h.there k' n hv
        refine ⟨h1, by omega, h3, c, List.mem_append_left _ hc, h4, h5, ?_, h7, fun d hd he => ?_⟩
        · unfold upd; rw [if_neg (fun e' => e e'.symm)]; exact h6
        · rcases List.mem_append.1 hd with hd | hd
          · exact h8 d hd he
          · simp at hd; subst hd; exact absurd he e
    · rw [toldF_snocT (by simp [toldM]; omega)]
      intro k' hv
      dsimp only at hv
      unfold upd at hv
      rw [lastF_snoc]
      dsimp only
      by_cases e : key = k'
      · subst e; rw [if_pos rfl] at hv; cases hv
      · rw [if_neg (fun e' => e e'.symm)] at hv
        rw [if_neg e]; exact h.gone k' hv
  split
  · split
    · -- a delete that finds nothing
      rename_i hz
      refine h.quiet (by simp [toldM]) (base_snoc h rfl rfl (.inr rfl) (fun e => by simp [toldM] at e) (fun e => by simp [toldM] at e)) (sights_snoc h.sights (fun hs => by simp [sawM] at hs) (fun _ _ => h.gone key (hpos.1 hz))) rfl h.seq0
    · rename_i hz
      cases hv0 : s.vals key with
      | none => exact absurd (hpos.2 hv0) hz
      | some n0 =>
      refine ⟨by rw [List.length_append, h.len]; rfl, base_snoc h rfl rfl (.inl rfl) (fun _ => rfl) (fun _ _ => (h.there key n0 hv0).2.2.1), sights_snoc h.sights (fun hs => by simp [sawM, sightM] at hs) (fun hs => by simp [sightM] at hs), ?_, ?_, ?_, ?_, ?_, ?_, ?_⟩
      · rw [toldF_snocT (by simp [toldM]; omega)]
        intro o ho
        rcases List.mem_append.1 ho with ho | ho
        · have := h.most o ho; dsimp only; omega
        · simp at ho; subst ho; dsimp only; omega
      · intro o ho
        rcases List.mem_append.1 ho with ho | ho
        · have := h.all o ho; dsimp only; omega
        · simp at ho; subst ho; dsimp only; omega
      · have := h.seq0; dsimp only; omega
      · have := h.seq1; dsimp only; omega
      · intro o ho
        rcases List.mem_append.1 ho with ho | ho
        · have := h.ends o ho; omega
        · simp at ho; subst ho; dsimp only; omega
      · rw [toldF_snocT (by simp [toldM]; omega)]
        intro k' n hv
        dsimp only at hv ⊢
        unfold rid at hv
        rw [lastF_snoc]
        dsimp only
        by_cases e : key = k'
        · subst e
          rw [if_pos rfl] at hv
          cases hv
        · rw [if_neg (fun e' => e e'.symm)] at hv
          rw [if_neg e]
          obtain ⟨h1, h2, h3, c, hc, h4, h5, h6, h7, h8⟩ := h.there k' n hv
          refine ⟨h1, by omega, h3, c, List.mem_append_left _ hc, h4, h5, h6, h7, fun d hd he => ?_⟩
          rcases List.mem_append.1 hd with hd | hd
          · exact h8 d hd he
          · simp at hd; subst hd; exact absurd he e
      · rw [toldF_snocT (by simp [toldM]; omega)]
        intro k' hv
        dsimp only at hv
        unfold rid at hv
        rw [lastF_snoc]
        dsimp only
        by_cases e : key = k'
        · rw [if_pos e]; rfl
        · rw [if_neg (fun e' => e e'.symm)] at hv
          rw [if_neg e]; exact h.gone k' hv
  split
  · rename_i hz
    refine h.quiet (by simp [toldM]) (base_snoc h rfl rfl (.inr rfl) (fun e => by simp [toldM] at e) (fun e => by simp [toldM] at e)) (sights_snoc h.sights (fun hs => by simp [sawM] at hs) (fun _ _ => h.gone key (hpos.1 hz))) rfl h.seq0
  · rename_i hz
    cases hv0 : s.vals key with
    | none => exact absurd (hpos.2 hv0) hz
    | some n0 =>
    have hval : valT s key = n0 := by unfold valT; rw [hv0]; rfl
    refine h.quiet (by simp [toldM]) (base_snoc h rfl rfl (.inl rfl) (fun e => by simp [toldM] at e) (fun e => by simp [toldM] at e)) (sights_snoc h.sights (fun _ => ?_) (fun _ hw => by simp [sawM, sightM] at hw; omega)) rfl (by have := h.there key n0 hv0; dsimp only; omega)
    obtain ⟨h1, h2, h3, c, hc, h4, h5, h6, h7, h8⟩ := h.there key n0 hv0
    dsimp only
    rw [hval]
    exact ⟨h3, c, hc, h4, h5, h6, h7, h8⟩
def taleT (ks : List Int) : Nat → List OpM × TalS
  | 0 => ([], ⟨0, fun _ => none, fun _ => none⟩)
  | i + 1 => ((taleT ks i).1 ++ [(stepT i (ks[i]?.getD 0) (taleT ks i).2).1], (stepT i (ks[i]?.getD 0) (taleT ks i).2).2)
theorem tale_inv (ks : List Int) : ∀ i, TInv i (taleT ks i).1 (taleT ks i).2
  | 0 => TInv.nil
  | i + 1 => (tale_inv ks i).step _
/-- The answer of a get, turned. -/
def turnO (o : OpM) (seq : Int) : OpM := if o.err = 0 then ⟨o.kind, o.key, o.val, o.asked, o.done, 3, 0, [], 0⟩ else ⟨o.kind, o.key, o.val, o.asked, o.done, 0, seq + 1, [110, 111, 32, 115, 117, 99, 104], 0⟩
theorem tale_true {i : Nat} {L : List OpM} {s : TalS} (h : TInv i L s) : judgeM L = true := judge_tale h.base h.sights
theorem tale_turned {i : Nat} {L : List OpM} {s : TalS} (h : TInv i L s) {t : Nat} {o : OpM} (ht : L[t]? = some o) (hk : o.kind = 2) : judgeM (L.set t (turnO o s.seq)) = false := by
  have he := h.base.each o (List.mem_of_getElem? ht)
  have hto : toldM o = false := by unfold toldM; rw [decide_eq_false_iff_not]; omega
  have hlt := (List.getElem?_eq_some_iff.1 ht).1
  have hself : ∀ x : OpM, (L.set t x)[t]? = some x := fun x => by rw [List.getElem?_set_self hlt]
  unfold turnO
  split
  · rename_i h0
    have htx : toldM ⟨o.kind, o.key, o.val, o.asked, o.done, 3, 0, [], 0⟩ = false := by unfold toldM; rw [decide_eq_false_iff_not]; dsimp only; omega
    have hsx : sawM ⟨o.kind, o.key, o.val, o.asked, o.done, 3, 0, [], 0⟩ = false := by simp [sawM]
    refine judge_gone (h.base.turn ht hto htx rfl rfl (.inr rfl)) (h.sights.saw.turn ht hto htx hsx) (hself _) ?_ hsx ?_
    · unfold sightM; rw [decide_eq_true_iff]; dsimp only; omega
    · rw [toldF_set_take ht hto htx]
      exact (h.sights.saw t o ht (by unfold sawM sightM; simp; omega)).1
  · have htx : toldM ⟨o.kind, o.key, o.val, o.asked, o.done, 0, s.seq + 1, [110, 111, 32, 115, 117, 99, 104], 0⟩ = false := by unfold toldM; rw [decide_eq_false_iff_not]; dsimp only; omega
    refine judge_new (h.base.turn ht hto htx rfl rfl (.inl rfl)) (hself _) (by unfold sawM sightM; simp; omega) (fun a ha => ?_)
    rw [toldF_set ht hto htx] at ha
    have := h.most a ha
    dsimp only; omega
end Go.Vc
/-! clear, at a part of a row of the call's own. -/
set_option linter.unusedVariables false
set_option linter.unusedSimpArgs false
namespace Go.Vc
open Go
section
variable {P : Program} {N : Nat} {e : Env} {w : World} {o : Oper} {K : Value → World → Prop}
theorem op_clear (T : Types P) {x : Operand} {t el tb : TypeId} {d : TInfo} {A : Option Addr} {g off m c : Nat} {cs : List Value} {ts : Array TypeId}
    (hop : o.op = .call { callee := .builtin .clear, args := #[x], argTypes := ts }) (hts : ts = #[t]) (hx : ev e x = some (.slice A m c)) (ht : T.d t = some (.slice el)) (hel : T.tbl el = some d)
    (hz : Nat.beq d.zero.cells.size d.size = true) (h1 : d.zero.cells.toList.all (fun u => u.oneCell') = true) (hA : m = 0 ∨ A = some ⟨g, off, none⟩) (hb : Blk w g tb cs) (hfit : off + m * d.size ≤ cs.length)
    (h : ∀ w1 rest, Chg [g] w w1 → Blk w1 g tb (cs.take off ++ rest) → (cs.take off ++ rest).length = cs.length → K (.tuple #[]) w1) : OpW P N o e w K := by
  subst hts
  obtain ⟨q, hq, hzq, hs, hbq⟩ := T.inf el d hel
  have hz' : d.zero.cells.size = d.size := Nat.eq_of_beq_eq_true hz
  rcases Nat.eq_zero_or_pos m with hm | hm
  · subst hm
    have := h w (cs.drop off) (Chg.refl _ _) (by rw [List.take_append_drop]; exact hb) (by rw [List.take_append_drop])
    refine OpW_run (v := .tuple #[]) (w' := w) (fun a ha => ?_) this
    cases A <;> simp [execOp, hop, resolve, invoke, builtin, ha.ev hx, Builtin.clear_, run_underlying (T.und' ht)]
  · have hA' : A = some ⟨g, off, none⟩ := hA.resolve_left (by omega)
    subst hA'
    have hb' := hb
    unfold Blk at hb'
    have hzl : (Builtin.zeroCells d.zero.cells m).toList.length = m * d.size := by simp [Builtin.zeroCells, hz']
    have hall : ∀ v ∈ (Builtin.zeroCells d.zero.cells m).toList, v.oneCell' = true := fun v hv => by
      simp only [Builtin.zeroCells, Array.toList_map, List.mem_map] at hv
      obtain ⟨i, hi, rfl⟩ := hv
      by_cases hsz : 0 < d.zero.cells.size
      · have hlt : i % d.zero.cells.size < d.zero.cells.size := Nat.mod_lt _ hsz
        rw [getElem!_pos d.zero.cells (i % d.zero.cells.size) hlt]
        exact List.all_eq_true.1 h1 _ (by rw [← Array.getElem_toList hlt]; exact List.getElem_mem _)
      · simp at hi
        have : d.zero.cells.size = 0 := by omega
        rw [this] at hi; simp at hi
    have hr := run_storeCells_at (P := P) g off tb (Builtin.zeroCells d.zero.cells m).toList 0 cs.toArray w hb' (by simp only [Nat.add_zero, List.size_toArray]; omega) hall
    have hblk : Blk (w.setRow g (cs.toArray.toList.take (off + 0) ++ (Builtin.zeroCells d.zero.cells m).toList ++ cs.toArray.toList.drop (off + 0 + (Builtin.zeroCells d.zero.cells m).toList.length)).toArray) g tb (cs.take off ++ ((Builtin.zeroCells d.zero.cells m).toList ++ cs.drop (off + m * d.size))) := by
      unfold Blk
      rw [setRow_heap w g cs.toArray _ tb _ hb', Nat.add_zero, hzl]
      simp
    have := h (w.setRow g (cs.toArray.toList.take (off + 0) ++ (Builtin.zeroCells d.zero.cells m).toList ++ cs.toArray.toList.drop (off + 0 + (Builtin.zeroCells d.zero.cells m).toList.length)).toArray) _ ⟨rfl, rfl, rfl, by simp, fun k _ hk => setRow_other w g k _ (by simpa using hk)⟩ hblk (by simp only [List.length_append, hzl, List.length_take, List.length_drop]; omega)
    refine OpW_run (v := .tuple #[]) (fun a ha => ?_) this
    obtain ⟨n', rfl⟩ : ∃ n', m = n' + 1 := ⟨m - 1, by omega⟩
    have hzv : (zeroValue el).run P w = .ok d.zero w := by simp [zeroValue, typeInfo, hq, hzq]
    simp [execOp, hop, resolve, invoke, builtin, ha.ev hx, Builtin.clear_, run_underlying (T.und' ht), hzv, Result.andThen] at hr ⊢
    simp [hr]
end
end Go.Vc
/-! History: what Fold calls. -/
set_option linter.unusedVariables false
namespace Go.Vc
open Go
theorem rk_take {α : Type} {f : α → List Value} {k : Nat} (hf : ∀ x, (f x).length = k) (R : List α) {i : Nat} (hi : i ≤ R.length) (ys : List Value) : (R.flatMap f ++ ys).take (i * k) = (R.take i).flatMap f := by
  have h1 : R.flatMap f ++ ys = (R.take i).flatMap f ++ ((R.drop i).flatMap f ++ ys) := by
    rw [← List.append_assoc, ← List.flatMap_append, List.take_append_drop]
  rw [h1]
  refine List.take_left' ?_
  rw [rk_len hf, List.length_take, Nat.min_eq_left hi]
theorem idxM_pre {α : Type} {p : α → Bool} : ∀ (l : List α) (k : Nat), idxM p l = (k : Int) → ∀ x ∈ l.take k, p x = false
  | [], k, h, x, hx => by simp at hx
  | a :: l, k, h, x, hx => by
    unfold idxM at h
    split at h
    · obtain rfl : k = 0 := by omega
      simp at hx
    · rename_i h1
      split at h
      · omega
      · obtain ⟨k', rfl⟩ : ∃ k', k = k' + 1 := ⟨k - 1, by omega⟩
        rw [List.take_succ_cons] at hx
        rcases List.mem_cons.1 hx with rfl | hx
        · simpa using h1
        · exact idxM_pre l k' (by omega) x hx
end Go.Vc
namespace Go.Proofs.Ytjkbbkomajjegaa.Try
open Go Go.Vc
section
variable {w : World}
theorem cloneOp_has (A : Option Addr) (n c : Nat) (L : List OpM) (w : World) (hl : SliceK 9 (RdL opL) w (.slice A n c) L) (hb : L.length ≤ 1000000) :
    Has Go.Proofs.Try.prog 28 #[.slice A n c] w (fun v w' => Chg [] w w' ∧ Own w' 34 9 v L.length (L.flatMap opL) ∧ ∀ g, v.ownBlock = some g → w.heap.size ≤ g) := by
  obtain ⟨rfl, hl1, hl2⟩ := hl.len
  refine enter Go.Proofs.Try.func28 rfl rfl (by decide) rfl (e := [(0, .slice A L.length c)]) ⟨rfl, trivial⟩ ?_
  refine run ?_
  refine go T 9 rfl ?_
  refine o1 rfl ?_
  refine op_eql_nil T rfl rfl rfl rfl (fun hA => ?_) (fun ad hA => ?_)
  · have hl0 : L = [] := by
      cases L with
      | nil => rfl
      | cons c l => obtain ⟨ad, he, _⟩ := hl.at (i := 0) (x := c) rfl; rw [hA] at he; cases he
    subst hl0
    refine go T 10 rfl ?_
    exact post1 (.inl rfl) rfl rfl ⟨Chg.refl _ _, Own.nil _ _ _, fun g h => by simp [Value.ownBlock] at h⟩
  · subst hA
    refine go T 7 rfl ?_
    refine o1 rfl ?_
    refine op_buildSlice T rfl rfl rfl rfl rfl rfl rfl (fun g w1 hgs hc1 hg1 => ?_)
    have ho : Own w1 34 9 (.slice (some ⟨g, 0, none⟩) 0 0) 0 [] := Own.mk hg1 (Nat.le_refl _) (Nat.zero_le _) rfl rfl
    have hl' := hl.keepR hc1
    refine go T 1 rfl ?_
    refine o1 rfl ?_
    refine op_append T (n := 0) (xs := []) (m := L.length) (news := L.flatMap opL) rfl rfl rfl rfl rfl rfl rfl rfl ho (rk_len opL_len L) ?_ (by unfold maxLen; omega) (by show (0 + _) * 96 ≤ _; omega) ?_
    · intro j u hu
      have hjl := (List.getElem?_eq_some_iff.1 hu).1
      rw [rk_len opL_len] at hjl
      have hi : j / 9 < L.length := by omega
      have hm : j % 9 < 9 := by omega
      have hx : L[j / 9]? = some L[j / 9] := List.getElem?_eq_getElem hi
      have h1 := rk_get opL_len L hx hm
      rw [show j / 9 * 9 + j % 9 = j from by omega, hu] at h1
      obtain ⟨ad', he, hel⟩ := hl'.at hx
      have h2 := hel (j % 9) u h1.symm
      rw [show j / 9 * 9 + j % 9 = j from by omega] at h2
      exact ⟨⟨ad', he, h2⟩, opL_one _ u (List.mem_of_getElem? h1.symm)⟩
    · intro v w2 ho2 hc2 hown2 _
      refine go T 4 rfl ?_
      refine post1 (.inl rfl) rfl rfl ⟨hc1.trans hc2 (by simp [Value.ownBlock]; omega), by simpa using ho2, fun g' hg' => ?_⟩
      have := hc1.size
      rcases hown2 with h | ⟨g2, h, hge⟩
      · rw [h] at hg'; simp [Value.ownBlock] at hg'; omega
      · rw [h] at hg'; injection hg' with hg'; omega
set_option maxHeartbeats 4000000 in
theorem delete_has (v : Value) (L : List OpM) (fn : Nat) (cv : Array Value) (p : OpM → Bool) (w : World) (hown : Own w 34 9 v L.length (L.flatMap opL)) (hlim : L.length ≤ 1000000)
    (hf : ∀ w1 x, Chg v.ownBlock.toList w w1 → Has Go.Proofs.Try.prog fn (#[] ++ #[.agg (opL x).toArray] ++ cv) w1 (fun u w' => Chg [] w1 w' ∧ u = .bool (p x))) :
    Has Go.Proofs.Try.prog 29 #[v, .func (.func fn) #[] cv] w (fun u w' => Chg v.ownBlock.toList w w' ∧ u.ownBlock = v.ownBlock ∧ Own w' 34 9 u (L.filter (fun x => !p x)).length ((L.filter (fun x => !p x)).flatMap opL)) := by
  obtain ⟨A, c, rfl, hl1, hl2⟩ := hown.form
  unfold maxLen at hl2
  refine enter Go.Proofs.Try.func29 rfl rfl (by decide) rfl (e := [(0, .slice A L.length c), (1, .func (.func fn) #[] cv)]) ⟨rfl, rfl, trivial⟩ ?_
  refine run ?_
  refine go T 9 rfl ?_
  refine o1 rfl ?_
  refine op_call rfl rfl rfl (indexOp_has A _ c L fn cv p (hown.readsK opL_len) (fun w1 x hc _ => hf w1 x (hc.mono (fun k hk _ => by cases hk)))) ?_
  rintro _ w1 ⟨hc1, rfl⟩
  by_cases hneg : idxM p L < 0
  · have h1 : idxM p L = -1 := by have := idxM_lt p L; omega
    have h2 : L.filter (fun x => !p x) = L := List.filter_eq_self.2 (fun x hx => by rw [idxM_neg hneg x hx]; rfl)
    rw [h1, h2]
    refine go T 7 rfl ?_
    refine eqT rfl rfl rfl rfl (by omega) ?_
    refine go T 11 rfl ?_
    exact post1 (.inl rfl) rfl rfl ⟨hc1.mono (fun k hk _ => by cases hk), rfl, hown.keep0 hc1⟩
  obtain ⟨k, hk⟩ := Int.eq_ofNat_of_zero_le (show 0 ≤ idxM p L by omega)
  obtain ⟨x0, hx0, hpx0⟩ := idxM_at hneg
  rw [hk, Int.toNat_natCast] at hx0
  have hkl : k < L.length := (List.getElem?_eq_some_iff.1 hx0).1
  obtain ⟨g, rfl⟩ := hown.addr (by omega)
  obtain ⟨rest, hrow, hrl⟩ := hown.rowB
  have hpre : (L.take k).filter (fun x => !p x) = L.take k := by
    exact List.filter_eq_self.2 (fun x hx => by rw [idxM_pre L k hk x hx]; rfl)
  rw [hk]
  replace hrow := hrow.keep0 hc1
  refine go T 7 rfl ?_
  refine eqF rfl rfl rfl rfl (by omega) ?_
  refine go T 9 rfl ?_
  refine adI rfl rfl rfl rfl (by omega) (by omega) ?_
  refine go T 4 rfl ?_
  refine W_loop (σ := Nat × Nat × List OpM) (fun s => [(0, .slice (some ⟨g, 0, none⟩) L.length c), (1, .func (.func fn) #[] cv), (5, .int .i64 s.2.1), (6, .int .i64 s.1)])
    (fun s w' => s.1 ≤ L.length ∧ s.2.1 < s.1 ∧ s.2.2.length = L.length ∧ s.2.2.take s.2.1 = (L.take s.1).filter (fun x => !p x) ∧ s.2.2.drop s.1 = L.drop s.1 ∧ Chg [g] w w' ∧ RowB w' g 34 opL s.2.2 rest)
    (fun s => L.length - s.1) (k + 1, k, L) ⟨rfl, rfl, rfl, rfl, trivial⟩ ⟨by dsimp only; omega, by dsimp only; omega, rfl, ?_, rfl, hc1.mono (fun k hk _ => by cases hk), hrow⟩ ?_
  · dsimp only
    rw [List.take_add_one, List.filter_append, hpre, hx0]
    simp [hpx0]
  clear hrow
  rintro ⟨j, i, R⟩ w2 ⟨hj, hij, hRl, hRt, hRd, hc, hrow⟩
  dsimp only at hj hij hRl hRt hRd hrow ⊢
  refine run ?_
  refine go T 6 rfl ?_
  refine ltS rfl rfl rfl rfl (fun hcmp => ?_) (fun hcmp => ?_)
  · have hlt : j < L.length := by omega
    have hx := List.getElem?_eq_getElem hlt
    have hxR : R[j]? = some L[j] := by
      have := congrArg (fun l => l[0]?) hRd
      simp only [List.getElem?_drop, Nat.add_zero] at this
      rw [this, hx]
    have hd := List.drop_eq_getElem_cons hlt
    have htk : (L.take (j + 1)).filter (fun x => !p x) = (L.take j).filter (fun x => !p x) ++ [L[j]].filter (fun x => !p x) := by rw [List.take_add_one, hx, List.filter_append]; rfl
    have hdr : R.drop (j + 1) = L.drop (j + 1) := by
      have := congrArg (List.drop 1) hRd
      rw [List.drop_drop, List.drop_drop] at this
      exact this
    generalize L[j] = y at *
    have he := hrow.elem opL_len hxR
    refine go T 11 rfl ?_
    refine o1 rfl (op_indexK T rfl rfl rfl rfl rfl (by omega) ?_)
    refine o1 rfl (op_loadE T he rfl rfl rfl rfl rfl ?_)
    refine o1 rfl ?_
    refine op_alloc T rfl rfl (fun g7 w3 hs3 hc3 hg7 => ?_)
    have hs3 : w2.heap.size ≤ g7 := hs3
    have hg7 : Blk w3 g7 34 [.int .i64 0, .string (str []), .string (str []), .int .i64 0, .int .i64 0, .int .i64 0, .int .i64 0, .string (str []), .int .i64 0] := hg7
    refine op0 rfl rfl ?_
    refine op_store_agg T rfl rfl rfl rfl rfl rfl hg7 (by exact Nat.le_of_ble_eq_true rfl) (fun w4 hc4 hg74 _ => ?_)
    have hg74 : Blk w4 g7 34 (opL y) := hg74
    have hc24 : Chg [] w2 w4 := hc3.trans hc4 (fun k hk hlt => by simp at hk; omega)
    have hg7g : g7 ∉ [g] := by have := hrow.lt; simp; omega
    clear hg7 he
    replace hc := hc.trans' hc24
    replace hrow := hrow.keep0 hc24
    refine go T 5 rfl ?_
    refine o1 rfl (op_load_agg T rfl rfl rfl rfl hg74 (by exact Nat.le_of_ble_eq_true rfl) (by exact rfl) ?_)
    refine o1 rfl ?_
    refine op_callf rfl rfl rfl (hf w4 y hc) ?_
    rintro _ w5 ⟨hc5, rfl⟩
    replace hc4 := hc4.trans' hc5
    replace hg74 := hg74.keep0 hc5
    replace hc24 := hc24.trans' hc5
    replace hc := hc.trans' hc5
    replace hrow := hrow.keep0 hc5
    cases hp : p y with
    | true =>
      refine go T 9 rfl ?_
      refine adI rfl rfl rfl rfl (by omega) (by omega) ?_
      refine go T 2 rfl ?_
      exact Round_n (j + 1, i, R) ⟨rfl, rfl, rfl, rfl, trivial⟩ ⟨by dsimp only; omega, by dsimp only; omega, hRl, by rw [htk, ← hRt]; simp [hp], hdr, hc, hrow⟩ (by dsimp only; omega)
    | false =>
      refine go T 8 rfl ?_
      refine o1 rfl (op_load_agg T rfl rfl rfl rfl hg74 (by exact Nat.le_of_ble_eq_true rfl) (by exact rfl) ?_)
      refine o1 rfl (op_indexK T rfl rfl rfl rfl rfl (by omega) ?_)
      refine op0 rfl rfl ?_
      refine op_storeR T opL_len (i := i) (a := y) hrow rfl rfl rfl rfl rfl rfl (by omega) (fun w6 hc6 hr6 _ => ?_)
      refine go T 4 rfl ?_
      refine adI rfl rfl rfl rfl (by omega) (by omega) ?_
      refine go T 6 rfl ?_
      refine adI rfl rfl rfl rfl (by omega) (by omega) ?_
      refine go T 2 rfl ?_
      refine Round_n (j + 1, i + 1, R.set i y) ⟨rfl, rfl, rfl, rfl, trivial⟩ ⟨by dsimp only; omega, by dsimp only; omega, by dsimp only; rw [List.length_set]; exact hRl, ?_, ?_, hc.trans hc6 (fun k hk _ => hk), hr6⟩ (by dsimp only; omega)
      · dsimp only
        rw [htk, ← hRt, List.take_add_one, List.take_set, List.set_eq_of_length_le (by rw [List.length_take]; omega), List.getElem?_set_self (by omega)]
        simp [hp]
      · dsimp only
        rw [List.drop_set_of_lt (by omega)]
        exact hdr
  obtain rfl : j = L.length := by omega
  rw [List.take_length] at hRt
  have hil : i = (L.filter (fun x => !p x)).length := by rw [← hRt, List.length_take]; omega
  have hcut : R.take i = L.filter (fun x => !p x) := hRt
  have hRll : (R.flatMap opL ++ rest).length = c * 9 := by
    rw [List.length_append, rk_len opL_len, hRl, ← hrl, List.length_append, rk_len opL_len]
  refine go T 5 rfl ?_
  refine rndX ?_
  refine go T 6 rfl ?_
  refine o1 rfl ?_
  refine op_slice (l := i) (h' := L.length) T rfl rfl rfl rfl ⟨_, rfl⟩ rfl (by omega) (by omega) ?_
  rw [if_neg (show ¬ c = i by omega)]
  refine op0 rfl rfl ?_
  refine op_clear (g := g) (off := i * 9) (tb := 34) (cs := R.flatMap opL ++ rest) T rfl rfl rfl rfl rfl rfl rfl (.inr ?_) hrow (by rw [hRll]; show i * 9 + (L.length - i) * 9 ≤ c * 9; omega) (fun w3 rest' hc3 hb3 hl3 => ?_)
  · show some ((⟨g, 0, none⟩ : Addr).add (i * 9)) = _
    rw [add_plain]
  refine go T 6 rfl ?_
  refine o1 rfl ?_
  refine op_slice (l := 0) (h' := i) T rfl rfl rfl rfl rfl ⟨_, rfl⟩ (by omega) (by omega) ?_
  rw [if_neg (show ¬ c = 0 by omega)]
  have e1 : (⟨g, 0, none⟩ : Addr).add (0 * 9) = ⟨g, 0, none⟩ := by rw [Nat.zero_mul]; exact add_plain g 0
  refine go T 4 rfl ?_
  refine post1 (.inl rfl) rfl rfl ⟨hc.trans hc3 (fun k hk _ => hk), ?_, ?_⟩
  · show (Value.slice (some ((⟨g, 0, none⟩ : Addr).add (0 * 9))) (i - 0) (c - 0)).ownBlock = _
    rw [e1]; rfl
  · show Own w3 34 9 (Value.slice (some ((⟨g, 0, none⟩ : Addr).add (0 * 9))) i c) _ _
    rw [e1, ← hil]
    refine Own.mk hb3 (by omega) (by unfold maxLen; omega) (by rw [hl3, hRll]) ?_
    have h9 : ((R.flatMap opL ++ rest).take (i * 9)).length = i * 9 := by rw [List.length_take, hRll]; omega
    rw [List.take_left' h9, rk_take opL_len R (by omega), hcut]
end
end Go.Proofs.Ytjkbbkomajjegaa.Try
/-! History: Fold. -/
set_option linter.unusedVariables false
namespace Go.Vc
open Go
def leSeq (x y : OpM) : Bool := decide (x.seq ≤ y.seq)
theorem totSeq : Tot leSeq := ⟨fun x y => by unfold leSeq; simp; omega, fun x y z h1 h2 => by unfold leSeq at *; simp at *; omega⟩
def dropM (upto : Int) (o : OpM) : Bool := decide (toldM o = false ∨ o.seq < 1 ∨ upto < o.seq)
def putDel (m : Bs → Option Bs) (o : OpM) : Bs → Option Bs := if o.kind = 1 then upd m o.key o.val else fun k => if k = o.key then none else m k
def foldL (ops : List OpM) (upto : Int) : List OpM := isM leSeq (ops.filter fun o => !dropM upto o)
def foldM (ops : List OpM) (upto : Int) : Bs → Option Bs := (foldL ops upto).foldl putDel (fun _ => none)
abbrev strV (l : Bs) : Value := .string (str l)
/-- No two neighbours have one number. -/
def Apart : List OpM → Prop
  | [] => True
  | [_] => True
  | a :: b :: l => a.seq ≠ b.seq ∧ Apart (b :: l)
theorem Apart.at : ∀ {l : List OpM} {i : Nat} {a b : OpM}, Apart l → l[i]? = some a → l[i + 1]? = some b → a.seq ≠ b.seq
  | [], i, a, b, _, h, _ => by simp at h
  | [x], i, a, b, _, _, h => by simp at h
  | x :: y :: l, 0, a, b, h, h1, h2 => by simp at h1 h2; subst h1; subst h2; exact h.1
  | x :: y :: l, i + 1, a, b, h, h1, h2 => Apart.at (l := y :: l) (i := i) h.2 (by simpa using h1) (by simpa using h2)
theorem Apart.of_nodup : ∀ {l : List OpM}, (l.map OpM.seq).Nodup → Apart l
  | [], _ => trivial
  | [_], _ => trivial
  | a :: b :: l, h => by
    rw [List.map_cons, List.nodup_cons] at h
    exact ⟨fun e => h.1 (by simp [e]), Apart.of_nodup (l := b :: l) h.2⟩
end Go.Vc
namespace Go.Proofs.Ytjkbbkomajjegaa.Try
open Go Go.Vc
section
variable {w : World}
theorem foldDel_has (o : OpM) (gs : Nat) (upto : Int) (w : World) (hg : Blk w gs 2 [.int .i64 upto]) : Has Go.Proofs.Try.prog 30 (#[] ++ #[.agg (opL o).toArray] ++ #[ptrB gs]) w (fun v w' => Chg [] w w' ∧ v = .bool (dropM upto o)) := by
  refine enter Go.Proofs.Try.func30 rfl rfl (by decide) rfl (e := [(0, .agg (opL o).toArray), (1, ptrB gs)]) ⟨rfl, rfl, trivial⟩ ?_
  unfold ptrB
  refine run ?_
  refine go T 2 rfl ?_
  refine o1 rfl ?_
  refine op_box rfl rfl (fun g1 w1 hs hc1 hg1 => ?_)
  have hg1 : Blk w1 g1 34 (opL o) := hg1
  unfold opL at hg1
  replace hg := hg.keep0 hc1
  refine go T 5 rfl ?_
  refine o1 rfl (op_load_agg T rfl rfl rfl rfl hg1 (by exact Nat.le_of_ble_eq_true rfl) (by exact rfl) ?_)
  refine o1 rfl ?_
  refine op_call rfl rfl rfl (told_has o w1) ?_
  rintro _ w2 ⟨hc2, rfl⟩
  replace hc1 := hc1.trans' hc2
  replace hg1 := hg1.keep0 hc2
  replace hg := hg.keep0 hc2
  unfold dropM
  cases ht : toldM o with
  | false =>
    rw [decide_eq_true (.inl rfl)]
    refine go T 18 rfl ?_
    exact post1 (.inl rfl) rfl rfl ⟨hc1, rfl⟩
  | true =>
  by_cases h1 : o.seq < 1
  · rw [decide_eq_true (.inr (.inl h1))]
    refine go T 4 rfl ?_
    refine ldB T hg1 rfl rfl rfl rfl rfl rfl ?_
    refine ltT rfl rfl rfl rfl (by omega) ?_
    refine go T 12 rfl ?_
    exact post1 (.inl rfl) rfl rfl ⟨hc1, rfl⟩
  by_cases h2 : upto < o.seq
  · rw [decide_eq_true (.inr (.inr h2))]
    refine go T 4 rfl ?_
    refine ldB T hg1 rfl rfl rfl rfl rfl rfl ?_
    refine ltF rfl rfl rfl rfl (by omega) ?_
    refine go T 4 rfl ?_
    refine ldB T hg1 rfl rfl rfl rfl rfl rfl ?_
    refine ldB T hg rfl rfl rfl rfl rfl rfl ?_
    refine gtT rfl rfl rfl rfl (by omega) ?_
    refine go T 5 rfl ?_
    exact post1 (.inl rfl) rfl rfl ⟨hc1, rfl⟩
  rw [decide_eq_false (fun h => by rcases h with h | h | h; cases h; exact h1 h; exact h2 h)]
  refine go T 4 rfl ?_
  refine ldB T hg1 rfl rfl rfl rfl rfl rfl ?_
  refine ltF rfl rfl rfl rfl (by omega) ?_
  refine go T 4 rfl ?_
  refine ldB T hg1 rfl rfl rfl rfl rfl rfl ?_
  refine ldB T hg rfl rfl rfl rfl rfl rfl ?_
  refine gtF rfl rfl rfl rfl (by omega) ?_
  refine go T 5 rfl ?_
  exact post1 (.inl rfl) rfl rfl ⟨hc1, rfl⟩
set_option maxHeartbeats 1000000 in
/-- CompactFunc where no two neighbours have one number. -/
theorem compactF_has (A : Option Addr) (n c : Nat) (L : List OpM) (w : World) (hs : SliceK 9 (RdL opL) w (.slice A n c) L) (hap : Apart L) (hlim : L.length ≤ 1000000) :
    Has Go.Proofs.Try.prog 34 #[.slice A n c, .func (.func 35) #[] #[]] w (fun v w' => Chg [] w w' ∧ v = .slice A n c) := by
  obtain ⟨rfl, hl1, hl2⟩ := hs.len
  refine enter Go.Proofs.Try.func34 rfl rfl (by decide) rfl (e := [(0, .slice A L.length c), (1, .func (.func 35) #[] #[])]) ⟨rfl, rfl, trivial⟩ ?_
  refine run ?_
  refine go T 10 rfl ?_
  refine ltS rfl rfl rfl rfl (fun hcmp => ?_) (fun hcmp => ?_)
  · refine go T 11 rfl ?_
    exact post1 (.inl rfl) rfl rfl ⟨Chg.refl _ _, rfl⟩
  refine go T 12 rfl ?_
  refine W_loop (σ := Nat) (fun i => [(0, .slice A L.length c), (1, .func (.func 35) #[] #[]), (5, .int .i64 (i + 1 : Nat))])
    (fun i w' => i + 1 ≤ L.length ∧ Chg [] w w') (fun i => L.length - i) 0 ⟨rfl, rfl, rfl, trivial⟩ ⟨by omega, Chg.refl _ _⟩ ?_
  rintro i w1 ⟨hi, hc⟩
  refine run ?_
  refine go T 6 rfl ?_
  refine ltS rfl rfl rfl rfl (fun hcmp => ?_) (fun hcmp => ?_)
  · have hlt : i < L.length := by omega
    have hlt1 : i + 1 < L.length := by omega
    have hx := List.getElem?_eq_getElem hlt
    have hx1 := List.getElem?_eq_getElem hlt1
    obtain ⟨ad, rfl, he⟩ := (hs.keepR hc).at hx
    obtain ⟨ad', had, he1⟩ := (hs.keepR hc).at hx1
    injection had with had; subst had
    have hne := hap.at hx hx1
    generalize L[i] = a at *
    generalize L[i + 1] = b at *
    have hm1 : ((i + 1 : Nat) : Int) - 1 = (i : Int) := by omega
    have hdec : decide (b.seq = a.seq) = false := decide_eq_false (fun h => hne h.symm)
    refine go T 8 rfl ?_
    refine W_walk 10 [] fol (by kernel_rfl) (by kernel_rfl) ?_
    refine Walk.plain rfl (by intro val w_ hR hp; exact op_move rfl rfl ⟨Chg.refl _ _, rfl⟩) ?_; dsimp only [List.nil_append, List.cons_append]
    refine Walk.plain rfl (by intro val w_ hR hp; exact op_move rfl rfl ⟨Chg.refl _ _, rfl⟩) ?_; dsimp only [List.nil_append, List.cons_append]
    refine Walk.plain rfl (by intro val w_ hR hp; exact op_move rfl rfl ⟨Chg.refl _ _, rfl⟩) ?_; dsimp only [List.nil_append, List.cons_append]
    refine Walk.plain rfl (by intro val w_ hR hp; exact op_indexK T rfl rfl rfl rfl rfl (by omega) ⟨Chg.refl _ _, rfl⟩) ?_; dsimp only [List.nil_append, List.cons_append]
    refine Walk.plain rfl (by intro val w_ hR hp; exact op_loadE T (he1.keep0 hR) rfl rfl rfl rfl rfl ⟨Chg.refl _ _, rfl⟩) ?_; dsimp only [List.nil_append, List.cons_append]
    refine Walk.plain rfl (by intro val w_ hR hp; exact op_move rfl rfl ⟨Chg.refl _ _, rfl⟩) ?_; dsimp only [List.nil_append, List.cons_append]
    refine Walk.plain rfl (by intro val w_ hR hp; exact op_move rfl rfl ⟨Chg.refl _ _, rfl⟩) ?_; dsimp only [List.nil_append, List.cons_append]
    refine Walk.plain rfl (by intro val w_ hR hp; exact op_subt rfl rfl rfl (wrap_i64_in (by omega) (by omega)) ⟨Chg.refl _ _, rfl⟩) ?_; dsimp only [List.nil_append, List.cons_append]
    refine Walk.plain (v := .pointer (some (ad.add (i * 9)))) rfl (by intro val w_ hR hp; exact op_indexK (i := i) T rfl rfl (congrArg (fun u => some (Value.int .i64 u)) hm1) rfl rfl (by omega) ⟨Chg.refl _ _, rfl⟩) ?_; dsimp only [List.nil_append, List.cons_append]
    refine Walk.plain rfl (by intro val w_ hR hp; exact op_loadE T (he.keep0 hR) rfl rfl rfl rfl rfl ⟨Chg.refl _ _, rfl⟩) ?_; dsimp only [List.nil_append, List.cons_append]
    skip
    refine Walk.fin ?_
    intro val w2 hc2 hp
    clear hp
    replace hc := hc.trans' hc2
    replace he := he.keep0 hc2
    replace he1 := he1.keep0 hc2
    refine runL ?_
    refine o1 rfl ?_
    refine op_callf rfl rfl rfl (sameSeq_has b a w2) ?_
    rintro _ w3 ⟨hc3, rfl⟩
    rw [hdec]
    replace hc2 := hc2.trans' hc3
    replace hc := hc.trans' hc3
    replace he := he.keep0 hc3
    replace he1 := he1.keep0 hc3
    refine go T 8 rfl ?_
    refine adI rfl rfl rfl rfl (by omega) (by omega) ?_
    refine go T 2 rfl ?_
    exact Round_n (i + 1) ⟨rfl, rfl, rfl, trivial⟩ ⟨by omega, hc⟩ (by omega)
  · refine go T 5 rfl ?_
    refine rndX ?_
    refine go T 9 rfl ?_
    exact post1 (.inl rfl) rfl rfl ⟨hc, rfl⟩
/-- The stable sort by numbers, of at most n. -/
def StableAt (n : Nat) : Prop := ∀ (v : Value) (L : List OpM) (w : World), Own w 34 9 v L.length (L.flatMap opL) → L.length ≤ n →
  Has Go.Proofs.Try.prog 22 #[v, .func (.func 32) #[] #[]] w (fun u w' => u = .tuple #[] ∧ Chg v.ownBlock.toList w w' ∧ Own w' 34 9 v (isM leSeq L).length ((isM leSeq L).flatMap opL))
theorem stableAt20 : StableAt 20 := fun v L w ho hl => sortStable_has (le := leSeq) (cf := fun a b => cmpM a.seq b.seq) totSeq (fun w1 a b => cmpSeq_has a b w1) (fun a b => cmpM_neg _ _) v L ho hl
set_option maxHeartbeats 1000000 in
theorem fold_has {n : Nat} (hst : StableAt n) (v : Value) (ops : List OpM) (upto : Int) (w : World) (hs : SliceK 9 (RdL opL) w v ops) (hl : ops.length ≤ n) (hn : n ≤ 1000000) (hap : Apart (foldL ops upto)) :
    Has Go.Proofs.Try.prog 17 #[v, .int .i64 upto] w (fun u w' => Chg [] w w' ∧ ∃ r, u = .map (some r) ∧ w.heap.size ≤ r ∧ MapAt strV strV w' r (foldM ops upto)) := by
  obtain ⟨A, c, rfl, _, _⟩ := hs.form
  refine enter Go.Proofs.Try.func17 rfl rfl (by decide) rfl (e := [(0, .slice A ops.length c), (1, .int .i64 upto)]) ⟨rfl, rfl, trivial⟩ ?_
  refine run ?_
  refine go T 2 rfl ?_
  refine o1 rfl ?_
  refine op_box rfl rfl (fun gu w1 hsu hc1 hgu => ?_)
  have hgu : Blk w1 gu 2 [.int .i64 upto] := hgu
  replace hs := hs.keepR hc1
  refine go T 6 rfl ?_
  refine o1 rfl ?_
  refine op_call rfl rfl rfl (cloneOp_has _ _ _ ops w1 hs (by omega)) ?_
  rintro u w2 ⟨hc2, hou, huf⟩
  obtain ⟨Au, cu, rfl, _, _⟩ := hou.form
  have hgo : gu ∉ (Value.slice Au ops.length cu).ownBlock.toList := out_of (hgu.keep0 hc2) hou (by decide)
  have huw : ∀ k ∈ (Value.slice Au ops.length cu).ownBlock.toList, w.heap.size ≤ k := fun k hk => by
    have := huf k (by simpa using hk)
    have := hc1.size
    omega
  replace hc1 := hc1.trans' hc2
  replace hgu := hgu.keep0 hc2
  replace hs := hs.keepR hc2
  refine o1 rfl ?_
  refine op_makeFunc (fv := #[]) (cv := #[ptrB gu]) rfl rfl rfl ?_
  refine o1 rfl ?_
  refine op_call rfl rfl rfl (delete_has _ ops _ #[ptrB gu] (dropM upto) w2 hou (by omega) (fun w3 x hc3 => foldDel_has x gu upto w3 (hgu.keep hc3 hgo))) ?_
  rintro u3 w3 ⟨hc3, hub, hou3⟩
  have hcw3 : Chg [] w w3 := hc1.trans hc3 (fun k hk hlt => by have := huw k hk; omega)
  rw [← hub] at huw
  have hfl : (ops.filter fun o => !dropM upto o).length ≤ ops.length := List.length_filter_le _ _
  unfold foldM
  unfold foldL at hap ⊢
  generalize (ops.filter fun o => !dropM upto o) = L at *
  obtain ⟨A3, c3, rfl, _, _⟩ := hou3.form
  clear hgo hou hub
  refine go T 6 rfl ?_
  refine o1 rfl ?_
  refine op_call rfl rfl rfl (hst _ L w3 hou3 (by omega)) ?_
  rintro _ w4 ⟨rfl, hc4, ho4⟩
  have hcw4 : Chg [] w w4 := hcw3.trans hc4 (fun k hk hlt => by have := huw k hk; omega)
  have hll : (isM leSeq L).length = L.length := (isM_perm L).length_eq
  rw [← hll] at hfl ho4 ⊢
  generalize isM leSeq L = S at *
  refine go T 5 rfl ?_
  refine o1 rfl ?_
  refine op_call rfl rfl rfl (compactF_has A3 _ c3 S w4 (ho4.readsK opL_len) hap (by omega)) ?_
  rintro _ w5 ⟨hc5, rfl⟩
  have ho5 := ho4.keep0 hc5
  have hcw5 := hcw4.trans' hc5
  refine go T 5 rfl ?_
  refine o1 rfl ?_
  refine op_makeMap strV strV rfl (fun r w6 hr6 hc6 hm6 => ?_)
  have ho6 := ho5.keep0 hc6
  have hcw6 := hcw5.trans' hc6
  have hrw : w.heap.size ≤ r := by have := hcw5.size; omega
  refine go T 12 rfl ?_
  refine W_loop (σ := Nat) (fun i => [(6, .map (some r)), (18, .slice A3 S.length c3), (19, .int .i64 S.length), (20, .int .i64 i)])
    (fun i w' => i ≤ S.length ∧ Chg [] w w' ∧ Own w' 34 9 (.slice A3 S.length c3) S.length (S.flatMap opL) ∧ MapAt strV strV w' r ((S.take i).foldl putDel (fun _ => none))) (fun i => S.length - i) 0 ⟨rfl, rfl, rfl, rfl, trivial⟩ ⟨Nat.zero_le _, hcw6, ho6, hm6⟩ ?_
  clear ho6 hcw6 hm6 hcw5 ho5 hcw4 ho4 
  rintro i w7 ⟨hi, hc, ho, hm⟩
  refine run ?_
  refine go T 2 rfl ?_
  refine ltS rfl rfl rfl rfl (fun hcmp => ?_) (fun hcmp => ?_)
  · have hlt : i < S.length := by omega
    have hx := List.getElem?_eq_getElem hlt
    have htk : (S.take (i + 1)).foldl putDel (fun _ => none) = putDel ((S.take i).foldl putDel (fun _ => none)) S[i] := by
      rw [List.take_add_one, hx]; exact List.foldl_append
    obtain ⟨ad, rfl, he⟩ := (ho.readsK opL_len).at hx
    rw [show Round = Round from rfl]
    generalize S[i] = y at *
    refine go T 10 rfl ?_
    refine o1 rfl (op_indexK T rfl rfl rfl rfl rfl (by omega) ?_)
    refine o1 rfl (op_loadE T he rfl rfl rfl rfl rfl ?_)
    refine o1 rfl ?_
    refine op_alloc T rfl rfl (fun g8 w8 hs8 hc8 hg8 => ?_)
    have hs8 : w7.heap.size ≤ g8 := hs8
    have hg8 : Blk w8 g8 34 [.int .i64 0, .string (str []), .string (str []), .int .i64 0, .int .i64 0, .int .i64 0, .int .i64 0, .string (str []), .int .i64 0] := hg8
    refine op0 rfl rfl ?_
    refine op_store_agg T rfl rfl rfl rfl rfl rfl hg8 (by exact Nat.le_of_ble_eq_true rfl) (fun w9 hc9 hg89 _ => ?_)
    have hg89 : Blk w9 g8 34 (opL y) := hg89
    have hc79 : Chg [] w7 w9 := hc8.trans hc9 (fun k hk hlt => by simp at hk; omega)
    clear hg8 he
    replace hc := hc.trans' hc79
    replace hm := hm.keep0 hc79
    replace ho := ho.keep0 hc79
    unfold opL at hg89
    by_cases hk : y.kind = 1
    · rw [show putDel ((S.take i).foldl putDel (fun _ => none)) y = upd ((S.take i).foldl putDel (fun _ => none)) y.key y.val from by unfold putDel; rw [if_pos hk]] at htk
      refine go T 6 rfl ?_
      refine ldB T hg89 rfl rfl rfl rfl rfl rfl ?_
      refine eqT rfl rfl rfl rfl (by omega) ?_
      refine go T 7 rfl ?_
      refine ldB T hg89 rfl rfl rfl rfl rfl rfl ?_
      refine go T 2 rfl ?_
      refine ldB T hg89 rfl rfl rfl rfl rfl rfl ?_
      refine op0 rfl rfl ?_
      refine op_mapUpdate T strKey (k := y.key) (bv := strV) (b := y.val) rfl rfl rfl rfl rfl rfl hm (fun w10 hc10 hm10 _ => ?_)
      refine go T 4 rfl ?_
      refine adI rfl rfl rfl rfl (by omega) (by omega) ?_
      refine go T 2 rfl ?_
      refine Round_n (i + 1) ⟨rfl, rfl, rfl, rfl, trivial⟩ ⟨by omega, hc.trans hc10 (fun k hk hlt => by simp at hk; omega), ho.keep hc10 (fun k hk hmem => ?_), by rw [htk]; exact hm10⟩ (by omega)
      simp at hmem; subst hmem
      obtain ⟨cur, hb⟩ := ho.row hk
      exact hm.ne_blk hb rfl
    · rw [show putDel ((S.take i).foldl putDel (fun _ => none)) y = (fun k => if k = y.key then none else ((S.take i).foldl putDel (fun _ => none)) k) from by unfold putDel; rw [if_neg hk]] at htk
      refine go T 6 rfl ?_
      refine ldB T hg89 rfl rfl rfl rfl rfl rfl ?_
      refine eqF rfl rfl rfl rfl (by omega) ?_
      refine go T 7 rfl ?_
      refine ldB T hg89 rfl rfl rfl rfl rfl rfl ?_
      refine op0 rfl rfl ?_
      refine op_delete T strKey (k := y.key) (bv := strV) rfl rfl rfl rfl rfl rfl hm (fun w10 hc10 hm10 _ => ?_)
      refine go T 4 rfl ?_
      refine adI rfl rfl rfl rfl (by omega) (by omega) ?_
      refine go T 2 rfl ?_
      refine Round_n (i + 1) ⟨rfl, rfl, rfl, rfl, trivial⟩ ⟨by omega, hc.trans hc10 (fun k hk hlt => by simp at hk; omega), ho.keep hc10 (fun k hk hmem => ?_), by rw [htk]; exact hm10⟩ (by omega)
      simp at hmem; subst hmem
      obtain ⟨cur, hb⟩ := ho.row hk
      exact hm.ne_blk hb rfl
  · obtain rfl : i = S.length := by omega
    rw [List.take_length] at hm
    refine go T 6 rfl ?_
    refine rndX ?_
    refine go T 9 rfl ?_
    exact post1 (.inl rfl) rfl rfl ⟨hc, r, rfl, hrw, hm⟩
end
end Go.Proofs.Ytjkbbkomajjegaa.Try
/-! History: a book. -/
set_option linter.unusedVariables false
namespace Go.Vc
open Go
theorem rk_setN {α : Type} {f : α → List Value} {k : Nat} (hf : ∀ x, (f x).length = k) (rest vs : List Value) {j : Nat} (hj : j + vs.length ≤ k) : ∀ (L : List α) (i : Nat) (x x' : α), L[i]? = some x → (f x).take j ++ vs ++ (f x).drop (j + vs.length) = f x' → (L.flatMap f ++ rest).take (i * k + j) ++ vs ++ (L.flatMap f ++ rest).drop (i * k + j + vs.length) = (L.set i x').flatMap f ++ rest
  | [], i, x, x', h, _ => by simp at h
  | a :: L, 0, x, x', h, h2 => by
    simp at h
    subst h
    rw [List.flatMap_cons, Nat.zero_mul, Nat.zero_add, List.append_assoc (f a), List.take_append_of_le_length (by rw [hf]; omega), List.drop_append_of_le_length (by rw [hf]; omega), ← List.append_assoc, h2, List.set_cons_zero, List.flatMap_cons, List.append_assoc]
  | a :: L, i + 1, x, x', h, h2 => by
    have ih := rk_setN hf rest vs hj L i x x' (by simpa using h) h2
    have e1 : (i + 1) * k + j = (f a).length + (i * k + j) := by rw [hf, Nat.succ_mul]; omega
    have e0 : (a :: L).flatMap f ++ rest = f a ++ (L.flatMap f ++ rest) := by rw [List.flatMap_cons, List.append_assoc]
    rw [e0, e1, List.take_length_add_append, Nat.add_assoc, List.drop_length_add_append, List.set_cons_succ, List.flatMap_cons]
    have ih' := congrArg (fun l => f a ++ l) ih
    simpa only [List.append_assoc] using ih'
structure CallM where
  kind : Int
  key : Bs
  val : Bs
structure AnsM where
  err : Int
  seq : Int
  val : Bs
  num : Int
def callL (c : CallM) : List Value := [.int .i64 c.kind, .string (str c.key), .string (str c.val)]
def ansL (a : AnsM) : List Value := [.int .i64 a.err, .int .i64 a.seq, .string (str a.val), .int .i64 a.num]
def askedOp (c : CallM) (at_ : Int) : OpM := ⟨c.kind, c.key, c.val, at_, 0, 0, 0, [], 0⟩
def answeredOp (o : OpM) (a : AnsM) (at_ : Int) : OpM := ⟨o.kind, o.key, o.val, o.asked, at_, a.err, a.seq, a.val, a.num⟩
def posM (ids : List Int) (id : Int) : Int := idxM (fun x => decide (x = id)) ids
abbrev BookM := List Int × List OpM
def askM (b : BookM) (id : Int) (c : CallM) (at_ : Int) : BookM := if 0 ≤ posM b.1 id then b else (b.1 ++ [id], b.2 ++ [askedOp c at_])
def ansM (b : BookM) (id : Int) (a : AnsM) (at_ : Int) : BookM :=
  if posM b.1 id < 0 then b else
  match b.2[(posM b.1 id).toNat]? with
  | none => b
  | some o => if o.done = 0 ∧ o.asked ≤ at_ then (b.1, b.2.set (posM b.1 id).toNat (answeredOp o a at_)) else b
end Go.Vc
namespace Go.Proofs.Ytjkbbkomajjegaa.Try
open Go Go.Vc
/-- A book in memory, made since w0. -/
structure BkAt (w0 w : World) (g : Nat) (b : BookM) (vi vo : Value) : Prop where
  chg : Chg [] w0 w
  blk : Blk w g 61 [vi, vo]
  fr : w0.heap.size ≤ g
  ids : Own w 3 1 vi b.1.length (b.1.map i64V)
  fri : ∀ h, vi.ownBlock = some h → w0.heap.size ≤ h
  ops : Own w 34 9 vo b.2.length (b.2.flatMap opL)
  fro : ∀ h, vo.ownBlock = some h → w0.heap.size ≤ h
  len : b.1.length = b.2.length
  rng : ∀ i ∈ b.1, -9223372036854775808 ≤ i ∧ i ≤ 9223372036854775807
section
variable {w0 w w1 w2 : World} {g : Nat} {b : BookM} {vi vo : Value}
theorem BkAt.keep0 (x : BkAt w0 w g b vi vo) (hc : Chg [] w w1) : BkAt w0 w1 g b vi vo :=
  ⟨x.chg.trans' hc, x.blk.keep0 hc, x.fr, x.ids.keep0 hc, x.fri, x.ops.keep0 hc, x.fro, x.len, x.rng⟩
theorem new_has (w : World) : Has Go.Proofs.Try.prog 13 #[] w (fun v w' => ∃ g, v = ptrB g ∧ BkAt w w' g ([], []) (.slice none 0 0) (.slice none 0 0)) := by
  refine enter Go.Proofs.Try.func13 rfl rfl (by decide) rfl (e := []) trivial ?_
  refine run ?_
  refine go T 7 rfl ?_
  refine o1 rfl (op_build T rfl rfl rfl rfl rfl rfl ?_)
  refine o1 rfl ?_
  refine op_box rfl rfl (fun g w1 hs1 hc1 hg => ?_)
  have hg : Blk w1 g 61 [.slice none 0 0, .slice none 0 0] := hg
  refine go T 4 rfl ?_
  exact post1 (.inl rfl) rfl rfl ⟨g, rfl, hc1, hg, hs1, Own.nil _ _ _, fun h hh => by simp [Value.ownBlock] at hh, Own.nil _ _ _, fun h hh => by simp [Value.ownBlock] at hh, rfl, by simp⟩
set_option maxHeartbeats 4000000 in
theorem BkAt.idsR (x : BkAt w0 w g b vi vo) : SliceOf Ri64 w vi b.1 := x.ids.reads rfl (fun i y u hy hu => by
  rw [List.getElem?_map, hy] at hu
  injection hu with hu
  subst hu
  exact ⟨rfl, x.rng y (List.mem_of_getElem? hy)⟩)
theorem asked_has (x : BkAt w0 w g b vi vo) (id : Int) (c : CallM) (at_ : Int) (hlim : b.1.length < 1000) (hid : -9223372036854775808 ≤ id ∧ id ≤ 9223372036854775807) :
    Has Go.Proofs.Try.prog 14 #[ptrB g, .int .i64 id, .agg (callL c).toArray, .int .i64 at_] w (fun v w' => v = .tuple #[] ∧ ∃ vi' vo', BkAt w0 w' g (askM b id c at_) vi' vo' ∧ Chg (g :: (vi.ownBlock.toList ++ vo.ownBlock.toList)) w w' ∧ (vi'.ownBlock = vi.ownBlock ∨ ∃ h, vi'.ownBlock = some h ∧ w.heap.size ≤ h) ∧ (vo'.ownBlock = vo.ownBlock ∨ ∃ h, vo'.ownBlock = some h ∧ w.heap.size ≤ h)) := by
  refine enter Go.Proofs.Try.func14 rfl rfl (by decide) rfl (e := [(0, ptrB g), (1, .int .i64 id), (2, .agg (callL c).toArray), (3, .int .i64 at_)]) ⟨rfl, rfl, rfl, rfl, trivial⟩ ?_
  unfold ptrB
  refine run ?_
  refine go T 2 rfl ?_
  refine o1 rfl ?_
  refine op_box rfl rfl (fun g6 w1 hs1 hc1 hg6 => ?_)
  have hg6 : Blk w1 g6 29 (callL c) := hg6
  have hs1 : w.heap.size ≤ g6 := hs1
  have h6g : g6 ∉ [g] := by have := x.blk.lt; simp; omega
  have h6i : g6 ∉ vi.ownBlock.toList := out_lt x.ids hs1
  have h6o : g6 ∉ vo.ownBlock.toList := out_lt x.ops hs1
  replace x := x.keep0 hc1
  have hb := x.blk
  have hr := x.idsR
  have hlen := x.len
  unfold askM
  obtain ⟨bi, bo⟩ := b
  dsimp only at hlim hr hlen ⊢
  obtain ⟨Ai, ci, rfl, _, _⟩ := hr.form
  refine go T 10 rfl ?_
  refine ldB T hb rfl rfl rfl rfl rfl rfl ?_
  refine go T 1 rfl ?_
  refine o1 rfl ?_
  refine op_call rfl rfl rfl (containsI_has Ai _ ci bi id hr) ?_
  rintro _ w2 ⟨rfl, rfl⟩
  change Run _ _ _ _ ((16, .bool (decide (0 ≤ posM bi id))) :: _) _
  by_cases hp : 0 ≤ posM bi id
  · rw [if_pos hp, decide_eq_true hp]
    refine go T 6 rfl ?_
    exact post0 (.inr rfl) rfl ⟨rfl, _, _, x, hc1.mono (fun k hk _ => by cases hk), .inl rfl, .inl rfl⟩
  rw [if_neg hp, decide_eq_false hp]
  refine go T 11 rfl ?_
  refine ldB T hb rfl rfl rfl rfl rfl rfl ?_
  refine go T 1 rfl ?_
  refine o1 rfl ?_
  refine op_buildSlice T rfl rfl rfl rfl rfl rfl rfl (fun g3 w3 hs3 hc3 hg3 => ?_)
  have hg3 : Blk w3 g3 3 [i64V id] := hg3
  replace x := x.keep0 hc3
  replace hg6 := hg6.keep0 hc3
  clear hb
  have hb := x.blk
  refine o1 rfl ?_
  refine op_append1 T rfl rfl rfl rfl rfl rfl rfl rfl rfl x.ids hg3 rfl (by show bi.length < 1000000; omega) (fun u4 w4 hu4 hc4 hb4 => ?_)
  have hu4 : Own w4 3 1 u4 (bi ++ [id]).length ((bi ++ [id]).map i64V) := hu4
  have hgi : g ∉ (Value.slice Ai bi.length ci).ownBlock.toList := out_of x.blk x.ids (by decide)
  have hj4 := x.blk.keep hc4 hgi
  have ho4 := x.ops.keep hc4 (out_own x.ops x.ids (by decide))
  have hg64 := hg6.keep hc4 h6i
  have hcw4 : Chg [] w0 w4 := x.chg.trans hc4 (fun k hk hlt => by have := x.fri k (by simpa using hk); omega)
  have hu4f := fresh_of (w := w3) x.fri x.chg.size hb4
  obtain ⟨A4, c4, rfl, _, _⟩ := hu4.form
  clear hb
  refine go T 2 rfl ?_
  refine op0 rfl rfl ?_
  refine op_store T rfl rfl rfl rfl rfl rfl hj4 (by simp) (fun w5 hc5 hj5 _ => ?_)
  have hj5 : Blk w5 g 61 [.slice A4 (bi ++ [id]).length c4, vo] := hj5
  have hgn : ∀ {t : TypeId} {s n : Nat} {v : Value} {xs : List Value}, Own w4 t s v n xs → 61 ≠ t → ∀ k, v.ownBlock = some k → k ∉ [g] := fun ho hne k hk hm => by
    simp at hm; subst hm
    exact out_of hj4 ho hne (by simpa using hk)
  have hu5 := hu4.keep hc5 (hgn hu4 (by decide))
  have ho5 := ho4.keep hc5 (hgn ho4 (by decide))
  have hg65 := hg64.keep hc5 h6g
  have hcw5 : Chg [] w0 w5 := hcw4.trans hc5 (fun k hk hlt => by simp at hk; have := x.fr; omega)
  have hfo := x.fro
  have hrng : ∀ i ∈ bi, _ := x.rng
  have hfr := x.fr
  clear hg64 hg6 hj4 ho4 hu4 x hr
  have hgo : g ∉ vo.ownBlock.toList := out_of hj5 ho5 (by decide)
  have hio := out_own hu5 ho5 (by decide)
  unfold callL at hg65
  refine go T 2 rfl ?_
  refine Q.W_walkq 10 9 vo.ownBlock.toList fol (by kernel_rfl) (by kernel_rfl) ?_
  refine Q.Walk.plain rfl rfl (by intro val w_ hR hp; exact op_move rfl rfl ⟨Chg.refl _ _, rfl⟩) ?_; dsimp only [List.nil_append, List.cons_append]
  refine Q.Walk.plain rfl rfl (by intro val w_ hR hp; exact op_move rfl rfl ⟨Chg.refl _ _, rfl⟩) ?_; dsimp only [List.nil_append, List.cons_append]
  refine Q.Walk.plain rfl rfl (by intro val w_ hR hp; exact op_nilCheck rfl rfl ⟨Chg.refl _ _, rfl⟩) ?_; dsimp only [List.nil_append, List.cons_append]
  refine Q.Walk.plain rfl rfl (by intro val w_ hR hp; exact op_fieldAddr T rfl rfl rfl rfl rfl rfl rfl rfl ⟨Chg.refl _ _, rfl⟩) ?_; dsimp only [List.nil_append, List.cons_append]
  refine Q.Walk.plain rfl rfl (by intro val w_ hR hp; exact op_loadB T rfl rfl rfl rfl (hj5.keep hR (by assumption)) (by exact rfl) ⟨Chg.refl _ _, rfl⟩) ?_; dsimp only [List.nil_append, List.cons_append]
  refine Q.Walk.plain rfl rfl (by intro val w_ hR hp; exact op_load_agg T rfl rfl rfl rfl (hg65.keep hR (by assumption)) (by exact Nat.le_of_ble_eq_true rfl) (by exact rfl) ⟨Chg.refl _ _, rfl⟩) ?_; dsimp only [List.nil_append, List.cons_append]
  refine Q.Walk.plain rfl rfl (by intro val w_ hR hp; exact op_move rfl rfl ⟨Chg.refl _ _, rfl⟩) ?_; dsimp only [List.nil_append, List.cons_append]
  refine Q.Walk.plain (v := .agg (opL (askedOp c at_)).toArray) rfl rfl (by intro val w_ hR hp; exact op_build T rfl rfl rfl rfl rfl rfl ⟨Chg.refl _ _, rfl⟩) ?_; dsimp only [List.nil_append, List.cons_append]
  refine Q.Walk.rel rfl (fun v w' => ∃ g5, v = .slice (some ⟨g5, 0, none⟩) 1 1 ∧ Blk w' g5 34 (opL (askedOp c at_)) ∧ w5.heap.size ≤ g5) rfl (fun v a b ⟨g5, h1, h2, h3⟩ hab => ⟨g5, h1, h2.keep hab (fun hmem => by have := ho5.lt (show vo.ownBlock = some g5 by simpa using hmem); omega), h3⟩) ?_ ?_
  · intro val w_ hR hp
    exact op_buildSlice T rfl rfl rfl rfl rfl rfl rfl (fun g5 w5 hs5 hc5 hg5 => ⟨hc5, g5, rfl, hg5, by have := hR.size; omega⟩)
  dsimp only [List.nil_append, List.cons_append]
  refine Q.Walk.turn rfl (fun v w' => Own w' 34 9 v (bo ++ [askedOp c at_]).length ((bo ++ [askedOp c at_]).flatMap opL) ∧ (v.ownBlock = vo.ownBlock ∨ ∃ h, v.ownBlock = some h ∧ w5.heap.size ≤ h)) rfl (fun v a b h hab => ⟨h.1.keep0 hab, h.2⟩) ?_ ?_
  · intro val w_ hR hp
    obtain ⟨g5, he5, hg5, hs5⟩ : ∃ g5, val 8 = .slice (some ⟨g5, 0, none⟩) 1 1 ∧ Blk w_ g5 34 (opL (askedOp c at_)) ∧ w5.heap.size ≤ g5 := hp 8 rfl _ _ rfl rfl
    exact op_appendK T opL_len rfl rfl rfl (congrArg some he5) rfl rfl rfl rfl rfl rfl (ho5.keep0 hR) hg5 (opL_one _) (by show bo.length < _; omega) (fun v w6 hu6 hc6 hb6 => ⟨hc6, hu6, hb6.imp _root_.id (fun ⟨h, h1, h2⟩ => ⟨h, h1, by have := hR.size; omega⟩)⟩)
  dsimp only [List.nil_append, List.cons_append]
  refine Q.Walk.fin ?_
  intro val w6 hc6 hp6
  obtain ⟨ho6, hb6⟩ : Own w6 34 9 (val 9) (bo ++ [askedOp c at_]).length ((bo ++ [askedOp c at_]).flatMap opL) ∧ ((val 9).ownBlock = vo.ownBlock ∨ ∃ h, (val 9).ownBlock = some h ∧ w5.heap.size ≤ h) := hp6 9 (by omega) _ _ rfl rfl
  clear hp6
  refine WL_sub (e' := [(29, .pointer (some ⟨g, 0, none⟩)), (38, val 9)]) ⟨rfl, rfl, trivial⟩ ?_
  generalize val 9 = u6 at ho6 hb6
  obtain ⟨A6, c6, rfl, _, _⟩ := ho6.form
  have hj6 := hj5.keep hc6 hgo
  have hu6 := hu5.keep hc6 hio
  have hcw6 : Chg [] w0 w6 := hcw5.trans hc6 (fun k hk hlt => by have := hfo k (by simpa using hk); omega)
  have hou6 := fresh_of (w := w5) hfo hcw5.size hb6
  refine runL ?_
  refine go T 2 rfl ?_
  refine op0 rfl rfl ?_
  refine op_store T rfl rfl rfl rfl rfl rfl hj6 (by simp) (fun w7 hc7 hj7 _ => ?_)
  have hj7 : Blk w7 g 61 [.slice A4 (bi ++ [id]).length c4, .slice A6 (bo ++ [askedOp c at_]).length c6] := hj7
  have hgn6 : ∀ {t : TypeId} {s n : Nat} {v : Value} {xs : List Value}, Own w6 t s v n xs → 61 ≠ t → ∀ k, v.ownBlock = some k → k ∉ [g] := fun ho hne k hk hm => by
    simp at hm; subst hm
    exact out_of hj6 ho hne (by simpa using hk)
  refine go T 1 rfl ?_
  have hall : Chg (g :: ((Value.slice Ai bi.length ci).ownBlock.toList ++ vo.ownBlock.toList)) w w7 :=
    ((((hc1.trans' hc3).mono (S' := g :: ((Value.slice Ai bi.length ci).ownBlock.toList ++ vo.ownBlock.toList)) (fun k hk _ => by cases hk)).trans hc4 (fun k hk _ => List.mem_cons_of_mem _ (List.mem_append_left _ hk))).trans hc5 (fun k hk _ => by simp at hk; subst hk; exact List.mem_cons_self ..)).trans hc6 (fun k hk _ => List.mem_cons_of_mem _ (List.mem_append_right _ hk)) |>.trans hc7 (fun k hk _ => by simp at hk; subst hk; exact List.mem_cons_self ..)
  refine post0 (.inr rfl) rfl ⟨rfl, _, _, ⟨hcw6.trans hc7 (fun k hk hlt => by simp at hk; omega), hj7, hfr, hu6.keep hc7 (hgn6 hu6 (by decide)), hu4f, ho6.keep hc7 (hgn6 ho6 (by decide)), hou6, by simp; exact hlen, fun i hi => ?_⟩, hall, hb4.imp _root_.id (fun ⟨h, h1, h2⟩ => ⟨h, h1, by have := hc1.size; have := hc3.size; omega⟩), hb6.imp _root_.id (fun ⟨h, h1, h2⟩ => ⟨h, h1, by have := hc1.size; have := hc3.size; have := hc4.size; have := hc5.size; omega⟩)⟩
  rcases List.mem_append.1 hi with hi | hi
  · exact hrng i hi
  · simp at hi; subst hi; exact hid
end
end Go.Proofs.Ytjkbbkomajjegaa.Try
/-! History: answers of a book; its ops. -/
set_option linter.unusedVariables false
namespace Go.Proofs.Ytjkbbkomajjegaa.Try
open Go Go.Vc
section
variable {w0 w w1 w2 : World} {g : Nat} {b : BookM} {vi vo : Value}
set_option maxHeartbeats 4000000 in
theorem answered_has (x : BkAt w0 w g b vi vo) (nm : Int) (a : AnsM) (at_ : Int) (hlim : b.1.length ≤ 1000) :
    Has Go.Proofs.Try.prog 15 #[ptrB g, .int .i64 nm, .agg (ansL a).toArray, .int .i64 at_] w (fun v w' => v = .tuple #[] ∧ BkAt w0 w' g (ansM b nm a at_) vi vo ∧ Chg vo.ownBlock.toList w w') := by
  refine enter Go.Proofs.Try.func15 rfl rfl (by decide) rfl (e := [(0, ptrB g), (1, .int .i64 nm), (2, .agg (ansL a).toArray), (3, .int .i64 at_)]) ⟨rfl, rfl, rfl, rfl, trivial⟩ ?_
  unfold ptrB
  refine run ?_
  refine go T 2 rfl ?_
  refine o1 rfl ?_
  refine op_box rfl rfl (fun g6 w1 hs1 hc1 hg6 => ?_)
  have hg6 : Blk w1 g6 32 (ansL a) := hg6
  have hs1 : w.heap.size ≤ g6 := hs1
  have h6o : g6 ∉ vo.ownBlock.toList := out_lt x.ops hs1
  replace x := x.keep0 hc1
  have hb := x.blk
  have hr := x.idsR
  have hlen := x.len
  unfold ansM
  obtain ⟨bi, bo⟩ := b
  dsimp only at hlim hr hlen ⊢
  obtain ⟨Ai, ci, rfl, _, _⟩ := hr.form
  refine go T 17 rfl ?_
  refine ldB T hb rfl rfl rfl rfl rfl rfl ?_
  refine go T 1 rfl ?_
  refine o1 rfl ?_
  refine op_call rfl rfl rfl (indexI_has Ai _ ci bi nm hr) ?_
  rintro _ w2 ⟨rfl, rfl⟩
  change Run _ _ _ _ ((16, .int .i64 (posM bi nm)) :: _) _
  by_cases hneg : posM bi nm < 0
  · rw [if_pos hneg]
    refine go T 6 rfl ?_
    refine geF rfl rfl rfl rfl (by omega) ?_
    refine go T 27 rfl ?_
    exact post0 (.inr rfl) rfl ⟨rfl, x, hc1.mono (fun k hk _ => by cases hk)⟩
  rw [if_neg hneg]
  have hplt : posM bi nm < bi.length := (idxM_lt (fun x => decide (x = nm)) bi).2
  obtain ⟨k, hk⟩ := Int.eq_ofNat_of_zero_le (show 0 ≤ posM bi nm by omega)
  rw [hk] at hplt ⊢
  rw [Int.toNat_natCast]
  have hkl : k < bo.length := by omega
  have hx := List.getElem?_eq_getElem hkl
  have hxo : SliceK 9 (RdL opL) w2 vo bo := x.ops.readsK opL_len
  obtain ⟨Ao, co, rfl, hl3, hl4⟩ := hxo.form
  unfold maxLen at hl4
  have hown : Own w2 34 9 (.slice Ao bo.length co) bo.length (bo.flatMap opL) := x.ops
  obtain ⟨gq, rfl⟩ := hown.addr (by omega)
  obtain ⟨rest, hrow, hrl⟩ := hown.rowB
  have he := hrow.elem opL_len hx
  rw [hx]
  dsimp only
  have hset := fun (x' : OpM) (u : Value) (h2 : (opL bo[k]).set 4 u = opL x') => rk_set1 opL_len rest bo k 4 bo[k] x' u hx h2 (by omega)
  generalize bo[k] = o at *
  unfold opL at he
  by_cases hd : o.done = 0
  case neg =>
    rw [if_neg (fun h => hd h.1)]
    refine go T 6 rfl ?_
    refine geT rfl rfl rfl rfl (by omega) ?_
    refine go T 4 rfl ?_
    refine ldB T hb rfl rfl rfl rfl rfl rfl ?_
    refine go T 1 rfl ?_
    refine o1 rfl (op_indexK T rfl rfl rfl rfl rfl (by omega) ?_)
    refine o1 rfl (op_fieldAddr T rfl rfl rfl rfl rfl rfl rfl rfl ?_)
    refine o1 rfl (op_loadF T he rfl rfl rfl rfl rfl ?_)
    refine eqF rfl rfl rfl rfl (by omega) ?_
    refine go T 17 rfl ?_
    exact post0 (.inr rfl) rfl ⟨rfl, x, hc1.mono (fun k hk _ => by cases hk)⟩
  by_cases hat : o.asked ≤ at_
  case neg =>
    rw [if_neg (fun h => hat h.2)]
    refine go T 6 rfl ?_
    refine geT rfl rfl rfl rfl (by omega) ?_
    refine go T 4 rfl ?_
    refine ldB T hb rfl rfl rfl rfl rfl rfl ?_
    refine go T 1 rfl ?_
    refine o1 rfl (op_indexK T rfl rfl rfl rfl rfl (by omega) ?_)
    refine o1 rfl (op_fieldAddr T rfl rfl rfl rfl rfl rfl rfl rfl ?_)
    refine o1 rfl (op_loadF T he rfl rfl rfl rfl rfl ?_)
    refine eqT rfl rfl rfl rfl (by omega) ?_
    refine go T 6 rfl ?_
    refine ldB T hb rfl rfl rfl rfl rfl rfl ?_
    refine go T 1 rfl ?_
    refine o1 rfl (op_indexK T rfl rfl rfl rfl rfl (by omega) ?_)
    refine o1 rfl (op_fieldAddr T rfl rfl rfl rfl rfl rfl rfl rfl ?_)
    refine o1 rfl (op_loadF T he rfl rfl rfl rfl rfl ?_)
    refine geF rfl rfl rfl rfl (by omega) ?_
    refine go T 5 rfl ?_
    exact post0 (.inr rfl) rfl ⟨rfl, x, hc1.mono (fun k hk _ => by cases hk)⟩
  rw [if_pos ⟨hd, hat⟩]
  refine go T 6 rfl ?_
  refine geT rfl rfl rfl rfl (by omega) ?_
  refine go T 4 rfl ?_
  refine ldB T hb rfl rfl rfl rfl rfl rfl ?_
  refine go T 1 rfl ?_
  refine o1 rfl (op_indexK T rfl rfl rfl rfl rfl (by omega) ?_)
  refine o1 rfl (op_fieldAddr T rfl rfl rfl rfl rfl rfl rfl rfl ?_)
  refine o1 rfl (op_loadF T he rfl rfl rfl rfl rfl ?_)
  refine eqT rfl rfl rfl rfl (by omega) ?_
  refine go T 6 rfl ?_
  refine ldB T hb rfl rfl rfl rfl rfl rfl ?_
  refine go T 1 rfl ?_
  refine o1 rfl (op_indexK T rfl rfl rfl rfl rfl (by omega) ?_)
  refine o1 rfl (op_fieldAddr T rfl rfl rfl rfl rfl rfl rfl rfl ?_)
  refine o1 rfl (op_loadF T he rfl rfl rfl rfl rfl ?_)
  refine geT rfl rfl rfl rfl (by omega) ?_
  refine go T 4 rfl ?_
  clear he
  have hrll : (bo.flatMap opL ++ rest).length = co * 9 := hrl
  have hgo : g ∉ [gq] := by
    have := out_of hb hown (by decide)
    simpa [Value.ownBlock] using this
  have h6o : g6 ∉ [gq] := by simpa [Value.ownBlock] using h6o
  have hgo0 : w0.heap.size ≤ gq := x.fro gq rfl
  have hp4 : ((⟨gq, 0, none⟩ : Addr).add (k * 9)).add 4 = ⟨gq, k * 9 + 4, none⟩ := by rw [add_of_add, add_plain]
  have hp5 : ((⟨gq, 0, none⟩ : Addr).add (k * 9)).add 5 = ⟨gq, k * 9 + 5, none⟩ := by rw [add_of_add, add_plain]
  unfold ansL at hg6
  refine Q.W_walkf 15 14 [gq] fol (by kernel_rfl) (by kernel_rfl) ?_
  refine Q.Walk.plain rfl rfl (by intro val w_ hR hp; exact op_move rfl rfl ⟨Chg.refl _ _, rfl⟩) ?_; dsimp only [List.nil_append, List.cons_append]
  refine Q.Walk.plain rfl rfl (by intro val w_ hR hp; exact op_nilCheck rfl rfl ⟨Chg.refl _ _, rfl⟩) ?_; dsimp only [List.nil_append, List.cons_append]
  refine Q.Walk.plain rfl rfl (by intro val w_ hR hp; exact op_fieldAddr T rfl rfl rfl rfl rfl rfl rfl rfl ⟨Chg.refl _ _, rfl⟩) ?_; dsimp only [List.nil_append, List.cons_append]
  refine Q.Walk.plain rfl rfl (by intro val w_ hR hp; exact op_loadB T rfl rfl rfl rfl (hb.keep hR (by assumption)) (by exact rfl) ⟨Chg.refl _ _, rfl⟩) ?_; dsimp only [List.nil_append, List.cons_append]
  refine Q.Walk.plain rfl rfl (by intro val w_ hR hp; exact op_move rfl rfl ⟨Chg.refl _ _, rfl⟩) ?_; dsimp only [List.nil_append, List.cons_append]
  refine Q.Walk.plain rfl rfl (by intro val w_ hR hp; exact op_move rfl rfl ⟨Chg.refl _ _, rfl⟩) ?_; dsimp only [List.nil_append, List.cons_append]
  refine Q.Walk.plain rfl rfl (by intro val w_ hR hp; exact op_nilCheck rfl rfl ⟨Chg.refl _ _, rfl⟩) ?_; dsimp only [List.nil_append, List.cons_append]
  refine Q.Walk.plain rfl rfl (by intro val w_ hR hp; exact op_fieldAddr T rfl rfl rfl rfl rfl rfl rfl rfl ⟨Chg.refl _ _, rfl⟩) ?_; dsimp only [List.nil_append, List.cons_append]
  refine Q.Walk.plain rfl rfl (by intro val w_ hR hp; exact op_loadB T rfl rfl rfl rfl (hb.keep hR (by assumption)) (by exact rfl) ⟨Chg.refl _ _, rfl⟩) ?_; dsimp only [List.nil_append, List.cons_append]
  refine Q.Walk.plain rfl rfl (by intro val w_ hR hp; exact op_move rfl rfl ⟨Chg.refl _ _, rfl⟩) ?_; dsimp only [List.nil_append, List.cons_append]
  refine Q.Walk.plain rfl rfl (by intro val w_ hR hp; exact op_move rfl rfl ⟨Chg.refl _ _, rfl⟩) ?_; dsimp only [List.nil_append, List.cons_append]
  refine Q.Walk.plain rfl rfl (by intro val w_ hR hp; exact op_load_agg T rfl rfl rfl rfl (hg6.keep hR (by assumption)) (by exact Nat.le_of_ble_eq_true rfl) (by exact rfl) ⟨Chg.refl _ _, rfl⟩) ?_; dsimp only [List.nil_append, List.cons_append]
  refine Q.Walk.plain rfl rfl (by intro val w_ hR hp; exact op_indexK T rfl rfl rfl rfl rfl (by omega) ⟨Chg.refl _ _, rfl⟩) ?_; dsimp only [List.nil_append, List.cons_append]
  refine Q.Walk.plain rfl rfl (by intro val w_ hR hp; exact op_fieldAddr T rfl rfl rfl rfl rfl rfl rfl rfl ⟨Chg.refl _ _, rfl⟩) ?_; dsimp only [List.nil_append, List.cons_append]
  refine Q.Walk.turn rfl (fun _ w' => ∃ j, j = k * 9 + 4 ∧ Blk w' gq 34 ((bo.flatMap opL ++ rest).set j (.int .i64 at_))) rfl (fun v a b ⟨j, h1, h⟩ hab => ⟨j, h1, h.keep0 hab⟩) ?_ ?_
  · intro val w_ hR hp
    have hb0 : Blk w_ gq 34 (bo.flatMap opL ++ rest) := hrow.keep0 hR
    exact op_store T rfl (congrArg (fun p => some (Value.pointer (some p))) hp4) rfl rfl rfl rfl hb0 (by rw [hrll]; omega) (fun w5 hc5 hr5 _ => ⟨hc5, _, rfl, hr5⟩)
  dsimp only [List.nil_append, List.cons_append]
  refine Q.Walk.fin ?_
  intro val w3 hc3 hp hn5
  obtain ⟨_, hr5⟩ := hn5 14 (by omega) _ rfl rfl
  obtain ⟨j, hj, hr5⟩ : ∃ j, j = k * 9 + 4 ∧ Blk w3 gq 34 ((bo.flatMap opL ++ rest).set j (.int .i64 at_)) := hr5
  subst hj
  rw [hset ⟨o.kind, o.key, o.val, o.asked, at_, o.err, o.seq, o.aval, o.num⟩ _ rfl] at hr5
  clear hp hn5
  have hg63 := hg6.keep hc3 h6o
  have hb3 := hb.keep hc3 hgo
  have hrow3 : RowB w3 gq 34 opL (bo.set k ⟨o.kind, o.key, o.val, o.asked, at_, o.err, o.seq, o.aval, o.num⟩) rest := hr5
  refine WL_sub (e' := [(50, .slice (some ⟨gq, 0, none⟩) bo.length co), (51, .int .i64 k), (53, .agg (ansL a).toArray)]) ⟨rfl, rfl, rfl, trivial⟩ ?_
  have hx3 : (bo.set k (⟨o.kind, o.key, o.val, o.asked, at_, o.err, o.seq, o.aval, o.num⟩ : OpM))[k]? = some ⟨o.kind, o.key, o.val, o.asked, at_, o.err, o.seq, o.aval, o.num⟩ := by rw [List.getElem?_set_self hkl]
  refine runL ?_
  refine o1 rfl (op_indexK T rfl rfl rfl rfl rfl (by omega) ?_)
  refine o1 rfl (op_fieldAddr T rfl rfl rfl rfl rfl rfl rfl rfl ?_)
  refine op0 rfl rfl ?_
  refine op_store_agg T rfl (congrArg (fun p => some (Value.pointer (some p))) hp5) rfl rfl rfl rfl hr5 ?_ (fun w4 hc4 hr4 _ => ?_)
  · have : ((bo.set k (⟨o.kind, o.key, o.val, o.asked, at_, o.err, o.seq, o.aval, o.num⟩ : OpM)).flatMap opL ++ rest).length = co * 9 := by
      rw [List.length_append, rk_len opL_len, List.length_set, ← hrll, List.length_append, rk_len opL_len]
    rw [this]
    show k * 9 + 5 + 4 ≤ co * 9
    omega
  have hr4' : Blk w4 gq 34 ((bo.set k (answeredOp o a at_)).flatMap opL ++ rest) := by
    have h1 := rk_setN opL_len rest (ansL a) (j := 5) (by show 5 + 4 ≤ 9; omega) _ k _ (answeredOp o a at_) hx3 rfl
    rw [List.set_set] at h1
    rw [← h1]
    exact hr4
  have hc24 : Chg [gq] w2 w4 := hc3.trans hc4 (fun k hk _ => hk)
  refine go T 1 rfl ?_
  have hbb : RowB w4 gq 34 opL (bo.set k (answeredOp o a at_)) rest := hr4'
  have hiq : ∀ k, (Value.slice Ai bi.length ci).ownBlock = some k → k ∉ [gq] := by
    have := out_own x.ids hown (by decide)
    simpa [Value.ownBlock] using this
  have hoq : Own w4 34 9 (.slice (some ⟨gq, 0, none⟩) bo.length co) (bo.set k (answeredOp o a at_)).length ((bo.set k (answeredOp o a at_)).flatMap opL) := by
    have h1 := hbb.own opL_len (c := co) (by rw [List.length_append, rk_len opL_len, List.length_set, ← hrll, List.length_append, rk_len opL_len]) (by rw [List.length_set]; exact hl3) (by unfold maxLen; exact hl4)
    rw [List.length_set] at h1 ⊢
    exact h1
  exact post0 (.inr rfl) rfl ⟨rfl, ⟨x.chg.trans hc24 (fun k hk hlt => by simp at hk; omega), hb.keep hc24 hgo, x.fr, x.ids.keep hc24 hiq, x.fri, hoq, x.fro, by dsimp only; rw [List.length_set]; exact hlen, x.rng⟩, (hc1.mono (S' := [gq]) (fun k hk _ => by cases hk)).trans hc24 (fun k hk _ => hk)⟩
theorem ops_has (x : BkAt w0 w g b vi vo) (hlim : b.2.length ≤ 1000000) :
    Has Go.Proofs.Try.prog 16 #[ptrB g] w (fun v w' => BkAt w0 w' g b vi vo ∧ Own w' 34 9 v b.2.length (b.2.flatMap opL) ∧ Chg [] w w') := by
  refine enter Go.Proofs.Try.func16 rfl rfl (by decide) rfl (e := [(0, ptrB g)]) ⟨rfl, trivial⟩ ?_
  unfold ptrB
  have hb := x.blk
  have hxo : SliceK 9 (RdL opL) w vo b.2 := x.ops.readsK opL_len
  obtain ⟨Ao, co, rfl, hl3, hl4⟩ := hxo.form
  refine run ?_
  refine go T 20 rfl ?_
  refine ldB T hb rfl rfl rfl rfl rfl rfl ?_
  refine o1 rfl ?_
  refine op_call rfl rfl rfl (cloneOp_has _ _ _ b.2 w hxo hlim) ?_
  rintro v w2 ⟨hc, ho, _⟩
  refine go T 4 rfl ?_
  exact post1 (.inl rfl) rfl rfl ⟨x.keep0 hc, ho, hc⟩
/-- At no book. -/
theorem askedNil_has (nm : Int) (c : CallM) (at_ : Int) (w : World) :
    Has Go.Proofs.Try.prog 14 #[.pointer none, .int .i64 nm, .agg (callL c).toArray, .int .i64 at_] w (fun v w' => v = .tuple #[] ∧ Chg [] w w') := by
  refine enter Go.Proofs.Try.func14 rfl rfl (by decide) rfl (e := [(0, .pointer none), (1, .int .i64 nm), (2, .agg (callL c).toArray), (3, .int .i64 at_)]) ⟨rfl, rfl, rfl, rfl, trivial⟩ ?_
  refine run ?_
  refine go T 2 rfl ?_
  refine o1 rfl ?_
  refine op_box rfl rfl (fun g6 w1 hs1 hc1 hg6 => ?_)
  refine go T 19 rfl ?_
  exact post0 (.inr rfl) rfl ⟨rfl, hc1⟩
theorem answeredNil_has (nm : Int) (a : AnsM) (at_ : Int) (w : World) :
    Has Go.Proofs.Try.prog 15 #[.pointer none, .int .i64 nm, .agg (ansL a).toArray, .int .i64 at_] w (fun v w' => v = .tuple #[] ∧ Chg [] w w') := by
  refine enter Go.Proofs.Try.func15 rfl rfl (by decide) rfl (e := [(0, .pointer none), (1, .int .i64 nm), (2, .agg (ansL a).toArray), (3, .int .i64 at_)]) ⟨rfl, rfl, rfl, rfl, trivial⟩ ?_
  refine run ?_
  refine go T 2 rfl ?_
  refine o1 rfl ?_
  refine op_box rfl rfl (fun g6 w1 hs1 hc1 hg6 => ?_)
  refine go T 12 rfl ?_
  exact post0 (.inl rfl) rfl ⟨rfl, hc1⟩
theorem opsNil_has (w : World) : Has Go.Proofs.Try.prog 16 #[.pointer none] w (fun v w' => v = .slice none 0 0 ∧ w' = w) := by
  refine enter Go.Proofs.Try.func16 rfl rfl (by decide) rfl (e := [(0, .pointer none)]) ⟨rfl, trivial⟩ ?_
  refine run ?_
  refine go T 20 rfl ?_
  exact post1 (.inl rfl) rfl rfl ⟨rfl, rfl⟩
end
end Go.Proofs.Ytjkbbkomajjegaa.Try
/-! History: the beginning of the laws. -/
set_option linter.unusedVariables false
namespace Go.Vc
open Go
def bop1 : OpM := ⟨1, [107], [118], 1, 2, 0, 1, [], 0⟩
def bop2 : OpM := ⟨2, [107], [], 3, 4, 3, 0, [], 0⟩
theorem bj12 : judgeM [bop1, bop2] = false := by decide
theorem bj1 : judgeM [bop1] = true := by decide
theorem bf1 : foldM [bop1, bop2] 1 [107] = some [118] := by decide
section
variable {P : Program} {N : Nat} {e : Env} {w : World} {o : Oper} {K : Value → World → Prop}
/-- The head of a row that begins its block. -/
theorem op_slice_head (T : Types P) {x y : Operand} {t el : TypeId} {j : TInfo} {g n c h' : Nat} {k : IntKind}
    (hop : o.op = .slice t x none (some y) none) (hx : ev e x = some (.slice (some ⟨g, 0, none⟩) n c)) (ht : T.d t = some (.slice el)) (hel : T.tbl el = some j) (hy : ev e y = some (.int k (h' : Int))) (h1 : h' ≤ c) (hc : 0 < c)
    (h : K (.slice (some ⟨g, 0, none⟩) h' c) w) : OpW P N o e w K := by
  refine op_slice (l := 0) (h' := h') T hop hx ht hel rfl ⟨_, hy⟩ (by omega) h1 ?_
  rw [if_neg (show ¬ c = 0 by omega)]
  have e1 : (Option.map (fun x => x.add (0 * j.size)) (some (⟨g, 0, none⟩ : Addr))) = some ⟨g, 0, none⟩ := by rw [Nat.zero_mul]; exact congrArg some (add_plain g 0)
  rw [e1]
  exact h
end
end Go.Vc
namespace Go.Proofs.Ytjkbbkomajjegaa.Try
open Go Go.Vc
set_option maxHeartbeats 4000000 in
theorem begun25_has (w : World) : Has Go.Proofs.Try.prog 11 #[] w (fun v w' => Chg [] w w' ∧ v = .bool true) := by
  refine enter Go.Proofs.Try.func11 rfl rfl (by decide) rfl (e := []) trivial ?_
  refine run ?_
  refine go T 7 rfl ?_
  refine o1 rfl ?_
  refine op_call rfl rfl rfl (new_has w) ?_
  rintro _ w1 ⟨g, rfl, x⟩
  unfold ptrB
  refine go T 16 rfl ?_
  refine o1 rfl (op_build T rfl rfl rfl rfl rfl rfl ?_)
  refine o1 rfl ?_
  refine op_call rfl rfl rfl (asked_has x 1 ⟨1, [107], [118]⟩ 1 (by decide) (by decide)) ?_
  rintro _ w2 ⟨rfl, vi, vo, x2, _⟩
  rw [show askM ([], []) 1 ⟨1, [107], [118]⟩ 1 = ([1], [askedOp ⟨1, [107], [118]⟩ 1]) from rfl] at x2
  refine go T 5 rfl ?_
  refine o1 rfl (op_build T rfl rfl rfl rfl rfl rfl ?_)
  refine o1 rfl ?_
  refine op_call rfl rfl rfl (answered_has x2 1 ⟨0, 1, [], 0⟩ 2 (by decide)) ?_
  rintro _ w3 ⟨rfl, x3, _⟩
  rw [show ansM ([1], [askedOp ⟨1, [107], [118]⟩ 1]) 1 ⟨0, 1, [], 0⟩ 2 = ([1], [bop1]) from rfl] at x3
  refine go T 5 rfl ?_
  refine o1 rfl (op_build T rfl rfl rfl rfl rfl rfl ?_)
  refine o1 rfl ?_
  refine op_call rfl rfl rfl (asked_has x3 2 ⟨2, [107], []⟩ 3 (by decide) (by decide)) ?_
  rintro _ w4 ⟨rfl, vi4, vo4, x4, _⟩
  rw [show askM ([1], [bop1]) 2 ⟨2, [107], []⟩ 3 = ([1, 2], [bop1, askedOp ⟨2, [107], []⟩ 3]) from rfl] at x4
  refine go T 5 rfl ?_
  refine o1 rfl (op_build T rfl rfl rfl rfl rfl rfl ?_)
  refine o1 rfl ?_
  refine op_call rfl rfl rfl (answered_has x4 2 ⟨3, 0, [], 0⟩ 4 (by decide)) ?_
  rintro _ w5 ⟨rfl, x5, _⟩
  rw [show ansM ([1, 2], [bop1, askedOp ⟨2, [107], []⟩ 3]) 2 ⟨3, 0, [], 0⟩ 4 = ([1, 2], [bop1, bop2]) from rfl] at x5
  refine go T 5 rfl ?_
  refine o1 rfl ?_
  refine op_call rfl rfl rfl (ops_has x5 (by decide)) ?_
  rintro v w6 ⟨x6, ho, _⟩
  have hc6 := x6.chg
  have hs : SliceK 9 (RdL opL) w6 v [bop1, bop2] := ho.readsK opL_len
  clear x x2 x3 x4 x5 x6
  obtain ⟨A, c, hv, hl1, hl2⟩ := hs.form
  change v = .slice A 2 c at hv
  subst hv
  have ho : Own w6 34 9 (.slice A 2 c) 2 ([bop1, bop2].flatMap opL) := ho
  obtain ⟨g1, rfl⟩ := ho.addr (by decide)
  obtain ⟨rest, hr, _⟩ := ho.rowB
  have hbk : Blk w6 g1 34 ([.int .i64 1, .string (str [107]), .string (str [118]), .int .i64 1, .int .i64 2, .int .i64 0, .int .i64 1, .string (str []), .int .i64 0] ++ (opL bop2 ++ rest)) := hr
  have hs1 : SliceK 9 (RdL opL) w6 (.slice (some ⟨g1, 0, none⟩) 1 c) [bop1] := hs.take (j := 1) (m := 1) rfl
  have hc2 : 2 ≤ c := hl1
  refine go T 7 rfl ?_
  refine eqT rfl rfl rfl rfl (by omega) ?_
  refine go T 2 rfl ?_
  refine o1 rfl (op_indexK (i := 0) T rfl rfl rfl rfl rfl (by omega) ?_)
  refine go T 1 rfl ?_
  refine ldB T hbk rfl rfl rfl rfl rfl rfl ?_
  refine eqT rfl rfl rfl rfl (by omega) ?_
  refine go T 3 rfl ?_
  refine o1 rfl ?_
  refine op_call rfl rfl rfl (judge_has _ _ hs (by decide) (by decide)) ?_
  rintro _ w7 ⟨hc7, rfl⟩
  rw [bj12]
  replace hc6 := hc6.trans' hc7
  replace ho := ho.keep0 hc7
  replace hs := hs.keepR hc7
  replace hr := hr.keep0 hc7
  replace hbk := hbk.keep0 hc7
  replace hs1 := hs1.keepR hc7
  refine go T 4 rfl ?_
  refine o1 rfl ?_
  refine op_slice_head (h' := 1) T rfl rfl rfl rfl rfl (by omega) (by omega) ?_
  have hcall := judge_has _ _ hs1 (by decide) (by decide)
  rw [bj1] at hcall
  refine o1 rfl ?_
  refine op_call rfl rfl rfl hcall ?_
  rintro _ w8 ⟨hc8, rfl⟩
  replace hc7 := hc7.trans' hc8
  replace hc6 := hc6.trans' hc8
  replace ho := ho.keep0 hc8
  replace hs := hs.keepR hc8
  replace hr := hr.keep0 hc8
  replace hbk := hbk.keep0 hc8
  replace hs1 := hs1.keepR hc8
  clear hcall
  have hap : Apart (foldL [bop1, bop2] 1) := by
    have : foldL [bop1, bop2] 1 = [bop1] := rfl
    rw [this]; exact True.intro
  have hcall := fold_has stableAt20 _ [bop1, bop2] 1 w8 hs (by simp) (by omega) hap
  have hbf := bf1
  generalize foldM [bop1, bop2] 1 = fm at hcall hbf
  refine go T 3 rfl ?_
  refine o1 rfl ?_
  refine op_call rfl rfl rfl hcall ?_
  rintro _ w9 ⟨hc9, r, rfl, hr9, hm⟩
  replace hc8 := hc8.trans' hc9
  replace hc7 := hc7.trans' hc9
  replace hc6 := hc6.trans' hc9
  replace ho := ho.keep0 hc9
  replace hs := hs.keepR hc9
  replace hr := hr.keep0 hc9
  replace hbk := hbk.keep0 hc9
  replace hs1 := hs1.keepR hc9
  refine o1 rfl ?_
  refine op_lookup_v T strKey (k := [107]) (bv := strV) rfl rfl rfl rfl rfl rfl hm (v := .string (str [118])) (fun b hb => by rw [hbf] at hb; injection hb with hb; rw [← hb]) (fun hn => by rw [hbf] at hn; cases hn) ?_
  refine o1 rfl ?_
  refine op_str_eql (a := [118]) (b := [118]) rfl rfl rfl (fun _ => ?_) (fun h => absurd rfl h)
  refine go T 5 rfl ?_
  exact post1 (.inl rfl) rfl rfl ⟨hc6, rfl⟩
end Go.Proofs.Ytjkbbkomajjegaa.Try
/-! History: the law of books. -/
set_option linter.unusedVariables false
namespace Go.Vc
open Go
theorem posM_snoc (x nm : Int) : ∀ l : List Int, posM (l ++ [x]) nm = if 0 ≤ posM l nm then posM l nm else if x = nm then (l.length : Int) else -1
  | [] => by unfold posM; simp [idxM]
  | a :: l => by
    have ih := posM_snoc x nm l
    unfold posM at ih ⊢
    rw [List.cons_append, idxM, idxM, ih]
    by_cases h1 : a = nm
    · simp [h1]
    · simp only [h1, decide_false, Bool.false_eq_true, if_false]
      have hb := idxM_lt (fun y => decide (y = nm)) l
      by_cases h2 : 0 ≤ idxM (fun y => decide (y = nm)) l
      · rw [if_pos h2, if_neg (by omega), if_pos (by omega)]
      · rw [if_neg h2, if_pos (show idxM (fun y => decide (y = nm)) l < 0 by omega)]
        by_cases h3 : x = nm
        · simp only [if_pos h3, List.length_cons]
          rw [if_neg (by omega), if_neg (by omega)]
          omega
        · simp only [if_neg h3]
          rw [if_pos (by omega), if_neg (by omega)]
theorem posM_mem {l : List Int} {nm : Int} (h : nm ∈ l) : 0 ≤ posM l nm := by
  refine Classical.byContradiction fun hn => ?_
  have := idxM_neg (p := fun y => decide (y = nm)) (l := l) (by unfold posM at hn; omega) nm h
  simp at this
theorem posM_not {l : List Int} {nm : Int} (h : nm ∉ l) : posM l nm = -1 := idxM_none (fun x hx => by simp; rintro rfl; exact h hx)
def addK (o : OpM) : OpM := ⟨2, [107], [], o.asked, o.done, o.err, o.seq, o.aval, o.num⟩
def newO (at_ : Int) : OpM := ⟨0, [], [], at_, 0, 0, 0, [], 0⟩
def ansO (o : OpM) (i : Int) : OpM := ⟨o.kind, o.key, o.val, o.asked, i, o.err, i, o.aval, o.num⟩
def Plain0 (o : OpM) : Prop := o.err = 0 ∧ o.aval = [] ∧ o.num = 0
theorem addK_new (at_ : Int) : addK (newO at_) = askedOp ⟨2, [107], []⟩ at_ := rfl
theorem addK_ans {o : OpM} (h : Plain0 o) (i : Int) : answeredOp (addK o) ⟨0, i, [], 0⟩ i = addK (ansO o i) := by
  obtain ⟨h1, h2, h3⟩ := h
  unfold answeredOp addK ansO
  rw [h1, h2, h3]
end Go.Vc
namespace Go.Proofs.Ytjkbbkomajjegaa.Try
open Go Go.Vc
section
variable {w0 w w1 : World} {g : Nat} {b : BookM} {vi vo : Value}
theorem BkAt.keepS {S : List Nat} (x : BkAt w0 w g b vi vo) (h1 : g ∉ S) (h2 : ∀ k, vi.ownBlock = some k → k ∉ S) (h3 : ∀ k, vo.ownBlock = some k → k ∉ S) (hr : ∀ k ∈ S, w0.heap.size ≤ k) (hc : Chg S w w1) : BkAt w0 w1 g b vi vo :=
  ⟨x.chg.trans hc (fun k hk hlt => by have := hr k hk; omega), x.blk.keep hc h1, x.fr, x.ids.keep hc h2, x.fri, x.ops.keep hc h3, x.fro, x.len, x.rng⟩
theorem Own.cellN {t : TypeId} {pls : List Int} {A : Option Addr} {n c : Nat} (h : Own w t 1 (.slice A n c) pls.length (pls.map i64V)) {i : Nat} {s : Int} (hx : pls[i]? = some s) : ∃ ad, A = some ad ∧ w.cell? (ad.add (i * 1)) = some (.int .i64 s) ∧ w.cell? (ad.add i) = some (.int .i64 s) := by
  obtain ⟨A', c', e, _, _⟩ := h.form
  injection e with e1 e2 e3
  subst e2
  obtain ⟨ad, rfl, he⟩ := (Own.readsK (f := fun x => [i64V x]) (fun _ => rfl) (by rw [← map_flat]; exact h)).at hx
  have h1 : w.cell? (ad.add (i * 1)) = some (.int .i64 s) := he 0 _ rfl
  exact ⟨ad, rfl, h1, by rw [Nat.mul_one] at h1; exact h1⟩
end
end Go.Proofs.Ytjkbbkomajjegaa.Try
/-! History: HistoryTrue, walked. -/
set_option linter.unusedVariables false
namespace Go.Vc
open Go
theorem tmod_three (k : Int) : -3 < k.tmod 3 ∧ k.tmod 3 < 3 := by
  have h1 := Int.tmod_lt_of_pos k (show (0 : Int) < 3 by decide)
  have h2 := Int.tmod_lt_of_pos (-k) (show (0 : Int) < 3 by decide)
  rw [Int.neg_tmod] at h2
  omega
theorem tmod_pos (k : Int) (h : 0 ≤ k) : ∃ j : Nat, j < 3 ∧ k.tmod 3 = j := by
  have h1 := Int.tmod_nonneg 3 h
  have h2 := tmod_three k
  exact ⟨(k.tmod 3).toNat, by omega, by omega⟩
theorem tdiv_three {k : Int} (h : -9223372036854775808 ≤ k ∧ k ≤ 9223372036854775807) : -9223372036854775808 ≤ k.tdiv 3 ∧ k.tdiv 3 ≤ 9223372036854775807 := by
  have h1 := Int.mul_tdiv_add_tmod k 3
  have h2 := tmod_three k
  omega
theorem rk_mid {α : Type} {f : α → List Value} {k : Nat} (hf : ∀ x, (f x).length = k) (rest : List Value) : ∀ (L : List α) (t : Nat) (x x' : α) (a b vs c : List Value), L[t]? = some x → f x = a ++ b ++ c → f x' = a ++ vs ++ c → vs.length = b.length →
    (L.flatMap f ++ rest).take (t * k + a.length) ++ vs ++ (L.flatMap f ++ rest).drop (t * k + a.length + vs.length) = (L.set t x').flatMap f ++ rest
  | [], _, _, _, _, _, _, _, h, _, _, _ => by simp at h
  | y :: L, 0, x, x', a, b, vs, c, h, h1, h2, h3 => by
    simp at h; subst h
    rw [List.set_cons_zero, List.flatMap_cons, List.flatMap_cons, h1, h2, Nat.zero_mul, Nat.zero_add]
    have e : a ++ b ++ c ++ L.flatMap f ++ rest = a ++ (b ++ (c ++ (L.flatMap f ++ rest))) := by simp only [List.append_assoc]
    rw [e, List.take_left' rfl, h3, ← List.length_append, ← List.append_assoc, List.drop_left' rfl]
    simp only [List.append_assoc]
  | y :: L, t + 1, x, x', a, b, vs, c, h, h1, h2, h3 => by
    have ih := rk_mid hf rest L t x x' a b vs c (by simpa using h) h1 h2 h3
    have hy := hf y
    rw [List.set_cons_succ, List.flatMap_cons, List.flatMap_cons, List.append_assoc, List.append_assoc, List.append_assoc, ← ih]
    have e1 : (t + 1) * k + a.length = (f y).length + (t * k + a.length) := by rw [hy, Nat.succ_mul]; omega
    rw [e1, List.take_length_add_append, Nat.add_assoc (f y).length, List.drop_length_add_append]
    simp only [List.append_assoc]
theorem u8_of {n : Nat} (h : n < 256) : ((UInt8.ofNat n).toNat : Int) = n := by rw [UInt8.toNat_ofNat_of_lt' (by simpa [UInt8.size] using h)]
end Go.Vc
namespace Go.Proofs.Ytjkbbkomajjegaa.Try
open Go Go.Vc
set_option maxHeartbeats 4000000 in
theorem historyTrue_has (A : Option Addr) (n c : Nat) (ks : List Int) (turn : Int) (w : World) (hs : SliceOf Ri64 w (.slice A n c) ks) (hb : -9223372036854775808 ≤ turn ∧ turn ≤ 9223372036854775807) :
    Has Go.Proofs.Try.prog 3 #[.slice A n c, .int .i64 turn] w (fun v w' => Chg [] w w' ∧ v = .bool true) := by
  obtain ⟨rfl, hl1, hl2⟩ := hs.len
  unfold maxLen at hl2
  refine enter Go.Proofs.Try.func3 rfl rfl (by decide) rfl (e := [(0, .slice A ks.length c), (1, .int .i64 turn)]) ⟨rfl, rfl, trivial⟩ ?_
  refine run ?_
  refine go T 7 rfl ?_
  refine o1 rfl ?_
  refine op_call rfl rfl rfl (begun25_has w) ?_
  rintro _ w1 ⟨hc1, rfl⟩
  refine go T 25 rfl ?_
  refine o1 rfl ?_
  refine op_makeMap keyV i64V rfl (fun r8 w2 hs2 hc2 hm2 => ?_)
  refine go T 5 rfl ?_
  refine o1 rfl ?_
  refine op_makeMap keyV keyV rfl (fun r9 w3 hs3 hc3 hm3 => ?_)
  have hm83 := hm2.keep0 hc3
  have h89 : r8 ≠ r9 := by have := hm2.lt; omega
  have hr8 : w.heap.size ≤ r8 := by have := hc1.size; omega
  have hr9 : w.heap.size ≤ r9 := by have := hc1.size; have := hc2.size; omega
  have hcw3 : Chg [] w w3 := (hc1.trans' hc2).trans' hc3
  clear hm2 hc1 hc2 hc3 hs2 hs3
  refine go T 9 rfl ?_
  refine W_meet (σ := Nat × List OpM × TalS × Value) (fun s => [(1, .int .i64 turn), (6, s.2.2.2), (7, .int .i64 s.2.2.1.seq)])
    (fun s w' => s.1 ≤ 20 ∧ TInv s.1 s.2.1 s.2.2.1 ∧ Chg [] w w' ∧ Own w' 34 9 s.2.2.2 s.2.1.length (s.2.1.flatMap opL) ∧ (∀ h, s.2.2.2.ownBlock = some h → w.heap.size ≤ h)) ?_ ?_
  rotate_left
  · rintro ⟨i, L, S, u⟩ w4 ⟨hi20, ht, hc, hu, huf⟩
    dsimp only at hi20 ht hc hu huf ⊢
    have hlen := ht.len
    have hS0 := ht.seq0
    have hS1 := ht.seq1
    have hsl := hu.readsK opL_len
    have hsq : ∀ o ∈ L, o.seq ≤ 9223372036854775807 := fun o ho => by have := ht.all o ho; omega
    have hjd := judge_has u L hsl (by omega) hsq
    rw [tale_true ht] at hjd
    obtain ⟨Au, cu, rfl, hcu, hcm⟩ := hu.form
    refine runX ?_
    refine go T 5 rfl ?_
    refine o1 rfl ?_
    refine op_call rfl rfl rfl hjd ?_
    rintro _ w5 ⟨hc5, rfl⟩
    replace hc := hc.trans' hc5
    replace hu := hu.keep0 hc5
    replace hsl := hsl.keepR hc5
    by_cases hin : 0 ≤ turn ∧ turn < L.length
    rotate_left
    · by_cases h0 : turn < 0
      · refine go T 10 rfl ?_
        refine ltT rfl rfl rfl rfl (by omega) ?_
        refine go T 25 rfl ?_
        exact post1 (.inl rfl) rfl rfl ⟨hc, rfl⟩
      · refine go T 10 rfl ?_
        refine ltF rfl rfl rfl rfl (by omega) ?_
        refine go T 4 rfl ?_
        refine geT rfl rfl rfl rfl (by omega) ?_
        refine go T 20 rfl ?_
        exact post1 (.inl rfl) rfl rfl ⟨hc, rfl⟩
    obtain ⟨t, rfl⟩ : ∃ t : Nat, turn = t := ⟨turn.toNat, by omega⟩
    have htl : t < L.length := by omega
    have hx := List.getElem?_eq_getElem htl
    obtain ⟨gu, rfl⟩ := hu.addr (by omega)
    obtain ⟨rest, hrow, hrl⟩ := hu.rowB
    have he := hrow.elem opL_len hx
    generalize L[t] = o at *
    by_cases hk : o.kind = 2
    rotate_left
    · unfold opL at he
      refine go T 10 rfl ?_
      refine ltF rfl rfl rfl rfl (by omega) ?_
      refine go T 4 rfl ?_
      refine geF rfl rfl rfl rfl (by omega) ?_
      refine go T 4 rfl ?_
      refine o1 rfl (op_indexK T rfl rfl rfl rfl rfl (by omega) ?_)
      refine o1 rfl (op_fieldAddr T rfl rfl rfl rfl rfl rfl rfl rfl ?_)
      refine o1 rfl (op_fieldAddr T rfl rfl rfl rfl rfl rfl rfl rfl ?_)
      refine o1 rfl (op_loadF T he rfl rfl rfl rfl rfl ?_)
      refine neT rfl rfl rfl rfl (by omega) ?_
      refine go T 11 rfl ?_
      exact post1 (.inl rfl) rfl rfl ⟨hc, rfl⟩
    have hj2 := tale_turned ht hx hk
    have hsq2 : ∀ x ∈ L.set t (turnO o S.seq), x.seq ≤ 9223372036854775807 := fun x hx2 => by
      rcases List.mem_or_eq_of_mem_set hx2 with h | rfl
      · exact hsq x h
      · unfold turnO; split <;> dsimp only <;> omega
    have hb0 : Blk w5 gu 34 (L.flatMap opL ++ rest) := hrow
    have hp5 : ((⟨gu, 0, none⟩ : Addr).add (t * 9)).add 5 = ⟨gu, t * 9 + 5, none⟩ := by rw [add_of_add, add_plain]
    have hgu : w.heap.size ≤ gu := huf gu rfl
    have hll : (L.flatMap opL ++ rest).length = cu * 9 := hrl
    have hclu : L.length ≤ cu := hcu
    have fin : ∀ (o' : OpM) (w6 : World), Chg [gu] w5 w6 → Blk w6 gu 34 ((L.set t o').flatMap opL ++ rest) → judgeM (L.set t o') = false → (∀ x ∈ L.set t o', x.seq ≤ 9223372036854775807) →
        Has Go.Proofs.Try.prog 12 #[.slice (some ⟨gu, 0, none⟩) L.length cu] w6 (fun v w' => Chg [] w w' ∧ v = .bool false) := fun o' w6 h6 hb6 hjm hsqm => by
      have hrow6 : RowB w6 gu 34 opL (L.set t o') rest := hb6
      have hown6 := hrow6.own opL_len (c := cu) (by rw [List.length_append, rk_len opL_len, List.length_set, ← hrl, List.length_append, rk_len opL_len]) (by rw [List.length_set]; exact hcu) hcm
      have hj3 := judge_has _ _ (hown6.readsK opL_len) (by rw [List.length_set]; omega) hsqm
      rw [List.length_set, hjm] at hj3
      exact hj3.mono (fun v w' h => ⟨(hc.trans h6 (fun k hk hlt => by simp at hk; omega)).trans' h.1, h.2⟩)
    have hmid : ∀ (o' : OpM) (vs : List Value), opL o' = (opL o).take 5 ++ vs → vs.length = 4 → (L.flatMap opL ++ rest).take (t * 9 + 5) ++ vs ++ (L.flatMap opL ++ rest).drop (t * 9 + 5 + vs.length) = (L.set t o').flatMap opL ++ rest := fun o' vs h1 h2 => by
      have := rk_mid opL_len rest L t o o' ((opL o).take 5) ((opL o).drop 5) vs [] hx (by rw [List.append_nil, List.take_append_drop]) (by rw [List.append_nil]; exact h1) (by rw [h2]; rfl)
      exact this
    have hcell : (L.flatMap opL ++ rest)[t * 9 + 5]? = some (.int .i64 o.err) := by
      have h1 := rk_get opL_len L hx (show 5 < 9 by decide)
      rw [List.getElem?_append_left (by rw [rk_len opL_len]; have := rk_lt (k := 9) htl; omega)]
      exact h1
    unfold opL at he
    unfold turnO at hj2 hsq2
    refine go T 10 rfl ?_
    refine ltF rfl rfl rfl rfl (by omega) ?_
    refine go T 4 rfl ?_
    refine geF rfl rfl rfl rfl (by omega) ?_
    refine go T 4 rfl ?_
    refine o1 rfl (op_indexK T rfl rfl rfl rfl rfl (by omega) ?_)
    refine o1 rfl (op_fieldAddr T rfl rfl rfl rfl rfl rfl rfl rfl ?_)
    refine o1 rfl (op_fieldAddr T rfl rfl rfl rfl rfl rfl rfl rfl ?_)
    refine o1 rfl (op_loadF T he rfl rfl rfl rfl rfl ?_)
    refine neF rfl rfl rfl rfl (by omega) ?_
    refine go T 11 rfl ?_
    refine o1 rfl (op_indexK T rfl rfl rfl rfl rfl (by omega) ?_)
    refine o1 rfl (op_fieldAddr T rfl rfl rfl rfl rfl rfl rfl rfl ?_)
    refine go T 1 rfl ?_
    refine o1 rfl ?_
    refine op_loadB (g := gu) (i := t * 9 + 5) T rfl (by show some (Value.pointer (some ⟨((⟨gu, 0, none⟩ : Addr).add (t * 9)).block, ((⟨gu, 0, none⟩ : Addr).add (t * 9)).off + 5 + 0, none⟩)) = _; rw [add_plain]) rfl rfl hb0 (nth_eq _ _ ▸ hcell) ?_
    by_cases h0 : o.err = 0
    · rw [if_pos h0] at hj2 hsq2
      refine eqT rfl rfl rfl rfl (by omega) ?_
      refine go T 6 rfl ?_
      refine o1 rfl (op_build T rfl rfl rfl rfl rfl rfl ?_)
      refine o1 rfl (op_indexK T rfl rfl rfl rfl rfl (by omega) ?_)
      refine o1 rfl (op_fieldAddr T rfl rfl rfl rfl rfl rfl rfl rfl ?_)
      refine op0 rfl rfl ?_
      refine op_store_agg (g := gu) (i := t * 9 + 5) (cs := L.flatMap opL ++ rest) T rfl (congrArg (fun p => some (Value.pointer (some p))) hp5) rfl rfl rfl rfl hb0 (by show t * 9 + 5 + 4 ≤ (L.flatMap opL ++ rest).length; omega) (fun w6 hc6 hr6 _ => ?_)
      have hr6 : Blk w6 gu 34 ((L.flatMap opL ++ rest).take (t * 9 + 5) ++ [.int .i64 3, .int .i64 0, .string (str []), .int .i64 0] ++ (L.flatMap opL ++ rest).drop (t * 9 + 5 + 4)) := hr6
      rw [show (t * 9 + 5 + 4) = t * 9 + 5 + [Value.int .i64 3, .int .i64 0, .string (str []), .int .i64 0].length from rfl, hmid ⟨o.kind, o.key, o.val, o.asked, o.done, 3, 0, [], 0⟩ _ rfl rfl] at hr6
      refine go T 5 rfl ?_
      refine o1 rfl ?_
      refine op_call rfl rfl rfl (fin _ w6 hc6 hr6 hj2 hsq2) ?_
      rintro _ w7 ⟨hc7, rfl⟩
      refine go T 5 rfl ?_
      exact post1 (.inl rfl) rfl rfl ⟨hc7, rfl⟩
    · rw [if_neg h0] at hj2 hsq2
      refine eqF rfl rfl rfl rfl (by omega) ?_
      refine go T 7 rfl ?_
      refine adI rfl rfl rfl rfl (by omega) (by omega) ?_
      refine o1 rfl (op_build T rfl rfl rfl rfl rfl rfl ?_)
      refine o1 rfl (op_indexK T rfl rfl rfl rfl rfl (by omega) ?_)
      refine o1 rfl (op_fieldAddr T rfl rfl rfl rfl rfl rfl rfl rfl ?_)
      refine op0 rfl rfl ?_
      refine op_store_agg (g := gu) (i := t * 9 + 5) (cs := L.flatMap opL ++ rest) T rfl (congrArg (fun p => some (Value.pointer (some p))) hp5) rfl rfl rfl rfl hb0 (by show t * 9 + 5 + 4 ≤ (L.flatMap opL ++ rest).length; omega) (fun w6 hc6 hr6 _ => ?_)
      have hr6 : Blk w6 gu 34 ((L.flatMap opL ++ rest).take (t * 9 + 5) ++ [.int .i64 0, .int .i64 (S.seq + 1), .string (str [110, 111, 32, 115, 117, 99, 104]), .int .i64 0] ++ (L.flatMap opL ++ rest).drop (t * 9 + 5 + 4)) := hr6
      rw [show (t * 9 + 5 + 4) = t * 9 + 5 + [Value.int .i64 0, .int .i64 (S.seq + 1), .string (str [110, 111, 32, 115, 117, 99, 104]), .int .i64 0].length from rfl, hmid ⟨o.kind, o.key, o.val, o.asked, o.done, 0, S.seq + 1, [110, 111, 32, 115, 117, 99, 104], 0⟩ _ rfl rfl] at hr6
      refine go T 5 rfl ?_
      refine o1 rfl ?_
      refine op_call rfl rfl rfl (fin _ w6 hc6 hr6 hj2 hsq2) ?_
      rintro _ w7 ⟨hc7, rfl⟩
      refine go T 5 rfl ?_
      exact post1 (.inl rfl) rfl rfl ⟨hc7, rfl⟩
  refine run ?_
  refine go T 1 rfl ?_
  refine W_loop (σ := Nat × List OpM × TalS × Value) (fun s => [(0, .slice A ks.length c), (1, .int .i64 turn), (6, s.2.2.2), (7, .int .i64 s.2.2.1.seq), (8, .map (some r8)), (9, .map (some r9)), (10, .int .i64 s.1)])
    (fun s w' => s.1 ≤ ks.length ∧ s.1 ≤ 20 ∧ TInv s.1 s.2.1 s.2.2.1 ∧ Chg [] w w' ∧ MapAt keyV i64V w' r8 s.2.2.1.vals ∧ MapAt keyV keyV w' r9 s.2.2.1.text ∧ Own w' 34 9 s.2.2.2 s.2.1.length (s.2.1.flatMap opL) ∧ (∀ h, s.2.2.2.ownBlock = some h → w.heap.size ≤ h))
    (fun s => ks.length - s.1) (0, [], ⟨0, fun _ => none, fun _ => none⟩, .slice none 0 0) ⟨rfl, rfl, rfl, rfl, rfl, rfl, rfl, trivial⟩ ⟨Nat.zero_le _, Nat.zero_le _, TInv.nil, hcw3, hm83, hm3, Own.nil _ _ _, fun h hh => by simp [Value.ownBlock] at hh⟩ ?_
  clear hcw3 hm83 hm3
  rintro ⟨i, L, S, u⟩ w4 ⟨hi, hi20, ht, hc, hm8, hm9, hu, huf⟩
  dsimp only at hi hi20 ht hc hm8 hm9 hu huf ⊢
  have hlen := ht.len
  have hS0 := ht.seq0
  have hS1 := ht.seq1
  by_cases hgo : i < ks.length ∧ i < 20
  · obtain ⟨hlt, hlt20⟩ := hgo
    have hx := List.getElem?_eq_getElem hlt
    obtain ⟨ad, u0, rfl, hcell, rfl, hrng⟩ := (SliceOf.kept Ri64.kept _ _ _ _ hc hs).get hx
    generalize ks[i] = k at *
    have htm := tmod_three k
    obtain ⟨j, hj, hje⟩ := tmod_pos (k.tmod 3 + 3) (by omega)
    have hkey : keyT k = [UInt8.ofNat (97 + j)] := by unfold keyT; rw [hje]; rfl
    have htd := tdiv_three hrng
    have htm2 := tmod_three (k.tdiv 3)
    obtain ⟨a, ha, hae⟩ := tmod_pos ((k.tdiv 3).tmod 3 + 3) (by omega)
    have hact : actT k = a := hae
    have hstep := ht.step k
    refine run ?_
    refine go T 6 rfl ?_
    refine ltT rfl rfl rfl rfl (by omega) ?_
    refine go T 2 rfl ?_
    refine ltT rfl rfl rfl rfl (by omega) ?_
    refine go T 12 rfl ?_
    refine o1 rfl (op_index_nat T rfl rfl rfl rfl rfl rfl (by omega) ?_)
    refine o1 rfl (op_load T rfl rfl rfl rfl (by assumption) ?_)
    refine o1 rfl (op_rem rfl rfl rfl (by omega) rfl ?_)
    refine adI rfl rfl rfl rfl (by omega) (by omega) ?_
    refine o1 rfl (op_rem rfl rfl rfl (by omega) rfl ?_)
    refine adI rfl rfl rfl rfl (by omega) (by omega) ?_
    refine o1 rfl (op_convert_fit T rfl rfl rfl rfl (wrap_u8_in (by omega) (by omega)) ?_)
    refine o1 rfl ?_
    rw [hje]
    refine op_buildSlice T rfl rfl rfl rfl rfl rfl rfl (fun g5 w5 hs5 hc5 hg5 => ?_)
    have hsk : SliceOf Ru8 w5 (.slice (some ⟨g5, 0, none⟩) 1 1) (keyT k) := SliceOf.of_blk hg5 (by rw [hkey]; rfl) (Nat.le_refl _) (by decide) (fun q y hy => by
      rw [hkey] at hy
      match q, hy with
      | 0, hy => cases hy; exact ⟨_, rfl, by unfold Ru8; rw [u8_of (by omega)]; rfl⟩)
    generalize hkk : keyT k = key at *
    refine o1 rfl ?_
    refine op_string T rfl rfl rfl rfl rfl hsk ?_
    refine go T 6 rfl ?_
    refine o1 rfl (op_mul rfl rfl rfl (wrap_i64_in (by omega) (by omega)) ?_)
    refine adI rfl rfl rfl rfl (by omega) (by omega) ?_
    refine go T 1 rfl ?_
    refine o1 rfl (op_mul rfl rfl rfl (wrap_i64_in (by omega) (by omega)) ?_)
    refine adI rfl rfl rfl rfl (by omega) (by omega) ?_
    refine o1 rfl (op_build T rfl rfl rfl rfl rfl rfl ?_)
    refine o1 rfl ?_
    refine op_alloc T rfl rfl (fun g6 w6 hs6 hc6 hg6 => ?_)
    have hg6 : Blk w6 g6 34 [.int .i64 0, .string (str []), .string (str []), .int .i64 0, .int .i64 0, .int .i64 0, .int .i64 0, .string (str []), .int .i64 0] := hg6
    refine op0 rfl rfl ?_
    refine op_store_agg T rfl rfl rfl rfl rfl rfl hg6 (by exact Nat.le_of_ble_eq_true rfl) (fun w7 hc7 hg7 _ => ?_)
    have hg7 : Blk w7 g6 34 [.int .i64 0, .string (str []), .string (str []), .int .i64 (2 * i + 1), .int .i64 (2 * i + 2), .int .i64 0, .int .i64 0, .string (str []), .int .i64 0] := hg7
    have hc47 : Chg [] w4 w7 := (hc5.trans' hc6).trans hc7 (fun k hk hlt => by simp at hk; have := hc5.size; omega)
    have h6u : g6 ∉ u.ownBlock.toList := out_lt hu (by have := hc5.size; omega)
    have h6w : w.heap.size ≤ g6 := by have := hc.size; have := hc5.size; omega
    have h68 : g6 ≠ r8 := fun e => (hm8.keep0 hc47).ne_blk hg7 e.symm
    have h69 : g6 ≠ r9 := fun e => (hm9.keep0 hc47).ne_blk hg7 e.symm
    have hcell7 := hc47.cell0 hcell
    clear hg6 hcell hsk hg5 hc5 hc6 hc7 hs5 hs6
    replace hc := hc.trans' hc47
    replace hm8 := hm8.keep0 hc47
    replace hm9 := hm9.keep0 hc47
    replace hu := hu.keep0 hc47
    refine go T 7 rfl ?_
    refine o1 rfl (op_index_nat T rfl rfl rfl rfl rfl rfl (by omega) ?_)
    refine o1 rfl (op_load T rfl rfl rfl rfl (by assumption) ?_)
    refine o1 rfl ?_
    refine op_quo rfl rfl rfl (by omega) (wrap_i64_in htd.1 htd.2) ?_
    refine o1 rfl (op_rem rfl rfl rfl (by omega) rfl ?_)
    refine adI rfl rfl rfl rfl (by omega) (by omega) ?_
    refine o1 rfl (op_rem rfl rfl rfl (by omega) rfl ?_)
    refine go T 2 rfl ?_
    rw [hae]
    have hval : ∀ (v : Value), (∀ b, S.vals key = some b → i64V b = v) → (S.vals key = none → (Value.int .i64 0) = v) → v = .int .i64 (valT S key) := fun v h1 h2 => by
      unfold valT
      cases hv : S.vals key with
      | none => exact (h2 hv).symm
      | some b => exact (h1 b hv).symm
    have hnat : (2 : Int) * ((i : Nat) : Int) + 1 = 2 * (i : Int) + 1 := rfl
    refine W_meet (σ := OpM × TalS) (fun s => [(0, .slice (some ad) ks.length c), (1, .int .i64 turn), (6, u), (7, .int .i64 s.2.seq), (8, .map (some r8)), (9, .map (some r9)), (10, .int .i64 i), (12, .pointer (some ⟨g6, 0, none⟩))])
      (fun s w' => s = Vc.stepT i k S ∧ Chg [] w w' ∧ MapAt keyV i64V w' r8 s.2.vals ∧ MapAt keyV keyV w' r9 s.2.text ∧ Own w' 34 9 u L.length (L.flatMap opL) ∧ Blk w' g6 34 (opL s.1)) ?_ ?_
    · have huk : ∀ (b : Nat), (b = g6 ∨ b = r8 ∨ b = r9) → ∀ h, u.ownBlock = some h → h ∉ [b] := fun b hb h hh hm => by
        simp at hm; subst hm
        obtain ⟨cur, hr⟩ := hu.row hh
        rcases hb with rfl | rfl | rfl
        · exact h6u (by simpa using hh)
        · exact hm8.ne_blk hr rfl
        · exact hm9.ne_blk hr rfl
      have hfr : ∀ (b : Nat), (b = g6 ∨ b = r8 ∨ b = r9) → w.heap.size ≤ b := fun b hb => by rcases hb with rfl | rfl | rfl <;> assumption
      have hcg : ∀ {x y : World} (b : Nat), (b = g6 ∨ b = r8 ∨ b = r9) → Chg [] w x → Chg [b] x y → Chg [] w y := fun b hb h1 h2 => h1.trans h2 (fun k hk hlt => by simp at hk; subst hk; have := hfr k hb; omega)
      obtain ha0 | ha1 | ha2 : a = 0 ∨ a = 1 ∨ a = 2 := by omega
      · subst ha0
        have hst : Vc.stepT i k S = (⟨1, key, [UInt8.ofNat (65 + i)], 2 * i + 1, 2 * i + 2, 0, S.seq + 1, [], 0⟩, ⟨S.seq + 1, upd S.vals key (S.seq + 1), upd S.text key [UInt8.ofNat (65 + i)]⟩) := by
          unfold Vc.stepT; rw [hkk, hact]; rfl
        refine run ?_
        refine go T 3 rfl ?_
        refine eqT rfl rfl rfl rfl (by omega) ?_
        refine go T 7 rfl ?_
        refine adI rfl rfl rfl rfl (by omega) (by omega) ?_
        refine go T 6 rfl ?_
        refine adI rfl rfl rfl rfl (by omega) (by omega) ?_
        refine o1 rfl (op_convert_fit T rfl rfl rfl rfl (wrap_u8_in (by omega) (by omega)) ?_)
        refine o1 rfl ?_
        refine op_buildSlice T rfl rfl rfl rfl rfl rfl rfl (fun g8 w8 hs8 hc8 hg8 => ?_)
        have hsv : SliceOf Ru8 w8 (.slice (some ⟨g8, 0, none⟩) 1 1) [UInt8.ofNat (65 + i)] := SliceOf.of_blk hg8 rfl (Nat.le_refl _) (by decide) (fun q y hy => by
          match q, hy with
          | 0, hy => cases hy; exact ⟨_, rfl, by unfold Ru8; rw [u8_of (by omega)]; rfl⟩)
        replace hg7 := hg7.keep0 hc8
        replace hc47 := hc47.trans' hc8
        replace hcell7 := hc8.cell0 hcell7
        replace hc := hc.trans' hc8
        replace hm8 := hm8.keep0 hc8
        replace hm9 := hm9.keep0 hc8
        replace hu := hu.keep0 hc8
        refine o1 rfl ?_
        refine op_string T rfl rfl rfl rfl rfl hsv ?_
        clear hsv hg8
        generalize [UInt8.ofNat (65 + i)] = av at *
        refine go T 7 rfl ?_
        refine o1 rfl (op_build T rfl rfl rfl rfl rfl rfl ?_)
        refine go T 1 rfl ?_
        refine op0 rfl rfl ?_
        refine op_store_agg T rfl rfl rfl rfl rfl rfl hg7 (by exact Nat.le_of_ble_eq_true rfl) (fun w9 hc9 hg9 _ => ?_)
        have hg9 : Blk w9 g6 34 [.int .i64 1, .string (str key), .string (str av), .int .i64 (2 * i + 1), .int .i64 (2 * i + 2), .int .i64 0, .int .i64 0, .string (str []), .int .i64 0] := hg9
        refine go T 7 rfl ?_
        refine op0 rfl rfl ?_
        refine op_store T rfl rfl rfl rfl rfl rfl hg9 (by simp) (fun w10 hc10 hg10 _ => ?_)
        have hg10 : Blk w10 g6 34 (opL ⟨1, key, av, 2 * i + 1, 2 * i + 2, 0, S.seq + 1, [], 0⟩) := hg10
        have hc810 : Chg [g6] w8 w10 := hc9.trans hc10 (fun k hk _ => hk)
        replace hm8 := hm8.keep hc810 (by simpa using fun e => h68 e.symm)
        replace hm9 := hm9.keep hc810 (by simpa using fun e => h69 e.symm)
        replace hu := hu.keep hc810 (huk _ (.inl rfl))
        replace hc := hcg _ (.inl rfl) hc hc810
        refine go T 7 rfl ?_
        refine op0 rfl rfl ?_
        refine op_mapUpdate T strKey (bv := i64V) (b := S.seq + 1) rfl rfl rfl rfl rfl rfl hm8 (fun w11 hc11 hm11 _ => ?_)
        refine go T 6 rfl ?_
        refine op0 rfl rfl ?_
        refine op_mapUpdate T strKey (bv := keyV) (b := av) rfl rfl rfl rfl rfl rfl (hm9.keep hc11 (by simpa using fun e => h89 e.symm)) (fun w12 hc12 hm12 _ => ?_)
        refine go T 2 rfl ?_
        exact Meet_n (_, _) ⟨rfl, rfl, rfl, rfl, rfl, rfl, rfl, rfl, trivial⟩ ⟨hst.symm, hcg _ (.inr (.inr rfl)) (hcg _ (.inr (.inl rfl)) hc hc11) hc12, hm11.keep hc12 (by simpa using h89), hm12, (hu.keep hc11 (huk _ (.inr (.inl rfl)))).keep hc12 (huk _ (.inr (.inr rfl))), (hg10.keep hc11 (by simpa using h68)).keep hc12 (by simpa using h69)⟩
      · subst ha1
        refine run ?_
        refine go T 3 rfl ?_
        refine eqF rfl rfl rfl rfl (by omega) ?_
        refine go T 6 rfl ?_
        refine eqT rfl rfl rfl rfl (by omega) ?_
        refine go T 7 rfl ?_
        refine o1 rfl (op_build T rfl rfl rfl rfl rfl rfl ?_)
        refine go T 1 rfl ?_
        refine op0 rfl rfl ?_
        refine op_store_agg T rfl rfl rfl rfl rfl rfl hg7 (by exact Nat.le_of_ble_eq_true rfl) (fun w9 hc9 hg9 _ => ?_)
        have hg9 : Blk w9 g6 34 [.int .i64 3, .string (str key), .string (str []), .int .i64 (2 * i + 1), .int .i64 (2 * i + 2), .int .i64 0, .int .i64 0, .string (str []), .int .i64 0] := hg9
        replace hm8 := hm8.keep hc9 (by simpa using fun e => h68 e.symm)
        replace hm9 := hm9.keep hc9 (by simpa using fun e => h69 e.symm)
        replace hu := hu.keep hc9 (huk _ (.inl rfl))
        replace hc := hcg _ (.inl rfl) hc hc9
        refine go T 6 rfl ?_
        refine o1 rfl ?_
        refine op_lookup_v T strKey rfl rfl rfl rfl rfl rfl hm8 (v := .int .i64 (valT S key)) (fun b hb => by unfold valT; rw [hb]; rfl) (fun hn => by unfold valT; rw [hn]; rfl) ?_
        by_cases hz : valT S key = 0
        · have hst : Vc.stepT i k S = (⟨3, key, [], 2 * i + 1, 2 * i + 2, 3, 0, [], 0⟩, S) := by
            unfold Vc.stepT; rw [hkk, hact, if_neg (by decide), if_pos (by decide), if_pos hz]
          refine eqT rfl rfl rfl rfl (by omega) ?_
          refine go T 6 rfl ?_
          refine op0 rfl rfl ?_
          refine op_store T rfl rfl rfl rfl rfl rfl hg9 (by simp) (fun w10 hc10 hg10 _ => ?_)
          refine go T 2 rfl ?_
          exact Meet_n (_, _) ⟨rfl, rfl, rfl, rfl, rfl, rfl, rfl, rfl, trivial⟩ ⟨hst.symm, hcg _ (.inl rfl) hc hc10, hm8.keep hc10 (by simpa using fun e => h68 e.symm), hm9.keep hc10 (by simpa using fun e => h69 e.symm), hu.keep hc10 (huk _ (.inl rfl)), hg10⟩
        · have hst : Vc.stepT i k S = (⟨3, key, [], 2 * i + 1, 2 * i + 2, 0, S.seq + 1, [], 0⟩, ⟨S.seq + 1, rid S.vals key, S.text⟩) := by
            unfold Vc.stepT; rw [hkk, hact, if_neg (by decide), if_pos (by decide), if_neg hz]
          refine eqF rfl rfl rfl rfl (by omega) ?_
          refine go T 6 rfl ?_
          refine adI rfl rfl rfl rfl (by omega) (by omega) ?_
          refine go T 8 rfl ?_
          refine op0 rfl rfl ?_
          refine op_store T rfl rfl rfl rfl rfl rfl hg9 (by simp) (fun w10 hc10 hg10 _ => ?_)
          have hg10 : Blk w10 g6 34 (opL ⟨3, key, [], 2 * i + 1, 2 * i + 2, 0, S.seq + 1, [], 0⟩) := hg10
          refine go T 5 rfl ?_
          refine op0 rfl rfl ?_
          refine op_delete T strKey rfl rfl rfl rfl rfl rfl (hm8.keep hc10 (by simpa using fun e => h68 e.symm)) (fun w11 hc11 hm11 _ => ?_)
          refine go T 2 rfl ?_
          exact Meet_n (_, _) ⟨rfl, rfl, rfl, rfl, rfl, rfl, rfl, rfl, trivial⟩ ⟨hst.symm, hcg _ (.inr (.inl rfl)) (hcg _ (.inl rfl) hc hc10) hc11, hm11, (hm9.keep hc10 (by simpa using fun e => h69 e.symm)).keep hc11 (by simpa using fun e => h89 e.symm), (hu.keep hc10 (huk _ (.inl rfl))).keep hc11 (huk _ (.inr (.inl rfl))), hg10.keep hc11 (by simpa using h68)⟩
      · subst ha2
        refine run ?_
        refine go T 3 rfl ?_
        refine eqF rfl rfl rfl rfl (by omega) ?_
        refine go T 6 rfl ?_
        refine eqF rfl rfl rfl rfl (by omega) ?_
        refine go T 7 rfl ?_
        refine o1 rfl (op_build T rfl rfl rfl rfl rfl rfl ?_)
        refine go T 1 rfl ?_
        refine op0 rfl rfl ?_
        refine op_store_agg T rfl rfl rfl rfl rfl rfl hg7 (by exact Nat.le_of_ble_eq_true rfl) (fun w9 hc9 hg9 _ => ?_)
        have hg9 : Blk w9 g6 34 [.int .i64 2, .string (str key), .string (str []), .int .i64 (2 * i + 1), .int .i64 (2 * i + 2), .int .i64 0, .int .i64 0, .string (str []), .int .i64 0] := hg9
        replace hm8 := hm8.keep hc9 (by simpa using fun e => h68 e.symm)
        replace hm9 := hm9.keep hc9 (by simpa using fun e => h69 e.symm)
        replace hu := hu.keep hc9 (huk _ (.inl rfl))
        replace hc := hcg _ (.inl rfl) hc hc9
        refine go T 6 rfl ?_
        refine o1 rfl ?_
        refine op_lookup_v T strKey rfl rfl rfl rfl rfl rfl hm8 (v := .int .i64 (valT S key)) (fun b hb => by unfold valT; rw [hb]; rfl) (fun hn => by unfold valT; rw [hn]; rfl) ?_
        by_cases hz : valT S key = 0
        · have hst : Vc.stepT i k S = (⟨2, key, [], 2 * i + 1, 2 * i + 2, 3, 0, [], 0⟩, S) := by
            unfold Vc.stepT; rw [hkk, hact, if_neg (by decide), if_neg (by decide), if_pos hz]
          refine eqT rfl rfl rfl rfl (by omega) ?_
          refine go T 6 rfl ?_
          refine op0 rfl rfl ?_
          refine op_store T rfl rfl rfl rfl rfl rfl hg9 (by simp) (fun w10 hc10 hg10 _ => ?_)
          refine go T 2 rfl ?_
          exact Meet_n (_, _) ⟨rfl, rfl, rfl, rfl, rfl, rfl, rfl, rfl, trivial⟩ ⟨hst.symm, hcg _ (.inl rfl) hc hc10, hm8.keep hc10 (by simpa using fun e => h68 e.symm), hm9.keep hc10 (by simpa using fun e => h69 e.symm), hu.keep hc10 (huk _ (.inl rfl)), hg10⟩
        · have hst : Vc.stepT i k S = (⟨2, key, [], 2 * i + 1, 2 * i + 2, 0, valT S key, (S.text key).getD [], 0⟩, S) := by
            unfold Vc.stepT; rw [hkk, hact, if_neg (by decide), if_neg (by decide), if_neg hz]
          refine eqF rfl rfl rfl rfl (by omega) ?_
          refine go T 7 rfl ?_
          refine o1 rfl ?_
          refine op_lookup_v T strKey rfl rfl rfl rfl rfl rfl hm8 (v := .int .i64 (valT S key)) (fun b hb => by unfold valT; rw [hb]; rfl) (fun hn => by unfold valT; rw [hn]; rfl) ?_
          refine go T 2 rfl ?_
          refine op0 rfl rfl ?_
          refine op_store T rfl rfl rfl rfl rfl rfl hg9 (by simp) (fun w10 hc10 hg10 _ => ?_)
          have hg10 : Blk w10 g6 34 [.int .i64 2, .string (str key), .string (str []), .int .i64 (2 * i + 1), .int .i64 (2 * i + 2), .int .i64 0, .int .i64 (valT S key), .string (str []), .int .i64 0] := hg10
          replace hm8 := hm8.keep hc10 (by simpa using fun e => h68 e.symm)
          replace hm9 := hm9.keep hc10 (by simpa using fun e => h69 e.symm)
          refine go T 5 rfl ?_
          refine o1 rfl ?_
          refine op_lookup_v T strKey rfl rfl rfl rfl rfl rfl hm9 (v := keyV ((S.text key).getD [])) (fun b hb => by rw [hb]; rfl) (fun hn => by rw [hn]; rfl) ?_
          refine go T 2 rfl ?_
          refine op0 rfl rfl ?_
          refine op_store T rfl rfl rfl rfl rfl rfl hg10 (by simp) (fun w11 hc11 hg11 _ => ?_)
          refine go T 2 rfl ?_
          exact Meet_n (_, _) ⟨rfl, rfl, rfl, rfl, rfl, rfl, rfl, rfl, trivial⟩ ⟨hst.symm, hcg _ (.inl rfl) (hcg _ (.inl rfl) hc hc10) hc11, hm8.keep hc11 (by simpa using fun e => h68 e.symm), hm9.keep hc11 (by simpa using fun e => h69 e.symm), (hu.keep hc10 (huk _ (.inl rfl))).keep hc11 (huk _ (.inl rfl)), hg11⟩
    clear hg7 hc hm8 hm9 hu hcell7
    rintro ⟨z, S'⟩ w8 ⟨hst, hc, hm8, hm9, hu, hg⟩
    rw [← hst] at hstep
    dsimp only at hm8 hm9 hg hstep ⊢
    unfold opL at hg
    refine runX ?_
    refine go T 3 rfl ?_
    refine o1 rfl (op_load_agg T rfl rfl rfl rfl hg (by exact Nat.le_of_ble_eq_true rfl) (by exact rfl) ?_)
    refine o1 rfl ?_
    refine op_buildSlice T rfl rfl rfl rfl rfl rfl rfl (fun g6 w8 hs8 hc8 hg6 => ?_)
    have hg6 : Blk w8 g6 34 (opL z) := hg6
    replace hc := hc.trans' hc8
    replace hm8 := hm8.keep0 hc8
    replace hm9 := hm9.keep0 hc8
    replace hu := hu.keep0 hc8
    replace hg := hg.keep0 hc8
    refine o1 rfl ?_
    refine op_appendK T opL_len rfl rfl rfl rfl rfl rfl rfl rfl rfl rfl hu hg6 (opL_one _) (by omega) (fun u' w9 hu9 hc9 hb9 => ?_)
    have hcw9 := hc.trans hc9 (fun k hk hlt => by have := huf k (by simpa using hk); omega)
    have hsz := hc.size
    refine go T 6 rfl ?_
    refine adI rfl rfl rfl rfl (by omega) (by omega) ?_
    refine go T 2 rfl ?_
    exact Round_n (i + 1, L ++ [z], S', u') ⟨rfl, rfl, rfl, rfl, rfl, rfl, rfl, trivial⟩ ⟨by dsimp only; omega, by dsimp only; omega, hstep, hcw9, hm8.keep hc9 (fun hm => by
      obtain ⟨cur, hr⟩ := hu.row (show u.ownBlock = some r8 by simpa using hm)
      exact hm8.ne_blk hr rfl), hm9.keep hc9 (fun hm => by
      obtain ⟨cur, hr⟩ := hu.row (show u.ownBlock = some r9 by simpa using hm)
      exact hm9.ne_blk hr rfl), hu9, fresh_of huf hsz hb9⟩ (by dsimp only; omega)
  · by_cases h1 : i < ks.length
    · have h2 : ¬ i < 20 := fun h => hgo ⟨h1, h⟩
      refine run ?_
      refine go T 6 rfl ?_
      refine ltT rfl rfl rfl rfl (by omega) ?_
      refine go T 2 rfl ?_
      refine ltF rfl rfl rfl rfl (by omega) ?_
      refine go T 6 rfl ?_
      refine rndX ?_
      refine go T 1 rfl ?_
      exact Meet_n (i, L, S, u) ⟨rfl, rfl, rfl, trivial⟩ ⟨hi20, ht, hc, hu, huf⟩
    · refine run ?_
      refine go T 6 rfl ?_
      refine ltF rfl rfl rfl rfl (by omega) ?_
      refine go T 9 rfl ?_
      refine rndX ?_
      refine go T 1 rfl ?_
      exact Meet_n (i, L, S, u) ⟨rfl, rfl, rfl, trivial⟩ ⟨hi20, ht, hc, hu, huf⟩
end Go.Proofs.Ytjkbbkomajjegaa.Try
/-! From a law's walk to its row: arguments opened by their types' shape; arguments stay; the contract. -/
set_option linter.unusedVariables false
set_option linter.unusedSimpArgs false
namespace Go.Vc
open Go Go.RowKit Go.ChangeShapes Go.WideShapes Go.ChangeAt

/-- A reading of one cell at type t gives some a with R. -/
def Opens (P : Program) (t : TypeId) {α : Type} (R : World → Value → α → Prop) : Prop :=
  ∀ {H : Type} (enc : TypeId × Value → H) (w : World) (base : Nat) (spare : Nat → Bool) (held : Bool) (fuel : Nat) (cs : List Value) (x : DataW H × List MemPlace),
    DataW.trod enc P w base spare held fuel t cs = some x → ∃ u a, cs = [u] ∧ R w u a

theorem list_of {α : Type} {p : Nat → α → Prop} : ∀ n, (∀ i, i < n → ∃ a, p i a) → ∃ L : List α, L.length = n ∧ ∀ i a, L[i]? = some a → p i a
  | 0, _ => ⟨[], rfl, fun i a h => by simp at h⟩
  | n + 1, h => by
    obtain ⟨L, hl, hp⟩ := list_of n (fun i hi => h i (by omega))
    obtain ⟨a, ha⟩ := h n (by omega)
    refine ⟨L ++ [a], by simp [hl], fun i b hb => ?_⟩
    by_cases hi : i < L.length
    · rw [List.getElem?_append_left hi] at hb; exact hp i b hb
    · have : i = L.length := by have := (List.getElem?_eq_some_iff.1 hb).1; simp at this; omega
      subst this
      rw [List.getElem?_append_right (Nat.le_refl _)] at hb
      simp at hb; subst hb; rw [hl]; exact ha

theorem Opens.slice {P : Program} {t e : TypeId} {α : Type} {R : World → Value → α → Prop} (ht : P.underlying t = some (.slice e)) (hc : P.cellsOf e = 1) (hR : Opens P e R) : Opens P t (SliceOf R) := by
  intro H enc w base spare held fuel cs x h
  rcases Go.Deep.open_slice1 ht hc h with ⟨rfl, _⟩ | ⟨a, len, cap, m, n, V, D, Pl, rfl, hb, hl, hm, hmm, _, hx⟩
  · exact ⟨_, [], rfl, SliceOf.nil _ _⟩
  · have hlm : len ≤ m := by rw [hmm]; split <;> omega
    obtain ⟨L, hlen, hL⟩ := list_of (p := fun i a' => R w (V i) a') len (fun i hi => by
      obtain ⟨_, htr⟩ := hx i (by omega)
      obtain ⟨u, a', hu, hr⟩ := hR enc w base spare held n _ _ htr
      injection hu with hu _
      subst hu
      exact ⟨a', hr⟩)
    refine ⟨_, L, rfl, SliceOf.mk hlen.symm (by omega) hm fun i a' ha => ?_⟩
    have hi : i < len := by have := (List.getElem?_eq_some_iff.1 ha).1; omega
    exact ⟨a, V i, rfl, (hx i (by omega)).1, hL i a' ha⟩

theorem Opens.u8 {P : Program} {t : TypeId} (ht : P.underlying t = some (.int .u8)) : Opens P t Ru8 := by
  intro H enc w base spare held fuel cs x h
  obtain ⟨n, rfl, _, hw⟩ := DataW.trod_int ht h
  have hb : 0 ≤ n ∧ n ≤ 255 := by simp [Lit.wf, IntKind.min, IntKind.max, IntKind.signed, IntKind.bits] at hw; omega
  refine ⟨_, UInt8.ofNat n.toNat, rfl, ?_⟩
  unfold Ru8
  have : ((UInt8.ofNat n.toNat).toNat : Int) = n := by
    rw [UInt8.toNat_ofNat']; omega
  rw [this]
theorem Opens.i64 {P : Program} {t : TypeId} (ht : P.underlying t = some (.int .i64)) : Opens P t Ri64 := by
  intro H enc w base spare held fuel cs x h
  obtain ⟨n, rfl, _, hw⟩ := DataW.trod_int ht h
  have hb : -9223372036854775808 ≤ n ∧ n ≤ 9223372036854775807 := by simp [Lit.wf, IntKind.min, IntKind.max, IntKind.signed, IntKind.bits] at hw; omega
  exact ⟨_, n, rfl, rfl, hb.1, hb.2⟩
theorem Opens.bool {P : Program} {t : TypeId} (ht : P.underlying t = some .bool) : Opens P t Rbool := by
  intro H enc w base spare held fuel cs x h
  obtain ⟨b, rfl, _⟩ := DataW.trod_bool ht h
  exact ⟨_, b, rfl, rfl⟩
theorem Opens.str {P : Program} {t : TypeId} (ht : P.underlying t = some .string) : Opens P t Rstr := by
  intro H enc w base spare held fuel cs x h
  obtain ⟨s, rfl, _, hs⟩ := DataW.trod_string ht h
  exact ⟨_, s, rfl, rfl, hs⟩

/-- An argument, opened. -/
theorem Opens.arg {P : Program} {t : TypeId} {α : Type} {R : World → Value → α → Prop} (h : Opens P t R) {w : World} {r : Reach} {base : Nat} {v : Value} {H : Type} {enc : TypeId × Value → H} {sp : Nat → Bool} {held : Bool} {d : DataW H} {ps : List MemPlace} {b0 : Nat}
    (hd : P.underlying t = some .bool ∨ P.underlying t = some .string ∨ (∃ k, P.underlying t = some (.int k)) ∨ ∃ e, P.underlying t = some (.slice e))
    (hval : Value.okWide P w r base t v) (ht : DataW.Trod enc P w b0 sp held t v d ps) : ∃ a, R w v a := by
  obtain ⟨fuel, hf⟩ := ht
  obtain ⟨u, a, hu, hr⟩ := h enc w b0 sp held fuel _ _ hf
  have hv : v.cells = #[v] := by
    rcases hd with hd | hd | ⟨k, hd⟩ | ⟨e, hd⟩
    · obtain ⟨b, rfl⟩ := okWide_bool hd hval; rfl
    · obtain ⟨b, rfl⟩ := okWide_string hd hval; rfl
    · obtain ⟨b, rfl⟩ := okWide_int hd hval; rfl
    · obtain ⟨a, l, c, rfl⟩ := okWide_slice hd hval; rfl
  rw [hv] at hu
  simp at hu
  subst hu
  exact ⟨a, hr⟩

theorem args_stay {H : Type} {enc : TypeId × Value → H} {P : Program} (hl : laidOutB P = true) {W W' : World} (hb : Below W.heap.size W W') :
    ∀ (ts : List TypeId) (vs : List Value) (ds : List (DataW H)) (ps : List MemPlace), (∀ t ∈ ts, P.readableRec t = true ∧ t < P.types.size) → DataW.TrodAll enc P W 0 (fun _ => true) true ts vs ds ps → (∀ x ∈ ps, x.block < W.heap.size) →
      DataW.TrodAll enc P W' 0 (fun b => decide (b < W.heap.size)) true ts vs ds ps
  | [], vs, ds, ps, _, h, _ => by
    obtain ⟨rfl, rfl, rfl⟩ := trodAll_nil h
    exact trodAll_mk0
  | t :: ts, vs, ds, ps, ht, h, hlt => by
    obtain ⟨v, vs', d, ds', p, q, rfl, rfl, rfl, h0, r0⟩ := trodAll_cons h
    exact trodAll_cons_mk (Below.trod hl (ht t (by simp)).1 (ht t (by simp)).2 h0 hb (fun x hx => hlt x (by simp [hx])))
      (args_stay hl hb ts vs' ds' q (fun t' h' => ht t' (by simp [h'])) r0 (fun x hx => hlt x (by simp [hx])))

/-- The contract of a law's row, from its walk. -/
theorem law_lifted {C : Checked} {os : Os} {f : FuncId} {fn : Func} {s : ChangeSpec} {H : Type} {enc : TypeId × Value → H} {tb : TypeId}
    (own : ownKnob C.prog.godebug = none) (laid : laidOutB C.prog = true) (started : os.Started) (noInit : C.prog.inits.idxOf? f = none) (hfn : C.prog.funcs[f]? = some fn)
    (hvars : s.vars = []) (hres : fn.resultTypes = #[tb]) (htb : C.prog.underlying tb = some .bool)
    (hparams : ∀ t ∈ fn.params.toList, C.prog.readableRec t = true ∧ t < C.prog.types.size)
    (hspec : ∀ ds : List (DataW H), ds.length = fn.params.size → s.fn H ds = { results := [.lit (.bool true)], args := ds })
    (witness : ∃ (w : World) (tape : Tape) (i : Input), w.os = os ∧ (w.forCall tape i).Shaped C.prog ∧ i.vars = [] ∧ Input.okWide C.prog (w.forCall tape i) .any w.heap.size f i ∧
      s.pre6 enc C.prog fn [] false (w.forCall tape i).memory i.args ∧ ({} : Assume).holds C.prog (lone (Frame.enter C.prog f i.args .normal) [] (w.forCall tape i)))
    (walk : ∀ (W : World) (base : Nat) (args : Array Value) (ds : List (DataW H)) (ps : List MemPlace), (∀ (j : Nat) t v, fn.params[j]? = some t → args[j]? = some v → Value.okWide C.prog W .any base t v) →
      DataW.TrodAll enc C.prog W 0 (fun _ => true) true fn.params.toList args.toList ds ps → Calls C.prog f args W fun e W' => e = .returned (.bool true) ∧ Chg [] W W') :
    ReturnsInHanded {} C os f .any (s.pre6 enc C.prog fn [] false) (s.post enc C.prog fn false true false false) := by
  refine returnsInHanded_of_change own started noInit hfn witness ?_
  intro W base args ds gs before hval hW _ _
  have hW' := hW
  obtain ⟨p, q, hA, hV, rfl, hfz, hnd⟩ := hW
  rw [hvars] at hV
  obtain ⟨rfl, rfl⟩ := trodVars_none hV
  refine (walk W base args ds p hval hA).mono fun e W' ⟨he, hc⟩ => ?_
  subst he
  have bel := hc.below
  have hlen : ds.length = fn.params.size := by
    have := trodAll_length hA
    have h2 := this.1; have h3 := this.2
    simp at h2 h3 ⊢
    omega
  have hsp := hspec ds hlen
  refine ⟨_, rfl, ds, [], p ++ [], [], p, [], hW', ?_, ?_, ?_, bel.frame _, fun h => by cases h⟩
  · rw [List.append_nil, hsp, hres]
    exact trodAll_mk1 (shut_bool htb _)
  · rw [List.append_nil, hsp]
    exact args_stay laid bel _ _ _ _ hparams hA (fun x hx => hW'.lt x (by simp [hx]))
  · rw [hvars, List.append_nil, hsp]; exact rfl
end Go.Vc
/- HistoryTrue: whatever the arguments that can be read as data, in whatever memory, the call returns true and leaves what was there as it was. No condition. -/
set_option linter.unusedVariables false
namespace Go.Proofs.Ytjkbbkomajjegaa
open Go Go.Vc Go.ChangeShapes Go.WideShapes Go.ChangeAt Go.RowKit
theorem historyTrue_own : ownKnob Go.Proofs.Try.prog.godebug = none := by kernel_rfl
theorem historyTrue_laid : laidOutB Go.Proofs.Try.prog = true := by kernel_rfl
set_option maxRecDepth 100000 in
theorem historyTrue_walk (W : World) (base : Nat) (args : Array Value) {H : Type} {enc : TypeId × Value → H} (ds : List (DataW H)) (ps : List MemPlace) (hval0 : ∀ (j : Nat) t v, Go.Proofs.Try.f3.params[j]? = some t → args[j]? = some v → Value.okWide Go.Proofs.Try.prog W .any base t v)
    (hA : DataW.TrodAll enc Go.Proofs.Try.prog W 0 (fun _ => true) true Go.Proofs.Try.f3.params.toList args.toList ds ps) : Calls Go.Proofs.Try.prog 3 args W fun e W' => e = .returned (.bool true) ∧ Chg [] W W' := by
  have hval := hval0
  rw [Go.Proofs.Try.params3] at hA hval
  obtain ⟨v0, vs0, d0, ds0, p0, q0, hargs, rfl, rfl, h0, r0⟩ := trodAll_cons hA
  obtain ⟨v1, vs1, d1, ds1, p1, q1, rfl, rfl, rfl, h1, r1⟩ := trodAll_cons r0
  obtain ⟨rfl, rfl, rfl⟩ := trodAll_nil r1
  obtain rfl : args = #[v0, v1] := by cases args; simp_all
  obtain ⟨a0, x0⟩ := Opens.arg (Opens.slice Go.Proofs.Try.underlying22 (by kernel_rfl : Go.Proofs.Try.prog.cellsOf 3 = 1) (Opens.i64 Go.Proofs.Try.underlying3)) (.inr (.inr (.inr ⟨_, Go.Proofs.Try.underlying22⟩))) (hval 0 _ v0 rfl rfl) h0
  obtain ⟨a1, x1⟩ := Opens.arg (Opens.i64 Go.Proofs.Try.underlying3) (.inr (.inr (.inl ⟨_, Go.Proofs.Try.underlying3⟩))) (hval 1 _ v1 rfl rfl) h1
  obtain ⟨A, c, rfl, _⟩ := x0.form; obtain ⟨rfl, hl1, hh1⟩ := x1
  refine (Try.historyTrue_has A _ c a0 a1 W x0 ⟨hl1, hh1⟩).2.mono ?_
  rintro e W' ⟨v, rfl, hc, rfl⟩
  exact ⟨rfl, hc⟩
set_option maxRecDepth 100000 in
theorem historyTrue_lifted (os : Os) (started : os.Started) (H : Type) (enc : TypeId × Value → H) :
    ReturnsInHanded {} Go.Proofs.Try.checked os 3 .any (Rows.historyTrueSpec.pre6 enc Go.Proofs.Try.prog Go.Proofs.Try.f3 Rows.historyTrueRow.domain false) (Rows.historyTrueSpec.post enc Go.Proofs.Try.prog Go.Proofs.Try.f3 false true false false) := by
  refine law_lifted (C := Go.Proofs.Try.checked) (tb := 4) historyTrue_own historyTrue_laid started (by kernel_rfl) Go.Proofs.Try.func3 rfl rfl Go.Proofs.Try.underlying4 ?_ ?_
    (ChangeSpec.witness6 (enc := enc) (C := Go.Proofs.Try.checked) false ⟨#[], #[.slice none 0 0, .int .i64 0], []⟩ 8 (by kernel_rfl) (by kernel_rfl) (by kernel_rfl) (by kernel_rfl)) (fun W base args ds ps hval hA => historyTrue_walk W base args ds ps hval hA)
  · intro t ht
    rw [Go.Proofs.Try.params3] at ht
    simp only [List.mem_cons, List.not_mem_nil, or_false] at ht
    rcases ht with rfl | rfl
    all_goals exact ⟨by kernel_rfl, of_decide_eq_true (by kernel_rfl)⟩
  · intro ds hd
    rw [Go.Proofs.Try.params3] at hd
    match ds, hd with
    | [d0, d1], _ => rfl
theorem historyTrue_holds : Rows.HistoryTrueSaid :=
  OpenClaim.holds_of_wide 3 Go.Proofs.Try.f3 rfl rfl rfl rfl rfl rfl rfl ⟨rfl, rfl, rfl, rfl, rfl⟩ rfl rfl rfl rfl rfl (by kernel_rfl) Go.Proofs.Try.func3 (by kernel_rfl)
    (of_decide_eq_true (by kernel_rfl)) (by unfold Func.isWrapper; first | (rw [if_pos (by decide +kernel)]; kernel_rfl) | (rw [if_neg (by decide +kernel)]; exact ⟨rfl, rfl⟩))
    (fun os started H enc _ => historyTrue_lifted os started H enc)
#print axioms historyTrue_holds
end Go.Proofs.Ytjkbbkomajjegaa
