/- The walk of one law and the row that it ends in: whatever the arguments that can be read as data, the call returns true and leaves what was there as it was. No condition. -/
import Derived.Test.YtbhnplghnhafiaaDoorRawRotK4
import Derived.Test.YtbhnplghnhafiaaDoorRawRotK3
import Derived.LaidMore
import Derived.LaidLaws
import Derived.LaidHandle
import Derived.Stop.Joined
import Derived.Handed
import Derived.Test.YtbhnplghnhafiaaDoorCards
import Derived.Test.YtbhnplghnhafiaaDoorTie
import Derived.SevenTiedAt
/-! Arguments that are slices of structs, opened. -/
set_option linter.unusedVariables false
set_option linter.unusedSimpArgs false
namespace Go.Vc
open Go Go.RowKit Go.ChangeShapes Go.WideShapes Go.ChangeAt
/-- A reading at type t, of k cells, gives some a with R. -/
def OpensK (P : Program) (t : TypeId) (k : Nat) {α : Type} (R : World → List Value → α → Prop) : Prop :=
  ∀ {H : Type} (enc : TypeId × Value → H) (w : World) (base : Nat) (spare : Nat → Bool) (held : Bool) (fuel : Nat) (cs : List Value) (x : DataW H × List MemPlace),
    DataW.trod enc P w base spare held fuel t cs = some x → ∃ a, cs.length = k ∧ R w cs a
theorem OpensK.slice {P : Program} {t e : TypeId} {k : Nat} {α : Type} {R : World → List Value → α → Prop} (ht : P.underlying t = some (.slice e)) (hc : P.cellsOf e = k) (hR : OpensK P e k R) : Opens P t (SliceK k R) := by
  intro H enc w base spare held fuel cs x h
  rcases Go.Deep.open_slice ht h with ⟨rfl, _⟩ | ⟨a, len, cap, m, n, D, Pl, rfl, hb, hl, hm, hmm, _, hx⟩
  · exact ⟨_, [], rfl, SliceK.nil _ _ _⟩
  · have hlm : len ≤ m := by rw [hmm]; split <;> omega
    obtain ⟨L, hlen, hL⟩ := list_of (p := fun i a' => ∃ cs', cs'.length = k ∧ (∀ j u, cs'[j]? = some u → w.cell? (a.add (i * k + j)) = some u) ∧ R w cs' a') len (fun i hi => by
      obtain ⟨cs', h1, htr⟩ := hx i (by omega)
      rw [hc] at h1
      obtain ⟨_, hl', hcell⟩ := World.cells?_some h1
      obtain ⟨a', _, hr⟩ := hR enc w base spare held n _ _ htr
      refine ⟨a', cs', hl', fun j u hu => ?_, hr⟩
      have hj : j < k := by have := (List.getElem?_eq_some_iff.1 hu).1; omega
      have := hcell j hj
      rw [add_of_add] at this
      rw [this]; exact hu)
    refine ⟨_, L, rfl, ?_⟩
    unfold SliceK
    refine ⟨some a, cap, by rw [hlen], by omega, hm, fun i a' ha => ?_⟩
    obtain ⟨cs', h1, h2, h3⟩ := hL i a' ha
    exact ⟨a, cs', rfl, h1, h2, h3⟩
/-- A field of a struct. -/
theorem trod_field {H : Type} {enc : TypeId × Value → H} {P : Program} {w : World} {base : Nat} {spare : Nat → Bool} {held : Bool} {fuel : Nat} {t : TypeId} {cs : List Value} {x : DataW H × List MemPlace} {fs : Array Field} (ht : P.underlying t = some (.struct fs))
    (h : DataW.trod enc P w base spare held fuel t cs = some x) : cs.length = P.cellsOf t ∧ ∃ n, ∀ (i : Nat) (f : Field), fs[i]? = some f → ∃ y, DataW.trod enc P w base spare held n f.type ((cs.drop f.offset).take (P.cellsOf f.type)) = some y := by
  obtain ⟨xs, n, _, _, h1, h2, h3⟩ := DataW.trod_struct ht h
  refine ⟨h1, n, fun i f hf => ?_⟩
  have hi := (Array.getElem?_eq_some_iff.1 hf).1
  rw [h3 i f hf]
  exact ⟨_, List.getElem?_eq_getElem (by omega)⟩
end Go.Vc
/-! Records that come in. -/
set_option linter.unusedVariables false
set_option linter.unusedSimpArgs false
namespace Go.Proofs.YtbhnplghnhafiaaDoor.Tryd
open Go Go.Vc Go.RowKit Go.ChangeShapes Go.WideShapes Go.ChangeAt
set_option maxRecDepth 100000 in
theorem recOpens : OpensK Go.Proofs.Tryd.prog 33 4 RrecK := by
  intro H enc w base spare held fuel cs x h
  obtain ⟨hl, n, hf⟩ := trod_field Go.Proofs.Tryd.underlying33 h
  have hl : cs.length = 4 := hl.trans (by kernel_rfl)
  match cs, hl with
  | [c0, c1, c2, c3], _ =>
  obtain ⟨y0, h0⟩ := hf 0 _ rfl
  have h0 : DataW.trod enc Go.Proofs.Tryd.prog w base spare held n 3 (([c0, c1, c2, c3].drop 0).take (Go.Proofs.Tryd.prog.cellsOf 3)) = some y0 := h0
  rw [show Go.Proofs.Tryd.prog.cellsOf 3 = 1 from by kernel_rfl] at h0
  obtain ⟨u0, a0, e0, r0⟩ := (Opens.i64 Go.Proofs.Tryd.underlying3 : Opens Go.Proofs.Tryd.prog 3 _) enc w base spare held n _ _ h0
  obtain rfl : c0 = u0 := by have e0 : [c0] = [u0] := e0; injection e0
  obtain ⟨y1, h1⟩ := hf 1 _ rfl
  have h1 : DataW.trod enc Go.Proofs.Tryd.prog w base spare held n 2 (([c0, c1, c2, c3].drop 1).take (Go.Proofs.Tryd.prog.cellsOf 2)) = some y1 := h1
  rw [show Go.Proofs.Tryd.prog.cellsOf 2 = 1 from by kernel_rfl] at h1
  obtain ⟨u1, a1, e1, r1⟩ := (Opens.i64 Go.Proofs.Tryd.underlying2 : Opens Go.Proofs.Tryd.prog 2 _) enc w base spare held n _ _ h1
  obtain rfl : c1 = u1 := by have e1 : [c1] = [u1] := e1; injection e1
  obtain ⟨y2, h2⟩ := hf 2 _ rfl
  have h2 : DataW.trod enc Go.Proofs.Tryd.prog w base spare held n 9 (([c0, c1, c2, c3].drop 2).take (Go.Proofs.Tryd.prog.cellsOf 9)) = some y2 := h2
  rw [show Go.Proofs.Tryd.prog.cellsOf 9 = 1 from by kernel_rfl] at h2
  obtain ⟨u2, a2, e2, r2⟩ := (Opens.str Go.Proofs.Tryd.underlying9 : Opens Go.Proofs.Tryd.prog 9 _) enc w base spare held n _ _ h2
  obtain rfl : c2 = u2 := by have e2 : [c2] = [u2] := e2; injection e2
  obtain ⟨y3, h3⟩ := hf 3 _ rfl
  have h3 : DataW.trod enc Go.Proofs.Tryd.prog w base spare held n 9 (([c0, c1, c2, c3].drop 3).take (Go.Proofs.Tryd.prog.cellsOf 9)) = some y3 := h3
  rw [show Go.Proofs.Tryd.prog.cellsOf 9 = 1 from by kernel_rfl] at h3
  obtain ⟨u3, a3, e3, r3⟩ := (Opens.str Go.Proofs.Tryd.underlying9 : Opens Go.Proofs.Tryd.prog 9 _) enc w base spare held n _ _ h3
  obtain rfl : c3 = u3 := by have e3 : [c3] = [u3] := e3; injection e3
  obtain ⟨s2, rfl⟩ := str_of a2; obtain ⟨s3, rfl⟩ := str_of a3; obtain ⟨rfl, _⟩ := r0; obtain ⟨rfl, _⟩ := r1; obtain ⟨rfl, l2⟩ := r2; obtain ⟨rfl, l3⟩ := r3; rw [str_size] at l2 l3; exact ⟨⟨a0, a1, s2, s3⟩, rfl, rfl, l2, l3⟩
end Go.Proofs.YtbhnplghnhafiaaDoor.Tryd
/-! From a walk to a row whose list of laid variables is not empty. -/
set_option linter.unusedVariables false
namespace Go.Vc
open Go Go.ChangeShapes Go.WideShapes Go.ChangeAt Go.RowKit
theorem law_laid {C : Checked} {os : Os} {f : FuncId} {fn : Func} {s : ChangeSpec} {H : Type} {enc : TypeId × Value → H} {tb : TypeId} {L : List (String × DataW Unit)}
    (own : ownKnob C.prog.godebug = none) (laid : laidOutB C.prog = true) (started : os.Started) (noInit : C.prog.inits.idxOf? f = none) (hfn : C.prog.funcs[f]? = some fn)
    (hvars : s.vars = []) (hres : fn.resultTypes = #[tb]) (htb : C.prog.underlying tb = some .bool)
    (hparams : ∀ t ∈ fn.params.toList, C.prog.readableRec t = true ∧ t < C.prog.types.size)
    (hspec : ∀ ds : List (DataW H), ds.length = fn.params.size → s.fn H ds = { results := [.lit (.bool true)], args := ds })
    (witness : ∃ (w : World) (tape : Tape) (i : Input), w.os = os ∧ (w.forCall tape i).Shaped C.prog ∧ i.vars = [] ∧ Input.okWide C.prog (w.forCall tape i) .any w.heap.size f i ∧
      ((s.pre enc C.prog fn [] false (w.forCall tape i).memory i.args ∧ laidMetH C.prog L (w.forCall tape i).memory) ∧ sizedMet enc C.prog fn (OpenSpec.ofChange s) false (w.forCall tape i).memory i.args) ∧ ({} : Assume).holds C.prog (lone (Frame.enter C.prog f i.args .normal) [] (w.forCall tape i)))
    (walk : ∀ (W : World) (base : Nat) (args : Array Value) (ds : List (DataW H)) (ps : List MemPlace), (∀ (j : Nat) t v, fn.params[j]? = some t → args[j]? = some v → Value.okWide C.prog W .any base t v) →
      DataW.TrodAll enc C.prog W 0 (fun _ => true) true fn.params.toList args.toList ds ps → Calls C.prog f args W fun e W' => e = .returned (.bool true) ∧ Chg [] W W') :
    ReturnsInHanded {} C os f .any (fun w args => (s.pre enc C.prog fn [] false w args ∧ laidMetH C.prog L w) ∧ sizedMet enc C.prog fn (OpenSpec.ofChange s) false w args) (s.post enc C.prog fn false true false false) := by
  refine returnsInHanded_of_change_and (X := fun w _ => laidMetH C.prog L w) (fun _ _ _ hh h => h.of_heap hh) own started noInit hfn witness ?_
  intro W base args ds gs before hval hW _ _ _ _
  have hW' := hW
  obtain ⟨p, q, hA, hV, rfl, hfz, hnd⟩ := hW
  rw [hvars] at hV
  obtain ⟨rfl, rfl⟩ := trodVars_none hV
  refine (walk W base args ds p hval hA).mono fun e W' ⟨he, hc⟩ => ?_
  subst he
  have bel := hc.below
  have hlen : ds.length = fn.params.size := by
    have := trodAll_length hA
    have h2 := this.1; have h3 := this.2
    simp at h2 h3 ⊢
    omega
  have hsp := hspec ds hlen
  refine ⟨_, rfl, ds, [], p ++ [], [], p, [], hW', ?_, ?_, ?_, bel.frame _, fun h => by cases h⟩
  · rw [List.append_nil, hsp, hres]
    exact trodAll_mk1 (shut_bool htb _)
  · rw [List.append_nil, hsp]
    exact args_stay laid bel _ _ _ _ hparams hA (fun x hx => hW'.lt x (by simp [hx]))
  · rw [hvars, List.append_nil, hsp]; exact rfl
end Go.Vc
/- RawRot: whatever the arguments that can be read as data, in whatever memory, the call returns true and leaves what was there as it was. No condition. -/
set_option linter.unusedVariables false
namespace Go.Proofs.YtbhnplghnhafiaaDoor
open Go Go.Vc Go.ChangeShapes Go.WideShapes Go.ChangeAt Go.RowKit
theorem rawRot_own : ownKnob Go.Proofs.Tryd.prog.godebug = none := by kernel_rfl
theorem rawRot_laid : laidOutB Go.Proofs.Tryd.prog = true := by kernel_rfl
set_option maxRecDepth 100000 in
theorem rawRot_walk (W : World) (base : Nat) (args : Array Value) {H : Type} {enc : TypeId × Value → H} (ds : List (DataW H)) (ps : List MemPlace) (hval0 : ∀ (j : Nat) t v, Go.Proofs.Tryd.f5.params[j]? = some t → args[j]? = some v → Value.okWide Go.Proofs.Tryd.prog W .any base t v)
    (hA : DataW.TrodAll enc Go.Proofs.Tryd.prog W 0 (fun _ => true) true Go.Proofs.Tryd.f5.params.toList args.toList ds ps) : Calls Go.Proofs.Tryd.prog 5 args W fun e W' => e = .returned (.bool true) ∧ Chg [] W W' := by
  have hval := hval0
  rw [Go.Proofs.Tryd.params5] at hA hval
  obtain ⟨v0, vs0, d0, ds0, p0, q0, hargs, rfl, rfl, h0, r0⟩ := trodAll_cons hA
  obtain ⟨v1, vs1, d1, ds1, p1, q1, rfl, rfl, rfl, h1, r1⟩ := trodAll_cons r0
  obtain ⟨v2, vs2, d2, ds2, p2, q2, rfl, rfl, rfl, h2, r2⟩ := trodAll_cons r1
  obtain ⟨rfl, rfl, rfl⟩ := trodAll_nil r2
  obtain rfl : args = #[v0, v1, v2] := by cases args; simp_all
  obtain ⟨a0, x0⟩ := Opens.arg (OpensK.slice (k := 4) Go.Proofs.Tryd.underlying40 (by kernel_rfl : Go.Proofs.Tryd.prog.cellsOf 33 = 4) Tryd.recOpens) (.inr (.inr (.inr ⟨_, Go.Proofs.Tryd.underlying40⟩))) (hval 0 _ v0 rfl rfl) h0
  obtain ⟨a1, x1⟩ := Opens.arg (Opens.i64 Go.Proofs.Tryd.underlying3) (.inr (.inr (.inl ⟨_, Go.Proofs.Tryd.underlying3⟩))) (hval 1 _ v1 rfl rfl) h1
  obtain ⟨a2, x2⟩ := Opens.arg (Opens.u8 Go.Proofs.Tryd.underlying5) (.inr (.inr (.inl ⟨_, Go.Proofs.Tryd.underlying5⟩))) (hval 2 _ v2 rfl rfl) h2
  obtain ⟨Aa, ca, rfl, _, _⟩ := SliceK.form x0; obtain ⟨rfl, _, _⟩ := x1; obtain rfl := x2
  refine (Tryd.rawRot_has Aa _ ca a0 a1 a2 W x0).2.mono ?_
  rintro e W' ⟨v, rfl, hc, rfl⟩
  exact ⟨rfl, hc⟩
theorem rawRot_door (os : Os) (args : Array Value) : laidMetH Go.Proofs.Tryd.prog Rows.rawRotRow.laid ((World.doorLaid Go.Proofs.Tryd.prog 400 os).forCall (fun _ _ => 0) ⟨#[], args, []⟩).memory :=
  laidMetH_of_parts3 (fuel := 8) (laidMet_of_run' 8 (by kernel_rfl) (by kernel_rfl)) (by kernel_rfl) (by kernel_rfl)
set_option maxRecDepth 100000 in
theorem rawRot_lifted (os : Os) (started : os.Started) (H : Type) (enc : TypeId × Value → H) :
    ReturnsInHanded {} Go.Proofs.Tryd.checked os 5 .any (fun w args => (Rows.rawRotSpec.pre enc Go.Proofs.Tryd.prog Go.Proofs.Tryd.f5 [] false w args ∧ laidMetH Go.Proofs.Tryd.prog Rows.rawRotRow.laid w) ∧ sizedMet enc Go.Proofs.Tryd.prog Go.Proofs.Tryd.f5 (OpenSpec.ofChange Rows.rawRotSpec) false w args) (Rows.rawRotSpec.post enc Go.Proofs.Tryd.prog Go.Proofs.Tryd.f5 false true false false) := by
  refine law_laid (C := Go.Proofs.Tryd.checked) (tb := 4) (L := Rows.rawRotRow.laid) rawRot_own rawRot_laid started (by kernel_rfl) Go.Proofs.Tryd.func5 rfl rfl Go.Proofs.Tryd.underlying4 ?_ ?_
    (ChangeSpec.witness_shaped (enc := enc) (C := Go.Proofs.Tryd.checked) (os := os) (X := fun w _ => laidMetH Go.Proofs.Tryd.prog Rows.rawRotRow.laid w) false (World.doorLaid Go.Proofs.Tryd.prog 400 os) #[.slice none 0 0, .int .i64 0, .int .u8 0] 8 rfl (World.shaped_of_RefB (by kernel_rfl) (by kernel_rfl)) (by kernel_rfl) (by kernel_rfl) (by kernel_rfl) (rawRot_door os _)) (fun W base args ds ps hval hA => rawRot_walk W base args ds ps hval hA)
  · intro t ht
    rw [Go.Proofs.Tryd.params5] at ht
    simp only [List.mem_cons, List.not_mem_nil, or_false] at ht
    rcases ht with rfl | rfl | rfl
    all_goals exact ⟨by kernel_rfl, of_decide_eq_true (by kernel_rfl)⟩
  · intro ds hd
    rw [Go.Proofs.Tryd.params5] at hd
    match ds, hd with
    | [d0, d1, d2], _ => rfl
theorem rawRot_holds : Rows.RawRotSaid :=
  OpenClaim.holds_of_wide 5 Go.Proofs.Tryd.f5 rfl rfl rfl rfl rfl rfl rfl ⟨rfl, rfl, rfl, rfl, rfl⟩ rfl rfl rfl rfl rfl (by kernel_rfl) Go.Proofs.Tryd.func5 (by kernel_rfl)
    (of_decide_eq_true (by kernel_rfl)) (by unfold Func.isWrapper; first | (rw [if_pos (by decide +kernel)]; kernel_rfl) | (rw [if_neg (by decide +kernel)]; exact ⟨rfl, rfl⟩))
    (fun os started H enc _ => rawRot_lifted os started H enc)
theorem rawRot_card : Rows.RawRotCardSaid :=
  Claim7.holds_tied_plain_at .later [] [.data, .data, .data] true (true, "c3739f440933ab4bc5e329d97d371277364ffbb99a33385bca323120945fc367") true
    rawRot_holds (fun _ h => by cases h) (by kernel_rfl) (fun _ h => by cases h) rawRot_row_tie rfl ⟨rfl, rfl⟩ (by kernel_rfl) rfl
    (fun f fn hf hfn => by
      obtain rfl : f = 5 := Option.some.inj ((show Go.Proofs.Tryd.prog.funcNamed Rows.rawRotRow.func = some 5 by kernel_rfl).symm.trans hf) |>.symm
      obtain rfl : fn = Go.Proofs.Tryd.f5 := (Option.some.inj (Go.Proofs.Tryd.func5.symm.trans hfn)).symm
      exact ⟨by kernel_rfl, fun j t ht => by
        rw [Go.Proofs.Tryd.params5] at ht
        have hall : (Go.Proofs.Tryd.f5.params.toList.all fun u => !Go.Proofs.Tryd.prog.wantsStandIn u) = true := by kernel_rfl
        have hm : t ∈ Go.Proofs.Tryd.f5.params.toList := by rw [Go.Proofs.Tryd.params5]; exact List.mem_of_getElem? (by simpa using ht)
        exact (show Go.Proofs.Tryd.prog.wantsStandIn t = false by simpa using List.all_eq_true.1 hall t hm)⟩)
    (by kernel_rfl)
#print axioms rawRot_card
end Go.Proofs.YtbhnplghnhafiaaDoor
