/-
  No cell of these rows narrows 'for every input' (looked for: loops, veiled, ifaces, maps, wideKeys, modest, calm, conditions, laid).
  DERIVED. THE GIVEN ROWS OF THIS SEAT. 11 by the template 'for every input the law returns true; each argument reads behind the call as it read before'; 0 by the template 'total and deterministic' (their statements: YtdmekobddchdlaaTotals.lean).
  GIVEN WITH THE SEED: the statements are not yours to turn. If you find one false, say at which input.
  Laid BY PROGRAM, IN A SANDBOX (cutbox-rows.mjs): the forced cells as the released guide's own fill.sh prints them over the translation c70749fd68ba2b3a… (all of the seat's roots in one cut). By AI agents, Wed Nov 11 2026. No macro, syntax, notation, axiom, sorry.
-/
import Derived.Test.YtdmekobddchdlaaChecked
import GoSem.Claim
import GoSem.ClaimJoined
import GoSem.ClaimMapViews
import Derived.JoinedTies
import Derived.KernelRfl
namespace Go.Proofs.Ytdmekobddchdlaa
/- THE CELL 'sum', in the pinned program and in every row, IS THE sha256 OF THE DUMP (.gsa) THAT YtdmekobddchdlaaProg.lean LOADS. Nothing in Lean hashes anything: it is a label: what it is worth is what the hold of that sum in a sandbox is worth. -/
noncomputable def Try.pinned : Pinned := { name := "ytdmekobddchdlaa", sum := "c70749fd68ba2b3a0f458a3dc0d2af688b0a6b2b792114a9bc2ee9b85de29354", checked := Try.checked }
namespace Rows
def none {H : Type} : Left H := { results := [], args := [] }

/-- 'foliolaw17.ParityRepair': WHATEVER THE INPUT: true; the input reads as it did. -/
def parityRepairSpec : ChangeSpec := { name := "parityRepair", fn := fun _ => fun
  | [d1, d2, d3] => { results := [.lit (.bool true)], args := [d1, d2, d3] }
  | _ => none }
def parityRepairRow : OpenClaim := { program := "ytdmekobddchdlaa", sum := "c70749fd68ba2b3a0f458a3dc0d2af688b0a6b2b792114a9bc2ee9b85de29354", func := "folio/foliolaw17.ParityRepair", spec := "parityRepair", apart := false }
def ParityRepairSaid : Prop := parityRepairRow.holds Try.pinned (OpenSpec.ofChange parityRepairSpec)

/-- ITS FALSE NEIGHBOUR: 'it returns false'. Refute it at one input. -/
def parityRepairWrong : ChangeSpec := { name := "parityRepair", fn := fun _ => fun
  | [d1, d2, d3] => { results := [.lit (.bool false)], args := [d1, d2, d3] }
  | _ => none }
def ParityRepairWrongFalsely : Prop := parityRepairRow.holds Try.pinned (OpenSpec.ofChange parityRepairWrong)

/-- 'foliolaw17.ParityLost': WHATEVER THE INPUT: true; the input reads as it did. -/
def parityLostSpec : ChangeSpec := { name := "parityLost", fn := fun _ => fun
  | [d1, d2, d3] => { results := [.lit (.bool true)], args := [d1, d2, d3] }
  | _ => none }
def parityLostRow : OpenClaim := { program := "ytdmekobddchdlaa", sum := "c70749fd68ba2b3a0f458a3dc0d2af688b0a6b2b792114a9bc2ee9b85de29354", func := "folio/foliolaw17.ParityLost", spec := "parityLost", apart := false }
def ParityLostSaid : Prop := parityLostRow.holds Try.pinned (OpenSpec.ofChange parityLostSpec)

/-- ITS FALSE NEIGHBOUR: 'it returns false'. Refute it at one input. -/
def parityLostWrong : ChangeSpec := { name := "parityLost", fn := fun _ => fun
  | [d1, d2, d3] => { results := [.lit (.bool false)], args := [d1, d2, d3] }
  | _ => none }
def ParityLostWrongFalsely : Prop := parityLostRow.holds Try.pinned (OpenSpec.ofChange parityLostWrong)

/-- 'foliolaw17.ParityTurn': WHATEVER THE INPUT: true; the input reads as it did. -/
def parityTurnSpec : ChangeSpec := { name := "parityTurn", fn := fun _ => fun
  | [d1, d2] => { results := [.lit (.bool true)], args := [d1, d2] }
  | _ => none }
def parityTurnRow : OpenClaim := { program := "ytdmekobddchdlaa", sum := "c70749fd68ba2b3a0f458a3dc0d2af688b0a6b2b792114a9bc2ee9b85de29354", func := "folio/foliolaw17.ParityTurn", spec := "parityTurn", apart := false }
def ParityTurnSaid : Prop := parityTurnRow.holds Try.pinned (OpenSpec.ofChange parityTurnSpec)

/-- ITS FALSE NEIGHBOUR: 'it returns false'. Refute it at one input. -/
def parityTurnWrong : ChangeSpec := { name := "parityTurn", fn := fun _ => fun
  | [d1, d2] => { results := [.lit (.bool false)], args := [d1, d2] }
  | _ => none }
def ParityTurnWrongFalsely : Prop := parityTurnRow.holds Try.pinned (OpenSpec.ofChange parityTurnWrong)

/-- 'foliolaw17.ParityTwice': WHATEVER THE INPUT: true; the input reads as it did. -/
def parityTwiceSpec : ChangeSpec := { name := "parityTwice", fn := fun _ => fun
  | [d] => { results := [.lit (.bool true)], args := [d] }
  | _ => none }
def parityTwiceRow : OpenClaim := { program := "ytdmekobddchdlaa", sum := "c70749fd68ba2b3a0f458a3dc0d2af688b0a6b2b792114a9bc2ee9b85de29354", func := "folio/foliolaw17.ParityTwice", spec := "parityTwice", apart := false }
def ParityTwiceSaid : Prop := parityTwiceRow.holds Try.pinned (OpenSpec.ofChange parityTwiceSpec)

/-- ITS FALSE NEIGHBOUR: 'it returns false'. Refute it at one input. -/
def parityTwiceWrong : ChangeSpec := { name := "parityTwice", fn := fun _ => fun
  | [d] => { results := [.lit (.bool false)], args := [d] }
  | _ => none }
def ParityTwiceWrongFalsely : Prop := parityTwiceRow.holds Try.pinned (OpenSpec.ofChange parityTwiceWrong)

/-- 'foliolaw17.ParitySectors': WHATEVER THE INPUT: true; the input reads as it did. -/
def paritySectorsSpec : ChangeSpec := { name := "paritySectors", fn := fun _ => fun
  | [d1, d2, d3] => { results := [.lit (.bool true)], args := [d1, d2, d3] }
  | _ => none }
def paritySectorsRow : OpenClaim := { program := "ytdmekobddchdlaa", sum := "c70749fd68ba2b3a0f458a3dc0d2af688b0a6b2b792114a9bc2ee9b85de29354", func := "folio/foliolaw17.ParitySectors", spec := "paritySectors", apart := false }
def ParitySectorsSaid : Prop := paritySectorsRow.holds Try.pinned (OpenSpec.ofChange paritySectorsSpec)

/-- ITS FALSE NEIGHBOUR: 'it returns false'. Refute it at one input. -/
def paritySectorsWrong : ChangeSpec := { name := "paritySectors", fn := fun _ => fun
  | [d1, d2, d3] => { results := [.lit (.bool false)], args := [d1, d2, d3] }
  | _ => none }
def ParitySectorsWrongFalsely : Prop := paritySectorsRow.holds Try.pinned (OpenSpec.ofChange paritySectorsWrong)

/-- 'foliolaw17.ParityNone': WHATEVER THE INPUT: true; the input reads as it did. -/
def parityNoneSpec : ChangeSpec := { name := "parityNone", fn := fun _ => fun
  | [] => { results := [.lit (.bool true)], args := [] }
  | _ => none }
def parityNoneRow : OpenClaim := { program := "ytdmekobddchdlaa", sum := "c70749fd68ba2b3a0f458a3dc0d2af688b0a6b2b792114a9bc2ee9b85de29354", func := "folio/foliolaw17.ParityNone", spec := "parityNone", apart := false }
def ParityNoneSaid : Prop := parityNoneRow.holds Try.pinned (OpenSpec.ofChange parityNoneSpec)

/-- ITS FALSE NEIGHBOUR: 'it returns false'. Refute it at one input. -/
def parityNoneWrong : ChangeSpec := { name := "parityNone", fn := fun _ => fun
  | [] => { results := [.lit (.bool false)], args := [] }
  | _ => none }
def ParityNoneWrongFalsely : Prop := parityNoneRow.holds Try.pinned (OpenSpec.ofChange parityNoneWrong)

/-- 'foliolaw20.IndexOrder': WHATEVER THE INPUT: true; the input reads as it did. -/
def indexOrderSpec : ChangeSpec := { name := "indexOrder", fn := fun _ => fun
  | [d1, d2] => { results := [.lit (.bool true)], args := [d1, d2] }
  | _ => none }
def indexOrderRow : OpenClaim := { program := "ytdmekobddchdlaa", sum := "c70749fd68ba2b3a0f458a3dc0d2af688b0a6b2b792114a9bc2ee9b85de29354", func := "folio/foliolaw20.IndexOrder", spec := "indexOrder", recurses := true, apart := false }
def IndexOrderSaid : Prop := indexOrderRow.holds Try.pinned (OpenSpec.ofChange indexOrderSpec)

/-- ITS FALSE NEIGHBOUR: 'it returns false'. Refute it at one input. -/
def indexOrderWrong : ChangeSpec := { name := "indexOrder", fn := fun _ => fun
  | [d1, d2] => { results := [.lit (.bool false)], args := [d1, d2] }
  | _ => none }
def IndexOrderWrongFalsely : Prop := indexOrderRow.holds Try.pinned (OpenSpec.ofChange indexOrderWrong)

/-- 'foliolaw20.IndexMany': WHATEVER THE INPUT: true; the input reads as it did. -/
def indexManySpec : ChangeSpec := { name := "indexMany", fn := fun _ => fun
  | [d1, d2] => { results := [.lit (.bool true)], args := [d1, d2] }
  | _ => none }
def indexManyRow : OpenClaim := { program := "ytdmekobddchdlaa", sum := "c70749fd68ba2b3a0f458a3dc0d2af688b0a6b2b792114a9bc2ee9b85de29354", func := "folio/foliolaw20.IndexMany", spec := "indexMany", recurses := true, apart := false }
def IndexManySaid : Prop := indexManyRow.holds Try.pinned (OpenSpec.ofChange indexManySpec)

/-- ITS FALSE NEIGHBOUR: 'it returns false'. Refute it at one input. -/
def indexManyWrong : ChangeSpec := { name := "indexMany", fn := fun _ => fun
  | [d1, d2] => { results := [.lit (.bool false)], args := [d1, d2] }
  | _ => none }
def IndexManyWrongFalsely : Prop := indexManyRow.holds Try.pinned (OpenSpec.ofChange indexManyWrong)

/-- 'foliolaw20.IndexMoves': WHATEVER THE INPUT: true; the input reads as it did. -/
def indexMovesSpec : ChangeSpec := { name := "indexMoves", fn := fun _ => fun
  | [d] => { results := [.lit (.bool true)], args := [d] }
  | _ => none }
def indexMovesRow : OpenClaim := { program := "ytdmekobddchdlaa", sum := "c70749fd68ba2b3a0f458a3dc0d2af688b0a6b2b792114a9bc2ee9b85de29354", func := "folio/foliolaw20.IndexMoves", spec := "indexMoves", recurses := true, apart := false }
def IndexMovesSaid : Prop := indexMovesRow.holds Try.pinned (OpenSpec.ofChange indexMovesSpec)

/-- ITS FALSE NEIGHBOUR: 'it returns false'. Refute it at one input. -/
def indexMovesWrong : ChangeSpec := { name := "indexMoves", fn := fun _ => fun
  | [d] => { results := [.lit (.bool false)], args := [d] }
  | _ => none }
def IndexMovesWrongFalsely : Prop := indexMovesRow.holds Try.pinned (OpenSpec.ofChange indexMovesWrong)

/-- 'foliolaw20.IndexHolds': WHATEVER THE INPUT: true; the input reads as it did. -/
def indexHoldsSpec : ChangeSpec := { name := "indexHolds", fn := fun _ => fun
  | [d1, d2, d3] => { results := [.lit (.bool true)], args := [d1, d2, d3] }
  | _ => none }
def indexHoldsRow : OpenClaim := { program := "ytdmekobddchdlaa", sum := "c70749fd68ba2b3a0f458a3dc0d2af688b0a6b2b792114a9bc2ee9b85de29354", func := "folio/foliolaw20.IndexHolds", spec := "indexHolds", recurses := true, apart := false }
def IndexHoldsSaid : Prop := indexHoldsRow.holds Try.pinned (OpenSpec.ofChange indexHoldsSpec)

/-- ITS FALSE NEIGHBOUR: 'it returns false'. Refute it at one input. -/
def indexHoldsWrong : ChangeSpec := { name := "indexHolds", fn := fun _ => fun
  | [d1, d2, d3] => { results := [.lit (.bool false)], args := [d1, d2, d3] }
  | _ => none }
def IndexHoldsWrongFalsely : Prop := indexHoldsRow.holds Try.pinned (OpenSpec.ofChange indexHoldsWrong)

/-- 'foliolaw20.IndexNone': WHATEVER THE INPUT: true; the input reads as it did. -/
def indexNoneSpec : ChangeSpec := { name := "indexNone", fn := fun _ => fun
  | [] => { results := [.lit (.bool true)], args := [] }
  | _ => none }
def indexNoneRow : OpenClaim := { program := "ytdmekobddchdlaa", sum := "c70749fd68ba2b3a0f458a3dc0d2af688b0a6b2b792114a9bc2ee9b85de29354", func := "folio/foliolaw20.IndexNone", spec := "indexNone", recurses := true, apart := false }
def IndexNoneSaid : Prop := indexNoneRow.holds Try.pinned (OpenSpec.ofChange indexNoneSpec)

/-- ITS FALSE NEIGHBOUR: 'it returns false'. Refute it at one input. -/
def indexNoneWrong : ChangeSpec := { name := "indexNone", fn := fun _ => fun
  | [] => { results := [.lit (.bool false)], args := [] }
  | _ => none }
def IndexNoneWrongFalsely : Prop := indexNoneRow.holds Try.pinned (OpenSpec.ofChange indexNoneWrong)

/- THE SECOND FORM. 'bulk': how many values and letters a reading holds, each counted each time it is reached (what is shared counts as often as it is met; a slice's spare places count too). A statement '..UptoSaid' is the law's where the arguments, and the package variables that the reading takes, are together of bulk at most 1048576: NARROWER than '..Said'. Prove '..Said' where nothing that the law and all that it calls make is longer than what came in: it says more and counts as full. Else prove '..UptoSaid'. A law counts once. -/
mutual
def uptoBulk {H : Type} : DataW H → Nat
  | .lit (.string bytes) => bytes.length + 1
  | .lit _ => 1
  | .nil => 1
  | .ptr d => uptoBulk d + 1
  | .slice elems spare => uptoBulkAll elems + uptoBulkAll spare + 1
  | .agg parts => uptoBulkAll parts + 1
  | .iface _ d => uptoBulk d + 1
  | .map entries => uptoBulkEntries entries + 1
  | .held _ => 1
def uptoBulkAll {H : Type} : List (DataW H) → Nat
  | [] => 0
  | d :: r => uptoBulk d + uptoBulkAll r
def uptoBulkEntries {H : Type} : List (Lit × DataW H) → Nat
  | [] => 0
  | x :: r => uptoBulkEntry x + uptoBulkEntries r
def uptoBulkEntry {H : Type} : Lit × DataW H → Nat
  | (.string bytes, d) => bytes.length + uptoBulk d + 1
  | (_, d) => uptoBulk d + 1
 end
def uptoSmall : (H : Type) → List (DataW H) → Bool := fun _ ds => decide (uptoBulkAll ds ≤ 1048576)
def OpenSpec.upto (s : _root_.Go.ChangeSpec) : _root_.Go.OpenSpec := { _root_.Go.OpenSpec.ofChange s with cond := some uptoSmall }

/-- 'foliolaw17.ParityRepair', WHERE WHAT IT READS IS OF BULK AT MOST 1048576: true; the input reads as it did. -/
def parityRepairUptoRow : OpenClaim := { program := "ytdmekobddchdlaa", sum := "c70749fd68ba2b3a0f458a3dc0d2af688b0a6b2b792114a9bc2ee9b85de29354", func := "folio/foliolaw17.ParityRepair", spec := "parityRepair", apart := false, narrowed := true }
def ParityRepairUptoSaid : Prop := parityRepairUptoRow.holds Try.pinned (OpenSpec.upto parityRepairSpec)

/-- 'foliolaw17.ParityLost', WHERE WHAT IT READS IS OF BULK AT MOST 1048576: true; the input reads as it did. -/
def parityLostUptoRow : OpenClaim := { program := "ytdmekobddchdlaa", sum := "c70749fd68ba2b3a0f458a3dc0d2af688b0a6b2b792114a9bc2ee9b85de29354", func := "folio/foliolaw17.ParityLost", spec := "parityLost", apart := false, narrowed := true }
def ParityLostUptoSaid : Prop := parityLostUptoRow.holds Try.pinned (OpenSpec.upto parityLostSpec)

/-- 'foliolaw17.ParityTurn', WHERE WHAT IT READS IS OF BULK AT MOST 1048576: true; the input reads as it did. -/
def parityTurnUptoRow : OpenClaim := { program := "ytdmekobddchdlaa", sum := "c70749fd68ba2b3a0f458a3dc0d2af688b0a6b2b792114a9bc2ee9b85de29354", func := "folio/foliolaw17.ParityTurn", spec := "parityTurn", apart := false, narrowed := true }
def ParityTurnUptoSaid : Prop := parityTurnUptoRow.holds Try.pinned (OpenSpec.upto parityTurnSpec)

/-- 'foliolaw17.ParityTwice', WHERE WHAT IT READS IS OF BULK AT MOST 1048576: true; the input reads as it did. -/
def parityTwiceUptoRow : OpenClaim := { program := "ytdmekobddchdlaa", sum := "c70749fd68ba2b3a0f458a3dc0d2af688b0a6b2b792114a9bc2ee9b85de29354", func := "folio/foliolaw17.ParityTwice", spec := "parityTwice", apart := false, narrowed := true }
def ParityTwiceUptoSaid : Prop := parityTwiceUptoRow.holds Try.pinned (OpenSpec.upto parityTwiceSpec)

/-- 'foliolaw17.ParitySectors', WHERE WHAT IT READS IS OF BULK AT MOST 1048576: true; the input reads as it did. -/
def paritySectorsUptoRow : OpenClaim := { program := "ytdmekobddchdlaa", sum := "c70749fd68ba2b3a0f458a3dc0d2af688b0a6b2b792114a9bc2ee9b85de29354", func := "folio/foliolaw17.ParitySectors", spec := "paritySectors", apart := false, narrowed := true }
def ParitySectorsUptoSaid : Prop := paritySectorsUptoRow.holds Try.pinned (OpenSpec.upto paritySectorsSpec)

/-- 'foliolaw17.ParityNone', WHERE WHAT IT READS IS OF BULK AT MOST 1048576: true; the input reads as it did. -/
def parityNoneUptoRow : OpenClaim := { program := "ytdmekobddchdlaa", sum := "c70749fd68ba2b3a0f458a3dc0d2af688b0a6b2b792114a9bc2ee9b85de29354", func := "folio/foliolaw17.ParityNone", spec := "parityNone", apart := false, narrowed := true }
def ParityNoneUptoSaid : Prop := parityNoneUptoRow.holds Try.pinned (OpenSpec.upto parityNoneSpec)

/-- 'foliolaw20.IndexOrder', WHERE WHAT IT READS IS OF BULK AT MOST 1048576: true; the input reads as it did. -/
def indexOrderUptoRow : OpenClaim := { program := "ytdmekobddchdlaa", sum := "c70749fd68ba2b3a0f458a3dc0d2af688b0a6b2b792114a9bc2ee9b85de29354", func := "folio/foliolaw20.IndexOrder", spec := "indexOrder", recurses := true, apart := false, narrowed := true }
def IndexOrderUptoSaid : Prop := indexOrderUptoRow.holds Try.pinned (OpenSpec.upto indexOrderSpec)

/-- 'foliolaw20.IndexMany', WHERE WHAT IT READS IS OF BULK AT MOST 1048576: true; the input reads as it did. -/
def indexManyUptoRow : OpenClaim := { program := "ytdmekobddchdlaa", sum := "c70749fd68ba2b3a0f458a3dc0d2af688b0a6b2b792114a9bc2ee9b85de29354", func := "folio/foliolaw20.IndexMany", spec := "indexMany", recurses := true, apart := false, narrowed := true }
def IndexManyUptoSaid : Prop := indexManyUptoRow.holds Try.pinned (OpenSpec.upto indexManySpec)

/-- 'foliolaw20.IndexMoves', WHERE WHAT IT READS IS OF BULK AT MOST 1048576: true; the input reads as it did. -/
def indexMovesUptoRow : OpenClaim := { program := "ytdmekobddchdlaa", sum := "c70749fd68ba2b3a0f458a3dc0d2af688b0a6b2b792114a9bc2ee9b85de29354", func := "folio/foliolaw20.IndexMoves", spec := "indexMoves", recurses := true, apart := false, narrowed := true }
def IndexMovesUptoSaid : Prop := indexMovesUptoRow.holds Try.pinned (OpenSpec.upto indexMovesSpec)

/-- 'foliolaw20.IndexHolds', WHERE WHAT IT READS IS OF BULK AT MOST 1048576: true; the input reads as it did. -/
def indexHoldsUptoRow : OpenClaim := { program := "ytdmekobddchdlaa", sum := "c70749fd68ba2b3a0f458a3dc0d2af688b0a6b2b792114a9bc2ee9b85de29354", func := "folio/foliolaw20.IndexHolds", spec := "indexHolds", recurses := true, apart := false, narrowed := true }
def IndexHoldsUptoSaid : Prop := indexHoldsUptoRow.holds Try.pinned (OpenSpec.upto indexHoldsSpec)

/-- 'foliolaw20.IndexNone', WHERE WHAT IT READS IS OF BULK AT MOST 1048576: true; the input reads as it did. -/
def indexNoneUptoRow : OpenClaim := { program := "ytdmekobddchdlaa", sum := "c70749fd68ba2b3a0f458a3dc0d2af688b0a6b2b792114a9bc2ee9b85de29354", func := "folio/foliolaw20.IndexNone", spec := "indexNone", recurses := true, apart := false, narrowed := true }
def IndexNoneUptoSaid : Prop := indexNoneUptoRow.holds Try.pinned (OpenSpec.upto indexNoneSpec)

end Rows
end Go.Proofs.Ytdmekobddchdlaa
