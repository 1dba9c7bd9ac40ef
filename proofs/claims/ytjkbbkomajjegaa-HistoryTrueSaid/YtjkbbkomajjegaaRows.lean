/-
  No cell of these rows narrows 'for every input' (looked for: loops, veiled, ifaces, maps, wideKeys, modest, calm, conditions, laid).
  DERIVED. THE GIVEN ROWS OF THIS SEAT. 8 by the template 'for every input the law returns true; each argument reads behind the call as it read before'; 0 by the template 'total and deterministic' (their statements: YtjkbbkomajjegaaTotals.lean).
  GIVEN WITH THE SEED: the statements are not yours to turn. If you find one false, say at which input.
  Laid BY PROGRAM, IN A SANDBOX (cutbox-rows.mjs): the forced cells as the released guide's own fill.sh prints them over the translation b4d0fd01fa5fc992… (all of the seat's roots in one cut). By AI agents, Wed Nov 11 2026. No macro, syntax, notation, axiom, sorry.
-/
import Derived.Test.YtjkbbkomajjegaaChecked
import GoSem.Claim
import GoSem.ClaimJoined
import GoSem.ClaimMapViews
import Derived.JoinedTies
import Derived.KernelRfl
namespace Go.Proofs.Ytjkbbkomajjegaa
/- THE CELL 'sum', in the pinned program and in every row, IS THE sha256 OF THE DUMP (.gsa) THAT YtjkbbkomajjegaaProg.lean LOADS. Nothing in Lean hashes anything: it is a label: what it is worth is what the hold of that sum in a sandbox is worth. -/
noncomputable def Try.pinned : Pinned := { name := "ytjkbbkomajjegaa", sum := "b4d0fd01fa5fc992a01531f150a83db1a8a023a6f9a6482ae8469921272a6954", checked := Try.checked }
namespace Rows
def none {H : Type} : Left H := { results := [], args := [] }

/-- 'foliolaw25.HistoryTrue': WHATEVER THE INPUT: true; the input reads as it did. -/
def historyTrueSpec : ChangeSpec := { name := "historyTrue", fn := fun _ => fun
  | [d1, d2] => { results := [.lit (.bool true)], args := [d1, d2] }
  | _ => none }
def historyTrueRow : OpenClaim := { program := "ytjkbbkomajjegaa", sum := "b4d0fd01fa5fc992a01531f150a83db1a8a023a6f9a6482ae8469921272a6954", func := "folio/foliolaw25.HistoryTrue", spec := "historyTrue", unfollowed := true, recurses := true, apart := false }
def HistoryTrueSaid : Prop := historyTrueRow.holds Try.pinned (OpenSpec.ofChange historyTrueSpec)

/-- ITS FALSE NEIGHBOUR: 'it returns false'. Refute it at one input. -/
def historyTrueWrong : ChangeSpec := { name := "historyTrue", fn := fun _ => fun
  | [d1, d2] => { results := [.lit (.bool false)], args := [d1, d2] }
  | _ => none }
def HistoryTrueWrongFalsely : Prop := historyTrueRow.holds Try.pinned (OpenSpec.ofChange historyTrueWrong)

/-- 'foliolaw25.BookAll': WHATEVER THE INPUT: true; the input reads as it did. -/
def bookAllSpec : ChangeSpec := { name := "bookAll", fn := fun _ => fun
  | [d1, d2] => { results := [.lit (.bool true)], args := [d1, d2] }
  | _ => none }
def bookAllRow : OpenClaim := { program := "ytjkbbkomajjegaa", sum := "b4d0fd01fa5fc992a01531f150a83db1a8a023a6f9a6482ae8469921272a6954", func := "folio/foliolaw25.BookAll", spec := "bookAll", unfollowed := true, recurses := true, apart := false }
def BookAllSaid : Prop := bookAllRow.holds Try.pinned (OpenSpec.ofChange bookAllSpec)

/-- ITS FALSE NEIGHBOUR: 'it returns false'. Refute it at one input. -/
def bookAllWrong : ChangeSpec := { name := "bookAll", fn := fun _ => fun
  | [d1, d2] => { results := [.lit (.bool false)], args := [d1, d2] }
  | _ => none }
def BookAllWrongFalsely : Prop := bookAllRow.holds Try.pinned (OpenSpec.ofChange bookAllWrong)

/-- 'foliolaw25.BookNone': WHATEVER THE INPUT: true; the input reads as it did. -/
def bookNoneSpec : ChangeSpec := { name := "bookNone", fn := fun _ => fun
  | [] => { results := [.lit (.bool true)], args := [] }
  | _ => none }
def bookNoneRow : OpenClaim := { program := "ytjkbbkomajjegaa", sum := "b4d0fd01fa5fc992a01531f150a83db1a8a023a6f9a6482ae8469921272a6954", func := "folio/foliolaw25.BookNone", spec := "bookNone", unfollowed := true, recurses := true, apart := false }
def BookNoneSaid : Prop := bookNoneRow.holds Try.pinned (OpenSpec.ofChange bookNoneSpec)

/-- ITS FALSE NEIGHBOUR: 'it returns false'. Refute it at one input. -/
def bookNoneWrong : ChangeSpec := { name := "bookNone", fn := fun _ => fun
  | [] => { results := [.lit (.bool false)], args := [] }
  | _ => none }
def BookNoneWrongFalsely : Prop := bookNoneRow.holds Try.pinned (OpenSpec.ofChange bookNoneWrong)

/-- 'foliolaw25.HistoryShift': WHATEVER THE INPUT: true; the input reads as it did. -/
def historyShiftSpec : ChangeSpec := { name := "historyShift", fn := fun _ => fun
  | [d1, d2] => { results := [.lit (.bool true)], args := [d1, d2] }
  | _ => none }
def historyShiftRow : OpenClaim := { program := "ytjkbbkomajjegaa", sum := "b4d0fd01fa5fc992a01531f150a83db1a8a023a6f9a6482ae8469921272a6954", func := "folio/foliolaw25.HistoryShift", spec := "historyShift", unfollowed := true, recurses := true, apart := false }
def HistoryShiftSaid : Prop := historyShiftRow.holds Try.pinned (OpenSpec.ofChange historyShiftSpec)

/-- ITS FALSE NEIGHBOUR: 'it returns false'. Refute it at one input. -/
def historyShiftWrong : ChangeSpec := { name := "historyShift", fn := fun _ => fun
  | [d1, d2] => { results := [.lit (.bool false)], args := [d1, d2] }
  | _ => none }
def HistoryShiftWrongFalsely : Prop := historyShiftRow.holds Try.pinned (OpenSpec.ofChange historyShiftWrong)

/-- 'foliolaw25.HistoryNumbers': WHATEVER THE INPUT: true; the input reads as it did. -/
def historyNumbersSpec : ChangeSpec := { name := "historyNumbers", fn := fun _ => fun
  | [d] => { results := [.lit (.bool true)], args := [d] }
  | _ => none }
def historyNumbersRow : OpenClaim := { program := "ytjkbbkomajjegaa", sum := "b4d0fd01fa5fc992a01531f150a83db1a8a023a6f9a6482ae8469921272a6954", func := "folio/foliolaw25.HistoryNumbers", spec := "historyNumbers", unfollowed := true, recurses := true, apart := false }
def HistoryNumbersSaid : Prop := historyNumbersRow.holds Try.pinned (OpenSpec.ofChange historyNumbersSpec)

/-- ITS FALSE NEIGHBOUR: 'it returns false'. Refute it at one input. -/
def historyNumbersWrong : ChangeSpec := { name := "historyNumbers", fn := fun _ => fun
  | [d] => { results := [.lit (.bool false)], args := [d] }
  | _ => none }
def HistoryNumbersWrongFalsely : Prop := historyNumbersRow.holds Try.pinned (OpenSpec.ofChange historyNumbersWrong)

/-- 'foliolaw25.HistoryOld': WHATEVER THE INPUT: true; the input reads as it did. -/
def historyOldSpec : ChangeSpec := { name := "historyOld", fn := fun _ => fun
  | [d1, d2] => { results := [.lit (.bool true)], args := [d1, d2] }
  | _ => none }
def historyOldRow : OpenClaim := { program := "ytjkbbkomajjegaa", sum := "b4d0fd01fa5fc992a01531f150a83db1a8a023a6f9a6482ae8469921272a6954", func := "folio/foliolaw25.HistoryOld", spec := "historyOld", unfollowed := true, recurses := true, apart := false }
def HistoryOldSaid : Prop := historyOldRow.holds Try.pinned (OpenSpec.ofChange historyOldSpec)

/-- ITS FALSE NEIGHBOUR: 'it returns false'. Refute it at one input. -/
def historyOldWrong : ChangeSpec := { name := "historyOld", fn := fun _ => fun
  | [d1, d2] => { results := [.lit (.bool false)], args := [d1, d2] }
  | _ => none }
def HistoryOldWrongFalsely : Prop := historyOldRow.holds Try.pinned (OpenSpec.ofChange historyOldWrong)

/-- 'foliolaw25.HistoryOpen': WHATEVER THE INPUT: true; the input reads as it did. -/
def historyOpenSpec : ChangeSpec := { name := "historyOpen", fn := fun _ => fun
  | [d1, d2, d3] => { results := [.lit (.bool true)], args := [d1, d2, d3] }
  | _ => none }
def historyOpenRow : OpenClaim := { program := "ytjkbbkomajjegaa", sum := "b4d0fd01fa5fc992a01531f150a83db1a8a023a6f9a6482ae8469921272a6954", func := "folio/foliolaw25.HistoryOpen", spec := "historyOpen", unfollowed := true, recurses := true, apart := false }
def HistoryOpenSaid : Prop := historyOpenRow.holds Try.pinned (OpenSpec.ofChange historyOpenSpec)

/-- ITS FALSE NEIGHBOUR: 'it returns false'. Refute it at one input. -/
def historyOpenWrong : ChangeSpec := { name := "historyOpen", fn := fun _ => fun
  | [d1, d2, d3] => { results := [.lit (.bool false)], args := [d1, d2, d3] }
  | _ => none }
def HistoryOpenWrongFalsely : Prop := historyOpenRow.holds Try.pinned (OpenSpec.ofChange historyOpenWrong)

/-- 'foliolaw25.HistoryFold': WHATEVER THE INPUT: true; the input reads as it did. -/
def historyFoldSpec : ChangeSpec := { name := "historyFold", fn := fun _ => fun
  | [d1, d2] => { results := [.lit (.bool true)], args := [d1, d2] }
  | _ => none }
def historyFoldRow : OpenClaim := { program := "ytjkbbkomajjegaa", sum := "b4d0fd01fa5fc992a01531f150a83db1a8a023a6f9a6482ae8469921272a6954", func := "folio/foliolaw25.HistoryFold", spec := "historyFold", unfollowed := true, recurses := true, apart := false }
def HistoryFoldSaid : Prop := historyFoldRow.holds Try.pinned (OpenSpec.ofChange historyFoldSpec)

/-- ITS FALSE NEIGHBOUR: 'it returns false'. Refute it at one input. -/
def historyFoldWrong : ChangeSpec := { name := "historyFold", fn := fun _ => fun
  | [d1, d2] => { results := [.lit (.bool false)], args := [d1, d2] }
  | _ => none }
def HistoryFoldWrongFalsely : Prop := historyFoldRow.holds Try.pinned (OpenSpec.ofChange historyFoldWrong)

/- THE SECOND FORM. 'bulk': how many values and letters a reading holds, each counted each time it is reached (what is shared counts as often as it is met; a slice's spare places count too). A statement '..UptoSaid' is the law's where the arguments, and the package variables that the reading takes, are together of bulk at most 1048576: NARROWER than '..Said'. Prove '..Said' where nothing that the law and all that it calls make is longer than what came in: it says more and counts as full. Else prove '..UptoSaid'. A law counts once. -/
mutual
def uptoBulk {H : Type} : DataW H → Nat
  | .lit (.string bytes) => bytes.length + 1
  | .lit _ => 1
  | .nil => 1
  | .ptr d => uptoBulk d + 1
  | .slice elems spare => uptoBulkAll elems + uptoBulkAll spare + 1
  | .agg parts => uptoBulkAll parts + 1
  | .iface _ d => uptoBulk d + 1
  | .map entries => uptoBulkEntries entries + 1
  | .held _ => 1
def uptoBulkAll {H : Type} : List (DataW H) → Nat
  | [] => 0
  | d :: r => uptoBulk d + uptoBulkAll r
def uptoBulkEntries {H : Type} : List (Lit × DataW H) → Nat
  | [] => 0
  | x :: r => uptoBulkEntry x + uptoBulkEntries r
def uptoBulkEntry {H : Type} : Lit × DataW H → Nat
  | (.string bytes, d) => bytes.length + uptoBulk d + 1
  | (_, d) => uptoBulk d + 1
 end
def uptoSmall : (H : Type) → List (DataW H) → Bool := fun _ ds => decide (uptoBulkAll ds ≤ 1048576)
def OpenSpec.upto (s : _root_.Go.ChangeSpec) : _root_.Go.OpenSpec := { _root_.Go.OpenSpec.ofChange s with cond := some uptoSmall }

/-- 'foliolaw25.HistoryTrue', WHERE WHAT IT READS IS OF BULK AT MOST 1048576: true; the input reads as it did. -/
def historyTrueUptoRow : OpenClaim := { program := "ytjkbbkomajjegaa", sum := "b4d0fd01fa5fc992a01531f150a83db1a8a023a6f9a6482ae8469921272a6954", func := "folio/foliolaw25.HistoryTrue", spec := "historyTrue", unfollowed := true, recurses := true, apart := false, narrowed := true }
def HistoryTrueUptoSaid : Prop := historyTrueUptoRow.holds Try.pinned (OpenSpec.upto historyTrueSpec)

/-- 'foliolaw25.BookAll', WHERE WHAT IT READS IS OF BULK AT MOST 1048576: true; the input reads as it did. -/
def bookAllUptoRow : OpenClaim := { program := "ytjkbbkomajjegaa", sum := "b4d0fd01fa5fc992a01531f150a83db1a8a023a6f9a6482ae8469921272a6954", func := "folio/foliolaw25.BookAll", spec := "bookAll", unfollowed := true, recurses := true, apart := false, narrowed := true }
def BookAllUptoSaid : Prop := bookAllUptoRow.holds Try.pinned (OpenSpec.upto bookAllSpec)

/-- 'foliolaw25.BookNone', WHERE WHAT IT READS IS OF BULK AT MOST 1048576: true; the input reads as it did. -/
def bookNoneUptoRow : OpenClaim := { program := "ytjkbbkomajjegaa", sum := "b4d0fd01fa5fc992a01531f150a83db1a8a023a6f9a6482ae8469921272a6954", func := "folio/foliolaw25.BookNone", spec := "bookNone", unfollowed := true, recurses := true, apart := false, narrowed := true }
def BookNoneUptoSaid : Prop := bookNoneUptoRow.holds Try.pinned (OpenSpec.upto bookNoneSpec)

/-- 'foliolaw25.HistoryShift', WHERE WHAT IT READS IS OF BULK AT MOST 1048576: true; the input reads as it did. -/
def historyShiftUptoRow : OpenClaim := { program := "ytjkbbkomajjegaa", sum := "b4d0fd01fa5fc992a01531f150a83db1a8a023a6f9a6482ae8469921272a6954", func := "folio/foliolaw25.HistoryShift", spec := "historyShift", unfollowed := true, recurses := true, apart := false, narrowed := true }
def HistoryShiftUptoSaid : Prop := historyShiftUptoRow.holds Try.pinned (OpenSpec.upto historyShiftSpec)

/-- 'foliolaw25.HistoryNumbers', WHERE WHAT IT READS IS OF BULK AT MOST 1048576: true; the input reads as it did. -/
def historyNumbersUptoRow : OpenClaim := { program := "ytjkbbkomajjegaa", sum := "b4d0fd01fa5fc992a01531f150a83db1a8a023a6f9a6482ae8469921272a6954", func := "folio/foliolaw25.HistoryNumbers", spec := "historyNumbers", unfollowed := true, recurses := true, apart := false, narrowed := true }
def HistoryNumbersUptoSaid : Prop := historyNumbersUptoRow.holds Try.pinned (OpenSpec.upto historyNumbersSpec)

/-- 'foliolaw25.HistoryOld', WHERE WHAT IT READS IS OF BULK AT MOST 1048576: true; the input reads as it did. -/
def historyOldUptoRow : OpenClaim := { program := "ytjkbbkomajjegaa", sum := "b4d0fd01fa5fc992a01531f150a83db1a8a023a6f9a6482ae8469921272a6954", func := "folio/foliolaw25.HistoryOld", spec := "historyOld", unfollowed := true, recurses := true, apart := false, narrowed := true }
def HistoryOldUptoSaid : Prop := historyOldUptoRow.holds Try.pinned (OpenSpec.upto historyOldSpec)

/-- 'foliolaw25.HistoryOpen', WHERE WHAT IT READS IS OF BULK AT MOST 1048576: true; the input reads as it did. -/
def historyOpenUptoRow : OpenClaim := { program := "ytjkbbkomajjegaa", sum := "b4d0fd01fa5fc992a01531f150a83db1a8a023a6f9a6482ae8469921272a6954", func := "folio/foliolaw25.HistoryOpen", spec := "historyOpen", unfollowed := true, recurses := true, apart := false, narrowed := true }
def HistoryOpenUptoSaid : Prop := historyOpenUptoRow.holds Try.pinned (OpenSpec.upto historyOpenSpec)

/-- 'foliolaw25.HistoryFold', WHERE WHAT IT READS IS OF BULK AT MOST 1048576: true; the input reads as it did. -/
def historyFoldUptoRow : OpenClaim := { program := "ytjkbbkomajjegaa", sum := "b4d0fd01fa5fc992a01531f150a83db1a8a023a6f9a6482ae8469921272a6954", func := "folio/foliolaw25.HistoryFold", spec := "historyFold", unfollowed := true, recurses := true, apart := false, narrowed := true }
def HistoryFoldUptoSaid : Prop := historyFoldUptoRow.holds Try.pinned (OpenSpec.upto historyFoldSpec)

end Rows
end Go.Proofs.Ytjkbbkomajjegaa
