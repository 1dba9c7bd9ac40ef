/-
  No cell of these rows narrows 'for every input' (looked for: loops, veiled, ifaces, maps, wideKeys, modest, calm, conditions, laid).
  DERIVED. THE GIVEN ROWS OF THIS SEAT. 6 by the template 'for every input the law returns true; each argument reads behind the call as it read before'; 0 by the template 'total and deterministic' (their statements: YtbhnplghnhafiaaTotals.lean).
  GIVEN WITH THE SEED: the statements are not yours to turn. If you find one false, say at which input.
  Laid BY PROGRAM, IN A SANDBOX (cutbox-rows.mjs): the forced cells as the released guide's own fill.sh prints them over the translation 95ec5ec44ca99dee… (all of the seat's roots in one cut). By AI agents, Wed Nov 11 2026. No macro, syntax, notation, axiom, sorry.
-/
import Derived.Test.YtbhnplghnhafiaaChecked
import GoSem.Claim
import GoSem.ClaimJoined
import GoSem.ClaimMapViews
import Derived.JoinedTies
import Derived.KernelRfl
namespace Go.Proofs.Ytbhnplghnhafiaa
/- THE CELL 'sum', in the pinned program and in every row, IS THE sha256 OF THE DUMP (.gsa) THAT YtbhnplghnhafiaaProg.lean LOADS. Nothing in Lean hashes anything: it is a label: what it is worth is what the hold of that sum in a sandbox is worth. -/
noncomputable def Try.pinned : Pinned := { name := "ytbhnplghnhafiaa", sum := "95ec5ec44ca99dee09484eee1a8dcf89d0863001c721d1fcfebcb560da814387", checked := Try.checked }
namespace Rows
def none {H : Type} : Left H := { results := [], args := [] }

/-- 'foliolaw13.FilesFail': WHATEVER THE INPUT: true; the input reads as it did. -/
def filesFailSpec : ChangeSpec := { name := "filesFail", fn := fun _ => fun
  | [d1, d2] => { results := [.lit (.bool true)], args := [d1, d2] }
  | _ => none }
def filesFailRow : OpenClaim := { program := "ytbhnplghnhafiaa", sum := "95ec5ec44ca99dee09484eee1a8dcf89d0863001c721d1fcfebcb560da814387", func := "folio/foliolaw13.FilesFail", spec := "filesFail", inPlace := ["maps.clone"], unfollowed := true, recurses := true, apart := false }
def FilesFailSaid : Prop := filesFailRow.holds Try.pinned (OpenSpec.ofChange filesFailSpec)

/-- ITS FALSE NEIGHBOUR: 'it returns false'. Refute it at one input. -/
def filesFailWrong : ChangeSpec := { name := "filesFail", fn := fun _ => fun
  | [d1, d2] => { results := [.lit (.bool false)], args := [d1, d2] }
  | _ => none }
def FilesFailWrongFalsely : Prop := filesFailRow.holds Try.pinned (OpenSpec.ofChange filesFailWrong)

/-- 'foliolaw13.FilesRot': WHATEVER THE INPUT: true; the input reads as it did. -/
def filesRotSpec : ChangeSpec := { name := "filesRot", fn := fun _ => fun
  | [d1, d2, d3] => { results := [.lit (.bool true)], args := [d1, d2, d3] }
  | _ => none }
def filesRotRow : OpenClaim := { program := "ytbhnplghnhafiaa", sum := "95ec5ec44ca99dee09484eee1a8dcf89d0863001c721d1fcfebcb560da814387", func := "folio/foliolaw13.FilesRot", spec := "filesRot", inPlace := ["maps.clone"], unfollowed := true, recurses := true, apart := false }
def FilesRotSaid : Prop := filesRotRow.holds Try.pinned (OpenSpec.ofChange filesRotSpec)

/-- ITS FALSE NEIGHBOUR: 'it returns false'. Refute it at one input. -/
def filesRotWrong : ChangeSpec := { name := "filesRot", fn := fun _ => fun
  | [d1, d2, d3] => { results := [.lit (.bool false)], args := [d1, d2, d3] }
  | _ => none }
def FilesRotWrongFalsely : Prop := filesRotRow.holds Try.pinned (OpenSpec.ofChange filesRotWrong)

/-- 'foliolaw13.FilesTail': WHATEVER THE INPUT: true; the input reads as it did. -/
def filesTailSpec : ChangeSpec := { name := "filesTail", fn := fun _ => fun
  | [d1, d2, d3] => { results := [.lit (.bool true)], args := [d1, d2, d3] }
  | _ => none }
def filesTailRow : OpenClaim := { program := "ytbhnplghnhafiaa", sum := "95ec5ec44ca99dee09484eee1a8dcf89d0863001c721d1fcfebcb560da814387", func := "folio/foliolaw13.FilesTail", spec := "filesTail", inPlace := ["maps.clone"], unfollowed := true, recurses := true, apart := false }
def FilesTailSaid : Prop := filesTailRow.holds Try.pinned (OpenSpec.ofChange filesTailSpec)

/-- ITS FALSE NEIGHBOUR: 'it returns false'. Refute it at one input. -/
def filesTailWrong : ChangeSpec := { name := "filesTail", fn := fun _ => fun
  | [d1, d2, d3] => { results := [.lit (.bool false)], args := [d1, d2, d3] }
  | _ => none }
def FilesTailWrongFalsely : Prop := filesTailRow.holds Try.pinned (OpenSpec.ofChange filesTailWrong)

/-- 'foliolaw13.FilesSwitch': WHATEVER THE INPUT: true; the input reads as it did. -/
def filesSwitchSpec : ChangeSpec := { name := "filesSwitch", fn := fun _ => fun
  | [d1, d2] => { results := [.lit (.bool true)], args := [d1, d2] }
  | _ => none }
def filesSwitchRow : OpenClaim := { program := "ytbhnplghnhafiaa", sum := "95ec5ec44ca99dee09484eee1a8dcf89d0863001c721d1fcfebcb560da814387", func := "folio/foliolaw13.FilesSwitch", spec := "filesSwitch", inPlace := ["maps.clone"], unfollowed := true, recurses := true, apart := false }
def FilesSwitchSaid : Prop := filesSwitchRow.holds Try.pinned (OpenSpec.ofChange filesSwitchSpec)

/-- ITS FALSE NEIGHBOUR: 'it returns false'. Refute it at one input. -/
def filesSwitchWrong : ChangeSpec := { name := "filesSwitch", fn := fun _ => fun
  | [d1, d2] => { results := [.lit (.bool false)], args := [d1, d2] }
  | _ => none }
def FilesSwitchWrongFalsely : Prop := filesSwitchRow.holds Try.pinned (OpenSpec.ofChange filesSwitchWrong)

/-- 'foliolaw13.FilesTwins': WHATEVER THE INPUT: true; the input reads as it did. -/
def filesTwinsSpec : ChangeSpec := { name := "filesTwins", fn := fun _ => fun
  | [d] => { results := [.lit (.bool true)], args := [d] }
  | _ => none }
def filesTwinsRow : OpenClaim := { program := "ytbhnplghnhafiaa", sum := "95ec5ec44ca99dee09484eee1a8dcf89d0863001c721d1fcfebcb560da814387", func := "folio/foliolaw13.FilesTwins", spec := "filesTwins", inPlace := ["maps.clone"], unfollowed := true, recurses := true, apart := false }
def FilesTwinsSaid : Prop := filesTwinsRow.holds Try.pinned (OpenSpec.ofChange filesTwinsSpec)

/-- ITS FALSE NEIGHBOUR: 'it returns false'. Refute it at one input. -/
def filesTwinsWrong : ChangeSpec := { name := "filesTwins", fn := fun _ => fun
  | [d] => { results := [.lit (.bool false)], args := [d] }
  | _ => none }
def FilesTwinsWrongFalsely : Prop := filesTwinsRow.holds Try.pinned (OpenSpec.ofChange filesTwinsWrong)

/-- 'foliolaw13.FilesNone': WHATEVER THE INPUT: true; the input reads as it did. -/
def filesNoneSpec : ChangeSpec := { name := "filesNone", fn := fun _ => fun
  | [] => { results := [.lit (.bool true)], args := [] }
  | _ => none }
def filesNoneRow : OpenClaim := { program := "ytbhnplghnhafiaa", sum := "95ec5ec44ca99dee09484eee1a8dcf89d0863001c721d1fcfebcb560da814387", func := "folio/foliolaw13.FilesNone", spec := "filesNone", inPlace := ["maps.clone"], unfollowed := true, recurses := true, apart := false }
def FilesNoneSaid : Prop := filesNoneRow.holds Try.pinned (OpenSpec.ofChange filesNoneSpec)

/-- ITS FALSE NEIGHBOUR: 'it returns false'. Refute it at one input. -/
def filesNoneWrong : ChangeSpec := { name := "filesNone", fn := fun _ => fun
  | [] => { results := [.lit (.bool false)], args := [] }
  | _ => none }
def FilesNoneWrongFalsely : Prop := filesNoneRow.holds Try.pinned (OpenSpec.ofChange filesNoneWrong)

/- THE SECOND FORM. 'bulk': how many values and letters a reading holds, each counted each time it is reached (what is shared counts as often as it is met; a slice's spare places count too). A statement '..UptoSaid' is the law's where the arguments, and the package variables that the reading takes, are together of bulk at most 1048576: NARROWER than '..Said'. Prove '..Said' where nothing that the law and all that it calls make is longer than what came in: it says more and counts as full. Else prove '..UptoSaid'. A law counts once. -/
mutual
def uptoBulk {H : Type} : DataW H → Nat
  | .lit (.string bytes) => bytes.length + 1
  | .lit _ => 1
  | .nil => 1
  | .ptr d => uptoBulk d + 1
  | .slice elems spare => uptoBulkAll elems + uptoBulkAll spare + 1
  | .agg parts => uptoBulkAll parts + 1
  | .iface _ d => uptoBulk d + 1
  | .map entries => uptoBulkEntries entries + 1
  | .held _ => 1
def uptoBulkAll {H : Type} : List (DataW H) → Nat
  | [] => 0
  | d :: r => uptoBulk d + uptoBulkAll r
def uptoBulkEntries {H : Type} : List (Lit × DataW H) → Nat
  | [] => 0
  | x :: r => uptoBulkEntry x + uptoBulkEntries r
def uptoBulkEntry {H : Type} : Lit × DataW H → Nat
  | (.string bytes, d) => bytes.length + uptoBulk d + 1
  | (_, d) => uptoBulk d + 1
 end
def uptoSmall : (H : Type) → List (DataW H) → Bool := fun _ ds => decide (uptoBulkAll ds ≤ 1048576)
def OpenSpec.upto (s : _root_.Go.ChangeSpec) : _root_.Go.OpenSpec := { _root_.Go.OpenSpec.ofChange s with cond := some uptoSmall }

/-- 'foliolaw13.FilesFail', WHERE WHAT IT READS IS OF BULK AT MOST 1048576: true; the input reads as it did. -/
def filesFailUptoRow : OpenClaim := { program := "ytbhnplghnhafiaa", sum := "95ec5ec44ca99dee09484eee1a8dcf89d0863001c721d1fcfebcb560da814387", func := "folio/foliolaw13.FilesFail", spec := "filesFail", inPlace := ["maps.clone"], unfollowed := true, recurses := true, apart := false, narrowed := true }
def FilesFailUptoSaid : Prop := filesFailUptoRow.holds Try.pinned (OpenSpec.upto filesFailSpec)

/-- 'foliolaw13.FilesRot', WHERE WHAT IT READS IS OF BULK AT MOST 1048576: true; the input reads as it did. -/
def filesRotUptoRow : OpenClaim := { program := "ytbhnplghnhafiaa", sum := "95ec5ec44ca99dee09484eee1a8dcf89d0863001c721d1fcfebcb560da814387", func := "folio/foliolaw13.FilesRot", spec := "filesRot", inPlace := ["maps.clone"], unfollowed := true, recurses := true, apart := false, narrowed := true }
def FilesRotUptoSaid : Prop := filesRotUptoRow.holds Try.pinned (OpenSpec.upto filesRotSpec)

/-- 'foliolaw13.FilesTail', WHERE WHAT IT READS IS OF BULK AT MOST 1048576: true; the input reads as it did. -/
def filesTailUptoRow : OpenClaim := { program := "ytbhnplghnhafiaa", sum := "95ec5ec44ca99dee09484eee1a8dcf89d0863001c721d1fcfebcb560da814387", func := "folio/foliolaw13.FilesTail", spec := "filesTail", inPlace := ["maps.clone"], unfollowed := true, recurses := true, apart := false, narrowed := true }
def FilesTailUptoSaid : Prop := filesTailUptoRow.holds Try.pinned (OpenSpec.upto filesTailSpec)

/-- 'foliolaw13.FilesSwitch', WHERE WHAT IT READS IS OF BULK AT MOST 1048576: true; the input reads as it did. -/
def filesSwitchUptoRow : OpenClaim := { program := "ytbhnplghnhafiaa", sum := "95ec5ec44ca99dee09484eee1a8dcf89d0863001c721d1fcfebcb560da814387", func := "folio/foliolaw13.FilesSwitch", spec := "filesSwitch", inPlace := ["maps.clone"], unfollowed := true, recurses := true, apart := false, narrowed := true }
def FilesSwitchUptoSaid : Prop := filesSwitchUptoRow.holds Try.pinned (OpenSpec.upto filesSwitchSpec)

/-- 'foliolaw13.FilesTwins', WHERE WHAT IT READS IS OF BULK AT MOST 1048576: true; the input reads as it did. -/
def filesTwinsUptoRow : OpenClaim := { program := "ytbhnplghnhafiaa", sum := "95ec5ec44ca99dee09484eee1a8dcf89d0863001c721d1fcfebcb560da814387", func := "folio/foliolaw13.FilesTwins", spec := "filesTwins", inPlace := ["maps.clone"], unfollowed := true, recurses := true, apart := false, narrowed := true }
def FilesTwinsUptoSaid : Prop := filesTwinsUptoRow.holds Try.pinned (OpenSpec.upto filesTwinsSpec)

/-- 'foliolaw13.FilesNone', WHERE WHAT IT READS IS OF BULK AT MOST 1048576: true; the input reads as it did. -/
def filesNoneUptoRow : OpenClaim := { program := "ytbhnplghnhafiaa", sum := "95ec5ec44ca99dee09484eee1a8dcf89d0863001c721d1fcfebcb560da814387", func := "folio/foliolaw13.FilesNone", spec := "filesNone", inPlace := ["maps.clone"], unfollowed := true, recurses := true, apart := false, narrowed := true }
def FilesNoneUptoSaid : Prop := filesNoneUptoRow.holds Try.pinned (OpenSpec.upto filesNoneSpec)

end Rows
end Go.Proofs.Ytbhnplghnhafiaa
