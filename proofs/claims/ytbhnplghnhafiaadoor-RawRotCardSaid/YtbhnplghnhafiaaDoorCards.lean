/-
  DERIVED. GIVEN WITH THE SEED: THE CARDS: each row of YtbhnplghnhafiaaDoorRows.lean that lists a variable, with what it lists TIED to the program's text (the seventh form; the later family's looks); each row that meets fmt, with fmt's text TOLD by the authors' own Lean function (tested against real Go, not proved from fmt's source: count such statements apart). THE CARD IS WHAT COUNTS. Prove the row's statement (the work); the ties are given (YtbhnplghnhafiaaDoorTie.lean); close each card by the builder's one call (the guide's Derived/Test/ToyasCard.lean, 'card_holds'). Laid BY PROGRAM, IN A SANDBOX (cutbox-door.mjs). By AI agents, Wed Nov 11 2026. No macro, syntax, notation, axiom, sorry.
-/
import Derived.Test.YtbhnplghnhafiaaDoorRows
import GoSem.ClaimSeven
namespace Go.Proofs.YtbhnplghnhafiaaDoor
namespace Rows

/-- THE TIED CARD OF 'foliolaw15.RawFull'. -/
def rawFullCard : Claim7 := { stood := { row := rawFullRow, standIns := [], harness := (true, "c3739f440933ab4bc5e329d97d371277364ffbb99a33385bca323120945fc367"), looks := true }, kinds := [], alts := [], laidByText := true, laidKinds := [.data, .data, .data], laidTests := true, laidLooks := .later }
def RawFullCardSaid : Prop := Claim7.holds Tryd.pinned (.plain (OpenSpec.ofChange rawFullSpec)) rawFullCard

/-- THE TIED CARD OF 'foliolaw15.RawNone'. -/
def rawNoneCard : Claim7 := { stood := { row := rawNoneRow, standIns := [], harness := (true, "c3739f440933ab4bc5e329d97d371277364ffbb99a33385bca323120945fc367"), looks := true }, kinds := [], alts := [], laidByText := true, laidKinds := [.data, .data, .data], laidTests := true, laidLooks := .later }
def RawNoneCardSaid : Prop := Claim7.holds Tryd.pinned (.plain (OpenSpec.ofChange rawNoneSpec)) rawNoneCard

/-- THE TIED CARD OF 'foliolaw15.RawRot'. -/
def rawRotCard : Claim7 := { stood := { row := rawRotRow, standIns := [], harness := (true, "c3739f440933ab4bc5e329d97d371277364ffbb99a33385bca323120945fc367"), looks := true }, kinds := [], alts := [], laidByText := true, laidKinds := [.data, .data, .data], laidTests := true, laidLooks := .later }
def RawRotCardSaid : Prop := Claim7.holds Tryd.pinned (.plain (OpenSpec.ofChange rawRotSpec)) rawRotCard

/-- THE TIED CARD OF 'foliolaw15.RawMany'. -/
def rawManyCard : Claim7 := { stood := { row := rawManyRow, standIns := [], harness := (true, "c3739f440933ab4bc5e329d97d371277364ffbb99a33385bca323120945fc367"), looks := true }, kinds := [], alts := [], laidByText := true, laidKinds := [.data, .data, .data], laidTests := true, laidLooks := .later }
def RawManyCardSaid : Prop := Claim7.holds Tryd.pinned (.plain (OpenSpec.ofChange rawManySpec)) rawManyCard

/-- THE SECOND FORM's CARD OF 'foliolaw15.RawFull'. -/
def rawFullUptoCard : Claim7 := { stood := { row := rawFullUptoRow, standIns := [], harness := (true, "c3739f440933ab4bc5e329d97d371277364ffbb99a33385bca323120945fc367"), looks := true }, kinds := [], alts := [], laidByText := true, laidKinds := [.data, .data, .data], laidTests := true, laidLooks := .later }
def RawFullUptoCardSaid : Prop := Claim7.holds Tryd.pinned (.plain (OpenSpec.upto rawFullSpec)) rawFullUptoCard

/-- THE SECOND FORM's CARD OF 'foliolaw15.RawNone'. -/
def rawNoneUptoCard : Claim7 := { stood := { row := rawNoneUptoRow, standIns := [], harness := (true, "c3739f440933ab4bc5e329d97d371277364ffbb99a33385bca323120945fc367"), looks := true }, kinds := [], alts := [], laidByText := true, laidKinds := [.data, .data, .data], laidTests := true, laidLooks := .later }
def RawNoneUptoCardSaid : Prop := Claim7.holds Tryd.pinned (.plain (OpenSpec.upto rawNoneSpec)) rawNoneUptoCard

/-- THE SECOND FORM's CARD OF 'foliolaw15.RawRot'. -/
def rawRotUptoCard : Claim7 := { stood := { row := rawRotUptoRow, standIns := [], harness := (true, "c3739f440933ab4bc5e329d97d371277364ffbb99a33385bca323120945fc367"), looks := true }, kinds := [], alts := [], laidByText := true, laidKinds := [.data, .data, .data], laidTests := true, laidLooks := .later }
def RawRotUptoCardSaid : Prop := Claim7.holds Tryd.pinned (.plain (OpenSpec.upto rawRotSpec)) rawRotUptoCard

/-- THE SECOND FORM's CARD OF 'foliolaw15.RawMany'. -/
def rawManyUptoCard : Claim7 := { stood := { row := rawManyUptoRow, standIns := [], harness := (true, "c3739f440933ab4bc5e329d97d371277364ffbb99a33385bca323120945fc367"), looks := true }, kinds := [], alts := [], laidByText := true, laidKinds := [.data, .data, .data], laidTests := true, laidLooks := .later }
def RawManyUptoCardSaid : Prop := Claim7.holds Tryd.pinned (.plain (OpenSpec.upto rawManySpec)) rawManyUptoCard
end Rows
end Go.Proofs.YtbhnplghnhafiaaDoor
