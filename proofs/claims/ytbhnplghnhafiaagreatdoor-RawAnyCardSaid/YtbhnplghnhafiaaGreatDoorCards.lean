/-
  DERIVED. GIVEN WITH THE SEED: THE CARDS: each row of YtbhnplghnhafiaaGreatDoorRows.lean that lists a variable, with what it lists TIED to the program's text (the seventh form; the later family's looks); each row that meets fmt, with fmt's text TOLD by the authors' own Lean function (tested against real Go, not proved from fmt's source: count such statements apart). THE CARD IS WHAT COUNTS. Prove the row's statement (the work); the ties are given (YtbhnplghnhafiaaGreatDoorTie.lean); close each card by the builder's one call (the guide's Derived/Test/ToyasCard.lean, 'card_holds'). Laid BY PROGRAM, IN A SANDBOX (cutbox-door.mjs). By AI agents, Wed Nov 11 2026. No macro, syntax, notation, axiom, sorry.
-/
import Derived.Test.YtbhnplghnhafiaaGreatDoorRows
import GoSem.ClaimSeven
namespace Go.Proofs.YtbhnplghnhafiaaGreatDoor
namespace Rows

/-- THE TIED CARD OF 'foliolaw15.RawAny'. -/
def rawAnyCard : Claim7 := { stood := { row := rawAnyRow, standIns := [], harness := (true, "8598bd4958a8abf902c99cea17d2ba399dff19ef0ce30047164fcc5704fed348"), looks := true }, kinds := [], alts := [], laidByText := true, laidKinds := [.data, .data, .data], laidTests := true, laidLooks := .later }
def RawAnyCardSaid : Prop := Claim7.holds Tryz.pinned (.plain (OpenSpec.ofChange rawAnySpec)) rawAnyCard

/-- THE SECOND FORM's CARD OF 'foliolaw15.RawAny'. -/
def rawAnyUptoCard : Claim7 := { stood := { row := rawAnyUptoRow, standIns := [], harness := (true, "8598bd4958a8abf902c99cea17d2ba399dff19ef0ce30047164fcc5704fed348"), looks := true }, kinds := [], alts := [], laidByText := true, laidKinds := [.data, .data, .data], laidTests := true, laidLooks := .later }
def RawAnyUptoCardSaid : Prop := Claim7.holds Tryz.pinned (.plain (OpenSpec.upto rawAnySpec)) rawAnyUptoCard
end Rows
end Go.Proofs.YtbhnplghnhafiaaGreatDoor
