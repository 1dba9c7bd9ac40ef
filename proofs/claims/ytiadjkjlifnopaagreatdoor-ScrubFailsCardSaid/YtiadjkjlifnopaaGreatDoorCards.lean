/-
  DERIVED. GIVEN WITH THE SEED: THE CARDS: each row of YtiadjkjlifnopaaGreatDoorRows.lean that lists a variable, with what it lists TIED to the program's text (the seventh form; the later family's looks); each row that meets fmt, with fmt's text TOLD by the authors' own Lean function (tested against real Go, not proved from fmt's source: count such statements apart). THE CARD IS WHAT COUNTS. Prove the row's statement (the work); the ties are given (YtiadjkjlifnopaaGreatDoorTie.lean); close each card by the builder's one call (the guide's Derived/Test/ToyasCard.lean, 'card_holds'). Laid BY PROGRAM, IN A SANDBOX (cutbox-door.mjs). By AI agents, Wed Nov 11 2026. No macro, syntax, notation, axiom, sorry.
-/
import Derived.Test.YtiadjkjlifnopaaGreatDoorRows
import GoSem.ClaimSeven
namespace Go.Proofs.YtiadjkjlifnopaaGreatDoor
namespace Rows

/-- THE TIED CARD OF 'foliolaw23.ScrubGroups'. -/
def scrubGroupsCard : Claim7 := { stood := { row := scrubGroupsRow, standIns := [], harness := (true, "02b64a9935b2fbb4c7b399fd1a7305423e9169164337d0f06e6b342f00c016f9"), looks := true }, kinds := [], alts := [], laidByText := true, laidKinds := [.data, .data, .data], laidTests := true, laidLooks := .later }
def ScrubGroupsCardSaid : Prop := Claim7.holds Tryz.pinned (.plain (OpenSpec.ofChange scrubGroupsSpec)) scrubGroupsCard

/-- THE TIED CARD OF 'foliolaw23.ScrubClean'. -/
def scrubCleanCard : Claim7 := { stood := { row := scrubCleanRow, standIns := [], harness := (true, "02b64a9935b2fbb4c7b399fd1a7305423e9169164337d0f06e6b342f00c016f9"), looks := true }, kinds := [], alts := [], laidByText := true, laidKinds := [.data, .data, .data], laidTests := true, laidLooks := .later }
def ScrubCleanCardSaid : Prop := Claim7.holds Tryz.pinned (.plain (OpenSpec.ofChange scrubCleanSpec)) scrubCleanCard

/-- THE TIED CARD OF 'foliolaw19.ManifestOld'. -/
def manifestOldCard : Claim7 := { stood := { row := manifestOldRow, standIns := [], harness := (true, "02b64a9935b2fbb4c7b399fd1a7305423e9169164337d0f06e6b342f00c016f9"), looks := true }, kinds := [], alts := [], laidByText := true, laidKinds := [.data, .data, .data], laidTests := true, laidLooks := .later }
def ManifestOldCardSaid : Prop := Claim7.holds Tryz.pinned (.plain (OpenSpec.ofChange manifestOldSpec)) manifestOldCard

/-- THE TIED CARD OF 'foliolaw19.ManifestGrows'. -/
def manifestGrowsCard : Claim7 := { stood := { row := manifestGrowsRow, standIns := [], harness := (true, "02b64a9935b2fbb4c7b399fd1a7305423e9169164337d0f06e6b342f00c016f9"), looks := true }, kinds := [], alts := [], laidByText := true, laidKinds := [.data, .data, .data], laidTests := true, laidLooks := .later }
def ManifestGrowsCardSaid : Prop := Claim7.holds Tryz.pinned (.plain (OpenSpec.ofChange manifestGrowsSpec)) manifestGrowsCard

/-- THE TIED CARD OF 'foliolaw19.ManifestNone'. -/
def manifestNoneCard : Claim7 := { stood := { row := manifestNoneRow, standIns := [], harness := (true, "02b64a9935b2fbb4c7b399fd1a7305423e9169164337d0f06e6b342f00c016f9"), looks := true }, kinds := [], alts := [], laidByText := true, laidKinds := [.data, .data, .data], laidTests := true, laidLooks := .later }
def ManifestNoneCardSaid : Prop := Claim7.holds Tryz.pinned (.plain (OpenSpec.ofChange manifestNoneSpec)) manifestNoneCard

/-- THE TIED CARD OF 'foliolaw23.ScrubMake'. -/
def scrubMakeCard : Claim7 := { stood := { row := scrubMakeRow, standIns := [], harness := (true, "02b64a9935b2fbb4c7b399fd1a7305423e9169164337d0f06e6b342f00c016f9"), looks := true }, kinds := [], alts := [], laidByText := true, laidKinds := [.data, .data, .data], laidTests := true, laidLooks := .later }
def ScrubMakeCardSaid : Prop := Claim7.holds Tryz.pinned (.plain (OpenSpec.ofChange scrubMakeSpec)) scrubMakeCard

/-- THE TIED CARD OF 'foliolaw23.ScrubFails'. -/
def scrubFailsCard : Claim7 := { stood := { row := scrubFailsRow, standIns := [], harness := (true, "02b64a9935b2fbb4c7b399fd1a7305423e9169164337d0f06e6b342f00c016f9"), looks := true }, kinds := [], alts := [], laidByText := true, laidKinds := [.data, .data, .data], laidTests := true, laidLooks := .later }
def ScrubFailsCardSaid : Prop := Claim7.holds Tryz.pinned (.plain (OpenSpec.ofChange scrubFailsSpec)) scrubFailsCard

/-- THE SECOND FORM's CARD OF 'foliolaw23.ScrubGroups'. -/
def scrubGroupsUptoCard : Claim7 := { stood := { row := scrubGroupsUptoRow, standIns := [], harness := (true, "02b64a9935b2fbb4c7b399fd1a7305423e9169164337d0f06e6b342f00c016f9"), looks := true }, kinds := [], alts := [], laidByText := true, laidKinds := [.data, .data, .data], laidTests := true, laidLooks := .later }
def ScrubGroupsUptoCardSaid : Prop := Claim7.holds Tryz.pinned (.plain (OpenSpec.upto scrubGroupsSpec)) scrubGroupsUptoCard

/-- THE SECOND FORM's CARD OF 'foliolaw23.ScrubClean'. -/
def scrubCleanUptoCard : Claim7 := { stood := { row := scrubCleanUptoRow, standIns := [], harness := (true, "02b64a9935b2fbb4c7b399fd1a7305423e9169164337d0f06e6b342f00c016f9"), looks := true }, kinds := [], alts := [], laidByText := true, laidKinds := [.data, .data, .data], laidTests := true, laidLooks := .later }
def ScrubCleanUptoCardSaid : Prop := Claim7.holds Tryz.pinned (.plain (OpenSpec.upto scrubCleanSpec)) scrubCleanUptoCard

/-- THE SECOND FORM's CARD OF 'foliolaw19.ManifestOld'. -/
def manifestOldUptoCard : Claim7 := { stood := { row := manifestOldUptoRow, standIns := [], harness := (true, "02b64a9935b2fbb4c7b399fd1a7305423e9169164337d0f06e6b342f00c016f9"), looks := true }, kinds := [], alts := [], laidByText := true, laidKinds := [.data, .data, .data], laidTests := true, laidLooks := .later }
def ManifestOldUptoCardSaid : Prop := Claim7.holds Tryz.pinned (.plain (OpenSpec.upto manifestOldSpec)) manifestOldUptoCard

/-- THE SECOND FORM's CARD OF 'foliolaw19.ManifestGrows'. -/
def manifestGrowsUptoCard : Claim7 := { stood := { row := manifestGrowsUptoRow, standIns := [], harness := (true, "02b64a9935b2fbb4c7b399fd1a7305423e9169164337d0f06e6b342f00c016f9"), looks := true }, kinds := [], alts := [], laidByText := true, laidKinds := [.data, .data, .data], laidTests := true, laidLooks := .later }
def ManifestGrowsUptoCardSaid : Prop := Claim7.holds Tryz.pinned (.plain (OpenSpec.upto manifestGrowsSpec)) manifestGrowsUptoCard

/-- THE SECOND FORM's CARD OF 'foliolaw19.ManifestNone'. -/
def manifestNoneUptoCard : Claim7 := { stood := { row := manifestNoneUptoRow, standIns := [], harness := (true, "02b64a9935b2fbb4c7b399fd1a7305423e9169164337d0f06e6b342f00c016f9"), looks := true }, kinds := [], alts := [], laidByText := true, laidKinds := [.data, .data, .data], laidTests := true, laidLooks := .later }
def ManifestNoneUptoCardSaid : Prop := Claim7.holds Tryz.pinned (.plain (OpenSpec.upto manifestNoneSpec)) manifestNoneUptoCard

/-- THE SECOND FORM's CARD OF 'foliolaw23.ScrubMake'. -/
def scrubMakeUptoCard : Claim7 := { stood := { row := scrubMakeUptoRow, standIns := [], harness := (true, "02b64a9935b2fbb4c7b399fd1a7305423e9169164337d0f06e6b342f00c016f9"), looks := true }, kinds := [], alts := [], laidByText := true, laidKinds := [.data, .data, .data], laidTests := true, laidLooks := .later }
def ScrubMakeUptoCardSaid : Prop := Claim7.holds Tryz.pinned (.plain (OpenSpec.upto scrubMakeSpec)) scrubMakeUptoCard

/-- THE SECOND FORM's CARD OF 'foliolaw23.ScrubFails'. -/
def scrubFailsUptoCard : Claim7 := { stood := { row := scrubFailsUptoRow, standIns := [], harness := (true, "02b64a9935b2fbb4c7b399fd1a7305423e9169164337d0f06e6b342f00c016f9"), looks := true }, kinds := [], alts := [], laidByText := true, laidKinds := [.data, .data, .data], laidTests := true, laidLooks := .later }
def ScrubFailsUptoCardSaid : Prop := Claim7.holds Tryz.pinned (.plain (OpenSpec.upto scrubFailsSpec)) scrubFailsUptoCard
end Rows
end Go.Proofs.YtiadjkjlifnopaaGreatDoor
