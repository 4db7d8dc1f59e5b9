/-
  DERIVED. GIVEN WITH THE SEED: THE CARDS: each row of YtemimkkjkggcoaaGreatDoorRows.lean that lists a variable, with what it lists TIED to the program's text (the seventh form; the later family's looks); each row that meets fmt, with fmt's text TOLD by the authors' own Lean function (tested against real Go, not proved from fmt's source: count such statements apart). THE CARD IS WHAT COUNTS. Prove the row's statement (the work); the ties are given (YtemimkkjkggcoaaGreatDoorTie.lean); close each card by the builder's one call (the guide's Derived/Test/ToyasCard.lean, 'card_holds'). Laid BY PROGRAM, IN A SANDBOX (cutbox-door.mjs). By AI agents, Wed Nov 11 2026. No macro, syntax, notation, axiom, sorry.
-/
import Derived.Test.YtemimkkjkggcoaaGreatDoorRows
import GoSem.ClaimSeven
namespace Go.Proofs.YtemimkkjkggcoaaGreatDoor
namespace Rows

/-- THE TIED CARD OF 'chaselaw37.GstateKnown'. -/
def gstateKnownCard : Claim7 := { stood := { row := gstateKnownRow, standIns := [], harness := (true, "0fb44be56c0fe2c2abf2de230c6d43236c35db94baa7795591c5ae09d3f7a18d"), looks := true }, kinds := [], alts := [], laidByText := true, laidKinds := [.data], laidTests := true, laidLooks := .later }
def GstateKnownCardSaid : Prop := Claim7.holds Tryz.pinned (.plain (OpenSpec.ofChange gstateKnownSpec)) gstateKnownCard

/-- THE TIED CARD OF 'chaselaw39.MediaKnown'. -/
def mediaKnownCard : Claim7 := { stood := { row := mediaKnownRow, standIns := [], harness := (true, "0fb44be56c0fe2c2abf2de230c6d43236c35db94baa7795591c5ae09d3f7a18d"), looks := true }, kinds := [], alts := [], laidByText := true, laidKinds := [.data], laidTests := true, laidLooks := .later }
def MediaKnownCardSaid : Prop := Claim7.holds Tryz.pinned (.plain (OpenSpec.ofChange mediaKnownSpec)) mediaKnownCard

/-- THE SECOND FORM's CARD OF 'chaselaw37.GstateKnown'. -/
def gstateKnownUptoCard : Claim7 := { stood := { row := gstateKnownUptoRow, standIns := [], harness := (true, "0fb44be56c0fe2c2abf2de230c6d43236c35db94baa7795591c5ae09d3f7a18d"), looks := true }, kinds := [], alts := [], laidByText := true, laidKinds := [.data], laidTests := true, laidLooks := .later }
def GstateKnownUptoCardSaid : Prop := Claim7.holds Tryz.pinned (.plain (OpenSpec.upto gstateKnownSpec)) gstateKnownUptoCard

/-- THE SECOND FORM's CARD OF 'chaselaw39.MediaKnown'. -/
def mediaKnownUptoCard : Claim7 := { stood := { row := mediaKnownUptoRow, standIns := [], harness := (true, "0fb44be56c0fe2c2abf2de230c6d43236c35db94baa7795591c5ae09d3f7a18d"), looks := true }, kinds := [], alts := [], laidByText := true, laidKinds := [.data], laidTests := true, laidLooks := .later }
def MediaKnownUptoCardSaid : Prop := Claim7.holds Tryz.pinned (.plain (OpenSpec.upto mediaKnownSpec)) mediaKnownUptoCard
end Rows
end Go.Proofs.YtemimkkjkggcoaaGreatDoor
