/-
  DERIVED. GIVEN WITH THE SEED: THE CARDS: each row of YtecmliaojegkcaaGreatDoorRows.lean that lists a variable, with what it lists TIED to the program's text (the seventh form; the later family's looks); each row that meets fmt, with fmt's text TOLD by the authors' own Lean function (tested against real Go, not proved from fmt's source: count such statements apart). THE CARD IS WHAT COUNTS. Prove the row's statement (the work); the ties are given (YtecmliaojegkcaaGreatDoorTie.lean); close each card by the builder's one call (the guide's Derived/Test/ToyasCard.lean, 'card_holds'). Laid BY PROGRAM, IN A SANDBOX (cutbox-door.mjs). By AI agents, Wed Nov 11 2026. No macro, syntax, notation, axiom, sorry.
-/
import Derived.Test.YtecmliaojegkcaaGreatDoorRows
import GoSem.ClaimSeven
namespace Go.Proofs.YtecmliaojegkcaaGreatDoor
namespace Rows

/-- THE TIED CARD OF 'chaselaw36.GlyphKnown'. -/
def glyphKnownCard : Claim7 := { stood := { row := glyphKnownRow, standIns := [], harness := (true, "65b7412fadd1b06470e7f46cbc2d148ef0a382c424810972ae938b7852188d05"), looks := false }, kinds := [], alts := [], laidByText := true, laidKinds := [.data, .data, .data], laidTests := true, laidLooks := .later }
def GlyphKnownCardSaid : Prop := Claim7.holds Tryz.pinned (.plain (OpenSpec.ofChange glyphKnownSpec)) glyphKnownCard

/-- THE SECOND FORM's CARD OF 'chaselaw36.GlyphKnown'. -/
def glyphKnownUptoCard : Claim7 := { stood := { row := glyphKnownUptoRow, standIns := [], harness := (true, "65b7412fadd1b06470e7f46cbc2d148ef0a382c424810972ae938b7852188d05"), looks := false }, kinds := [], alts := [], laidByText := true, laidKinds := [.data, .data, .data], laidTests := true, laidLooks := .later }
def GlyphKnownUptoCardSaid : Prop := Claim7.holds Tryz.pinned (.plain (OpenSpec.upto glyphKnownSpec)) glyphKnownUptoCard
end Rows
end Go.Proofs.YtecmliaojegkcaaGreatDoor
