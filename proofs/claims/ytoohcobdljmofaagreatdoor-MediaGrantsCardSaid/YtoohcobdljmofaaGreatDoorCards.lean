/-
  DERIVED. GIVEN WITH THE SEED: THE CARDS: each row of YtoohcobdljmofaaGreatDoorRows.lean that lists a variable, with what it lists TIED to the program's text (the seventh form; the later family's looks); each row that meets fmt, with fmt's text TOLD by the authors' own Lean function (tested against real Go, not proved from fmt's source: count such statements apart). THE CARD IS WHAT COUNTS. Prove the row's statement (the work); the ties are given (YtoohcobdljmofaaGreatDoorTie.lean); close each card by the builder's one call (the guide's Derived/Test/ToyasCard.lean, 'card_holds'). Laid BY PROGRAM, IN A SANDBOX (cutbox-door.mjs). By AI agents, Wed Nov 11 2026. No macro, syntax, notation, axiom, sorry.
-/
import Derived.Test.YtoohcobdljmofaaGreatDoorRows
import GoSem.ClaimSeven
namespace Go.Proofs.YtoohcobdljmofaaGreatDoor
namespace Rows

/-- THE TIED CARD OF 'chaselaw39.MediaChooses'. -/
def mediaChoosesCard : Claim7 := { stood := { row := mediaChoosesRow, standIns := [], harness := (true, "167869120fc0a3ef84eda1dfc695eae193cce7d4372248dabdc7d814c649c66a"), looks := true }, kinds := [], alts := [], laidByText := true, laidKinds := [.data], laidTests := true, laidLooks := .later }
def MediaChoosesCardSaid : Prop := Claim7.holds Tryz.pinned (.plain (OpenSpec.ofChange mediaChoosesSpec)) mediaChoosesCard

/-- THE TIED CARD OF 'chaselaw39.MediaGrants'. -/
def mediaGrantsCard : Claim7 := { stood := { row := mediaGrantsRow, standIns := [], harness := (true, "167869120fc0a3ef84eda1dfc695eae193cce7d4372248dabdc7d814c649c66a"), looks := true }, kinds := [], alts := [], laidByText := true, laidKinds := [.data], laidTests := true, laidLooks := .later }
def MediaGrantsCardSaid : Prop := Claim7.holds Tryz.pinned (.plain (OpenSpec.ofChange mediaGrantsSpec)) mediaGrantsCard

/-- THE SECOND FORM's CARD OF 'chaselaw39.MediaChooses'. -/
def mediaChoosesUptoCard : Claim7 := { stood := { row := mediaChoosesUptoRow, standIns := [], harness := (true, "167869120fc0a3ef84eda1dfc695eae193cce7d4372248dabdc7d814c649c66a"), looks := true }, kinds := [], alts := [], laidByText := true, laidKinds := [.data], laidTests := true, laidLooks := .later }
def MediaChoosesUptoCardSaid : Prop := Claim7.holds Tryz.pinned (.plain (OpenSpec.upto mediaChoosesSpec)) mediaChoosesUptoCard

/-- THE SECOND FORM's CARD OF 'chaselaw39.MediaGrants'. -/
def mediaGrantsUptoCard : Claim7 := { stood := { row := mediaGrantsUptoRow, standIns := [], harness := (true, "167869120fc0a3ef84eda1dfc695eae193cce7d4372248dabdc7d814c649c66a"), looks := true }, kinds := [], alts := [], laidByText := true, laidKinds := [.data], laidTests := true, laidLooks := .later }
def MediaGrantsUptoCardSaid : Prop := Claim7.holds Tryz.pinned (.plain (OpenSpec.upto mediaGrantsSpec)) mediaGrantsUptoCard
end Rows
end Go.Proofs.YtoohcobdljmofaaGreatDoor
