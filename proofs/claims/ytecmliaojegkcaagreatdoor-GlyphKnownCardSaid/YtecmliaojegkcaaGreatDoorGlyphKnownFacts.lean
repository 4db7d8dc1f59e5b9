/-
  The closed facts of the row of 'GlyphKnown', all of them, asked of the kernel.
-/
import Derived.Test.YtecmliaojegkcaaGreatDoorGlyphKnownFactA
import Derived.Test.YtecmliaojegkcaaGreatDoorGlyphKnownFactB
import Derived.Test.YtecmliaojegkcaaGreatDoorGlyphKnownFactC
import Derived.Test.YtecmliaojegkcaaGreatDoorGlyphKnownFactD
import Derived.JoinedCond
namespace Go.Proofs.YtecmliaojegkcaaGreatDoor.glyphKnown
open Go
set_option maxRecDepth 100000 in
theorem facts : joinedFacts Tryz.pinned.checked.prog 3 Tryz.f3 (OpenSpec.ofChange Rows.glyphKnownSpec).bare Rows.glyphKnownRow = true := by
  unfold joinedFacts
  simp only [Bool.and_eq_true]
  repeat' apply And.intro
  all_goals first | with_reducible exact factA | with_reducible exact factB | with_reducible exact factC | with_reducible exact factD | kernel_rfl
end Go.Proofs.YtecmliaojegkcaaGreatDoor.glyphKnown
