/-
  The closed facts of the row of 'MediaKnown', all of them, asked of the kernel.
-/
import Derived.Test.YtemimkkjkggcoaaGreatDoorMediaKnownFactA
import Derived.Test.YtemimkkjkggcoaaGreatDoorMediaKnownFactB
import Derived.Test.YtemimkkjkggcoaaGreatDoorMediaKnownFactC
import Derived.Test.YtemimkkjkggcoaaGreatDoorMediaKnownFactD
import Derived.JoinedCond
namespace Go.Proofs.YtemimkkjkggcoaaGreatDoor.mediaKnown
open Go
set_option maxRecDepth 100000 in
theorem facts : joinedFacts Tryz.pinned.checked.prog 4 Tryz.f4 (OpenSpec.ofChange Rows.mediaKnownSpec).bare Rows.mediaKnownRow = true := by
  unfold joinedFacts
  simp only [Bool.and_eq_true]
  repeat' apply And.intro
  all_goals first | with_reducible exact factA | with_reducible exact factB | with_reducible exact factC | with_reducible exact factD | kernel_rfl
end Go.Proofs.YtemimkkjkggcoaaGreatDoor.mediaKnown
