/-
  The closed facts of the row of 'MediaChooses', all of them, asked of the kernel.
-/
import Derived.Test.YtoohcobdljmofaaGreatDoorMediaChoosesFactA
import Derived.Test.YtoohcobdljmofaaGreatDoorMediaChoosesFactB
import Derived.Test.YtoohcobdljmofaaGreatDoorMediaChoosesFactC
import Derived.Test.YtoohcobdljmofaaGreatDoorMediaChoosesFactD
import Derived.JoinedCond
namespace Go.Proofs.YtoohcobdljmofaaGreatDoor.mediaChooses
open Go
set_option maxRecDepth 100000 in
theorem facts : joinedFacts Tryz.pinned.checked.prog 3 Tryz.f3 (OpenSpec.ofChange Rows.mediaChoosesSpec).bare Rows.mediaChoosesRow = true := by
  unfold joinedFacts
  simp only [Bool.and_eq_true]
  repeat' apply And.intro
  all_goals first | with_reducible exact factA | with_reducible exact factB | with_reducible exact factC | with_reducible exact factD | kernel_rfl
end Go.Proofs.YtoohcobdljmofaaGreatDoor.mediaChooses
