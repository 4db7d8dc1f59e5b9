/-
  The closed facts of the row of 'MediaGrants', all of them, asked of the kernel.
-/
import Derived.Test.YtoohcobdljmofaaGreatDoorMediaGrantsFactA
import Derived.Test.YtoohcobdljmofaaGreatDoorMediaGrantsFactB
import Derived.Test.YtoohcobdljmofaaGreatDoorMediaGrantsFactC
import Derived.Test.YtoohcobdljmofaaGreatDoorMediaGrantsFactD
import Derived.JoinedCond
namespace Go.Proofs.YtoohcobdljmofaaGreatDoor.mediaGrants
open Go
set_option maxRecDepth 100000 in
theorem facts : joinedFacts Tryz.pinned.checked.prog 4 Tryz.f4 (OpenSpec.ofChange Rows.mediaGrantsSpec).bare Rows.mediaGrantsRow = true := by
  unfold joinedFacts
  simp only [Bool.and_eq_true]
  repeat' apply And.intro
  all_goals first | with_reducible exact factA | with_reducible exact factB | with_reducible exact factC | with_reducible exact factD | kernel_rfl
end Go.Proofs.YtoohcobdljmofaaGreatDoor.mediaGrants
