/-
  A closed fact of the row of 'MediaGrants' (its cell 'unfollowed'), asked of the kernel by itself.
-/
import Derived.Test.YtoohcobdljmofaaGreatDoorRows
import Derived.KernelRfl
namespace Go.Proofs.YtoohcobdljmofaaGreatDoor.mediaGrants
open Go
theorem factB : (Rows.mediaGrantsRow.unfollowed == Tryz.pinned.checked.prog.unfollowed 4) = true := by kernel_rfl
end Go.Proofs.YtoohcobdljmofaaGreatDoor.mediaGrants
