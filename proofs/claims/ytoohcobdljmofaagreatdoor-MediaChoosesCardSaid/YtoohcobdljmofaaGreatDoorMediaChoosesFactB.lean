/-
  A closed fact of the row of 'MediaChooses' (its cell 'unfollowed'), asked of the kernel by itself.
-/
import Derived.Test.YtoohcobdljmofaaGreatDoorRows
import Derived.KernelRfl
namespace Go.Proofs.YtoohcobdljmofaaGreatDoor.mediaChooses
open Go
theorem factB : (Rows.mediaChoosesRow.unfollowed == Tryz.pinned.checked.prog.unfollowed 3) = true := by kernel_rfl
end Go.Proofs.YtoohcobdljmofaaGreatDoor.mediaChooses
