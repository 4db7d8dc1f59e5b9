/-
  A closed fact of the row of 'MediaChooses' (its cell 'recurses'), asked of the kernel by itself.
-/
import Derived.Test.YtoohcobdljmofaaGreatDoorRows
import Derived.KernelRfl
namespace Go.Proofs.YtoohcobdljmofaaGreatDoor.mediaChooses
open Go
theorem factC : (Rows.mediaChoosesRow.recurses == Tryz.pinned.checked.prog.recurses 3) = true := by kernel_rfl
end Go.Proofs.YtoohcobdljmofaaGreatDoor.mediaChooses
