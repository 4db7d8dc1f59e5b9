/-
  A closed fact of the row of 'MediaChooses' (its cell 'inPlace'), asked of the kernel by itself.
-/
import Derived.Test.YtoohcobdljmofaaGreatDoorRows
import Derived.KernelRfl
namespace Go.Proofs.YtoohcobdljmofaaGreatDoor.mediaChooses
open Go
theorem factA : (Rows.mediaChoosesRow.inPlace == Tryz.pinned.checked.prog.inPlace 3) = true := by kernel_rfl
end Go.Proofs.YtoohcobdljmofaaGreatDoor.mediaChooses
