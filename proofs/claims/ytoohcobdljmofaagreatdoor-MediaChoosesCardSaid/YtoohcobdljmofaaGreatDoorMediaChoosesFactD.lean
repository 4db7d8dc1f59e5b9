/-
  A closed fact of the row of 'MediaChooses' (its cell 'named'), asked of the kernel by itself.
-/
import Derived.Test.YtoohcobdljmofaaGreatDoorRows
import Derived.KernelRfl
namespace Go.Proofs.YtoohcobdljmofaaGreatDoor.mediaChooses
open Go
theorem factD : (Rows.mediaChoosesRow.named == Tryz.pinned.checked.prog.varsNamed 3) = true := by kernel_rfl
end Go.Proofs.YtoohcobdljmofaaGreatDoor.mediaChooses
