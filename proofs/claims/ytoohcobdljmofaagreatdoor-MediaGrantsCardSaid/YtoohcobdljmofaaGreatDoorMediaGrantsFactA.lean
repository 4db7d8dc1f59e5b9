/-
  A closed fact of the row of 'MediaGrants' (its cell 'inPlace'), asked of the kernel by itself.
-/
import Derived.Test.YtoohcobdljmofaaGreatDoorRows
import Derived.KernelRfl
namespace Go.Proofs.YtoohcobdljmofaaGreatDoor.mediaGrants
open Go
theorem factA : (Rows.mediaGrantsRow.inPlace == Tryz.pinned.checked.prog.inPlace 4) = true := by kernel_rfl
end Go.Proofs.YtoohcobdljmofaaGreatDoor.mediaGrants
