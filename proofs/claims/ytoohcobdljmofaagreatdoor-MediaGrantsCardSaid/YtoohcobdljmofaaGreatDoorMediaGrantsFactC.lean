/-
  A closed fact of the row of 'MediaGrants' (its cell 'recurses'), asked of the kernel by itself.
-/
import Derived.Test.YtoohcobdljmofaaGreatDoorRows
import Derived.KernelRfl
namespace Go.Proofs.YtoohcobdljmofaaGreatDoor.mediaGrants
open Go
theorem factC : (Rows.mediaGrantsRow.recurses == Tryz.pinned.checked.prog.recurses 4) = true := by kernel_rfl
end Go.Proofs.YtoohcobdljmofaaGreatDoor.mediaGrants
