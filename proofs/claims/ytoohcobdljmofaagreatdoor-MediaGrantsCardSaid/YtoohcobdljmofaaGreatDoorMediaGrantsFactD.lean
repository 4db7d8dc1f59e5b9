/-
  A closed fact of the row of 'MediaGrants' (its cell 'named'), asked of the kernel by itself.
-/
import Derived.Test.YtoohcobdljmofaaGreatDoorRows
import Derived.KernelRfl
namespace Go.Proofs.YtoohcobdljmofaaGreatDoor.mediaGrants
open Go
theorem factD : (Rows.mediaGrantsRow.named == Tryz.pinned.checked.prog.varsNamed 4) = true := by kernel_rfl
end Go.Proofs.YtoohcobdljmofaaGreatDoor.mediaGrants
