/-
  A closed fact of the row of 'GstateKnown' (its cell 'recurses'), asked of the kernel by itself.
-/
import Derived.Test.YtemimkkjkggcoaaGreatDoorRows
import Derived.KernelRfl
namespace Go.Proofs.YtemimkkjkggcoaaGreatDoor.gstateKnown
open Go
theorem factC : (Rows.gstateKnownRow.recurses == Tryz.pinned.checked.prog.recurses 3) = true := by kernel_rfl
end Go.Proofs.YtemimkkjkggcoaaGreatDoor.gstateKnown
