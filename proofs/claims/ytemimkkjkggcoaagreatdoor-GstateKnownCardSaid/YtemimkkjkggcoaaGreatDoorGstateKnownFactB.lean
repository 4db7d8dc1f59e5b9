/-
  A closed fact of the row of 'GstateKnown' (its cell 'unfollowed'), asked of the kernel by itself.
-/
import Derived.Test.YtemimkkjkggcoaaGreatDoorRows
import Derived.KernelRfl
namespace Go.Proofs.YtemimkkjkggcoaaGreatDoor.gstateKnown
open Go
theorem factB : (Rows.gstateKnownRow.unfollowed == Tryz.pinned.checked.prog.unfollowed 3) = true := by kernel_rfl
end Go.Proofs.YtemimkkjkggcoaaGreatDoor.gstateKnown
