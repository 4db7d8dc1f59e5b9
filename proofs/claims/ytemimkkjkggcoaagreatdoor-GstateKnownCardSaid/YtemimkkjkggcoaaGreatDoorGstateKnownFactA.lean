/-
  A closed fact of the row of 'GstateKnown' (its cell 'inPlace'), asked of the kernel by itself.
-/
import Derived.Test.YtemimkkjkggcoaaGreatDoorRows
import Derived.KernelRfl
namespace Go.Proofs.YtemimkkjkggcoaaGreatDoor.gstateKnown
open Go
theorem factA : (Rows.gstateKnownRow.inPlace == Tryz.pinned.checked.prog.inPlace 3) = true := by kernel_rfl
end Go.Proofs.YtemimkkjkggcoaaGreatDoor.gstateKnown
