/-
  A closed fact of the row of 'GstateKnown' (its cell 'named'), asked of the kernel by itself.
-/
import Derived.Test.YtemimkkjkggcoaaGreatDoorRows
import Derived.KernelRfl
namespace Go.Proofs.YtemimkkjkggcoaaGreatDoor.gstateKnown
open Go
theorem factD : (Rows.gstateKnownRow.named == Tryz.pinned.checked.prog.varsNamed 3) = true := by kernel_rfl
end Go.Proofs.YtemimkkjkggcoaaGreatDoor.gstateKnown
