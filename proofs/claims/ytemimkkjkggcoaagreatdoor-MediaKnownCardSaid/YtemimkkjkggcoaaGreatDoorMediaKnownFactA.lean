/-
  A closed fact of the row of 'MediaKnown' (its cell 'inPlace'), asked of the kernel by itself.
-/
import Derived.Test.YtemimkkjkggcoaaGreatDoorRows
import Derived.KernelRfl
namespace Go.Proofs.YtemimkkjkggcoaaGreatDoor.mediaKnown
open Go
theorem factA : (Rows.mediaKnownRow.inPlace == Tryz.pinned.checked.prog.inPlace 4) = true := by kernel_rfl
end Go.Proofs.YtemimkkjkggcoaaGreatDoor.mediaKnown
