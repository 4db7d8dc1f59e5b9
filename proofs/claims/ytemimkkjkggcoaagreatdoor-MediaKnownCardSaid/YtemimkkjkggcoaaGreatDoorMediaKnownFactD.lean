/-
  A closed fact of the row of 'MediaKnown' (its cell 'named'), asked of the kernel by itself.
-/
import Derived.Test.YtemimkkjkggcoaaGreatDoorRows
import Derived.KernelRfl
namespace Go.Proofs.YtemimkkjkggcoaaGreatDoor.mediaKnown
open Go
theorem factD : (Rows.mediaKnownRow.named == Tryz.pinned.checked.prog.varsNamed 4) = true := by kernel_rfl
end Go.Proofs.YtemimkkjkggcoaaGreatDoor.mediaKnown
