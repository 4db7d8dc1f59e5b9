/-
  A closed fact of the row of 'MediaKnown' (its cell 'recurses'), asked of the kernel by itself.
-/
import Derived.Test.YtemimkkjkggcoaaGreatDoorRows
import Derived.KernelRfl
namespace Go.Proofs.YtemimkkjkggcoaaGreatDoor.mediaKnown
open Go
theorem factC : (Rows.mediaKnownRow.recurses == Tryz.pinned.checked.prog.recurses 4) = true := by kernel_rfl
end Go.Proofs.YtemimkkjkggcoaaGreatDoor.mediaKnown
