/-
  A closed fact of the row of 'MediaKnown' (its cell 'unfollowed'), asked of the kernel by itself.
-/
import Derived.Test.YtemimkkjkggcoaaGreatDoorRows
import Derived.KernelRfl
namespace Go.Proofs.YtemimkkjkggcoaaGreatDoor.mediaKnown
open Go
theorem factB : (Rows.mediaKnownRow.unfollowed == Tryz.pinned.checked.prog.unfollowed 4) = true := by kernel_rfl
end Go.Proofs.YtemimkkjkggcoaaGreatDoor.mediaKnown
