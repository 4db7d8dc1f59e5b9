/-
  A closed fact of the row of 'GlyphKnown' (its cell 'unfollowed'), asked of the kernel by itself.
-/
import Derived.Test.YtecmliaojegkcaaGreatDoorRows
import Derived.KernelRfl
namespace Go.Proofs.YtecmliaojegkcaaGreatDoor.glyphKnown
open Go
theorem factB : (Rows.glyphKnownRow.unfollowed == Tryz.pinned.checked.prog.unfollowed 3) = true := by kernel_rfl
end Go.Proofs.YtecmliaojegkcaaGreatDoor.glyphKnown
