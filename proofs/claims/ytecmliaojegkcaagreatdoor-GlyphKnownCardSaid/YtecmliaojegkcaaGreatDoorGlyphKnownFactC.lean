/-
  A closed fact of the row of 'GlyphKnown' (its cell 'recurses'), asked of the kernel by itself.
-/
import Derived.Test.YtecmliaojegkcaaGreatDoorRows
import Derived.KernelRfl
namespace Go.Proofs.YtecmliaojegkcaaGreatDoor.glyphKnown
open Go
theorem factC : (Rows.glyphKnownRow.recurses == Tryz.pinned.checked.prog.recurses 3) = true := by kernel_rfl
end Go.Proofs.YtecmliaojegkcaaGreatDoor.glyphKnown
