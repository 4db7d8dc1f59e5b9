/-
  A closed fact of the row of 'GlyphKnown' (its cell 'inPlace'), asked of the kernel by itself.
-/
import Derived.Test.YtecmliaojegkcaaGreatDoorRows
import Derived.KernelRfl
namespace Go.Proofs.YtecmliaojegkcaaGreatDoor.glyphKnown
open Go
theorem factA : (Rows.glyphKnownRow.inPlace == Tryz.pinned.checked.prog.inPlace 3) = true := by kernel_rfl
end Go.Proofs.YtecmliaojegkcaaGreatDoor.glyphKnown
