/-
  A closed fact of the row of 'GlyphKnown' (its cell 'named'), asked of the kernel by itself.
-/
import Derived.Test.YtecmliaojegkcaaGreatDoorRows
import Derived.KernelRfl
namespace Go.Proofs.YtecmliaojegkcaaGreatDoor.glyphKnown
open Go
theorem factD : (Rows.glyphKnownRow.named == Tryz.pinned.checked.prog.varsNamed 3) = true := by kernel_rfl
end Go.Proofs.YtecmliaojegkcaaGreatDoor.glyphKnown
