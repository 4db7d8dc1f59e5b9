/-
  THE RUN of 'GlyphKnown', piece 7: asked of the kernel (conditions: none)
-/
import Derived.Test.YtecmliaojegkcaaGreatDoorGlyphKnownD1
import Derived.KernelRfl
namespace Go.Proofs.YtecmliaojegkcaaGreatDoor.glyphKnown
open Go Go.AM
set_option maxRecDepth 1000000 in
theorem c7 : cut ks7 (runA (drawF 1000000 30) En 752 f6 cs6 S6) = .next f7 cs7 S7 := by kernel_rfl
end Go.Proofs.YtecmliaojegkcaaGreatDoor.glyphKnown
