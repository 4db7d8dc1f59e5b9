/-
  THE RUN of 'GlyphKnown', piece 17: asked of the kernel (conditions: none)
-/
import Derived.Test.YtecmliaojegkcaaGreatDoorGlyphKnownD2
import Derived.KernelRfl
namespace Go.Proofs.YtecmliaojegkcaaGreatDoor.glyphKnown
open Go Go.AM
set_option maxRecDepth 1000000 in
theorem c17 : cut ks17 (runA (drawF 1000000 30) En 33619 f16 cs16 S16) = .next f17 cs17 S17 := by kernel_rfl
end Go.Proofs.YtecmliaojegkcaaGreatDoor.glyphKnown
