/-
  THE RUN of 'GlyphKnown', piece 2: asked of the kernel (conditions: none)
-/
import Derived.Test.YtecmliaojegkcaaGreatDoorGlyphKnownD1
import Derived.KernelRfl
namespace Go.Proofs.YtecmliaojegkcaaGreatDoor.glyphKnown
open Go Go.AM
set_option maxRecDepth 1000000 in
theorem c2 : cut ks2 (runA (drawF 1000000 30) En 34041 f1 cs1 S1) = .next f2 cs2 S2 := by kernel_rfl
end Go.Proofs.YtecmliaojegkcaaGreatDoor.glyphKnown
