/-
  THE RUN of 'GlyphKnown', piece 13: asked of the kernel (conditions: none)
-/
import Derived.Test.YtecmliaojegkcaaGreatDoorGlyphKnownD1
import Derived.KernelRfl
namespace Go.Proofs.YtecmliaojegkcaaGreatDoor.glyphKnown
open Go Go.AM
set_option maxRecDepth 1000000 in
theorem c13 : cut ks13 (runA (drawF 1000000 30) En 752 f12 cs12 S12) = .next f13 cs13 S13 := by kernel_rfl
end Go.Proofs.YtecmliaojegkcaaGreatDoor.glyphKnown
