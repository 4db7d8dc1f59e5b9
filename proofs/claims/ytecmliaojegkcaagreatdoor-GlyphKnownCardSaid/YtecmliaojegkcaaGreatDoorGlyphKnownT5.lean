/-
  THE RUN of 'GlyphKnown', piece 5: asked of the kernel (conditions: none)
-/
import Derived.Test.YtecmliaojegkcaaGreatDoorGlyphKnownD1
import Derived.KernelRfl
namespace Go.Proofs.YtecmliaojegkcaaGreatDoor.glyphKnown
open Go Go.AM
set_option maxRecDepth 1000000 in
theorem c5 : cut ks5 (runA (drawF 1000000 30) En 36241 f4 cs4 S4) = .next f5 cs5 S5 := by kernel_rfl
end Go.Proofs.YtecmliaojegkcaaGreatDoor.glyphKnown
