/- A part of the proof of GlyphCovers; no condition. -/
import Derived.Test.YtoahnefofelglaaGlyphCovers07
set_option linter.unusedVariables false
set_option linter.unusedSimpArgs false
set_option linter.unusedSectionVars false
noncomputable section
section
namespace Go.Proofs.Ytoahnefofelglaa.gm
open Go Go.AM
def E0:i3:=Au (fun _=>false) Try.prog
def WI:AF:=o4 (d9 E0 5 [] false)
set_option maxRecDepth 1000000 in
theorem NU:isTrue (Af (Eu 1000000 30) E0 11600 WI [] ⟨.e,.h,0⟩)=true:=by kernel_rfl
end Go.Proofs.Ytoahnefofelglaa.gm
end
