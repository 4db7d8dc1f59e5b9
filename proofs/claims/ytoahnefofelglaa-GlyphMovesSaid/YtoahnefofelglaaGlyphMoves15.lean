/- A part of the proof of GlyphMoves; no condition. -/
import Derived.Test.YtoahnefofelglaaGlyphMoves07
set_option linter.unusedVariables false
set_option linter.unusedSimpArgs false
set_option linter.unusedSectionVars false
section
namespace Go.Proofs.Ytoahnefofelglaa.gm
open Go Go.AM
noncomputable def E0:Env:=mkEnvA (fun _=>false) Try.prog
noncomputable def wk0:AF:=getF (enterA E0 5 [] false)
set_option maxRecDepth 1000000 in
theorem wk_run:isTrue (runA (drawF 1000000 30) E0 11600 wk0 [] ⟨.e,.h,0⟩)=true:=by kernel_rfl
end Go.Proofs.Ytoahnefofelglaa.gm
end
