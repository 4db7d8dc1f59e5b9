/- A part of the proof of GlyphCovers; no condition. -/
import Derived.Test.YtoahnefofelglaaRows
import Derived.KernelRfl
set_option linter.unusedVariables false
set_option linter.unusedSimpArgs false
set_option linter.unusedSectionVars false
noncomputable section
section
namespace Go.Proofs.Ytoahnefofelglaa.glyphCovers
open Go
theorem UU:(Rows.glyphCoversRow.recurses == Try.pinned.checked.prog.recurses 3)=true:=by kernel_rfl
end Go.Proofs.Ytoahnefofelglaa.glyphCovers
end
