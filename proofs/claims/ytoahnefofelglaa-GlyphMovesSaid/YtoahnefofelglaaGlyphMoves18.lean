/- A part of the proof of GlyphMoves; no condition. -/
import Derived.Test.YtoahnefofelglaaRows
import Derived.KernelRfl
set_option linter.unusedVariables false
set_option linter.unusedSimpArgs false
set_option linter.unusedSectionVars false
section
namespace Go.Proofs.Ytoahnefofelglaa.glyphMoves
open Go
theorem factB:(Rows.glyphMovesRow.unfollowed == Try.pinned.checked.prog.unfollowed 4)=true:=by kernel_rfl
end Go.Proofs.Ytoahnefofelglaa.glyphMoves
end
