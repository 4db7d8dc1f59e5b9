/- A part of the proof of GlyphMoves; no condition. -/
import Derived.Test.YtoahnefofelglaaGlyphMoves17
import Derived.Test.YtoahnefofelglaaGlyphMoves18
import Derived.Test.YtoahnefofelglaaGlyphMoves19
import Derived.Test.YtoahnefofelglaaGlyphMoves20
import Derived.JoinedOf
set_option linter.unusedVariables false
set_option linter.unusedSimpArgs false
set_option linter.unusedSectionVars false
section
namespace Go.Proofs.Ytoahnefofelglaa.glyphMoves
open Go
set_option maxRecDepth 100000 in
theorem facts:joinedFacts Try.pinned.checked.prog 4 Try.f4 Rows.glyphMovesSpec Rows.glyphMovesRow=true:=by
  unfold joinedFacts
  simp only [Bool.and_eq_true]
  repeat' apply And.intro
  all_goals first|with_reducible exact factA|with_reducible exact factB|with_reducible exact factC|with_reducible exact factD|kernel_rfl
end Go.Proofs.Ytoahnefofelglaa.glyphMoves
end
