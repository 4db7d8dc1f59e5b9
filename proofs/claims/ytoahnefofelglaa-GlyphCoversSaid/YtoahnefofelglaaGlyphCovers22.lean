/- A part of the proof of GlyphCovers; no condition. -/
import Derived.Test.YtoahnefofelglaaGlyphCovers18
import Derived.Test.YtoahnefofelglaaGlyphCovers19
import Derived.Test.YtoahnefofelglaaGlyphCovers20
import Derived.Test.YtoahnefofelglaaGlyphCovers21
import Derived.JoinedOf
set_option linter.unusedVariables false
set_option linter.unusedSimpArgs false
set_option linter.unusedSectionVars false
noncomputable section
section
namespace Go.Proofs.Ytoahnefofelglaa.glyphCovers
open Go
set_option maxRecDepth 100000 in
theorem UW:joinedFacts Try.pinned.checked.prog 3 Try.f3 Rows.glyphCoversSpec Rows.glyphCoversRow=true:=by
 unfold joinedFacts
 simp only [Bool.and_eq_true]
 repeat' apply And.intro
 all_goals first|with_reducible exact US|with_reducible exact UT|with_reducible exact UU|with_reducible exact UV|kernel_rfl
end Go.Proofs.Ytoahnefofelglaa.glyphCovers
end
