/-
  The chapter's examples: 'works' returns true. Conditions: none.
-/
import Derived.Test.YtoohcobdljmofaaGreatDoorMediaGrantsBase
namespace Go.Proofs.YtoohcobdljmofaaGreatDoor.mediaGrants.c8
open Go Go.AM
set_option linter.unusedVariables false
noncomputable def a0 : AF := ⟨8, 205, ⟨z5, .e⟩, [cA En 8 []], [], .run, false, false, none⟩
noncomputable def f1 (bb : Bool) : AF := a0
noncomputable def cs1 (bb : Bool) : List AF := []
noncomputable def S1 (bb : Bool) : Hp := ⟨.e, (.i .h), 2⟩
noncomputable def ks1 : List Ps := []
theorem en : enterA En 8 [] false = some (f1  true) := by kernel_rfl
theorem hp : S1  true = H0 En := by kernel_rfl
set_option maxRecDepth 1000000 in
theorem l2 : finOf (runA (drawF 1000000 30) En 3453 (f1  true) (cs1  true) (S1  true)) = some (.bool true) := by kernel_rfl

theorem ends : Go.AM.Ends En (f1  true) [] (S1  true) (fun v _ => v = (.bool true) ) := by
  exact Ends.last okE mixed (l2 ) (by rfl)
theorem works8 : PureF En (f1 true) (.bool TRUE) := PureF.of_ends (plain_of_enter en (fun x hx => by cases hx)) rfl (by have := ends; rwa [hp] at this)
end Go.Proofs.YtoohcobdljmofaaGreatDoor.mediaGrants.c8
