/-
  'refused', for all integers. Conditions: none.
-/
import Derived.Test.YtoohcobdljmofaaGreatDoorMediaGrantsC5
namespace Go.Proofs.YtoohcobdljmofaaGreatDoor.mediaGrants.c9
open Go Go.AM
set_option linter.unusedVariables false
noncomputable def a0 (w : Int) (h : Int) (p : Int) (c : Int) : AF := ⟨9, 31, ⟨⟨⟨⟨⟨⟨(.int .i64 w), xu, xu, xu⟩, z1, z1, z1⟩, z2, z2, z2⟩, z3, z3, z3⟩, ⟨⟨⟨⟨(.int .i64 h), xu, xu, xu⟩, z1, z1, z1⟩, z2, z2, z2⟩, z3, z3, z3⟩, ⟨⟨⟨⟨(.int .i64 p), xu, xu, xu⟩, z1, z1, z1⟩, z2, z2, z2⟩, z3, z3, z3⟩, ⟨⟨⟨⟨(.int .i64 c), xu, xu, xu⟩, z1, z1, z1⟩, z2, z2, z2⟩, z3, z3, z3⟩⟩, .e⟩, [cA En 9 []], [], .run, false, false, none⟩
noncomputable def f1 (w : Int) (h : Int) (p : Int) (c : Int) (bb : Bool) : AF := (a0 w h p c)
noncomputable def cs1 (w : Int) (h : Int) (p : Int) (c : Int) (bb : Bool) : List AF := []
noncomputable def S1 (w : Int) (h : Int) (p : Int) (c : Int) (bb : Bool) : Hp := ⟨.e, (.i .h), 2⟩
noncomputable def ks1 : List Ps := []
noncomputable def mainF (w : Int) (h : Int) (p : Int) (c : Int) : AF := f1 w h p c true
noncomputable def mainC (w : Int) (h : Int) (p : Int) (c : Int) : List AF := cs1 w h p c true
noncomputable def mainS (w : Int) (h : Int) (p : Int) (c : Int) : Hp := S1 w h p c true
noncomputable def a1 (w : Int) (h : Int) (p : Int) : AF := ⟨5, 47, ⟨⟨⟨⟨⟨⟨(.int .i64 w), xu, xu, xu⟩, z1, z1, z1⟩, z2, z2, z2⟩, z3, z3, z3⟩, ⟨⟨⟨⟨(.int .i64 h), xu, xu, xu⟩, z1, z1, z1⟩, z2, z2, z2⟩, z3, z3, z3⟩, ⟨⟨⟨⟨(.int .i64 p), xu, xu, xu⟩, z1, z1, z1⟩, z2, z2, z2⟩, z3, z3, z3⟩, z4⟩, .e⟩, [cA En 5 []], [], .run, false, false, none⟩
noncomputable def a2 (w : Int) (h : Int) (p : Int) (c : Int) : AF := ⟨9, 31, ⟨⟨⟨⟨⟨⟨(.int .i64 w), xu, xu, xu⟩, z1, z1, z1⟩, z2, z2, z2⟩, z3, ⟨⟨⟨(.bool false), xu, xu, xu⟩, z1, z1, z1⟩, z2, z2, z2⟩, z3⟩, ⟨⟨⟨⟨(.int .i64 h), xu, xu, xu⟩, z1, z1, z1⟩, z2, z2, z2⟩, z3, z3, ⟨⟨⟨(.int .i64 w), xu, xu, xu⟩, z1, z1, z1⟩, z2, z2, z2⟩⟩, ⟨⟨⟨⟨(.int .i64 p), xu, xu, xu⟩, z1, z1, z1⟩, z2, z2, z2⟩, z3, z3, ⟨⟨⟨(.int .i64 h), xu, xu, xu⟩, z1, z1, z1⟩, z2, z2, z2⟩⟩, ⟨⟨⟨⟨(.int .i64 c), xu, xu, xu⟩, z1, z1, z1⟩, z2, z2, z2⟩, z3, z3, ⟨⟨⟨(.int .i64 p), xu, xu, xu⟩, z1, z1, z1⟩, z2, z2, z2⟩⟩⟩, .e⟩, [rA En 9 [1, 0] 3, cA En 9 [1, 1]], [], .run, false, false, none⟩
noncomputable def f2 (w : Int) (h : Int) (p : Int) (c : Int) (bb : Bool) : AF := (a1 w h p)
noncomputable def cs2 (w : Int) (h : Int) (p : Int) (c : Int) (bb : Bool) : List AF := [(a2 w h p c)]
noncomputable def S2 (w : Int) (h : Int) (p : Int) (c : Int) (bb : Bool) : Hp := ⟨.e, (.i .h), 2⟩
noncomputable def ks2 : List Ps := []
noncomputable def v3 (w : Int) (h : Int) (p : Int) : AV := (.tup [(.int .i64 (chW w h p)), (.int .i64 (chH w h p)), (.int .i64 (chE w h p))])
noncomputable def a4 (w : Int) (h : Int) (p : Int) (c : Int) : AF := ⟨9, 31, ⟨⟨⟨⟨⟨⟨(.int .i64 w), xu, xu, xu⟩, z1, z1, z1⟩, ⟨⟨(v3 w h p), xu, xu, xu⟩, z1, z1, z1⟩, z2, z2⟩, z3, ⟨⟨⟨(.bool false), xu, xu, xu⟩, z1, z1, z1⟩, z2, z2, z2⟩, z3⟩, ⟨⟨⟨⟨(.int .i64 h), xu, xu, xu⟩, z1, z1, z1⟩, z2, z2, z2⟩, z3, z3, ⟨⟨⟨(.int .i64 w), xu, xu, xu⟩, z1, z1, z1⟩, z2, z2, z2⟩⟩, ⟨⟨⟨⟨(.int .i64 p), xu, xu, xu⟩, z1, z1, z1⟩, z2, z2, z2⟩, z3, z3, ⟨⟨⟨(.int .i64 h), xu, xu, xu⟩, z1, z1, z1⟩, z2, z2, z2⟩⟩, ⟨⟨⟨⟨(.int .i64 c), xu, xu, xu⟩, z1, z1, z1⟩, z2, z2, z2⟩, z3, z3, ⟨⟨⟨(.int .i64 p), xu, xu, xu⟩, z1, z1, z1⟩, z2, z2, z2⟩⟩⟩, .e⟩, [rA En 9 [1, 0] 4, cA En 9 [1, 1]], [], .run, false, false, none⟩
noncomputable def f3 (w : Int) (h : Int) (p : Int) (c : Int) (bb : Bool) : AF := (a4 w h p c)
noncomputable def cs3 (w : Int) (h : Int) (p : Int) (c : Int) (bb : Bool) : List AF := []
noncomputable def S3 (w : Int) (h : Int) (p : Int) (c : Int) (bb : Bool) : Hp := S2 w h p c bb
noncomputable def q5 (w : Int) (h : Int) (p : Int) : Q (Q (Q AV)) := ⟨⟨⟨(.int .i64 h), xu, xu, xu⟩, z1, z1, z1⟩, ⟨⟨(.int .i64 (chW w h p)), xu, xu, xu⟩, z1, z1, z1⟩, z2, z2⟩
noncomputable def q6 (w : Int) (h : Int) (p : Int) : Q (Q (Q AV)) := ⟨⟨⟨(.int .i64 p), xu, xu, xu⟩, z1, z1, z1⟩, ⟨⟨(.int .i64 (chH w h p)), xu, xu, xu⟩, z1, z1, z1⟩, z2, z2⟩
noncomputable def q7 (w : Int) (h : Int) (p : Int) (c : Int) : Q (Q (Q AV)) := ⟨⟨⟨(.int .i64 c), xu, xu, xu⟩, z1, z1, z1⟩, ⟨⟨(.int .i64 (chE w h p)), xu, xu, xu⟩, z1, z1, z1⟩, z2, z2⟩
noncomputable def a8 (w : Int) (h : Int) (p : Int) (c : Int) (bb : Bool) : AF := ⟨9, 31, ⟨⟨⟨⟨⟨⟨(.int .i64 w), xu, xu, xu⟩, z1, z1, z1⟩, ⟨⟨(v3 w h p), xu, xu, xu⟩, z1, z1, z1⟩, z2, z2⟩, ⟨z2, ⟨⟨(.int .i64 (chW w h p)), xu, xu, xu⟩, z1, z1, z1⟩, z2, z2⟩, ⟨⟨⟨(.bool false), xu, xu, xu⟩, z1, z1, z1⟩, z2, z2, z2⟩, ⟨⟨⟨(v3 w h p), xu, xu, xu⟩, z1, z1, z1⟩, z2, z2, z2⟩⟩, ⟨(q5 w h p), ⟨z2, ⟨⟨(.bool bb), xu, xu, xu⟩, z1, z1, z1⟩, z2, z2⟩, ⟨⟨⟨(.int .i64 (chW w h p)), xu, xu, xu⟩, z1, z1, z1⟩, z2, z2, z2⟩, ⟨⟨⟨(.int .i64 w), xu, xu, xu⟩, z1, z1, z1⟩, z2, z2, z2⟩⟩, ⟨(q6 w h p), ⟨z2, ⟨⟨(.bool bb), xu, xu, xu⟩, z1, z1, z1⟩, z2, z2⟩, ⟨⟨⟨(.int .i64 (chH w h p)), xu, xu, xu⟩, z1, z1, z1⟩, z2, z2, z2⟩, ⟨⟨⟨(.int .i64 h), xu, xu, xu⟩, z1, z1, z1⟩, z2, z2, z2⟩⟩, ⟨(q7 w h p c), z3, ⟨⟨⟨(.int .i64 (chE w h p)), xu, xu, xu⟩, z1, z1, z1⟩, z2, z2, z2⟩, ⟨⟨⟨(.int .i64 p), xu, xu, xu⟩, z1, z1, z1⟩, z2, z2, z2⟩⟩⟩, .e⟩, [rA En 9 [1, 1, 0] 3, cA En 9 [1, 1, 1]], [], .run, false, false, none⟩
noncomputable def f4 (w : Int) (h : Int) (p : Int) (c : Int) (bb : Bool) : AF := (a8 w h p c bb)
noncomputable def cs4 (w : Int) (h : Int) (p : Int) (c : Int) (bb : Bool) : List AF := []
noncomputable def S4 (w : Int) (h : Int) (p : Int) (c : Int) (bb : Bool) : Hp := ⟨.e, (.i .h), 2⟩
noncomputable def ks4 : List Ps := []
noncomputable def q9 (w : Int) (h : Int) (p : Int) (bb : Bool) : Q (Q (Q AV)) := ⟨⟨⟨(.int .i64 (chW w h p)), xu, xu, xu⟩, z1, z1, z1⟩, ⟨⟨(.bool bb), xu, xu, xu⟩, z1, z1, z1⟩, z2, z2⟩
noncomputable def q10 (w : Int) (h : Int) (p : Int) (bb : Bool) : Q (Q (Q AV)) := ⟨⟨⟨(.int .i64 (chH w h p)), xu, xu, xu⟩, z1, z1, z1⟩, ⟨⟨(.bool bb), xu, xu, xu⟩, z1, z1, z1⟩, z2, z2⟩
noncomputable def a11 (w : Int) (h : Int) (p : Int) (c : Int) (bb : Bool) : AF := ⟨9, 31, ⟨⟨⟨⟨⟨⟨(.int .i64 w), xu, xu, xu⟩, z1, z1, z1⟩, ⟨⟨(v3 w h p), xu, xu, xu⟩, z1, z1, z1⟩, z2, z2⟩, ⟨z2, ⟨⟨(.int .i64 (chW w h p)), xu, xu, xu⟩, z1, z1, z1⟩, z2, z2⟩, ⟨⟨⟨(.bool false), xu, xu, xu⟩, z1, z1, z1⟩, ⟨⟨(.bool bb), xu, xu, xu⟩, z1, z1, z1⟩, z2, z2⟩, ⟨⟨⟨(v3 w h p), xu, xu, xu⟩, z1, z1, z1⟩, z2, z2, z2⟩⟩, ⟨(q5 w h p), ⟨z2, ⟨⟨(.bool true), xu, xu, xu⟩, z1, z1, z1⟩, z2, z2⟩, (q9 w h p bb), ⟨⟨⟨(.int .i64 w), xu, xu, xu⟩, z1, z1, z1⟩, z2, z2, z2⟩⟩, ⟨(q6 w h p), ⟨z2, ⟨⟨(.bool true), xu, xu, xu⟩, z1, z1, z1⟩, z2, z2⟩, (q10 w h p bb), ⟨⟨⟨(.int .i64 h), xu, xu, xu⟩, z1, z1, z1⟩, z2, z2, z2⟩⟩, ⟨(q7 w h p c), ⟨z2, ⟨⟨(.int .i64 (chH w h p)), xu, xu, xu⟩, z1, z1, z1⟩, z2, z2⟩, ⟨⟨⟨(.int .i64 (chE w h p)), xu, xu, xu⟩, z1, z1, z1⟩, z2, z2, z2⟩, ⟨⟨⟨(.int .i64 p), xu, xu, xu⟩, z1, z1, z1⟩, z2, z2, z2⟩⟩⟩, .e⟩, [rA En 9 [1, 1, 0] 7, cA En 9 [1, 1, 1]], [], .run, false, false, none⟩
noncomputable def f5 (w : Int) (h : Int) (p : Int) (c : Int) (bb : Bool) : AF := (a11 w h p c bb)
noncomputable def cs5 (w : Int) (h : Int) (p : Int) (c : Int) (bb : Bool) : List AF := []
noncomputable def S5 (w : Int) (h : Int) (p : Int) (c : Int) (bb : Bool) : Hp := ⟨.e, (.i .h), 2⟩
noncomputable def ks5 : List Ps := []
theorem s2 (w : Int) (h : Int) (p : Int) (c : Int) : cut ks2 (runF (drawF 1000000 30) En 10 (f1 w h p c true) (cs1 w h p c true) (S1 w h p c true)) = .next (f2 w h p c true) (cs2 w h p c true) (S2 w h p c true) := by kernel_rfl
theorem p3 (w : Int) (h : Int) (p : Int) (c : Int) : ∃ fr0, cs2 w h p c true = fr0 :: cs3 w h p c true ∧ fr0.md = .run ∧ fr0.lost = false ∧ finishA fr0 (.tup [(.int .i64 (chW w h p)), (.int .i64 (chH w h p)), (.int .i64 (chE w h p))]) = some (f3 w h p c true) := ⟨_, rfl, rfl, rfl, by kernel_rfl⟩
theorem s4 (w : Int) (h : Int) (p : Int) (c : Int) : cut ks4 (runF (drawF 1000000 30) En 13 (f3 w h p c true) (cs3 w h p c true) (S3 w h p c true)) = .next (f4 w h p c (ieq (chW w h p) (0))) (cs4 w h p c (ieq (chW w h p) (0))) (S4 w h p c (ieq (chW w h p) (0))) := by kernel_rfl
theorem s5 (w : Int) (h : Int) (p : Int) (c : Int) : cut ks5 (runF (drawF 1000000 30) En 4 (f4 w h p c true) (cs4 w h p c true) (S4 w h p c true)) = .next (f5 w h p c (ieq (chH w h p) (0))) (cs5 w h p c (ieq (chH w h p) (0))) (S5 w h p c (ieq (chH w h p) (0))) := by kernel_rfl
theorem l6 (w : Int) (h : Int) (p : Int) (c : Int) : finOf (runF (drawF 1000000 30) En 8 (f5 w h p c true) (cs5 w h p c true) (S5 w h p c true)) = some (.bool (ieq (chE w h p) c)) := by kernel_rfl
theorem l7 (w : Int) (h : Int) (p : Int) (c : Int) : finOf (runF (drawF 1000000 30) En 8 (f5 w h p c false) (cs5 w h p c false) (S5 w h p c false)) = some (.bool false) := by kernel_rfl
theorem l8 (w : Int) (h : Int) (p : Int) (c : Int) : finOf (runF (drawF 1000000 30) En 12 (f4 w h p c false) (cs4 w h p c false) (S4 w h p c false)) = some (.bool false) := by kernel_rfl
theorem en (w : Int) (h : Int) (p : Int) (c : Int) : enterA En 9 [.int .i64 w, .int .i64 h, .int .i64 p, .int .i64 c] false = some (mainF w h p c) := by kernel_rfl
theorem hp (w : Int) (h : Int) (p : Int) (c : Int) : mainS w h p c = H0 En := by kernel_rfl
theorem ends (w h p c : Int) : Go.AM.Ends En (mainF w h p c) (mainC w h p c) (mainS w h p c) (fun v _ => v = .bool (Bool.and (ieq (chW w h p) (0)) (Bool.and (ieq (chH w h p) (0)) (ieq (chE w h p) c)))) := by
    refine Ends.segF okE mixed (s2 w h p c) ?_
    refine Ends.pureAt (c5.pure5 w h p) (p3 w h p c) ?_
    refine Ends.segF okE mixed (s4 w h p c) ?_
    by_cases h1 : ((chW w h p) = (0 : Int))
    · rw [show (ieq (chW w h p) (0)) = true from (ieq_iff _ _).2 h1]
      refine Ends.segF okE mixed (s5 w h p c) ?_
      by_cases h2 : ((chH w h p) = (0 : Int))
      · rw [show (ieq (chH w h p) (0)) = true from (ieq_iff _ _).2 h2]
        exact Ends.lastF okE mixed (l6 w h p c) (by first | rfl | (simp; done) | exact congrArg AV.bool (beq2 (ieq_iff _ _) (and_iff' (ieq_iff _ _) (and_iff' (ieq_iff _ _) (ieq_iff _ _))) ⟨fun h => (by omega), fun h => (by omega)⟩) | exact congrArg AV.bool (beq2 (and_iff' (ieq_iff _ _) (ieq_iff _ _)) (and_iff' (ieq_iff _ _) (and_iff' (ieq_iff _ _) (ieq_iff _ _))) ⟨fun h => (by omega), fun h => (by omega)⟩) | exact congrArg AV.bool (beq2 (and_iff' (ieq_iff _ _) (and_iff' (ieq_iff _ _) (ieq_iff _ _))) (and_iff' (ieq_iff _ _) (and_iff' (ieq_iff _ _) (ieq_iff _ _))) ⟨fun h => (by omega), fun h => (by omega)⟩) | exact congrArg AV.bool (beq2 false_iff' (and_iff' (ieq_iff _ _) (and_iff' (ieq_iff _ _) (ieq_iff _ _))) ⟨fun h => (by omega), fun h => (by omega)⟩))
      · rw [show (ieq (chH w h p) (0)) = false from off (ieq_iff _ _) h2]
        exact Ends.lastF okE mixed (l7 w h p c) (by first | rfl | (simp; done) | exact congrArg AV.bool (beq2 (ieq_iff _ _) (and_iff' (ieq_iff _ _) (and_iff' (ieq_iff _ _) (ieq_iff _ _))) ⟨fun h => (by omega), fun h => (by omega)⟩) | exact congrArg AV.bool (beq2 (and_iff' (ieq_iff _ _) (ieq_iff _ _)) (and_iff' (ieq_iff _ _) (and_iff' (ieq_iff _ _) (ieq_iff _ _))) ⟨fun h => (by omega), fun h => (by omega)⟩) | exact congrArg AV.bool (beq2 (and_iff' (ieq_iff _ _) (and_iff' (ieq_iff _ _) (ieq_iff _ _))) (and_iff' (ieq_iff _ _) (and_iff' (ieq_iff _ _) (ieq_iff _ _))) ⟨fun h => (by omega), fun h => (by omega)⟩) | exact congrArg AV.bool (beq2 false_iff' (and_iff' (ieq_iff _ _) (and_iff' (ieq_iff _ _) (ieq_iff _ _))) ⟨fun h => (by omega), fun h => (by omega)⟩))
    · rw [show (ieq (chW w h p) (0)) = false from off (ieq_iff _ _) h1]
      exact Ends.lastF okE mixed (l8 w h p c) (by first | rfl | (simp; done) | exact congrArg AV.bool (beq2 (ieq_iff _ _) (and_iff' (ieq_iff _ _) (and_iff' (ieq_iff _ _) (ieq_iff _ _))) ⟨fun h => (by omega), fun h => (by omega)⟩) | exact congrArg AV.bool (beq2 (and_iff' (ieq_iff _ _) (ieq_iff _ _)) (and_iff' (ieq_iff _ _) (and_iff' (ieq_iff _ _) (ieq_iff _ _))) ⟨fun h => (by omega), fun h => (by omega)⟩) | exact congrArg AV.bool (beq2 (and_iff' (ieq_iff _ _) (and_iff' (ieq_iff _ _) (ieq_iff _ _))) (and_iff' (ieq_iff _ _) (and_iff' (ieq_iff _ _) (ieq_iff _ _))) ⟨fun h => (by omega), fun h => (by omega)⟩) | exact congrArg AV.bool (beq2 false_iff' (and_iff' (ieq_iff _ _) (and_iff' (ieq_iff _ _) (ieq_iff _ _))) ⟨fun h => (by omega), fun h => (by omega)⟩))

theorem pure9 (w h p c : Int) : PureF En (mainF w h p c) (.bool (Bool.and (ieq (chW w h p) (0)) (Bool.and (ieq (chH w h p) (0)) (ieq (chE w h p) c)))) := pureN (l := [w, h, p, c]) (en w h p c) rfl (hp w h p c) (ends w h p c)
end Go.Proofs.YtoohcobdljmofaaGreatDoor.mediaGrants.c9
