/-
  'chosen', for all integers. Conditions: none.
-/
import Derived.Test.YtoohcobdljmofaaGreatDoorMediaGrantsC5
namespace Go.Proofs.YtoohcobdljmofaaGreatDoor.mediaGrants.c10
open Go Go.AM
set_option linter.unusedVariables false
noncomputable def a0 (w : Int) (h : Int) (p : Int) (x : Int) (y : Int) : AF := ⟨10, 34, ⟨⟨⟨⟨⟨⟨(.int .i64 w), xu, xu, xu⟩, z1, z1, z1⟩, z2, z2, z2⟩, ⟨⟨⟨(.int .i64 y), xu, xu, xu⟩, z1, z1, z1⟩, z2, z2, z2⟩, z3, z3⟩, ⟨⟨⟨⟨(.int .i64 h), xu, xu, xu⟩, z1, z1, z1⟩, z2, z2, z2⟩, z3, z3, z3⟩, ⟨⟨⟨⟨(.int .i64 p), xu, xu, xu⟩, z1, z1, z1⟩, z2, z2, z2⟩, z3, z3, z3⟩, ⟨⟨⟨⟨(.int .i64 x), xu, xu, xu⟩, z1, z1, z1⟩, z2, z2, z2⟩, z3, z3, z3⟩⟩, .e⟩, [cA En 10 []], [], .run, false, false, none⟩
noncomputable def f1 (w : Int) (h : Int) (p : Int) (x : Int) (y : Int) (bb : Bool) : AF := (a0 w h p x y)
noncomputable def cs1 (w : Int) (h : Int) (p : Int) (x : Int) (y : Int) (bb : Bool) : List AF := []
noncomputable def S1 (w : Int) (h : Int) (p : Int) (x : Int) (y : Int) (bb : Bool) : Hp := ⟨.e, (.i .h), 2⟩
noncomputable def ks1 : List Ps := []
noncomputable def mainF (w : Int) (h : Int) (p : Int) (x : Int) (y : Int) : AF := f1 w h p x y true
noncomputable def mainC (w : Int) (h : Int) (p : Int) (x : Int) (y : Int) : List AF := cs1 w h p x y true
noncomputable def mainS (w : Int) (h : Int) (p : Int) (x : Int) (y : Int) : Hp := S1 w h p x y true
noncomputable def a1 (w : Int) (h : Int) (p : Int) : AF := ⟨5, 47, ⟨⟨⟨⟨⟨⟨(.int .i64 w), xu, xu, xu⟩, z1, z1, z1⟩, z2, z2, z2⟩, z3, z3, z3⟩, ⟨⟨⟨⟨(.int .i64 h), xu, xu, xu⟩, z1, z1, z1⟩, z2, z2, z2⟩, z3, z3, z3⟩, ⟨⟨⟨⟨(.int .i64 p), xu, xu, xu⟩, z1, z1, z1⟩, z2, z2, z2⟩, z3, z3, z3⟩, z4⟩, .e⟩, [cA En 5 []], [], .run, false, false, none⟩
noncomputable def a2 (w : Int) (h : Int) (p : Int) (x : Int) (y : Int) : AF := ⟨10, 34, ⟨⟨⟨⟨⟨⟨(.int .i64 w), xu, xu, xu⟩, z1, z1, z1⟩, ⟨⟨(.int .i64 h), xu, xu, xu⟩, z1, z1, z1⟩, z2, z2⟩, ⟨⟨⟨(.int .i64 y), xu, xu, xu⟩, z1, z1, z1⟩, z2, z2, z2⟩, z3, z3⟩, ⟨⟨⟨⟨(.int .i64 h), xu, xu, xu⟩, z1, z1, z1⟩, ⟨⟨(.int .i64 p), xu, xu, xu⟩, z1, z1, z1⟩, z2, z2⟩, z3, z3, z3⟩, ⟨⟨⟨⟨(.int .i64 p), xu, xu, xu⟩, z1, z1, z1⟩, z2, z2, z2⟩, z3, ⟨⟨⟨(.bool false), xu, xu, xu⟩, z1, z1, z1⟩, z2, z2, z2⟩, z3⟩, ⟨⟨⟨⟨(.int .i64 x), xu, xu, xu⟩, z1, z1, z1⟩, z2, z2, z2⟩, z3, z3, ⟨⟨⟨(.int .i64 w), xu, xu, xu⟩, z1, z1, z1⟩, z2, z2, z2⟩⟩⟩, .e⟩, [rA En 10 [1, 0] 3, cA En 10 [1, 1]], [], .run, false, false, none⟩
noncomputable def f2 (w : Int) (h : Int) (p : Int) (x : Int) (y : Int) (bb : Bool) : AF := (a1 w h p)
noncomputable def cs2 (w : Int) (h : Int) (p : Int) (x : Int) (y : Int) (bb : Bool) : List AF := [(a2 w h p x y)]
noncomputable def S2 (w : Int) (h : Int) (p : Int) (x : Int) (y : Int) (bb : Bool) : Hp := ⟨.e, (.i .h), 2⟩
noncomputable def ks2 : List Ps := []
noncomputable def v3 (w : Int) (h : Int) (p : Int) : AV := (.tup [(.int .i64 (chW w h p)), (.int .i64 (chH w h p)), (.int .i64 (chE w h p))])
noncomputable def a4 (w : Int) (h : Int) (p : Int) (x : Int) (y : Int) : AF := ⟨10, 34, ⟨⟨⟨⟨⟨⟨(.int .i64 w), xu, xu, xu⟩, z1, z1, z1⟩, ⟨⟨(.int .i64 h), xu, xu, xu⟩, z1, z1, z1⟩, z2, z2⟩, ⟨⟨⟨(.int .i64 y), xu, xu, xu⟩, z1, z1, z1⟩, z2, z2, z2⟩, z3, z3⟩, ⟨⟨⟨⟨(.int .i64 h), xu, xu, xu⟩, z1, z1, z1⟩, ⟨⟨(.int .i64 p), xu, xu, xu⟩, z1, z1, z1⟩, z2, z2⟩, z3, z3, z3⟩, ⟨⟨⟨⟨(.int .i64 p), xu, xu, xu⟩, z1, z1, z1⟩, ⟨⟨(v3 w h p), xu, xu, xu⟩, z1, z1, z1⟩, z2, z2⟩, z3, ⟨⟨⟨(.bool false), xu, xu, xu⟩, z1, z1, z1⟩, z2, z2, z2⟩, z3⟩, ⟨⟨⟨⟨(.int .i64 x), xu, xu, xu⟩, z1, z1, z1⟩, z2, z2, z2⟩, z3, z3, ⟨⟨⟨(.int .i64 w), xu, xu, xu⟩, z1, z1, z1⟩, z2, z2, z2⟩⟩⟩, .e⟩, [rA En 10 [1, 0] 4, cA En 10 [1, 1]], [], .run, false, false, none⟩
noncomputable def f3 (w : Int) (h : Int) (p : Int) (x : Int) (y : Int) (bb : Bool) : AF := (a4 w h p x y)
noncomputable def cs3 (w : Int) (h : Int) (p : Int) (x : Int) (y : Int) (bb : Bool) : List AF := []
noncomputable def S3 (w : Int) (h : Int) (p : Int) (x : Int) (y : Int) (bb : Bool) : Hp := S2 w h p x y bb
noncomputable def q5 (w : Int) (h : Int) (p : Int) (y : Int) : Q (Q (Q AV)) := ⟨⟨⟨(.int .i64 y), xu, xu, xu⟩, z1, z1, z1⟩, ⟨⟨(.int .i64 (chH w h p)), xu, xu, xu⟩, z1, z1, z1⟩, z2, z2⟩
noncomputable def q6 (w : Int) (h : Int) (p : Int) (x : Int) : Q (Q (Q AV)) := ⟨⟨⟨(.int .i64 x), xu, xu, xu⟩, z1, z1, z1⟩, ⟨⟨(.int .i64 (chW w h p)), xu, xu, xu⟩, z1, z1, z1⟩, z2, z2⟩
noncomputable def a7 (w : Int) (h : Int) (p : Int) (x : Int) (y : Int) (bb : Bool) : AF := ⟨10, 34, ⟨⟨⟨⟨⟨⟨(.int .i64 w), xu, xu, xu⟩, z1, z1, z1⟩, ⟨⟨(.int .i64 h), xu, xu, xu⟩, z1, z1, z1⟩, z2, z2⟩, (q5 w h p y), ⟨z2, ⟨⟨(.bool bb), xu, xu, xu⟩, z1, z1, z1⟩, z2, z2⟩, ⟨⟨⟨(.int .i64 (chH w h p)), xu, xu, xu⟩, z1, z1, z1⟩, z2, z2, z2⟩⟩, ⟨⟨⟨⟨(.int .i64 h), xu, xu, xu⟩, z1, z1, z1⟩, ⟨⟨(.int .i64 p), xu, xu, xu⟩, z1, z1, z1⟩, z2, z2⟩, ⟨z2, ⟨⟨(.int .i64 (chE w h p)), xu, xu, xu⟩, z1, z1, z1⟩, z2, z2⟩, ⟨z2, ⟨⟨(.bool bb), xu, xu, xu⟩, z1, z1, z1⟩, z2, z2⟩, ⟨⟨⟨(.int .i64 (chE w h p)), xu, xu, xu⟩, z1, z1, z1⟩, z2, z2, z2⟩⟩, ⟨⟨⟨⟨(.int .i64 p), xu, xu, xu⟩, z1, z1, z1⟩, ⟨⟨(v3 w h p), xu, xu, xu⟩, z1, z1, z1⟩, z2, z2⟩, ⟨z2, ⟨⟨(.int .i64 (chW w h p)), xu, xu, xu⟩, z1, z1, z1⟩, z2, z2⟩, ⟨⟨⟨(.bool false), xu, xu, xu⟩, z1, z1, z1⟩, z2, z2, z2⟩, ⟨⟨⟨(v3 w h p), xu, xu, xu⟩, z1, z1, z1⟩, z2, z2, z2⟩⟩, ⟨(q6 w h p x), ⟨z2, ⟨⟨(.int .i64 x), xu, xu, xu⟩, z1, z1, z1⟩, z2, z2⟩, ⟨⟨⟨(.int .i64 (chW w h p)), xu, xu, xu⟩, z1, z1, z1⟩, z2, z2, z2⟩, ⟨⟨⟨(.int .i64 w), xu, xu, xu⟩, z1, z1, z1⟩, z2, z2, z2⟩⟩⟩, .e⟩, [rA En 10 [1, 1, 0] 4, cA En 10 [1, 1, 1]], [], .run, false, false, none⟩
noncomputable def f4 (w : Int) (h : Int) (p : Int) (x : Int) (y : Int) (bb : Bool) : AF := (a7 w h p x y bb)
noncomputable def cs4 (w : Int) (h : Int) (p : Int) (x : Int) (y : Int) (bb : Bool) : List AF := []
noncomputable def S4 (w : Int) (h : Int) (p : Int) (x : Int) (y : Int) (bb : Bool) : Hp := ⟨.e, (.i .h), 2⟩
noncomputable def ks4 : List Ps := []
noncomputable def q8 (w : Int) (h : Int) (p : Int) (bb : Bool) : Q (Q (Q AV)) := ⟨⟨⟨(.int .i64 (chH w h p)), xu, xu, xu⟩, z1, z1, z1⟩, ⟨⟨(.bool bb), xu, xu, xu⟩, z1, z1, z1⟩, z2, z2⟩
noncomputable def q9 (w : Int) (h : Int) (p : Int) (bb : Bool) : Q (Q (Q AV)) := ⟨⟨⟨(.int .i64 (chE w h p)), xu, xu, xu⟩, z1, z1, z1⟩, ⟨⟨(.bool bb), xu, xu, xu⟩, z1, z1, z1⟩, z2, z2⟩
noncomputable def q10 (w : Int) (h : Int) (p : Int) : Q (Q (Q AV)) := ⟨⟨⟨(.bool false), xu, xu, xu⟩, z1, z1, z1⟩, ⟨⟨(.int .i64 (chH w h p)), xu, xu, xu⟩, z1, z1, z1⟩, z2, z2⟩
noncomputable def q11 (w : Int) (h : Int) (p : Int) (y : Int) : Q (Q (Q AV)) := ⟨⟨⟨(.int .i64 (chW w h p)), xu, xu, xu⟩, z1, z1, z1⟩, ⟨⟨(.int .i64 y), xu, xu, xu⟩, z1, z1, z1⟩, z2, z2⟩
noncomputable def a12 (w : Int) (h : Int) (p : Int) (x : Int) (y : Int) (bb : Bool) : AF := ⟨10, 34, ⟨⟨⟨⟨⟨⟨(.int .i64 w), xu, xu, xu⟩, z1, z1, z1⟩, ⟨⟨(.int .i64 h), xu, xu, xu⟩, z1, z1, z1⟩, z2, z2⟩, (q5 w h p y), ⟨z2, ⟨⟨(.bool true), xu, xu, xu⟩, z1, z1, z1⟩, z2, z2⟩, (q8 w h p bb)⟩, ⟨⟨⟨⟨(.int .i64 h), xu, xu, xu⟩, z1, z1, z1⟩, ⟨⟨(.int .i64 p), xu, xu, xu⟩, z1, z1, z1⟩, z2, z2⟩, ⟨z2, ⟨⟨(.int .i64 (chE w h p)), xu, xu, xu⟩, z1, z1, z1⟩, z2, z2⟩, ⟨z2, ⟨⟨(.bool true), xu, xu, xu⟩, z1, z1, z1⟩, z2, z2⟩, (q9 w h p bb)⟩, ⟨⟨⟨⟨(.int .i64 p), xu, xu, xu⟩, z1, z1, z1⟩, ⟨⟨(v3 w h p), xu, xu, xu⟩, z1, z1, z1⟩, z2, z2⟩, ⟨z2, ⟨⟨(.int .i64 (chW w h p)), xu, xu, xu⟩, z1, z1, z1⟩, z2, z2⟩, (q10 w h p), ⟨⟨⟨(v3 w h p), xu, xu, xu⟩, z1, z1, z1⟩, ⟨⟨(.bool bb), xu, xu, xu⟩, z1, z1, z1⟩, z2, z2⟩⟩, ⟨(q6 w h p x), ⟨z2, ⟨⟨(.int .i64 x), xu, xu, xu⟩, z1, z1, z1⟩, z2, z2⟩, (q11 w h p y), ⟨⟨⟨(.int .i64 w), xu, xu, xu⟩, z1, z1, z1⟩, z2, z2, z2⟩⟩⟩, .e⟩, [rA En 10 [1, 1, 0] 9, cA En 10 [1, 1, 1]], [], .run, false, false, none⟩
noncomputable def f5 (w : Int) (h : Int) (p : Int) (x : Int) (y : Int) (bb : Bool) : AF := (a12 w h p x y bb)
noncomputable def cs5 (w : Int) (h : Int) (p : Int) (x : Int) (y : Int) (bb : Bool) : List AF := []
noncomputable def S5 (w : Int) (h : Int) (p : Int) (x : Int) (y : Int) (bb : Bool) : Hp := ⟨.e, (.i .h), 2⟩
noncomputable def ks5 : List Ps := []
theorem s2 (w : Int) (h : Int) (p : Int) (x : Int) (y : Int) : cut ks2 (runF (drawF 1000000 30) En 10 (f1 w h p x y true) (cs1 w h p x y true) (S1 w h p x y true)) = .next (f2 w h p x y true) (cs2 w h p x y true) (S2 w h p x y true) := by kernel_rfl
theorem p3 (w : Int) (h : Int) (p : Int) (x : Int) (y : Int) : ∃ fr0, cs2 w h p x y true = fr0 :: cs3 w h p x y true ∧ fr0.md = .run ∧ fr0.lost = false ∧ finishA fr0 (.tup [(.int .i64 (chW w h p)), (.int .i64 (chH w h p)), (.int .i64 (chE w h p))]) = some (f3 w h p x y true) := ⟨_, rfl, rfl, rfl, by kernel_rfl⟩
theorem s4 (w : Int) (h : Int) (p : Int) (x : Int) (y : Int) : cut ks4 (runF (drawF 1000000 30) En 14 (f3 w h p x y true) (cs3 w h p x y true) (S3 w h p x y true)) = .next (f4 w h p x y (ieq (chW w h p) x)) (cs4 w h p x y (ieq (chW w h p) x)) (S4 w h p x y (ieq (chW w h p) x)) := by kernel_rfl
theorem s5 (w : Int) (h : Int) (p : Int) (x : Int) (y : Int) : cut ks5 (runF (drawF 1000000 30) En 5 (f4 w h p x y true) (cs4 w h p x y true) (S4 w h p x y true)) = .next (f5 w h p x y (ieq (chH w h p) y)) (cs5 w h p x y (ieq (chH w h p) y)) (S5 w h p x y (ieq (chH w h p) y)) := by kernel_rfl
theorem l6 (w : Int) (h : Int) (p : Int) (x : Int) (y : Int) : finOf (runF (drawF 1000000 30) En 7 (f5 w h p x y true) (cs5 w h p x y true) (S5 w h p x y true)) = some (.bool (ieq (chE w h p) (0))) := by kernel_rfl
theorem l7 (w : Int) (h : Int) (p : Int) (x : Int) (y : Int) : finOf (runF (drawF 1000000 30) En 7 (f5 w h p x y false) (cs5 w h p x y false) (S5 w h p x y false)) = some (.bool false) := by kernel_rfl
theorem l8 (w : Int) (h : Int) (p : Int) (x : Int) (y : Int) : finOf (runF (drawF 1000000 30) En 12 (f4 w h p x y false) (cs4 w h p x y false) (S4 w h p x y false)) = some (.bool false) := by kernel_rfl
theorem en (w : Int) (h : Int) (p : Int) (x : Int) (y : Int) : enterA En 10 [.int .i64 w, .int .i64 h, .int .i64 p, .int .i64 x, .int .i64 y] false = some (mainF w h p x y) := by kernel_rfl
theorem hp (w : Int) (h : Int) (p : Int) (x : Int) (y : Int) : mainS w h p x y = H0 En := by kernel_rfl
theorem ends (w h p x y : Int) : Go.AM.Ends En (mainF w h p x y) (mainC w h p x y) (mainS w h p x y) (fun v _ => v = .bool (Bool.and (ieq (chW w h p) x) (Bool.and (ieq (chH w h p) y) (ieq (chE w h p) (0))))) := by
    refine Ends.segF okE mixed (s2 w h p x y) ?_
    refine Ends.pureAt (c5.pure5 w h p) (p3 w h p x y) ?_
    refine Ends.segF okE mixed (s4 w h p x y) ?_
    by_cases h1 : ((chW w h p) = x)
    · rw [show (ieq (chW w h p) x) = true from (ieq_iff _ _).2 h1]
      refine Ends.segF okE mixed (s5 w h p x y) ?_
      by_cases h2 : ((chH w h p) = y)
      · rw [show (ieq (chH w h p) y) = true from (ieq_iff _ _).2 h2]
        exact Ends.lastF okE mixed (l6 w h p x y) (by first | rfl | (simp; done) | exact congrArg AV.bool (beq2 (ieq_iff _ _) (and_iff' (ieq_iff _ _) (and_iff' (ieq_iff _ _) (ieq_iff _ _))) ⟨fun h => (by omega), fun h => (by omega)⟩) | exact congrArg AV.bool (beq2 (and_iff' (ieq_iff _ _) (ieq_iff _ _)) (and_iff' (ieq_iff _ _) (and_iff' (ieq_iff _ _) (ieq_iff _ _))) ⟨fun h => (by omega), fun h => (by omega)⟩) | exact congrArg AV.bool (beq2 (and_iff' (ieq_iff _ _) (and_iff' (ieq_iff _ _) (ieq_iff _ _))) (and_iff' (ieq_iff _ _) (and_iff' (ieq_iff _ _) (ieq_iff _ _))) ⟨fun h => (by omega), fun h => (by omega)⟩) | exact congrArg AV.bool (beq2 false_iff' (and_iff' (ieq_iff _ _) (and_iff' (ieq_iff _ _) (ieq_iff _ _))) ⟨fun h => (by omega), fun h => (by omega)⟩))
      · rw [show (ieq (chH w h p) y) = false from off (ieq_iff _ _) h2]
        exact Ends.lastF okE mixed (l7 w h p x y) (by first | rfl | (simp; done) | exact congrArg AV.bool (beq2 (ieq_iff _ _) (and_iff' (ieq_iff _ _) (and_iff' (ieq_iff _ _) (ieq_iff _ _))) ⟨fun h => (by omega), fun h => (by omega)⟩) | exact congrArg AV.bool (beq2 (and_iff' (ieq_iff _ _) (ieq_iff _ _)) (and_iff' (ieq_iff _ _) (and_iff' (ieq_iff _ _) (ieq_iff _ _))) ⟨fun h => (by omega), fun h => (by omega)⟩) | exact congrArg AV.bool (beq2 (and_iff' (ieq_iff _ _) (and_iff' (ieq_iff _ _) (ieq_iff _ _))) (and_iff' (ieq_iff _ _) (and_iff' (ieq_iff _ _) (ieq_iff _ _))) ⟨fun h => (by omega), fun h => (by omega)⟩) | exact congrArg AV.bool (beq2 false_iff' (and_iff' (ieq_iff _ _) (and_iff' (ieq_iff _ _) (ieq_iff _ _))) ⟨fun h => (by omega), fun h => (by omega)⟩))
    · rw [show (ieq (chW w h p) x) = false from off (ieq_iff _ _) h1]
      exact Ends.lastF okE mixed (l8 w h p x y) (by first | rfl | (simp; done) | exact congrArg AV.bool (beq2 (ieq_iff _ _) (and_iff' (ieq_iff _ _) (and_iff' (ieq_iff _ _) (ieq_iff _ _))) ⟨fun h => (by omega), fun h => (by omega)⟩) | exact congrArg AV.bool (beq2 (and_iff' (ieq_iff _ _) (ieq_iff _ _)) (and_iff' (ieq_iff _ _) (and_iff' (ieq_iff _ _) (ieq_iff _ _))) ⟨fun h => (by omega), fun h => (by omega)⟩) | exact congrArg AV.bool (beq2 (and_iff' (ieq_iff _ _) (and_iff' (ieq_iff _ _) (ieq_iff _ _))) (and_iff' (ieq_iff _ _) (and_iff' (ieq_iff _ _) (ieq_iff _ _))) ⟨fun h => (by omega), fun h => (by omega)⟩) | exact congrArg AV.bool (beq2 false_iff' (and_iff' (ieq_iff _ _) (and_iff' (ieq_iff _ _) (ieq_iff _ _))) ⟨fun h => (by omega), fun h => (by omega)⟩))

theorem pure10 (w h p x y : Int) : PureF En (mainF w h p x y) (.bool (Bool.and (ieq (chW w h p) x) (Bool.and (ieq (chH w h p) y) (ieq (chE w h p) (0))))) := pureN (l := [w, h, p, x, y]) (en w h p x y) rfl (hp w h p x y) (ends w h p x y)
end Go.Proofs.YtoohcobdljmofaaGreatDoor.mediaGrants.c10
