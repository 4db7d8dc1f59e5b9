/-
  THE REFERENCE's Choose: the states between the pieces of its run with variables, and the pieces, each asked of the kernel. Conditions: none.
-/
import Derived.Test.YtoohcobdljmofaaGreatDoorMediaChoosesBase
namespace Go.Proofs.YtoohcobdljmofaaGreatDoor.mediaChooses.c6
open Go Go.AM
set_option linter.unusedVariables false
noncomputable def a0 (w h p : Int) (bb : Bool) : AF := ⟨6, 91, ⟨⟨⟨⟨⟨⟨(.int .i64 w), xu, xu, xu⟩, z1, z1, z1⟩, z2, z2, z2⟩, z3, z3, z3⟩, ⟨⟨⟨⟨(.int .i64 h), xu, xu, xu⟩, z1, z1, z1⟩, z2, z2, z2⟩, z3, z3, z3⟩, ⟨⟨⟨⟨(.int .i64 p), xu, xu, xu⟩, z1, z1, z1⟩, z2, z2, z2⟩, z3, z3, z3⟩, z4⟩, .e⟩, [cA En 6 []], [], .run, false, false, none⟩
noncomputable def f1 (w h p : Int) (bb : Bool) : AF := (a0 w h p bb)
noncomputable def cs1 (w h p : Int) (bb : Bool) : List AF := []
noncomputable def S1 (w h p : Int) (bb : Bool) : Hp := ⟨.e, (.i .h), 2⟩
noncomputable def ks1 : List Ps := []
theorem en (w h p : Int) : enterA En 6 [.int .i64 w, .int .i64 h, .int .i64 p] false = some (f1 w h p true) := by kernel_rfl
theorem hp (w h p : Int) : S1 w h p true = H0 En := by kernel_rfl
noncomputable def a1 (w h p : Int) (bb : Bool) : AF := ⟨6, 91, ⟨⟨⟨⟨⟨⟨(.int .i64 w), xu, xu, xu⟩, z1, z1, z1⟩, z2, z2, z2⟩, z3, ⟨⟨⟨(.int .i64 (0)), xu, xu, xu⟩, z1, z1, z1⟩, z2, z2, z2⟩, z3⟩, ⟨⟨⟨⟨(.int .i64 h), xu, xu, xu⟩, z1, z1, z1⟩, z2, z2, z2⟩, z3, z3, ⟨⟨⟨(.int .i64 w), xu, xu, xu⟩, z1, z1, z1⟩, z2, z2, z2⟩⟩, ⟨⟨⟨⟨(.int .i64 p), xu, xu, xu⟩, z1, z1, z1⟩, z2, z2, z2⟩, ⟨⟨⟨(.int .i64 (0)), xu, xu, xu⟩, z1, z1, z1⟩, z2, z2, z2⟩, z3, ⟨⟨⟨(.bool bb), xu, xu, xu⟩, z1, z1, z1⟩, z2, z2, z2⟩⟩, ⟨z3, ⟨⟨⟨(.int .i64 (0)), xu, xu, xu⟩, z1, z1, z1⟩, z2, z2, z2⟩, z3, ⟨⟨⟨(.bool bb), xu, xu, xu⟩, z1, z1, z1⟩, z2, z2, z2⟩⟩⟩, .e⟩, [rA En 6 [1, 0, 0] 3, cA En 6 [1, 0, 1], cA En 6 [1, 1]], [], .run, false, false, none⟩
noncomputable def f2 (w h p : Int) (bb : Bool) : AF := (a1 w h p bb)
noncomputable def cs2 (w h p : Int) (bb : Bool) : List AF := []
noncomputable def S2 (w h p : Int) (bb : Bool) : Hp := ⟨.e, (.i .h), 2⟩
noncomputable def ks2 : List Ps := []
theorem s2 (w h p : Int) : cut ks2 (runF (drawF 1000000 30) En 12 (f1 w h p true) (cs1 w h p true) (S1 w h p true)) = .next (f2 w h p (ilt w (1))) (cs2 w h p (ilt w (1))) (S2 w h p (ilt w (1))) := by kernel_rfl
theorem l3 (w h p : Int) : finOf (runF (drawF 1000000 30) En 29 (f2 w h p true) (cs2 w h p true) (S2 w h p true)) = some (.tup [(.int .i64 (0)), (.int .i64 (0)), (.int .i64 (2))]) := by kernel_rfl
noncomputable def a2 (w h p : Int) (bb : Bool) : AF := ⟨6, 91, ⟨⟨⟨⟨⟨⟨(.int .i64 w), xu, xu, xu⟩, z1, z1, z1⟩, ⟨⟨(.int .i64 w), xu, xu, xu⟩, z1, z1, z1⟩, z2, z2⟩, z3, ⟨⟨⟨(.int .i64 (0)), xu, xu, xu⟩, z1, z1, z1⟩, z2, z2, z2⟩, z3⟩, ⟨⟨⟨⟨(.int .i64 h), xu, xu, xu⟩, z1, z1, z1⟩, ⟨⟨(.bool bb), xu, xu, xu⟩, z1, z1, z1⟩, z2, z2⟩, z3, z3, ⟨⟨⟨(.int .i64 w), xu, xu, xu⟩, z1, z1, z1⟩, z2, z2, z2⟩⟩, ⟨⟨⟨⟨(.int .i64 p), xu, xu, xu⟩, z1, z1, z1⟩, ⟨⟨(.bool bb), xu, xu, xu⟩, z1, z1, z1⟩, z2, z2⟩, ⟨⟨⟨(.int .i64 (0)), xu, xu, xu⟩, z1, z1, z1⟩, z2, z2, z2⟩, z3, ⟨⟨⟨(.bool false), xu, xu, xu⟩, z1, z1, z1⟩, z2, z2, z2⟩⟩, ⟨⟨z2, ⟨⟨(.bool bb), xu, xu, xu⟩, z1, z1, z1⟩, z2, z2⟩, ⟨⟨⟨(.int .i64 (0)), xu, xu, xu⟩, z1, z1, z1⟩, z2, z2, z2⟩, z3, ⟨⟨⟨(.bool false), xu, xu, xu⟩, z1, z1, z1⟩, z2, z2, z2⟩⟩⟩, .e⟩, [rA En 6 [1, 0, 0] 7, cA En 6 [1, 0, 1], cA En 6 [1, 1]], [], .run, false, false, none⟩
noncomputable def f4 (w h p : Int) (bb : Bool) : AF := (a2 w h p bb)
noncomputable def cs4 (w h p : Int) (bb : Bool) : List AF := []
noncomputable def S4 (w h p : Int) (bb : Bool) : Hp := ⟨.e, (.i .h), 2⟩
noncomputable def ks4 : List Ps := []
theorem s4 (w h p : Int) : cut ks4 (runF (drawF 1000000 30) En 4 (f2 w h p false) (cs2 w h p false) (S2 w h p false)) = .next (f4 w h p (ilt (128) w)) (cs4 w h p (ilt (128) w)) (S4 w h p (ilt (128) w)) := by kernel_rfl
theorem l5 (w h p : Int) : finOf (runF (drawF 1000000 30) En 25 (f4 w h p true) (cs4 w h p true) (S4 w h p true)) = some (.tup [(.int .i64 (0)), (.int .i64 (0)), (.int .i64 (2))]) := by kernel_rfl
noncomputable def a3 (w h p : Int) (bb : Bool) : AF := ⟨6, 91, ⟨⟨⟨⟨⟨⟨(.int .i64 w), xu, xu, xu⟩, z1, z1, z1⟩, ⟨⟨(.int .i64 w), xu, xu, xu⟩, z1, z1, z1⟩, z2, z2⟩, ⟨z2, ⟨⟨(.int .i64 h), xu, xu, xu⟩, z1, z1, z1⟩, z2, z2⟩, ⟨⟨⟨(.int .i64 (0)), xu, xu, xu⟩, z1, z1, z1⟩, z2, z2, z2⟩, z3⟩, ⟨⟨⟨⟨(.int .i64 h), xu, xu, xu⟩, z1, z1, z1⟩, ⟨⟨(.bool false), xu, xu, xu⟩, z1, z1, z1⟩, z2, z2⟩, ⟨z2, ⟨⟨(.bool bb), xu, xu, xu⟩, z1, z1, z1⟩, z2, z2⟩, z3, ⟨⟨⟨(.int .i64 w), xu, xu, xu⟩, z1, z1, z1⟩, z2, z2, z2⟩⟩, ⟨⟨⟨⟨(.int .i64 p), xu, xu, xu⟩, z1, z1, z1⟩, ⟨⟨(.bool false), xu, xu, xu⟩, z1, z1, z1⟩, z2, z2⟩, ⟨⟨⟨(.int .i64 (0)), xu, xu, xu⟩, z1, z1, z1⟩, ⟨⟨(.bool bb), xu, xu, xu⟩, z1, z1, z1⟩, z2, z2⟩, z3, ⟨⟨⟨(.bool false), xu, xu, xu⟩, z1, z1, z1⟩, z2, z2, z2⟩⟩, ⟨⟨z2, ⟨⟨(.bool false), xu, xu, xu⟩, z1, z1, z1⟩, z2, z2⟩, ⟨⟨⟨(.int .i64 (0)), xu, xu, xu⟩, z1, z1, z1⟩, ⟨⟨(.bool bb), xu, xu, xu⟩, z1, z1, z1⟩, z2, z2⟩, z3, ⟨⟨⟨(.bool false), xu, xu, xu⟩, z1, z1, z1⟩, z2, z2, z2⟩⟩⟩, .e⟩, [rA En 6 [1, 0, 0] 11, cA En 6 [1, 0, 1], cA En 6 [1, 1]], [], .run, false, false, none⟩
noncomputable def f6 (w h p : Int) (bb : Bool) : AF := (a3 w h p bb)
noncomputable def cs6 (w h p : Int) (bb : Bool) : List AF := []
noncomputable def S6 (w h p : Int) (bb : Bool) : Hp := ⟨.e, (.i .h), 2⟩
noncomputable def ks6 : List Ps := []
theorem s6 (w h p : Int) : cut ks6 (runF (drawF 1000000 30) En 4 (f4 w h p false) (cs4 w h p false) (S4 w h p false)) = .next (f6 w h p (ilt h (1))) (cs6 w h p (ilt h (1))) (S6 w h p (ilt h (1))) := by kernel_rfl
theorem l7 (w h p : Int) : finOf (runF (drawF 1000000 30) En 21 (f6 w h p true) (cs6 w h p true) (S6 w h p true)) = some (.tup [(.int .i64 (0)), (.int .i64 (0)), (.int .i64 (2))]) := by kernel_rfl
noncomputable def a4 (w h p : Int) (bb : Bool) : AF := ⟨6, 91, ⟨⟨⟨⟨⟨⟨(.int .i64 w), xu, xu, xu⟩, z1, z1, z1⟩, ⟨⟨(.int .i64 w), xu, xu, xu⟩, z1, z1, z1⟩, z2, z2⟩, ⟨z2, ⟨⟨(.int .i64 h), xu, xu, xu⟩, z1, z1, z1⟩, z2, z2⟩, ⟨⟨⟨(.int .i64 (0)), xu, xu, xu⟩, z1, z1, z1⟩, ⟨⟨(.int .i64 h), xu, xu, xu⟩, z1, z1, z1⟩, z2, z2⟩, z3⟩, ⟨⟨⟨⟨(.int .i64 h), xu, xu, xu⟩, z1, z1, z1⟩, ⟨⟨(.bool false), xu, xu, xu⟩, z1, z1, z1⟩, z2, z2⟩, ⟨z2, ⟨⟨(.bool false), xu, xu, xu⟩, z1, z1, z1⟩, z2, z2⟩, ⟨z2, ⟨⟨(.bool bb), xu, xu, xu⟩, z1, z1, z1⟩, z2, z2⟩, ⟨⟨⟨(.int .i64 w), xu, xu, xu⟩, z1, z1, z1⟩, z2, z2, z2⟩⟩, ⟨⟨⟨⟨(.int .i64 p), xu, xu, xu⟩, z1, z1, z1⟩, ⟨⟨(.bool false), xu, xu, xu⟩, z1, z1, z1⟩, z2, z2⟩, ⟨⟨⟨(.int .i64 (0)), xu, xu, xu⟩, z1, z1, z1⟩, ⟨⟨(.bool false), xu, xu, xu⟩, z1, z1, z1⟩, z2, z2⟩, ⟨z2, ⟨⟨(.bool bb), xu, xu, xu⟩, z1, z1, z1⟩, z2, z2⟩, ⟨⟨⟨(.bool false), xu, xu, xu⟩, z1, z1, z1⟩, z2, z2, z2⟩⟩, ⟨⟨z2, ⟨⟨(.bool false), xu, xu, xu⟩, z1, z1, z1⟩, z2, z2⟩, ⟨⟨⟨(.int .i64 (0)), xu, xu, xu⟩, z1, z1, z1⟩, ⟨⟨(.bool false), xu, xu, xu⟩, z1, z1, z1⟩, z2, z2⟩, ⟨z2, ⟨⟨(.bool bb), xu, xu, xu⟩, z1, z1, z1⟩, z2, z2⟩, ⟨⟨⟨(.bool false), xu, xu, xu⟩, z1, z1, z1⟩, z2, z2, z2⟩⟩⟩, .e⟩, [rA En 6 [1, 0, 0] 15, cA En 6 [1, 0, 1], cA En 6 [1, 1]], [], .run, false, false, none⟩
noncomputable def f8 (w h p : Int) (bb : Bool) : AF := (a4 w h p bb)
noncomputable def cs8 (w h p : Int) (bb : Bool) : List AF := []
noncomputable def S8 (w h p : Int) (bb : Bool) : Hp := ⟨.e, (.i .h), 2⟩
noncomputable def ks8 : List Ps := []
theorem s8 (w h p : Int) : cut ks8 (runF (drawF 1000000 30) En 4 (f6 w h p false) (cs6 w h p false) (S6 w h p false)) = .next (f8 w h p (ilt (128) h)) (cs8 w h p (ilt (128) h)) (S8 w h p (ilt (128) h)) := by kernel_rfl
theorem l9 (w h p : Int) : finOf (runF (drawF 1000000 30) En 17 (f8 w h p true) (cs8 w h p true) (S8 w h p true)) = some (.tup [(.int .i64 (0)), (.int .i64 (0)), (.int .i64 (2))]) := by kernel_rfl
noncomputable def a5 (w h p : Int) (bb : Bool) : AF := ⟨6, 91, ⟨⟨⟨⟨⟨⟨(.int .i64 w), xu, xu, xu⟩, z1, z1, z1⟩, ⟨⟨(.int .i64 w), xu, xu, xu⟩, z1, z1, z1⟩, z2, z2⟩, ⟨z2, ⟨⟨(.int .i64 h), xu, xu, xu⟩, z1, z1, z1⟩, z2, z2⟩, ⟨⟨⟨(.int .i64 (0)), xu, xu, xu⟩, z1, z1, z1⟩, ⟨⟨(.int .i64 h), xu, xu, xu⟩, z1, z1, z1⟩, z2, z2⟩, ⟨z2, ⟨⟨(.int .i64 p), xu, xu, xu⟩, z1, z1, z1⟩, z2, z2⟩⟩, ⟨⟨⟨⟨(.int .i64 h), xu, xu, xu⟩, z1, z1, z1⟩, ⟨⟨(.bool false), xu, xu, xu⟩, z1, z1, z1⟩, z2, z2⟩, ⟨z2, ⟨⟨(.bool false), xu, xu, xu⟩, z1, z1, z1⟩, z2, z2⟩, ⟨z2, ⟨⟨(.bool false), xu, xu, xu⟩, z1, z1, z1⟩, z2, z2⟩, ⟨⟨⟨(.int .i64 w), xu, xu, xu⟩, z1, z1, z1⟩, ⟨⟨(.bool bb), xu, xu, xu⟩, z1, z1, z1⟩, z2, z2⟩⟩, ⟨⟨⟨⟨(.int .i64 p), xu, xu, xu⟩, z1, z1, z1⟩, ⟨⟨(.bool false), xu, xu, xu⟩, z1, z1, z1⟩, z2, z2⟩, ⟨⟨⟨(.int .i64 (0)), xu, xu, xu⟩, z1, z1, z1⟩, ⟨⟨(.bool false), xu, xu, xu⟩, z1, z1, z1⟩, z2, z2⟩, ⟨z2, ⟨⟨(.bool false), xu, xu, xu⟩, z1, z1, z1⟩, z2, z2⟩, ⟨⟨⟨(.bool false), xu, xu, xu⟩, z1, z1, z1⟩, ⟨⟨(.bool bb), xu, xu, xu⟩, z1, z1, z1⟩, z2, z2⟩⟩, ⟨⟨z2, ⟨⟨(.bool false), xu, xu, xu⟩, z1, z1, z1⟩, z2, z2⟩, ⟨⟨⟨(.int .i64 (0)), xu, xu, xu⟩, z1, z1, z1⟩, ⟨⟨(.bool false), xu, xu, xu⟩, z1, z1, z1⟩, z2, z2⟩, ⟨z2, ⟨⟨(.bool false), xu, xu, xu⟩, z1, z1, z1⟩, z2, z2⟩, ⟨⟨⟨(.bool false), xu, xu, xu⟩, z1, z1, z1⟩, ⟨⟨(.bool bb), xu, xu, xu⟩, z1, z1, z1⟩, z2, z2⟩⟩⟩, .e⟩, [rA En 6 [1, 0, 0] 19, cA En 6 [1, 0, 1], cA En 6 [1, 1]], [], .run, false, false, none⟩
noncomputable def f10 (w h p : Int) (bb : Bool) : AF := (a5 w h p bb)
noncomputable def cs10 (w h p : Int) (bb : Bool) : List AF := []
noncomputable def S10 (w h p : Int) (bb : Bool) : Hp := ⟨.e, (.i .h), 2⟩
noncomputable def ks10 : List Ps := []
theorem s10 (w h p : Int) : cut ks10 (runF (drawF 1000000 30) En 4 (f8 w h p false) (cs8 w h p false) (S8 w h p false)) = .next (f10 w h p (ilt p (0))) (cs10 w h p (ilt p (0))) (S10 w h p (ilt p (0))) := by kernel_rfl
theorem l11 (w h p : Int) : finOf (runF (drawF 1000000 30) En 13 (f10 w h p true) (cs10 w h p true) (S10 w h p true)) = some (.tup [(.int .i64 (0)), (.int .i64 (0)), (.int .i64 (2))]) := by kernel_rfl
noncomputable def q6 (w h p : Int) (bb : Bool) : Q (Q (Q AV)) := ⟨⟨⟨(.int .i64 w), xu, xu, xu⟩, z1, z1, z1⟩, ⟨⟨(.int .i64 w), xu, xu, xu⟩, z1, z1, z1⟩, ⟨⟨(.int .i64 p), xu, xu, xu⟩, z1, z1, z1⟩, z2⟩
noncomputable def q7 (w h p : Int) (bb : Bool) : Q (Q (Q AV)) := ⟨⟨⟨(.int .i64 h), xu, xu, xu⟩, z1, z1, z1⟩, ⟨⟨(.bool false), xu, xu, xu⟩, z1, z1, z1⟩, ⟨⟨(.bool bb), xu, xu, xu⟩, z1, z1, z1⟩, z2⟩
noncomputable def q8 (w h p : Int) (bb : Bool) : Q (Q (Q AV)) := ⟨⟨⟨(.int .i64 p), xu, xu, xu⟩, z1, z1, z1⟩, ⟨⟨(.bool false), xu, xu, xu⟩, z1, z1, z1⟩, ⟨⟨(.bool bb), xu, xu, xu⟩, z1, z1, z1⟩, z2⟩
noncomputable def a9 (w h p : Int) (bb : Bool) : AF := ⟨6, 91, ⟨⟨⟨(q6 w h p bb), ⟨z2, ⟨⟨(.int .i64 h), xu, xu, xu⟩, z1, z1, z1⟩, z2, z2⟩, ⟨⟨⟨(.int .i64 (0)), xu, xu, xu⟩, z1, z1, z1⟩, ⟨⟨(.int .i64 h), xu, xu, xu⟩, z1, z1, z1⟩, z2, z2⟩, ⟨z2, ⟨⟨(.int .i64 p), xu, xu, xu⟩, z1, z1, z1⟩, z2, z2⟩⟩, ⟨(q7 w h p bb), ⟨z2, ⟨⟨(.bool false), xu, xu, xu⟩, z1, z1, z1⟩, z2, z2⟩, ⟨z2, ⟨⟨(.bool false), xu, xu, xu⟩, z1, z1, z1⟩, z2, z2⟩, ⟨⟨⟨(.int .i64 w), xu, xu, xu⟩, z1, z1, z1⟩, ⟨⟨(.bool false), xu, xu, xu⟩, z1, z1, z1⟩, z2, z2⟩⟩, ⟨(q8 w h p bb), ⟨⟨⟨(.int .i64 (0)), xu, xu, xu⟩, z1, z1, z1⟩, ⟨⟨(.bool false), xu, xu, xu⟩, z1, z1, z1⟩, z2, z2⟩, ⟨z2, ⟨⟨(.bool false), xu, xu, xu⟩, z1, z1, z1⟩, z2, z2⟩, ⟨⟨⟨(.bool false), xu, xu, xu⟩, z1, z1, z1⟩, ⟨⟨(.bool false), xu, xu, xu⟩, z1, z1, z1⟩, z2, z2⟩⟩, ⟨⟨z2, ⟨⟨(.bool false), xu, xu, xu⟩, z1, z1, z1⟩, z2, z2⟩, ⟨⟨⟨(.int .i64 (0)), xu, xu, xu⟩, z1, z1, z1⟩, ⟨⟨(.bool false), xu, xu, xu⟩, z1, z1, z1⟩, z2, z2⟩, ⟨z2, ⟨⟨(.bool false), xu, xu, xu⟩, z1, z1, z1⟩, z2, z2⟩, ⟨⟨⟨(.bool false), xu, xu, xu⟩, z1, z1, z1⟩, ⟨⟨(.bool false), xu, xu, xu⟩, z1, z1, z1⟩, z2, z2⟩⟩⟩, .e⟩, [cA En 6 [1, 0, 1], cA En 6 [1, 1]], [], .run, false, false, none⟩
noncomputable def f12 (w h p : Int) (bb : Bool) : AF := (a9 w h p bb)
noncomputable def cs12 (w h p : Int) (bb : Bool) : List AF := []
noncomputable def S12 (w h p : Int) (bb : Bool) : Hp := ⟨.e, (.i .h), 2⟩
noncomputable def ks12 : List Ps := []
theorem s12 (w h p : Int) : cut ks12 (runF (drawF 1000000 30) En 4 (f10 w h p false) (cs10 w h p false) (S10 w h p false)) = .next (f12 w h p (ilt (2) p)) (cs12 w h p (ilt (2) p)) (S12 w h p (ilt (2) p)) := by kernel_rfl
theorem l13 (w h p : Int) : finOf (runF (drawF 1000000 30) En 9 (f12 w h p true) (cs12 w h p true) (S12 w h p true)) = some (.tup [(.int .i64 (0)), (.int .i64 (0)), (.int .i64 (2))]) := by kernel_rfl
noncomputable def o10 : AO := .cells [(.int .i64 (64)), (.int .i64 (64))] 40 true false 0 0
noncomputable def v11 : AV := (.agg [(.int .i64 (64)), (.int .i64 (64)), (.int .i64 (64)), (.int .i64 (96)), (.int .i64 (96)), (.int .i64 (128)), (.int .i64 (128)), (.int .i64 (128))])
noncomputable def a12 (w h p : Int) (bb : Bool) : AF := ⟨12, 22, ⟨⟨⟨⟨⟨⟨(.int .i64 w), xu, xu, xu⟩, z1, z1, z1⟩, z2, z2, z2⟩, ⟨⟨⟨(.bool false), xu, xu, xu⟩, z1, z1, z1⟩, z2, z2, z2⟩, ⟨⟨⟨(.int .i64 (0)), xu, xu, xu⟩, z1, z1, z1⟩, z2, z2, z2⟩, ⟨⟨⟨(.int .i64 (64)), xu, xu, xu⟩, z1, z1, z1⟩, z2, z2, z2⟩⟩, ⟨⟨⟨⟨(.int .i64 h), xu, xu, xu⟩, z1, z1, z1⟩, z2, z2, z2⟩, z3, ⟨⟨⟨(.bool true), xu, xu, xu⟩, z1, z1, z1⟩, z2, z2, z2⟩, ⟨⟨⟨(.int .i64 w), xu, xu, xu⟩, z1, z1, z1⟩, z2, z2, z2⟩⟩, ⟨z3, ⟨⟨⟨(.ptr (.o (.o .h)) 0), xu, xu, xu⟩, z1, z1, z1⟩, z2, z2, z2⟩, ⟨⟨⟨(.agg [(.int .i64 (64)), (.int .i64 (64))]), xu, xu, xu⟩, z1, z1, z1⟩, z2, z2, z2⟩, ⟨⟨⟨(.bool bb), xu, xu, xu⟩, z1, z1, z1⟩, z2, z2, z2⟩⟩, ⟨z3, ⟨⟨⟨v11, xu, xu, xu⟩, z1, z1, z1⟩, z2, z2, z2⟩, ⟨⟨⟨(.ptr (.o (.o .h)) 0), xu, xu, xu⟩, z1, z1, z1⟩, z2, z2, z2⟩, ⟨⟨⟨(.bool bb), xu, xu, xu⟩, z1, z1, z1⟩, z2, z2, z2⟩⟩⟩, .e⟩, [rA En 12 [1, 0, 1, 0, 0, 1, 1, 0, 0, 1, 0] 5, cA En 12 [1, 0, 1, 0, 0, 1, 1, 0, 0, 1, 1], .blk 1, cA En 12 [1, 0, 1, 0, 0, 1, 1, 1], lA En 12 [1, 0, 1, 0, 0], .blk 0, cA En 12 [1, 1]], [], .run, false, false, none⟩
noncomputable def q13 (w h p : Int) (bb : Bool) : Q (Q (Q AV)) := ⟨⟨⟨(.int .i64 h), xu, xu, xu⟩, z1, z1, z1⟩, ⟨⟨(.bool false), xu, xu, xu⟩, z1, z1, z1⟩, ⟨⟨(.bool false), xu, xu, xu⟩, z1, z1, z1⟩, z2⟩
noncomputable def q14 (w h p : Int) (bb : Bool) : Q (Q (Q AV)) := ⟨⟨⟨(.int .i64 p), xu, xu, xu⟩, z1, z1, z1⟩, ⟨⟨(.bool false), xu, xu, xu⟩, z1, z1, z1⟩, ⟨⟨(.bool false), xu, xu, xu⟩, z1, z1, z1⟩, z2⟩
noncomputable def a15 (w h p : Int) (bb : Bool) : AF := ⟨6, 91, ⟨⟨⟨(q6 w h p bb), ⟨z2, ⟨⟨(.int .i64 h), xu, xu, xu⟩, z1, z1, z1⟩, ⟨⟨(.int .i64 h), xu, xu, xu⟩, z1, z1, z1⟩, z2⟩, ⟨⟨⟨(.int .i64 (0)), xu, xu, xu⟩, z1, z1, z1⟩, ⟨⟨(.int .i64 h), xu, xu, xu⟩, z1, z1, z1⟩, z2, z2⟩, ⟨z2, ⟨⟨(.int .i64 p), xu, xu, xu⟩, z1, z1, z1⟩, z2, z2⟩⟩, ⟨(q13 w h p bb), ⟨z2, ⟨⟨(.bool false), xu, xu, xu⟩, z1, z1, z1⟩, z2, z2⟩, ⟨z2, ⟨⟨(.bool false), xu, xu, xu⟩, z1, z1, z1⟩, z2, z2⟩, ⟨⟨⟨(.int .i64 w), xu, xu, xu⟩, z1, z1, z1⟩, ⟨⟨(.bool false), xu, xu, xu⟩, z1, z1, z1⟩, z2, z2⟩⟩, ⟨(q14 w h p bb), ⟨⟨⟨(.int .i64 (0)), xu, xu, xu⟩, z1, z1, z1⟩, ⟨⟨(.bool false), xu, xu, xu⟩, z1, z1, z1⟩, z2, z2⟩, ⟨z2, ⟨⟨(.bool false), xu, xu, xu⟩, z1, z1, z1⟩, z2, z2⟩, ⟨⟨⟨(.bool false), xu, xu, xu⟩, z1, z1, z1⟩, ⟨⟨(.bool false), xu, xu, xu⟩, z1, z1, z1⟩, z2, z2⟩⟩, ⟨⟨z2, ⟨⟨(.bool false), xu, xu, xu⟩, z1, z1, z1⟩, ⟨⟨(.int .i64 w), xu, xu, xu⟩, z1, z1, z1⟩, z2⟩, ⟨⟨⟨(.int .i64 (0)), xu, xu, xu⟩, z1, z1, z1⟩, ⟨⟨(.bool false), xu, xu, xu⟩, z1, z1, z1⟩, z2, z2⟩, ⟨z2, ⟨⟨(.bool false), xu, xu, xu⟩, z1, z1, z1⟩, z2, z2⟩, ⟨⟨⟨(.bool false), xu, xu, xu⟩, z1, z1, z1⟩, ⟨⟨(.bool false), xu, xu, xu⟩, z1, z1, z1⟩, z2, z2⟩⟩⟩, .e⟩, [rA En 6 [1, 1, 0, 0] 2, cA En 6 [1, 1, 0, 1], cA En 6 [1, 1, 1]], [], .run, false, false, none⟩
noncomputable def f14 (w h p : Int) (bb : Bool) : AF := (a12 w h p bb)
noncomputable def cs14 (w h p : Int) (bb : Bool) : List AF := [(a15 w h p bb)]
noncomputable def S14 (w h p : Int) (bb : Bool) : Hp := ⟨(.n (.n (.n .e (some o10) .e) none .e) none .e), (.i (.o .h)), 2⟩
noncomputable def ks14 : List Ps := [(.o (.o .h))]
theorem s14 (w h p : Int) : cut ks14 (runF (drawF 1000000 30) En 57 (f12 w h p false) (cs12 w h p false) (S12 w h p false)) = .next (f14 w h p (ieq (64) w)) (cs14 w h p (ieq (64) w)) (S14 w h p (ieq (64) w)) := by kernel_rfl
noncomputable def q16 (w h p : Int) (bb : Bool) : Q (Q (Q AV)) := ⟨⟨⟨(.int .i64 w), xu, xu, xu⟩, z1, z1, z1⟩, ⟨⟨(.ptr (.o (.o .h)) 1), xu, xu, xu⟩, z1, z1, z1⟩, z2, z2⟩
noncomputable def a17 (w h p : Int) (bb : Bool) : AF := ⟨12, 22, ⟨⟨⟨(q16 w h p bb), ⟨⟨⟨(.bool false), xu, xu, xu⟩, z1, z1, z1⟩, ⟨⟨(.bool bb), xu, xu, xu⟩, z1, z1, z1⟩, z2, z2⟩, ⟨⟨⟨(.int .i64 (0)), xu, xu, xu⟩, z1, z1, z1⟩, z2, z2, z2⟩, ⟨⟨⟨(.int .i64 (64)), xu, xu, xu⟩, z1, z1, z1⟩, z2, z2, z2⟩⟩, ⟨⟨⟨⟨(.int .i64 h), xu, xu, xu⟩, z1, z1, z1⟩, ⟨⟨(.int .i64 (64)), xu, xu, xu⟩, z1, z1, z1⟩, z2, z2⟩, z3, ⟨⟨⟨(.bool true), xu, xu, xu⟩, z1, z1, z1⟩, z2, z2, z2⟩, ⟨⟨⟨(.int .i64 w), xu, xu, xu⟩, z1, z1, z1⟩, z2, z2, z2⟩⟩, ⟨⟨z2, ⟨⟨(.int .i64 h), xu, xu, xu⟩, z1, z1, z1⟩, z2, z2⟩, ⟨⟨⟨(.ptr (.o (.o .h)) 0), xu, xu, xu⟩, z1, z1, z1⟩, z2, z2, z2⟩, ⟨⟨⟨(.agg [(.int .i64 (64)), (.int .i64 (64))]), xu, xu, xu⟩, z1, z1, z1⟩, z2, z2, z2⟩, ⟨⟨⟨(.bool true), xu, xu, xu⟩, z1, z1, z1⟩, z2, z2, z2⟩⟩, ⟨⟨z2, ⟨⟨(.bool bb), xu, xu, xu⟩, z1, z1, z1⟩, z2, z2⟩, ⟨⟨⟨v11, xu, xu, xu⟩, z1, z1, z1⟩, z2, z2, z2⟩, ⟨⟨⟨(.ptr (.o (.o .h)) 0), xu, xu, xu⟩, z1, z1, z1⟩, z2, z2, z2⟩, ⟨⟨⟨(.bool true), xu, xu, xu⟩, z1, z1, z1⟩, z2, z2, z2⟩⟩⟩, .e⟩, [cA En 12 [1, 0, 1, 0, 0, 1, 1, 0, 0, 1, 1], .blk 1, cA En 12 [1, 0, 1, 0, 0, 1, 1, 1], lA En 12 [1, 0, 1, 0, 0], .blk 0, cA En 12 [1, 1]], [], .run, false, false, none⟩
noncomputable def f15 (w h p : Int) (bb : Bool) : AF := (a17 w h p bb)
noncomputable def cs15 (w h p : Int) (bb : Bool) : List AF := [(a15 w h p bb)]
noncomputable def S15 (w h p : Int) (bb : Bool) : Hp := ⟨(.n (.n (.n .e (some o10) .e) none .e) none .e), (.i (.o .h)), 2⟩
noncomputable def ks15 : List Ps := [(.o (.o .h))]
theorem s15 (w h p : Int) : cut ks15 (runF (drawF 1000000 30) En 6 (f14 w h p true) (cs14 w h p true) (S14 w h p true)) = .next (f15 w h p (ieq (64) h)) (cs15 w h p (ieq (64) h)) (S15 w h p (ieq (64) h)) := by kernel_rfl
theorem l16 (w h p : Int) : finOf (runF (drawF 1000000 30) En 19 (f15 w h p true) (cs15 w h p true) (S15 w h p true)) = some (.tup [(.int .i64 w), (.int .i64 h), (.int .i64 (0))]) := by kernel_rfl
noncomputable def o18 : AO := .cells [(.int .i64 (64)), (.int .i64 (96))] 40 true false 0 0
noncomputable def a19 (w h p : Int) (bb : Bool) : AF := ⟨12, 22, ⟨⟨⟨(q16 w h p bb), ⟨⟨⟨(.bool false), xu, xu, xu⟩, z1, z1, z1⟩, ⟨⟨(.bool false), xu, xu, xu⟩, z1, z1, z1⟩, z2, z2⟩, ⟨⟨⟨(.int .i64 (1)), xu, xu, xu⟩, z1, z1, z1⟩, z2, z2, z2⟩, ⟨⟨⟨(.int .i64 (64)), xu, xu, xu⟩, z1, z1, z1⟩, z2, z2, z2⟩⟩, ⟨⟨⟨⟨(.int .i64 h), xu, xu, xu⟩, z1, z1, z1⟩, ⟨⟨(.int .i64 (64)), xu, xu, xu⟩, z1, z1, z1⟩, z2, z2⟩, ⟨z2, ⟨⟨(.int .i64 (1)), xu, xu, xu⟩, z1, z1, z1⟩, z2, z2⟩, ⟨⟨⟨(.bool true), xu, xu, xu⟩, z1, z1, z1⟩, z2, z2, z2⟩, ⟨⟨⟨(.int .i64 w), xu, xu, xu⟩, z1, z1, z1⟩, z2, z2, z2⟩⟩, ⟨⟨z2, ⟨⟨(.int .i64 h), xu, xu, xu⟩, z1, z1, z1⟩, z2, z2⟩, ⟨⟨⟨(.ptr (.i (.o .h)) 0), xu, xu, xu⟩, z1, z1, z1⟩, z2, z2, z2⟩, ⟨⟨⟨(.agg [(.int .i64 (64)), (.int .i64 (96))]), xu, xu, xu⟩, z1, z1, z1⟩, z2, z2, z2⟩, ⟨⟨⟨(.bool bb), xu, xu, xu⟩, z1, z1, z1⟩, z2, z2, z2⟩⟩, ⟨⟨z2, ⟨⟨(.bool false), xu, xu, xu⟩, z1, z1, z1⟩, z2, z2⟩, ⟨⟨⟨v11, xu, xu, xu⟩, z1, z1, z1⟩, z2, z2, z2⟩, ⟨⟨⟨(.ptr (.i (.o .h)) 0), xu, xu, xu⟩, z1, z1, z1⟩, z2, z2, z2⟩, ⟨⟨⟨(.bool bb), xu, xu, xu⟩, z1, z1, z1⟩, z2, z2, z2⟩⟩⟩, .e⟩, [rA En 12 [1, 0, 1, 0, 0, 1, 1, 0, 0, 1, 0] 5, cA En 12 [1, 0, 1, 0, 0, 1, 1, 0, 0, 1, 1], .blk 1, cA En 12 [1, 0, 1, 0, 0, 1, 1, 1], lA En 12 [1, 0, 1, 0, 0], .blk 0, cA En 12 [1, 1]], [], .run, false, false, none⟩
noncomputable def f17 (w h p : Int) (bb : Bool) : AF := (a19 w h p bb)
noncomputable def cs17 (w h p : Int) (bb : Bool) : List AF := [(a15 w h p bb)]
noncomputable def S17 (w h p : Int) (bb : Bool) : Hp := ⟨(.n (.n (.n .e (some o10) .e) none .e) none (.n (.n .e (some o18) .e) none .e)), (.o (.i .h)), 2⟩
noncomputable def ks17 : List Ps := [(.o (.o .h)), (.i (.o .h))]
theorem s17 (w h p : Int) : cut ks17 (runF (drawF 1000000 30) En 30 (f15 w h p false) (cs15 w h p false) (S15 w h p false)) = .next (f17 w h p (ieq (64) w)) (cs17 w h p (ieq (64) w)) (S17 w h p (ieq (64) w)) := by kernel_rfl
noncomputable def q20 (w h p : Int) (bb : Bool) : Q (Q (Q AV)) := ⟨⟨⟨(.int .i64 w), xu, xu, xu⟩, z1, z1, z1⟩, ⟨⟨(.ptr (.i (.o .h)) 1), xu, xu, xu⟩, z1, z1, z1⟩, z2, z2⟩
noncomputable def a21 (w h p : Int) (bb : Bool) : AF := ⟨12, 22, ⟨⟨⟨(q20 w h p bb), ⟨⟨⟨(.bool false), xu, xu, xu⟩, z1, z1, z1⟩, ⟨⟨(.bool bb), xu, xu, xu⟩, z1, z1, z1⟩, z2, z2⟩, ⟨⟨⟨(.int .i64 (1)), xu, xu, xu⟩, z1, z1, z1⟩, z2, z2, z2⟩, ⟨⟨⟨(.int .i64 (64)), xu, xu, xu⟩, z1, z1, z1⟩, z2, z2, z2⟩⟩, ⟨⟨⟨⟨(.int .i64 h), xu, xu, xu⟩, z1, z1, z1⟩, ⟨⟨(.int .i64 (96)), xu, xu, xu⟩, z1, z1, z1⟩, z2, z2⟩, ⟨z2, ⟨⟨(.int .i64 (1)), xu, xu, xu⟩, z1, z1, z1⟩, z2, z2⟩, ⟨⟨⟨(.bool true), xu, xu, xu⟩, z1, z1, z1⟩, z2, z2, z2⟩, ⟨⟨⟨(.int .i64 w), xu, xu, xu⟩, z1, z1, z1⟩, z2, z2, z2⟩⟩, ⟨⟨z2, ⟨⟨(.int .i64 h), xu, xu, xu⟩, z1, z1, z1⟩, z2, z2⟩, ⟨⟨⟨(.ptr (.i (.o .h)) 0), xu, xu, xu⟩, z1, z1, z1⟩, z2, z2, z2⟩, ⟨⟨⟨(.agg [(.int .i64 (64)), (.int .i64 (96))]), xu, xu, xu⟩, z1, z1, z1⟩, z2, z2, z2⟩, ⟨⟨⟨(.bool true), xu, xu, xu⟩, z1, z1, z1⟩, z2, z2, z2⟩⟩, ⟨⟨z2, ⟨⟨(.bool bb), xu, xu, xu⟩, z1, z1, z1⟩, z2, z2⟩, ⟨⟨⟨v11, xu, xu, xu⟩, z1, z1, z1⟩, z2, z2, z2⟩, ⟨⟨⟨(.ptr (.i (.o .h)) 0), xu, xu, xu⟩, z1, z1, z1⟩, z2, z2, z2⟩, ⟨⟨⟨(.bool true), xu, xu, xu⟩, z1, z1, z1⟩, z2, z2, z2⟩⟩⟩, .e⟩, [cA En 12 [1, 0, 1, 0, 0, 1, 1, 0, 0, 1, 1], .blk 1, cA En 12 [1, 0, 1, 0, 0, 1, 1, 1], lA En 12 [1, 0, 1, 0, 0], .blk 0, cA En 12 [1, 1]], [], .run, false, false, none⟩
noncomputable def f18 (w h p : Int) (bb : Bool) : AF := (a21 w h p bb)
noncomputable def cs18 (w h p : Int) (bb : Bool) : List AF := [(a15 w h p bb)]
noncomputable def S18 (w h p : Int) (bb : Bool) : Hp := ⟨(.n .e none (.n (.n .e (some o18) .e) none .e)), (.o (.i .h)), 2⟩
noncomputable def ks18 : List Ps := [(.i (.o .h))]
theorem s18 (w h p : Int) : cut ks18 (runF (drawF 1000000 30) En 6 (f17 w h p true) (cs17 w h p true) (S17 w h p true)) = .next (f18 w h p (ieq (96) h)) (cs18 w h p (ieq (96) h)) (S18 w h p (ieq (96) h)) := by kernel_rfl
theorem l19 (w h p : Int) : finOf (runF (drawF 1000000 30) En 19 (f18 w h p true) (cs18 w h p true) (S18 w h p true)) = some (.tup [(.int .i64 w), (.int .i64 h), (.int .i64 (0))]) := by kernel_rfl
noncomputable def o22 : AO := .cells [(.int .i64 (96)), (.int .i64 (128))] 40 true false 0 0
noncomputable def a23 (w h p : Int) (bb : Bool) : AF := ⟨12, 22, ⟨⟨⟨(q20 w h p bb), ⟨⟨⟨(.bool false), xu, xu, xu⟩, z1, z1, z1⟩, ⟨⟨(.bool false), xu, xu, xu⟩, z1, z1, z1⟩, z2, z2⟩, ⟨⟨⟨(.int .i64 (2)), xu, xu, xu⟩, z1, z1, z1⟩, z2, z2, z2⟩, ⟨⟨⟨(.int .i64 (96)), xu, xu, xu⟩, z1, z1, z1⟩, z2, z2, z2⟩⟩, ⟨⟨⟨⟨(.int .i64 h), xu, xu, xu⟩, z1, z1, z1⟩, ⟨⟨(.int .i64 (96)), xu, xu, xu⟩, z1, z1, z1⟩, z2, z2⟩, ⟨z2, ⟨⟨(.int .i64 (2)), xu, xu, xu⟩, z1, z1, z1⟩, z2, z2⟩, ⟨⟨⟨(.bool true), xu, xu, xu⟩, z1, z1, z1⟩, z2, z2, z2⟩, ⟨⟨⟨(.int .i64 w), xu, xu, xu⟩, z1, z1, z1⟩, z2, z2, z2⟩⟩, ⟨⟨z2, ⟨⟨(.int .i64 h), xu, xu, xu⟩, z1, z1, z1⟩, z2, z2⟩, ⟨⟨⟨(.ptr (.o (.i .h)) 0), xu, xu, xu⟩, z1, z1, z1⟩, z2, z2, z2⟩, ⟨⟨⟨(.agg [(.int .i64 (96)), (.int .i64 (128))]), xu, xu, xu⟩, z1, z1, z1⟩, z2, z2, z2⟩, ⟨⟨⟨(.bool bb), xu, xu, xu⟩, z1, z1, z1⟩, z2, z2, z2⟩⟩, ⟨⟨z2, ⟨⟨(.bool false), xu, xu, xu⟩, z1, z1, z1⟩, z2, z2⟩, ⟨⟨⟨v11, xu, xu, xu⟩, z1, z1, z1⟩, z2, z2, z2⟩, ⟨⟨⟨(.ptr (.o (.i .h)) 0), xu, xu, xu⟩, z1, z1, z1⟩, z2, z2, z2⟩, ⟨⟨⟨(.bool bb), xu, xu, xu⟩, z1, z1, z1⟩, z2, z2, z2⟩⟩⟩, .e⟩, [rA En 12 [1, 0, 1, 0, 0, 1, 1, 0, 0, 1, 0] 5, cA En 12 [1, 0, 1, 0, 0, 1, 1, 0, 0, 1, 1], .blk 1, cA En 12 [1, 0, 1, 0, 0, 1, 1, 1], lA En 12 [1, 0, 1, 0, 0], .blk 0, cA En 12 [1, 1]], [], .run, false, false, none⟩
noncomputable def f20 (w h p : Int) (bb : Bool) : AF := (a23 w h p bb)
noncomputable def cs20 (w h p : Int) (bb : Bool) : List AF := [(a15 w h p bb)]
noncomputable def S20 (w h p : Int) (bb : Bool) : Hp := ⟨(.n (.n .e none (.n .e (some o22) .e)) none (.n (.n .e (some o18) .e) none .e)), (.i (.i .h)), 2⟩
noncomputable def ks20 : List Ps := [(.i (.o .h)), (.o (.i .h))]
theorem s20 (w h p : Int) : cut ks20 (runF (drawF 1000000 30) En 30 (f18 w h p false) (cs18 w h p false) (S18 w h p false)) = .next (f20 w h p (ieq (96) w)) (cs20 w h p (ieq (96) w)) (S20 w h p (ieq (96) w)) := by kernel_rfl
noncomputable def o24 : AO := .cells [(.int .i64 (128)), (.int .i64 (128))] 40 true false 0 0
noncomputable def a25 (w h p : Int) (bb : Bool) : AF := ⟨12, 22, ⟨⟨⟨⟨⟨⟨(.int .i64 w), xu, xu, xu⟩, z1, z1, z1⟩, z2, z2, z2⟩, ⟨⟨⟨(.bool false), xu, xu, xu⟩, z1, z1, z1⟩, ⟨⟨(.bool false), xu, xu, xu⟩, z1, z1, z1⟩, z2, z2⟩, ⟨⟨⟨(.int .i64 (3)), xu, xu, xu⟩, z1, z1, z1⟩, z2, z2, z2⟩, ⟨⟨⟨(.int .i64 (128)), xu, xu, xu⟩, z1, z1, z1⟩, z2, z2, z2⟩⟩, ⟨⟨⟨⟨(.int .i64 h), xu, xu, xu⟩, z1, z1, z1⟩, z2, z2, z2⟩, ⟨z2, ⟨⟨(.int .i64 (3)), xu, xu, xu⟩, z1, z1, z1⟩, z2, z2⟩, ⟨⟨⟨(.bool true), xu, xu, xu⟩, z1, z1, z1⟩, z2, z2, z2⟩, ⟨⟨⟨(.int .i64 w), xu, xu, xu⟩, z1, z1, z1⟩, z2, z2, z2⟩⟩, ⟨z3, ⟨⟨⟨(.ptr (.i (.i .h)) 0), xu, xu, xu⟩, z1, z1, z1⟩, z2, z2, z2⟩, ⟨⟨⟨(.agg [(.int .i64 (128)), (.int .i64 (128))]), xu, xu, xu⟩, z1, z1, z1⟩, z2, z2, z2⟩, ⟨⟨⟨(.bool bb), xu, xu, xu⟩, z1, z1, z1⟩, z2, z2, z2⟩⟩, ⟨z3, ⟨⟨⟨v11, xu, xu, xu⟩, z1, z1, z1⟩, z2, z2, z2⟩, ⟨⟨⟨(.ptr (.i (.i .h)) 0), xu, xu, xu⟩, z1, z1, z1⟩, z2, z2, z2⟩, ⟨⟨⟨(.bool bb), xu, xu, xu⟩, z1, z1, z1⟩, z2, z2, z2⟩⟩⟩, .e⟩, [rA En 12 [1, 0, 1, 0, 0, 1, 1, 0, 0, 1, 0] 5, cA En 12 [1, 0, 1, 0, 0, 1, 1, 0, 0, 1, 1], .blk 1, cA En 12 [1, 0, 1, 0, 0, 1, 1, 1], lA En 12 [1, 0, 1, 0, 0], .blk 0, cA En 12 [1, 1]], [], .run, false, false, none⟩
noncomputable def f21 (w h p : Int) (bb : Bool) : AF := (a25 w h p bb)
noncomputable def cs21 (w h p : Int) (bb : Bool) : List AF := [(a15 w h p bb)]
noncomputable def S21 (w h p : Int) (bb : Bool) : Hp := ⟨(.n .e none (.n .e none (.n .e (some o24) .e))), (.o (.o (.o .h))), 2⟩
noncomputable def ks21 : List Ps := [(.i (.i .h))]
theorem s21 (w h p : Int) : cut ks21 (runF (drawF 1000000 30) En 36 (f20 w h p false) (cs20 w h p false) (S20 w h p false)) = .next (f21 w h p (ieq (128) w)) (cs21 w h p (ieq (128) w)) (S21 w h p (ieq (128) w)) := by kernel_rfl
noncomputable def q26 (w h p : Int) (bb : Bool) : Q (Q (Q AV)) := ⟨⟨⟨(.int .i64 (0)), xu, xu, xu⟩, z1, z1, z1⟩, ⟨⟨(.int .i64 h), xu, xu, xu⟩, z1, z1, z1⟩, ⟨⟨(.int .i64 p), xu, xu, xu⟩, z1, z1, z1⟩, z2⟩
noncomputable def a27 (w h p : Int) (bb : Bool) : AF := ⟨6, 91, ⟨⟨⟨(q6 w h p bb), ⟨z2, ⟨⟨(.int .i64 h), xu, xu, xu⟩, z1, z1, z1⟩, ⟨⟨(.int .i64 h), xu, xu, xu⟩, z1, z1, z1⟩, z2⟩, (q26 w h p bb), ⟨z2, ⟨⟨(.int .i64 p), xu, xu, xu⟩, z1, z1, z1⟩, z2, z2⟩⟩, ⟨(q13 w h p bb), ⟨z2, ⟨⟨(.bool false), xu, xu, xu⟩, z1, z1, z1⟩, ⟨⟨(.bool false), xu, xu, xu⟩, z1, z1, z1⟩, z2⟩, ⟨z2, ⟨⟨(.bool false), xu, xu, xu⟩, z1, z1, z1⟩, ⟨⟨(.bool bb), xu, xu, xu⟩, z1, z1, z1⟩, z2⟩, ⟨⟨⟨(.int .i64 w), xu, xu, xu⟩, z1, z1, z1⟩, ⟨⟨(.bool false), xu, xu, xu⟩, z1, z1, z1⟩, z2, z2⟩⟩, ⟨(q14 w h p bb), ⟨⟨⟨(.int .i64 (0)), xu, xu, xu⟩, z1, z1, z1⟩, ⟨⟨(.bool false), xu, xu, xu⟩, z1, z1, z1⟩, z2, z2⟩, ⟨z2, ⟨⟨(.bool false), xu, xu, xu⟩, z1, z1, z1⟩, ⟨⟨(.bool bb), xu, xu, xu⟩, z1, z1, z1⟩, z2⟩, ⟨⟨⟨(.bool false), xu, xu, xu⟩, z1, z1, z1⟩, ⟨⟨(.bool false), xu, xu, xu⟩, z1, z1, z1⟩, z2, z2⟩⟩, ⟨⟨z2, ⟨⟨(.bool false), xu, xu, xu⟩, z1, z1, z1⟩, ⟨⟨(.int .i64 w), xu, xu, xu⟩, z1, z1, z1⟩, z2⟩, ⟨⟨⟨(.int .i64 (0)), xu, xu, xu⟩, z1, z1, z1⟩, ⟨⟨(.bool false), xu, xu, xu⟩, z1, z1, z1⟩, z2, z2⟩, ⟨z2, ⟨⟨(.bool false), xu, xu, xu⟩, z1, z1, z1⟩, z2, z2⟩, ⟨⟨⟨(.bool false), xu, xu, xu⟩, z1, z1, z1⟩, ⟨⟨(.bool false), xu, xu, xu⟩, z1, z1, z1⟩, z2, z2⟩⟩⟩, .e⟩, [rA En 6 [1, 1, 1, 0, 0] 3, cA En 6 [1, 1, 1, 0, 1], cA En 6 [1, 1, 1, 1]], [], .run, false, false, none⟩
noncomputable def f22 (w h p : Int) (bb : Bool) : AF := (a27 w h p bb)
noncomputable def cs22 (w h p : Int) (bb : Bool) : List AF := []
noncomputable def S22 (w h p : Int) (bb : Bool) : Hp := ⟨.e, (.o (.o (.o .h))), 2⟩
noncomputable def ks22 : List Ps := []
theorem s22 (w h p : Int) : cut ks22 (runF (drawF 1000000 30) En 36 (f21 w h p false) (cs21 w h p false) (S21 w h p false)) = .next (f22 w h p (ieq p (2))) (cs22 w h p (ieq p (2))) (S22 w h p (ieq p (2))) := by kernel_rfl
noncomputable def a28 (w h p : Int) (bb : Bool) : AF := ⟨12, 22, ⟨⟨⟨⟨⟨⟨(.int .i64 h), xu, xu, xu⟩, z1, z1, z1⟩, z2, z2, z2⟩, ⟨⟨⟨(.bool false), xu, xu, xu⟩, z1, z1, z1⟩, z2, z2, z2⟩, ⟨⟨⟨(.int .i64 (0)), xu, xu, xu⟩, z1, z1, z1⟩, z2, z2, z2⟩, ⟨⟨⟨(.int .i64 (64)), xu, xu, xu⟩, z1, z1, z1⟩, z2, z2, z2⟩⟩, ⟨⟨⟨⟨(.int .i64 w), xu, xu, xu⟩, z1, z1, z1⟩, z2, z2, z2⟩, z3, ⟨⟨⟨(.bool true), xu, xu, xu⟩, z1, z1, z1⟩, z2, z2, z2⟩, ⟨⟨⟨(.int .i64 h), xu, xu, xu⟩, z1, z1, z1⟩, z2, z2, z2⟩⟩, ⟨z3, ⟨⟨⟨(.ptr (.i (.o (.o .h))) 0), xu, xu, xu⟩, z1, z1, z1⟩, z2, z2, z2⟩, ⟨⟨⟨(.agg [(.int .i64 (64)), (.int .i64 (64))]), xu, xu, xu⟩, z1, z1, z1⟩, z2, z2, z2⟩, ⟨⟨⟨(.bool bb), xu, xu, xu⟩, z1, z1, z1⟩, z2, z2, z2⟩⟩, ⟨z3, ⟨⟨⟨v11, xu, xu, xu⟩, z1, z1, z1⟩, z2, z2, z2⟩, ⟨⟨⟨(.ptr (.i (.o (.o .h))) 0), xu, xu, xu⟩, z1, z1, z1⟩, z2, z2, z2⟩, ⟨⟨⟨(.bool bb), xu, xu, xu⟩, z1, z1, z1⟩, z2, z2, z2⟩⟩⟩, .e⟩, [rA En 12 [1, 0, 1, 0, 0, 1, 1, 0, 0, 1, 0] 5, cA En 12 [1, 0, 1, 0, 0, 1, 1, 0, 0, 1, 1], .blk 1, cA En 12 [1, 0, 1, 0, 0, 1, 1, 1], lA En 12 [1, 0, 1, 0, 0], .blk 0, cA En 12 [1, 1]], [], .run, false, false, none⟩
noncomputable def a29 (w h p : Int) (bb : Bool) : AF := ⟨6, 91, ⟨⟨⟨(q6 w h p bb), ⟨z2, ⟨⟨(.int .i64 h), xu, xu, xu⟩, z1, z1, z1⟩, ⟨⟨(.int .i64 h), xu, xu, xu⟩, z1, z1, z1⟩, z2⟩, (q26 w h p bb), ⟨z2, ⟨⟨(.int .i64 p), xu, xu, xu⟩, z1, z1, z1⟩, ⟨⟨(.int .i64 w), xu, xu, xu⟩, z1, z1, z1⟩, z2⟩⟩, ⟨(q13 w h p bb), ⟨z2, ⟨⟨(.bool false), xu, xu, xu⟩, z1, z1, z1⟩, ⟨⟨(.bool false), xu, xu, xu⟩, z1, z1, z1⟩, z2⟩, ⟨z2, ⟨⟨(.bool false), xu, xu, xu⟩, z1, z1, z1⟩, ⟨⟨(.bool true), xu, xu, xu⟩, z1, z1, z1⟩, z2⟩, ⟨⟨⟨(.int .i64 w), xu, xu, xu⟩, z1, z1, z1⟩, ⟨⟨(.bool false), xu, xu, xu⟩, z1, z1, z1⟩, z2, z2⟩⟩, ⟨(q14 w h p bb), ⟨⟨⟨(.int .i64 (0)), xu, xu, xu⟩, z1, z1, z1⟩, ⟨⟨(.bool false), xu, xu, xu⟩, z1, z1, z1⟩, z2, z2⟩, ⟨z2, ⟨⟨(.bool false), xu, xu, xu⟩, z1, z1, z1⟩, ⟨⟨(.bool true), xu, xu, xu⟩, z1, z1, z1⟩, z2⟩, ⟨⟨⟨(.bool false), xu, xu, xu⟩, z1, z1, z1⟩, ⟨⟨(.bool false), xu, xu, xu⟩, z1, z1, z1⟩, z2, z2⟩⟩, ⟨⟨z2, ⟨⟨(.bool false), xu, xu, xu⟩, z1, z1, z1⟩, ⟨⟨(.int .i64 w), xu, xu, xu⟩, z1, z1, z1⟩, z2⟩, ⟨⟨⟨(.int .i64 (0)), xu, xu, xu⟩, z1, z1, z1⟩, ⟨⟨(.bool false), xu, xu, xu⟩, z1, z1, z1⟩, z2, z2⟩, ⟨z2, ⟨⟨(.bool false), xu, xu, xu⟩, z1, z1, z1⟩, ⟨⟨(.int .i64 h), xu, xu, xu⟩, z1, z1, z1⟩, z2⟩, ⟨⟨⟨(.bool false), xu, xu, xu⟩, z1, z1, z1⟩, ⟨⟨(.bool false), xu, xu, xu⟩, z1, z1, z1⟩, z2, z2⟩⟩⟩, .e⟩, [rA En 6 [1, 1, 1, 0, 0] 5, cA En 6 [1, 1, 1, 0, 1], cA En 6 [1, 1, 1, 1]], [], .run, false, false, none⟩
noncomputable def f23 (w h p : Int) (bb : Bool) : AF := (a28 w h p bb)
noncomputable def cs23 (w h p : Int) (bb : Bool) : List AF := [(a29 w h p bb)]
noncomputable def S23 (w h p : Int) (bb : Bool) : Hp := ⟨(.n .e none (.n (.n (.n .e (some o10) .e) none .e) none .e)), (.o (.i (.o .h))), 2⟩
noncomputable def ks23 : List Ps := [(.i (.o (.o .h)))]
theorem s23 (w h p : Int) : cut ks23 (runF (drawF 1000000 30) En 52 (f22 w h p true) (cs22 w h p true) (S22 w h p true)) = .next (f23 w h p (ieq (64) h)) (cs23 w h p (ieq (64) h)) (S23 w h p (ieq (64) h)) := by kernel_rfl
noncomputable def a30 (w h p : Int) (bb : Bool) : AF := ⟨12, 22, ⟨⟨⟨⟨⟨⟨(.int .i64 h), xu, xu, xu⟩, z1, z1, z1⟩, z2, z2, z2⟩, ⟨⟨⟨(.bool false), xu, xu, xu⟩, z1, z1, z1⟩, ⟨⟨(.bool false), xu, xu, xu⟩, z1, z1, z1⟩, z2, z2⟩, ⟨⟨⟨(.int .i64 (1)), xu, xu, xu⟩, z1, z1, z1⟩, z2, z2, z2⟩, ⟨⟨⟨(.int .i64 (64)), xu, xu, xu⟩, z1, z1, z1⟩, z2, z2, z2⟩⟩, ⟨⟨⟨⟨(.int .i64 w), xu, xu, xu⟩, z1, z1, z1⟩, z2, z2, z2⟩, ⟨z2, ⟨⟨(.int .i64 (1)), xu, xu, xu⟩, z1, z1, z1⟩, z2, z2⟩, ⟨⟨⟨(.bool true), xu, xu, xu⟩, z1, z1, z1⟩, z2, z2, z2⟩, ⟨⟨⟨(.int .i64 h), xu, xu, xu⟩, z1, z1, z1⟩, z2, z2, z2⟩⟩, ⟨z3, ⟨⟨⟨(.ptr (.o (.i (.o .h))) 0), xu, xu, xu⟩, z1, z1, z1⟩, z2, z2, z2⟩, ⟨⟨⟨(.agg [(.int .i64 (64)), (.int .i64 (96))]), xu, xu, xu⟩, z1, z1, z1⟩, z2, z2, z2⟩, ⟨⟨⟨(.bool bb), xu, xu, xu⟩, z1, z1, z1⟩, z2, z2, z2⟩⟩, ⟨z3, ⟨⟨⟨v11, xu, xu, xu⟩, z1, z1, z1⟩, z2, z2, z2⟩, ⟨⟨⟨(.ptr (.o (.i (.o .h))) 0), xu, xu, xu⟩, z1, z1, z1⟩, z2, z2, z2⟩, ⟨⟨⟨(.bool bb), xu, xu, xu⟩, z1, z1, z1⟩, z2, z2, z2⟩⟩⟩, .e⟩, [rA En 12 [1, 0, 1, 0, 0, 1, 1, 0, 0, 1, 0] 5, cA En 12 [1, 0, 1, 0, 0, 1, 1, 0, 0, 1, 1], .blk 1, cA En 12 [1, 0, 1, 0, 0, 1, 1, 1], lA En 12 [1, 0, 1, 0, 0], .blk 0, cA En 12 [1, 1]], [], .run, false, false, none⟩
noncomputable def f24 (w h p : Int) (bb : Bool) : AF := (a30 w h p bb)
noncomputable def cs24 (w h p : Int) (bb : Bool) : List AF := [(a29 w h p bb)]
noncomputable def S24 (w h p : Int) (bb : Bool) : Hp := ⟨(.n (.n .e none (.n (.n .e (some o18) .e) none .e)) none .e), (.i (.i (.o .h))), 2⟩
noncomputable def ks24 : List Ps := [(.o (.i (.o .h)))]
theorem s24 (w h p : Int) : cut ks24 (runF (drawF 1000000 30) En 36 (f23 w h p false) (cs23 w h p false) (S23 w h p false)) = .next (f24 w h p (ieq (64) h)) (cs24 w h p (ieq (64) h)) (S24 w h p (ieq (64) h)) := by kernel_rfl
noncomputable def a31 (w h p : Int) (bb : Bool) : AF := ⟨12, 22, ⟨⟨⟨⟨⟨⟨(.int .i64 h), xu, xu, xu⟩, z1, z1, z1⟩, z2, z2, z2⟩, ⟨⟨⟨(.bool false), xu, xu, xu⟩, z1, z1, z1⟩, ⟨⟨(.bool false), xu, xu, xu⟩, z1, z1, z1⟩, z2, z2⟩, ⟨⟨⟨(.int .i64 (2)), xu, xu, xu⟩, z1, z1, z1⟩, z2, z2, z2⟩, ⟨⟨⟨(.int .i64 (96)), xu, xu, xu⟩, z1, z1, z1⟩, z2, z2, z2⟩⟩, ⟨⟨⟨⟨(.int .i64 w), xu, xu, xu⟩, z1, z1, z1⟩, z2, z2, z2⟩, ⟨z2, ⟨⟨(.int .i64 (2)), xu, xu, xu⟩, z1, z1, z1⟩, z2, z2⟩, ⟨⟨⟨(.bool true), xu, xu, xu⟩, z1, z1, z1⟩, z2, z2, z2⟩, ⟨⟨⟨(.int .i64 h), xu, xu, xu⟩, z1, z1, z1⟩, z2, z2, z2⟩⟩, ⟨z3, ⟨⟨⟨(.ptr (.i (.i (.o .h))) 0), xu, xu, xu⟩, z1, z1, z1⟩, z2, z2, z2⟩, ⟨⟨⟨(.agg [(.int .i64 (96)), (.int .i64 (128))]), xu, xu, xu⟩, z1, z1, z1⟩, z2, z2, z2⟩, ⟨⟨⟨(.bool bb), xu, xu, xu⟩, z1, z1, z1⟩, z2, z2, z2⟩⟩, ⟨z3, ⟨⟨⟨v11, xu, xu, xu⟩, z1, z1, z1⟩, z2, z2, z2⟩, ⟨⟨⟨(.ptr (.i (.i (.o .h))) 0), xu, xu, xu⟩, z1, z1, z1⟩, z2, z2, z2⟩, ⟨⟨⟨(.bool bb), xu, xu, xu⟩, z1, z1, z1⟩, z2, z2, z2⟩⟩⟩, .e⟩, [rA En 12 [1, 0, 1, 0, 0, 1, 1, 0, 0, 1, 0] 5, cA En 12 [1, 0, 1, 0, 0, 1, 1, 0, 0, 1, 1], .blk 1, cA En 12 [1, 0, 1, 0, 0, 1, 1, 1], lA En 12 [1, 0, 1, 0, 0], .blk 0, cA En 12 [1, 1]], [], .run, false, false, none⟩
noncomputable def f25 (w h p : Int) (bb : Bool) : AF := (a31 w h p bb)
noncomputable def cs25 (w h p : Int) (bb : Bool) : List AF := [(a29 w h p bb)]
noncomputable def S25 (w h p : Int) (bb : Bool) : Hp := ⟨(.n .e none (.n .e none (.n (.n .e (some o22) .e) none .e))), (.o (.o (.i .h))), 2⟩
noncomputable def ks25 : List Ps := [(.i (.i (.o .h)))]
theorem s25 (w h p : Int) : cut ks25 (runF (drawF 1000000 30) En 36 (f24 w h p false) (cs24 w h p false) (S24 w h p false)) = .next (f25 w h p (ieq (96) h)) (cs25 w h p (ieq (96) h)) (S25 w h p (ieq (96) h)) := by kernel_rfl
noncomputable def a32 (w h p : Int) (bb : Bool) : AF := ⟨12, 22, ⟨⟨⟨⟨⟨⟨(.int .i64 h), xu, xu, xu⟩, z1, z1, z1⟩, z2, z2, z2⟩, ⟨⟨⟨(.bool false), xu, xu, xu⟩, z1, z1, z1⟩, ⟨⟨(.bool false), xu, xu, xu⟩, z1, z1, z1⟩, z2, z2⟩, ⟨⟨⟨(.int .i64 (3)), xu, xu, xu⟩, z1, z1, z1⟩, z2, z2, z2⟩, ⟨⟨⟨(.int .i64 (128)), xu, xu, xu⟩, z1, z1, z1⟩, z2, z2, z2⟩⟩, ⟨⟨⟨⟨(.int .i64 w), xu, xu, xu⟩, z1, z1, z1⟩, z2, z2, z2⟩, ⟨z2, ⟨⟨(.int .i64 (3)), xu, xu, xu⟩, z1, z1, z1⟩, z2, z2⟩, ⟨⟨⟨(.bool true), xu, xu, xu⟩, z1, z1, z1⟩, z2, z2, z2⟩, ⟨⟨⟨(.int .i64 h), xu, xu, xu⟩, z1, z1, z1⟩, z2, z2, z2⟩⟩, ⟨z3, ⟨⟨⟨(.ptr (.o (.o (.i .h))) 0), xu, xu, xu⟩, z1, z1, z1⟩, z2, z2, z2⟩, ⟨⟨⟨(.agg [(.int .i64 (128)), (.int .i64 (128))]), xu, xu, xu⟩, z1, z1, z1⟩, z2, z2, z2⟩, ⟨⟨⟨(.bool bb), xu, xu, xu⟩, z1, z1, z1⟩, z2, z2, z2⟩⟩, ⟨z3, ⟨⟨⟨v11, xu, xu, xu⟩, z1, z1, z1⟩, z2, z2, z2⟩, ⟨⟨⟨(.ptr (.o (.o (.i .h))) 0), xu, xu, xu⟩, z1, z1, z1⟩, z2, z2, z2⟩, ⟨⟨⟨(.bool bb), xu, xu, xu⟩, z1, z1, z1⟩, z2, z2, z2⟩⟩⟩, .e⟩, [rA En 12 [1, 0, 1, 0, 0, 1, 1, 0, 0, 1, 0] 5, cA En 12 [1, 0, 1, 0, 0, 1, 1, 0, 0, 1, 1], .blk 1, cA En 12 [1, 0, 1, 0, 0, 1, 1, 1], lA En 12 [1, 0, 1, 0, 0], .blk 0, cA En 12 [1, 1]], [], .run, false, false, none⟩
noncomputable def f26 (w h p : Int) (bb : Bool) : AF := (a32 w h p bb)
noncomputable def cs26 (w h p : Int) (bb : Bool) : List AF := [(a29 w h p bb)]
noncomputable def S26 (w h p : Int) (bb : Bool) : Hp := ⟨(.n (.n (.n .e none (.n .e (some o24) .e)) none .e) none .e), (.i (.o (.i .h))), 2⟩
noncomputable def ks26 : List Ps := [(.o (.o (.i .h)))]
theorem s26 (w h p : Int) : cut ks26 (runF (drawF 1000000 30) En 36 (f25 w h p false) (cs25 w h p false) (S25 w h p false)) = .next (f26 w h p (ieq (128) h)) (cs26 w h p (ieq (128) h)) (S26 w h p (ieq (128) h)) := by kernel_rfl
noncomputable def q33 (w h p : Int) (bb : Bool) : Q (Q (Q AV)) := ⟨⟨⟨(.int .i64 h), xu, xu, xu⟩, z1, z1, z1⟩, ⟨⟨(.ptr (.o (.o (.i .h))) 1), xu, xu, xu⟩, z1, z1, z1⟩, z2, z2⟩
noncomputable def a34 (w h p : Int) (bb : Bool) : AF := ⟨12, 22, ⟨⟨⟨(q33 w h p bb), ⟨⟨⟨(.bool false), xu, xu, xu⟩, z1, z1, z1⟩, ⟨⟨(.bool bb), xu, xu, xu⟩, z1, z1, z1⟩, z2, z2⟩, ⟨⟨⟨(.int .i64 (3)), xu, xu, xu⟩, z1, z1, z1⟩, z2, z2, z2⟩, ⟨⟨⟨(.int .i64 (128)), xu, xu, xu⟩, z1, z1, z1⟩, z2, z2, z2⟩⟩, ⟨⟨⟨⟨(.int .i64 w), xu, xu, xu⟩, z1, z1, z1⟩, ⟨⟨(.int .i64 (128)), xu, xu, xu⟩, z1, z1, z1⟩, z2, z2⟩, ⟨z2, ⟨⟨(.int .i64 (3)), xu, xu, xu⟩, z1, z1, z1⟩, z2, z2⟩, ⟨⟨⟨(.bool true), xu, xu, xu⟩, z1, z1, z1⟩, z2, z2, z2⟩, ⟨⟨⟨(.int .i64 h), xu, xu, xu⟩, z1, z1, z1⟩, z2, z2, z2⟩⟩, ⟨⟨z2, ⟨⟨(.int .i64 w), xu, xu, xu⟩, z1, z1, z1⟩, z2, z2⟩, ⟨⟨⟨(.ptr (.o (.o (.i .h))) 0), xu, xu, xu⟩, z1, z1, z1⟩, z2, z2, z2⟩, ⟨⟨⟨(.agg [(.int .i64 (128)), (.int .i64 (128))]), xu, xu, xu⟩, z1, z1, z1⟩, z2, z2, z2⟩, ⟨⟨⟨(.bool true), xu, xu, xu⟩, z1, z1, z1⟩, z2, z2, z2⟩⟩, ⟨⟨z2, ⟨⟨(.bool bb), xu, xu, xu⟩, z1, z1, z1⟩, z2, z2⟩, ⟨⟨⟨v11, xu, xu, xu⟩, z1, z1, z1⟩, z2, z2, z2⟩, ⟨⟨⟨(.ptr (.o (.o (.i .h))) 0), xu, xu, xu⟩, z1, z1, z1⟩, z2, z2, z2⟩, ⟨⟨⟨(.bool true), xu, xu, xu⟩, z1, z1, z1⟩, z2, z2, z2⟩⟩⟩, .e⟩, [cA En 12 [1, 0, 1, 0, 0, 1, 1, 0, 0, 1, 1], .blk 1, cA En 12 [1, 0, 1, 0, 0, 1, 1, 1], lA En 12 [1, 0, 1, 0, 0], .blk 0, cA En 12 [1, 1]], [], .run, false, false, none⟩
noncomputable def f27 (w h p : Int) (bb : Bool) : AF := (a34 w h p bb)
noncomputable def cs27 (w h p : Int) (bb : Bool) : List AF := [(a29 w h p bb)]
noncomputable def S27 (w h p : Int) (bb : Bool) : Hp := ⟨(.n (.n (.n .e none (.n .e (some o24) .e)) none .e) none .e), (.i (.o (.i .h))), 2⟩
noncomputable def ks27 : List Ps := [(.o (.o (.i .h)))]
theorem s27 (w h p : Int) : cut ks27 (runF (drawF 1000000 30) En 6 (f26 w h p true) (cs26 w h p true) (S26 w h p true)) = .next (f27 w h p (ieq (128) w)) (cs27 w h p (ieq (128) w)) (S27 w h p (ieq (128) w)) := by kernel_rfl
noncomputable def q35 (w h p : Int) (bb : Bool) : Q (Q (Q AV)) := ⟨z2, ⟨⟨(.int .i64 h), xu, xu, xu⟩, z1, z1, z1⟩, ⟨⟨(.int .i64 h), xu, xu, xu⟩, z1, z1, z1⟩, ⟨⟨(.agg [(.int .i64 (64)), (.int .i64 (64))]), xu, xu, xu⟩, z1, z1, z1⟩⟩
noncomputable def q36 (w h p : Int) (bb : Bool) : Q (Q (Q AV)) := ⟨⟨⟨(.ptr (.o (.i (.i .h))) 0), xu, xu, xu⟩, z1, z1, z1⟩, ⟨⟨(.int .i64 p), xu, xu, xu⟩, z1, z1, z1⟩, ⟨⟨(.int .i64 w), xu, xu, xu⟩, z1, z1, z1⟩, z2⟩
noncomputable def q37 (w h p : Int) (bb : Bool) : Q (Q (Q AV)) := ⟨⟨⟨(.int .i64 h), xu, xu, xu⟩, z1, z1, z1⟩, ⟨⟨(.bool false), xu, xu, xu⟩, z1, z1, z1⟩, ⟨⟨(.bool false), xu, xu, xu⟩, z1, z1, z1⟩, ⟨⟨v11, xu, xu, xu⟩, z1, z1, z1⟩⟩
noncomputable def q38 (w h p : Int) (bb : Bool) : Q (Q (Q AV)) := ⟨z2, ⟨⟨(.bool false), xu, xu, xu⟩, z1, z1, z1⟩, ⟨⟨(.bool false), xu, xu, xu⟩, z1, z1, z1⟩, ⟨⟨(.int .i64 p), xu, xu, xu⟩, z1, z1, z1⟩⟩
noncomputable def q39 : Q (Q (Q AV)) := ⟨⟨⟨(.int .i64 (0)), xu, xu, xu⟩, z1, z1, z1⟩, ⟨⟨(.bool false), xu, xu, xu⟩, z1, z1, z1⟩, ⟨⟨(.bool true), xu, xu, xu⟩, z1, z1, z1⟩, z2⟩
noncomputable def q40 (w h p : Int) (bb : Bool) : Q (Q (Q AV)) := ⟨⟨⟨(.int .i64 w), xu, xu, xu⟩, z1, z1, z1⟩, ⟨⟨(.bool false), xu, xu, xu⟩, z1, z1, z1⟩, ⟨⟨(.bool false), xu, xu, xu⟩, z1, z1, z1⟩, z2⟩
noncomputable def q41 (w h p : Int) (bb : Bool) : Q (Q (Q AV)) := ⟨⟨⟨(.int .i64 p), xu, xu, xu⟩, z1, z1, z1⟩, ⟨⟨(.bool false), xu, xu, xu⟩, z1, z1, z1⟩, ⟨⟨(.bool false), xu, xu, xu⟩, z1, z1, z1⟩, ⟨⟨(.int .i64 (0)), xu, xu, xu⟩, z1, z1, z1⟩⟩
noncomputable def q42 (w h p : Int) (bb : Bool) : Q (Q (Q AV)) := ⟨⟨⟨(.int .i64 (0)), xu, xu, xu⟩, z1, z1, z1⟩, ⟨⟨(.bool false), xu, xu, xu⟩, z1, z1, z1⟩, z2, ⟨⟨(.bool bb), xu, xu, xu⟩, z1, z1, z1⟩⟩
noncomputable def q43 : Q (Q (Q AV)) := ⟨⟨⟨(.bool false), xu, xu, xu⟩, z1, z1, z1⟩, ⟨⟨(.bool false), xu, xu, xu⟩, z1, z1, z1⟩, ⟨⟨(.bool false), xu, xu, xu⟩, z1, z1, z1⟩, z2⟩
noncomputable def q44 (w h p : Int) (bb : Bool) : Q (Q (Q AV)) := ⟨z2, ⟨⟨(.bool false), xu, xu, xu⟩, z1, z1, z1⟩, ⟨⟨(.int .i64 w), xu, xu, xu⟩, z1, z1, z1⟩, ⟨⟨(.bool true), xu, xu, xu⟩, z1, z1, z1⟩⟩
noncomputable def a45 (w h p : Int) (bb : Bool) : AF := ⟨6, 91, ⟨⟨⟨(q6 w h p bb), (q35 w h p bb), (q26 w h p bb), (q36 w h p bb)⟩, ⟨(q37 w h p bb), (q38 w h p bb), q39, (q40 w h p bb)⟩, ⟨(q41 w h p bb), (q42 w h p bb), q39, q43⟩, ⟨(q44 w h p bb), (q42 w h p bb), ⟨z2, ⟨⟨(.bool false), xu, xu, xu⟩, z1, z1, z1⟩, ⟨⟨(.int .i64 h), xu, xu, xu⟩, z1, z1, z1⟩, z2⟩, ⟨⟨⟨(.bool false), xu, xu, xu⟩, z1, z1, z1⟩, ⟨⟨(.bool false), xu, xu, xu⟩, z1, z1, z1⟩, z2, z2⟩⟩⟩, .e⟩, [rA En 6 [1, 1, 1, 1, 1, 0, 1, 0, 0, 1, 1, 0, 0, 1, 0] 3, cA En 6 [1, 1, 1, 1, 1, 0, 1, 0, 0, 1, 1, 0, 0, 1, 1], .blk 1, cA En 6 [1, 1, 1, 1, 1, 0, 1, 0, 0, 1, 1, 1], lA En 6 [1, 1, 1, 1, 1, 0, 1, 0, 0], .blk 0, cA En 6 [1, 1, 1, 1, 1, 1]], [], .run, false, false, none⟩
noncomputable def f28 (w h p : Int) (bb : Bool) : AF := (a45 w h p bb)
noncomputable def cs28 (w h p : Int) (bb : Bool) : List AF := []
noncomputable def S28 (w h p : Int) (bb : Bool) : Hp := ⟨(.n (.n .e none (.n .e none (.n .e (some o10) .e))) none .e), (.i (.i (.i .h))), 2⟩
noncomputable def ks28 : List Ps := [(.o (.i (.i .h)))]
theorem s28 (w h p : Int) : cut ks28 (runF (drawF 1000000 30) En 73 (f27 w h p false) (cs27 w h p false) (S27 w h p false)) = .next (f28 w h p (ieq p (1))) (cs28 w h p (ieq p (1))) (S28 w h p (ieq p (1))) := by kernel_rfl
noncomputable def q46 (w h p : Int) (bb : Bool) : Q (Q (Q AV)) := ⟨z2, ⟨⟨(.int .i64 h), xu, xu, xu⟩, z1, z1, z1⟩, ⟨⟨(.int .i64 h), xu, xu, xu⟩, z1, z1, z1⟩, ⟨⟨(.agg [(.int .i64 (64)), (.int .i64 (96))]), xu, xu, xu⟩, z1, z1, z1⟩⟩
noncomputable def q47 (w h p : Int) (bb : Bool) : Q (Q (Q AV)) := ⟨⟨⟨(.ptr (.i (.i (.i .h))) 0), xu, xu, xu⟩, z1, z1, z1⟩, ⟨⟨(.int .i64 p), xu, xu, xu⟩, z1, z1, z1⟩, ⟨⟨(.int .i64 w), xu, xu, xu⟩, z1, z1, z1⟩, ⟨⟨(.bool false), xu, xu, xu⟩, z1, z1, z1⟩⟩
noncomputable def q48 (w h p : Int) (bb : Bool) : Q (Q (Q AV)) := ⟨⟨⟨(.int .i64 h), xu, xu, xu⟩, z1, z1, z1⟩, ⟨⟨(.bool false), xu, xu, xu⟩, ⟨(.bool false), xu, xu, xu⟩, z1, z1⟩, ⟨⟨(.bool false), xu, xu, xu⟩, z1, z1, z1⟩, ⟨⟨v11, xu, xu, xu⟩, z1, z1, z1⟩⟩
noncomputable def q49 (w h p : Int) (bb : Bool) : Q (Q (Q AV)) := ⟨⟨⟨(.int .i64 w), xu, xu, xu⟩, z1, z1, z1⟩, ⟨⟨(.bool false), xu, xu, xu⟩, z1, z1, z1⟩, ⟨⟨(.bool false), xu, xu, xu⟩, z1, z1, z1⟩, ⟨⟨(.bool false), xu, xu, xu⟩, z1, z1, z1⟩⟩
noncomputable def q50 (w h p : Int) (bb : Bool) : Q (Q (Q AV)) := ⟨⟨⟨(.int .i64 p), xu, xu, xu⟩, ⟨(.bool false), xu, xu, xu⟩, z1, z1⟩, ⟨⟨(.bool false), xu, xu, xu⟩, z1, z1, z1⟩, ⟨⟨(.bool false), xu, xu, xu⟩, z1, z1, z1⟩, ⟨⟨(.int .i64 (1)), xu, xu, xu⟩, z1, z1, z1⟩⟩
noncomputable def q51 (w h p : Int) (bb : Bool) : Q (Q (Q AV)) := ⟨⟨⟨(.int .i64 (0)), xu, xu, xu⟩, z1, z1, z1⟩, ⟨⟨(.bool false), xu, xu, xu⟩, ⟨(.int .i64 (1)), xu, xu, xu⟩, z1, z1⟩, z2, ⟨⟨(.bool bb), xu, xu, xu⟩, z1, z1, z1⟩⟩
noncomputable def q52 (w h p : Int) (bb : Bool) : Q (Q (Q AV)) := ⟨⟨z1, ⟨(.bool false), xu, xu, xu⟩, z1, z1⟩, ⟨⟨(.bool false), xu, xu, xu⟩, z1, z1, z1⟩, ⟨⟨(.int .i64 w), xu, xu, xu⟩, z1, z1, z1⟩, ⟨⟨(.bool true), xu, xu, xu⟩, z1, z1, z1⟩⟩
noncomputable def a53 (w h p : Int) (bb : Bool) : AF := ⟨6, 91, ⟨⟨⟨(q6 w h p bb), (q46 w h p bb), (q26 w h p bb), (q47 w h p bb)⟩, ⟨(q48 w h p bb), (q38 w h p bb), q39, (q49 w h p bb)⟩, ⟨(q50 w h p bb), (q51 w h p bb), q39, q43⟩, ⟨(q52 w h p bb), (q42 w h p bb), ⟨z2, ⟨⟨(.bool false), xu, xu, xu⟩, z1, z1, z1⟩, ⟨⟨(.int .i64 h), xu, xu, xu⟩, z1, z1, z1⟩, z2⟩, ⟨⟨⟨(.bool false), xu, xu, xu⟩, z1, z1, z1⟩, ⟨⟨(.bool false), xu, xu, xu⟩, z1, z1, z1⟩, z2, z2⟩⟩⟩, .e⟩, [rA En 6 [1, 1, 1, 1, 1, 0, 1, 0, 0, 1, 1, 0, 0, 1, 0] 3, cA En 6 [1, 1, 1, 1, 1, 0, 1, 0, 0, 1, 1, 0, 0, 1, 1], .blk 1, cA En 6 [1, 1, 1, 1, 1, 0, 1, 0, 0, 1, 1, 1], lA En 6 [1, 1, 1, 1, 1, 0, 1, 0, 0], .blk 0, cA En 6 [1, 1, 1, 1, 1, 1]], [], .run, false, false, none⟩
noncomputable def f29 (w h p : Int) (bb : Bool) : AF := (a53 w h p bb)
noncomputable def cs29 (w h p : Int) (bb : Bool) : List AF := []
noncomputable def S29 (w h p : Int) (bb : Bool) : Hp := ⟨(.n .e none (.n .e none (.n .e none (.n .e (some o18) .e)))), (.o (.o (.o (.o .h)))), 2⟩
noncomputable def ks29 : List Ps := [(.i (.i (.i .h)))]
theorem s29 (w h p : Int) : cut ks29 (runF (drawF 1000000 30) En 55 (f28 w h p false) (cs28 w h p false) (S28 w h p false)) = .next (f29 w h p (ieq p (1))) (cs29 w h p (ieq p (1))) (S29 w h p (ieq p (1))) := by kernel_rfl
noncomputable def q54 (w h p : Int) (bb : Bool) : Q (Q (Q AV)) := ⟨z2, ⟨⟨(.int .i64 h), xu, xu, xu⟩, z1, z1, z1⟩, ⟨⟨(.int .i64 h), xu, xu, xu⟩, z1, z1, z1⟩, ⟨⟨(.agg [(.int .i64 (96)), (.int .i64 (128))]), xu, xu, xu⟩, z1, z1, z1⟩⟩
noncomputable def q55 (w h p : Int) (bb : Bool) : Q (Q (Q AV)) := ⟨⟨⟨(.ptr (.o (.o (.o (.o .h)))) 0), xu, xu, xu⟩, z1, z1, z1⟩, ⟨⟨(.int .i64 p), xu, xu, xu⟩, z1, z1, z1⟩, ⟨⟨(.int .i64 w), xu, xu, xu⟩, z1, z1, z1⟩, ⟨⟨(.bool false), xu, xu, xu⟩, z1, z1, z1⟩⟩
noncomputable def q56 (w h p : Int) (bb : Bool) : Q (Q (Q AV)) := ⟨⟨⟨(.int .i64 p), xu, xu, xu⟩, ⟨(.bool false), xu, xu, xu⟩, z1, z1⟩, ⟨⟨(.bool false), xu, xu, xu⟩, z1, z1, z1⟩, ⟨⟨(.bool false), xu, xu, xu⟩, z1, z1, z1⟩, ⟨⟨(.int .i64 (2)), xu, xu, xu⟩, z1, z1, z1⟩⟩
noncomputable def q57 (w h p : Int) (bb : Bool) : Q (Q (Q AV)) := ⟨⟨⟨(.int .i64 (0)), xu, xu, xu⟩, z1, z1, z1⟩, ⟨⟨(.bool false), xu, xu, xu⟩, ⟨(.int .i64 (2)), xu, xu, xu⟩, z1, z1⟩, z2, ⟨⟨(.bool bb), xu, xu, xu⟩, z1, z1, z1⟩⟩
noncomputable def a58 (w h p : Int) (bb : Bool) : AF := ⟨6, 91, ⟨⟨⟨(q6 w h p bb), (q54 w h p bb), (q26 w h p bb), (q55 w h p bb)⟩, ⟨(q48 w h p bb), (q38 w h p bb), q39, (q49 w h p bb)⟩, ⟨(q56 w h p bb), (q57 w h p bb), q39, q43⟩, ⟨(q52 w h p bb), (q42 w h p bb), ⟨z2, ⟨⟨(.bool false), xu, xu, xu⟩, z1, z1, z1⟩, ⟨⟨(.int .i64 h), xu, xu, xu⟩, z1, z1, z1⟩, z2⟩, ⟨⟨⟨(.bool false), xu, xu, xu⟩, z1, z1, z1⟩, ⟨⟨(.bool false), xu, xu, xu⟩, z1, z1, z1⟩, z2, z2⟩⟩⟩, .e⟩, [rA En 6 [1, 1, 1, 1, 1, 0, 1, 0, 0, 1, 1, 0, 0, 1, 0] 3, cA En 6 [1, 1, 1, 1, 1, 0, 1, 0, 0, 1, 1, 0, 0, 1, 1], .blk 1, cA En 6 [1, 1, 1, 1, 1, 0, 1, 0, 0, 1, 1, 1], lA En 6 [1, 1, 1, 1, 1, 0, 1, 0, 0], .blk 0, cA En 6 [1, 1, 1, 1, 1, 1]], [], .run, false, false, none⟩
noncomputable def f30 (w h p : Int) (bb : Bool) : AF := (a58 w h p bb)
noncomputable def cs30 (w h p : Int) (bb : Bool) : List AF := []
noncomputable def S30 (w h p : Int) (bb : Bool) : Hp := ⟨(.n (.n (.n (.n (.n .e (some o22) .e) none .e) none .e) none .e) none .e), (.i (.o (.o (.o .h)))), 2⟩
noncomputable def ks30 : List Ps := [(.o (.o (.o (.o .h))))]
theorem s30 (w h p : Int) : cut ks30 (runF (drawF 1000000 30) En 55 (f29 w h p false) (cs29 w h p false) (S29 w h p false)) = .next (f30 w h p (ieq p (1))) (cs30 w h p (ieq p (1))) (S30 w h p (ieq p (1))) := by kernel_rfl
noncomputable def q59 (w h p : Int) (bb : Bool) : Q (Q (Q AV)) := ⟨z2, ⟨⟨(.int .i64 h), xu, xu, xu⟩, z1, z1, z1⟩, ⟨⟨(.int .i64 h), xu, xu, xu⟩, z1, z1, z1⟩, ⟨⟨(.agg [(.int .i64 (128)), (.int .i64 (128))]), xu, xu, xu⟩, z1, z1, z1⟩⟩
noncomputable def q60 (w h p : Int) (bb : Bool) : Q (Q (Q AV)) := ⟨⟨⟨(.ptr (.i (.o (.o (.o .h)))) 0), xu, xu, xu⟩, z1, z1, z1⟩, ⟨⟨(.int .i64 p), xu, xu, xu⟩, z1, z1, z1⟩, ⟨⟨(.int .i64 w), xu, xu, xu⟩, z1, z1, z1⟩, ⟨⟨(.bool false), xu, xu, xu⟩, z1, z1, z1⟩⟩
noncomputable def q61 (w h p : Int) (bb : Bool) : Q (Q (Q AV)) := ⟨⟨⟨(.int .i64 p), xu, xu, xu⟩, ⟨(.bool false), xu, xu, xu⟩, z1, z1⟩, ⟨⟨(.bool false), xu, xu, xu⟩, z1, z1, z1⟩, ⟨⟨(.bool false), xu, xu, xu⟩, z1, z1, z1⟩, ⟨⟨(.int .i64 (3)), xu, xu, xu⟩, z1, z1, z1⟩⟩
noncomputable def q62 (w h p : Int) (bb : Bool) : Q (Q (Q AV)) := ⟨⟨⟨(.int .i64 (0)), xu, xu, xu⟩, z1, z1, z1⟩, ⟨⟨(.bool false), xu, xu, xu⟩, ⟨(.int .i64 (3)), xu, xu, xu⟩, z1, z1⟩, z2, ⟨⟨(.bool bb), xu, xu, xu⟩, z1, z1, z1⟩⟩
noncomputable def a63 (w h p : Int) (bb : Bool) : AF := ⟨6, 91, ⟨⟨⟨(q6 w h p bb), (q59 w h p bb), (q26 w h p bb), (q60 w h p bb)⟩, ⟨(q48 w h p bb), (q38 w h p bb), q39, (q49 w h p bb)⟩, ⟨(q61 w h p bb), (q62 w h p bb), q39, q43⟩, ⟨(q52 w h p bb), (q42 w h p bb), ⟨z2, ⟨⟨(.bool false), xu, xu, xu⟩, z1, z1, z1⟩, ⟨⟨(.int .i64 h), xu, xu, xu⟩, z1, z1, z1⟩, z2⟩, ⟨⟨⟨(.bool false), xu, xu, xu⟩, z1, z1, z1⟩, ⟨⟨(.bool false), xu, xu, xu⟩, z1, z1, z1⟩, z2, z2⟩⟩⟩, .e⟩, [rA En 6 [1, 1, 1, 1, 1, 0, 1, 0, 0, 1, 1, 0, 0, 1, 0] 3, cA En 6 [1, 1, 1, 1, 1, 0, 1, 0, 0, 1, 1, 0, 0, 1, 1], .blk 1, cA En 6 [1, 1, 1, 1, 1, 0, 1, 0, 0, 1, 1, 1], lA En 6 [1, 1, 1, 1, 1, 0, 1, 0, 0], .blk 0, cA En 6 [1, 1, 1, 1, 1, 1]], [], .run, false, false, none⟩
noncomputable def f31 (w h p : Int) (bb : Bool) : AF := (a63 w h p bb)
noncomputable def cs31 (w h p : Int) (bb : Bool) : List AF := []
noncomputable def S31 (w h p : Int) (bb : Bool) : Hp := ⟨(.n .e none (.n (.n (.n (.n .e (some o24) .e) none .e) none .e) none .e)), (.o (.i (.o (.o .h)))), 2⟩
noncomputable def ks31 : List Ps := [(.i (.o (.o (.o .h))))]
theorem s31 (w h p : Int) : cut ks31 (runF (drawF 1000000 30) En 55 (f30 w h p false) (cs30 w h p false) (S30 w h p false)) = .next (f31 w h p (ieq p (1))) (cs31 w h p (ieq p (1))) (S31 w h p (ieq p (1))) := by kernel_rfl
theorem l32 (w h p : Int) : finOf (runF (drawF 1000000 30) En 57 (f31 w h p false) (cs31 w h p false) (S31 w h p false)) = some (.tup [(.int .i64 (0)), (.int .i64 (0)), (.int .i64 (41))]) := by kernel_rfl
noncomputable def f33 (w h p : Int) (bb : Bool) : AF := (a45 w h p bb)
noncomputable def cs33 (w h p : Int) (bb : Bool) : List AF := []
noncomputable def S33 (w h p : Int) (bb : Bool) : Hp := ⟨(.n (.n .e none (.n .e none (.n .e (some o10) .e))) none .e), (.i (.i (.i .h))), 2⟩
noncomputable def ks33 : List Ps := [(.o (.i (.i .h)))]
theorem s33 (w h p : Int) : cut ks33 (runF (drawF 1000000 30) En 79 (f26 w h p false) (cs26 w h p false) (S26 w h p false)) = .next (f33 w h p (ieq p (1))) (cs33 w h p (ieq p (1))) (S33 w h p (ieq p (1))) := by kernel_rfl
noncomputable def f34 (w h p : Int) (bb : Bool) : AF := (a53 w h p bb)
noncomputable def cs34 (w h p : Int) (bb : Bool) : List AF := []
noncomputable def S34 (w h p : Int) (bb : Bool) : Hp := ⟨(.n .e none (.n .e none (.n .e none (.n .e (some o18) .e)))), (.o (.o (.o (.o .h)))), 2⟩
noncomputable def ks34 : List Ps := [(.i (.i (.i .h)))]
theorem s34 (w h p : Int) : cut ks34 (runF (drawF 1000000 30) En 55 (f33 w h p false) (cs33 w h p false) (S33 w h p false)) = .next (f34 w h p (ieq p (1))) (cs34 w h p (ieq p (1))) (S34 w h p (ieq p (1))) := by kernel_rfl
noncomputable def f35 (w h p : Int) (bb : Bool) : AF := (a58 w h p bb)
noncomputable def cs35 (w h p : Int) (bb : Bool) : List AF := []
noncomputable def S35 (w h p : Int) (bb : Bool) : Hp := ⟨(.n (.n (.n (.n (.n .e (some o22) .e) none .e) none .e) none .e) none .e), (.i (.o (.o (.o .h)))), 2⟩
noncomputable def ks35 : List Ps := [(.o (.o (.o (.o .h))))]
theorem s35 (w h p : Int) : cut ks35 (runF (drawF 1000000 30) En 55 (f34 w h p false) (cs34 w h p false) (S34 w h p false)) = .next (f35 w h p (ieq p (1))) (cs35 w h p (ieq p (1))) (S35 w h p (ieq p (1))) := by kernel_rfl
noncomputable def f36 (w h p : Int) (bb : Bool) : AF := (a63 w h p bb)
noncomputable def cs36 (w h p : Int) (bb : Bool) : List AF := []
noncomputable def S36 (w h p : Int) (bb : Bool) : Hp := ⟨(.n .e none (.n (.n (.n (.n .e (some o24) .e) none .e) none .e) none .e)), (.o (.i (.o (.o .h)))), 2⟩
noncomputable def ks36 : List Ps := [(.i (.o (.o (.o .h))))]
theorem s36 (w h p : Int) : cut ks36 (runF (drawF 1000000 30) En 55 (f35 w h p false) (cs35 w h p false) (S35 w h p false)) = .next (f36 w h p (ieq p (1))) (cs36 w h p (ieq p (1))) (S36 w h p (ieq p (1))) := by kernel_rfl
theorem l37 (w h p : Int) : finOf (runF (drawF 1000000 30) En 57 (f36 w h p false) (cs36 w h p false) (S36 w h p false)) = some (.tup [(.int .i64 (0)), (.int .i64 (0)), (.int .i64 (41))]) := by kernel_rfl
noncomputable def q64 (w h p : Int) (bb : Bool) : Q (Q (Q AV)) := ⟨⟨⟨(.ptr (.i (.o (.o .h))) 0), xu, xu, xu⟩, z1, z1, z1⟩, ⟨⟨(.int .i64 p), xu, xu, xu⟩, z1, z1, z1⟩, z2, z2⟩
noncomputable def q65 : Q (Q (Q AV)) := ⟨⟨⟨(.int .i64 (0)), xu, xu, xu⟩, z1, z1, z1⟩, ⟨⟨(.bool false), xu, xu, xu⟩, z1, z1, z1⟩, ⟨⟨(.bool false), xu, xu, xu⟩, z1, z1, z1⟩, z2⟩
noncomputable def a66 (w h p : Int) (bb : Bool) : AF := ⟨6, 91, ⟨⟨⟨(q6 w h p bb), (q35 w h p bb), (q26 w h p bb), (q64 w h p bb)⟩, ⟨(q37 w h p bb), (q38 w h p bb), q65, ⟨⟨⟨(.int .i64 w), xu, xu, xu⟩, z1, z1, z1⟩, ⟨⟨(.bool false), xu, xu, xu⟩, z1, z1, z1⟩, z2, z2⟩⟩, ⟨(q41 w h p bb), (q42 w h p bb), q65, q43⟩, ⟨(q44 w h p bb), (q42 w h p bb), ⟨z2, ⟨⟨(.bool false), xu, xu, xu⟩, z1, z1, z1⟩, z2, z2⟩, ⟨⟨⟨(.bool false), xu, xu, xu⟩, z1, z1, z1⟩, ⟨⟨(.bool false), xu, xu, xu⟩, z1, z1, z1⟩, z2, z2⟩⟩⟩, .e⟩, [rA En 6 [1, 1, 1, 1, 1, 0, 1, 0, 0, 1, 1, 0, 0, 1, 0] 3, cA En 6 [1, 1, 1, 1, 1, 0, 1, 0, 0, 1, 1, 0, 0, 1, 1], .blk 1, cA En 6 [1, 1, 1, 1, 1, 0, 1, 0, 0, 1, 1, 1], lA En 6 [1, 1, 1, 1, 1, 0, 1, 0, 0], .blk 0, cA En 6 [1, 1, 1, 1, 1, 1]], [], .run, false, false, none⟩
noncomputable def f38 (w h p : Int) (bb : Bool) : AF := (a66 w h p bb)
noncomputable def cs38 (w h p : Int) (bb : Bool) : List AF := []
noncomputable def S38 (w h p : Int) (bb : Bool) : Hp := ⟨(.n .e none (.n (.n (.n .e (some o10) .e) none .e) none .e)), (.o (.i (.o .h))), 2⟩
noncomputable def ks38 : List Ps := [(.i (.o (.o .h)))]
theorem s38 (w h p : Int) : cut ks38 (runF (drawF 1000000 30) En 55 (f22 w h p false) (cs22 w h p false) (S22 w h p false)) = .next (f38 w h p (ieq p (1))) (cs38 w h p (ieq p (1))) (S38 w h p (ieq p (1))) := by kernel_rfl
noncomputable def q67 (w h p : Int) (bb : Bool) : Q (Q (Q AV)) := ⟨⟨⟨(.int .i64 (0)), xu, xu, xu⟩, z1, z1, z1⟩, ⟨⟨(.int .i64 h), xu, xu, xu⟩, z1, z1, z1⟩, ⟨⟨(.int .i64 p), xu, xu, xu⟩, z1, z1, z1⟩, ⟨⟨(.ptr (.i (.o (.o .h))) 0), xu, xu, xu⟩, z1, z1, z1⟩⟩
noncomputable def q68 (w h p : Int) (bb : Bool) : Q (Q (Q AV)) := ⟨⟨⟨(.ptr (.i (.o (.o .h))) 0), xu, xu, xu⟩, z1, z1, z1⟩, ⟨⟨(.int .i64 p), xu, xu, xu⟩, z1, z1, z1⟩, z2, ⟨⟨(.bool bb), xu, xu, xu⟩, z1, z1, z1⟩⟩
noncomputable def q69 : Q (Q (Q AV)) := ⟨⟨⟨(.int .i64 (0)), xu, xu, xu⟩, z1, z1, z1⟩, ⟨⟨(.bool false), xu, xu, xu⟩, z1, z1, z1⟩, ⟨⟨(.bool false), xu, xu, xu⟩, z1, z1, z1⟩, ⟨⟨(.int .i64 (64)), xu, xu, xu⟩, z1, z1, z1⟩⟩
noncomputable def q70 (w h p : Int) (bb : Bool) : Q (Q (Q AV)) := ⟨⟨⟨(.int .i64 w), xu, xu, xu⟩, z1, z1, z1⟩, ⟨⟨(.bool false), xu, xu, xu⟩, z1, z1, z1⟩, z2, ⟨⟨(.bool bb), xu, xu, xu⟩, z1, z1, z1⟩⟩
noncomputable def q71 : Q (Q (Q AV)) := ⟨⟨⟨(.int .i64 (0)), xu, xu, xu⟩, z1, z1, z1⟩, ⟨⟨(.bool false), xu, xu, xu⟩, z1, z1, z1⟩, z2, ⟨⟨(.bool true), xu, xu, xu⟩, z1, z1, z1⟩⟩
noncomputable def q72 (w h p : Int) (bb : Bool) : Q (Q (Q AV)) := ⟨⟨⟨(.int .i64 (0)), xu, xu, xu⟩, z1, z1, z1⟩, ⟨⟨(.bool false), xu, xu, xu⟩, z1, z1, z1⟩, ⟨⟨(.bool false), xu, xu, xu⟩, z1, z1, z1⟩, ⟨⟨(.int .i64 w), xu, xu, xu⟩, z1, z1, z1⟩⟩
noncomputable def a73 (w h p : Int) (bb : Bool) : AF := ⟨6, 91, ⟨⟨⟨(q6 w h p bb), (q35 w h p bb), (q67 w h p bb), (q68 w h p bb)⟩, ⟨(q37 w h p bb), (q38 w h p bb), q69, (q70 w h p bb)⟩, ⟨(q41 w h p bb), q71, (q72 w h p bb), q43⟩, ⟨(q44 w h p bb), q71, ⟨z2, ⟨⟨(.bool false), xu, xu, xu⟩, z1, z1, z1⟩, z2, ⟨⟨(.bool bb), xu, xu, xu⟩, z1, z1, z1⟩⟩, ⟨⟨⟨(.bool false), xu, xu, xu⟩, z1, z1, z1⟩, ⟨⟨(.bool false), xu, xu, xu⟩, z1, z1, z1⟩, z2, z2⟩⟩⟩, .e⟩, [rA En 6 [1, 1, 1, 1, 1, 0, 1, 0, 0, 1, 1, 0, 0, 1, 0] 9, cA En 6 [1, 1, 1, 1, 1, 0, 1, 0, 0, 1, 1, 0, 0, 1, 1], .blk 1, cA En 6 [1, 1, 1, 1, 1, 0, 1, 0, 0, 1, 1, 1], lA En 6 [1, 1, 1, 1, 1, 0, 1, 0, 0], .blk 0, cA En 6 [1, 1, 1, 1, 1, 1]], [], .run, false, false, none⟩
noncomputable def f39 (w h p : Int) (bb : Bool) : AF := (a73 w h p bb)
noncomputable def cs39 (w h p : Int) (bb : Bool) : List AF := []
noncomputable def S39 (w h p : Int) (bb : Bool) : Hp := ⟨(.n .e none (.n (.n (.n .e (some o10) .e) none .e) none .e)), (.o (.i (.o .h))), 2⟩
noncomputable def ks39 : List Ps := [(.i (.o (.o .h)))]
theorem s39 (w h p : Int) : cut ks39 (runF (drawF 1000000 30) En 6 (f38 w h p true) (cs38 w h p true) (S38 w h p true)) = .next (f39 w h p (ile w (64))) (cs39 w h p (ile w (64))) (S39 w h p (ile w (64))) := by kernel_rfl
noncomputable def q74 (w h p : Int) (bb : Bool) : Q (Q (Q AV)) := ⟨⟨⟨(.int .i64 w), xu, xu, xu⟩, ⟨(.int .i64 h), xu, xu, xu⟩, z1, z1⟩, ⟨⟨(.int .i64 w), xu, xu, xu⟩, z1, z1, z1⟩, ⟨⟨(.int .i64 p), xu, xu, xu⟩, z1, z1, z1⟩, z2⟩
noncomputable def q75 (w h p : Int) (bb : Bool) : Q (Q (Q AV)) := ⟨⟨⟨(.ptr (.i (.o (.o .h))) 0), xu, xu, xu⟩, z1, z1, z1⟩, ⟨⟨(.int .i64 p), xu, xu, xu⟩, z1, z1, z1⟩, z2, ⟨⟨(.bool true), xu, xu, xu⟩, z1, z1, z1⟩⟩
noncomputable def q76 (w h p : Int) (bb : Bool) : Q (Q (Q AV)) := ⟨⟨⟨(.int .i64 h), xu, xu, xu⟩, ⟨(.bool bb), xu, xu, xu⟩, z1, z1⟩, ⟨⟨(.bool false), xu, xu, xu⟩, z1, z1, z1⟩, ⟨⟨(.bool false), xu, xu, xu⟩, z1, z1, z1⟩, ⟨⟨v11, xu, xu, xu⟩, z1, z1, z1⟩⟩
noncomputable def q77 (w h p : Int) (bb : Bool) : Q (Q (Q AV)) := ⟨⟨⟨(.int .i64 w), xu, xu, xu⟩, z1, z1, z1⟩, ⟨⟨(.bool false), xu, xu, xu⟩, z1, z1, z1⟩, z2, ⟨⟨(.bool true), xu, xu, xu⟩, z1, z1, z1⟩⟩
noncomputable def q78 (w h p : Int) (bb : Bool) : Q (Q (Q AV)) := ⟨⟨⟨(.int .i64 p), xu, xu, xu⟩, ⟨(.bool bb), xu, xu, xu⟩, z1, z1⟩, ⟨⟨(.bool false), xu, xu, xu⟩, z1, z1, z1⟩, ⟨⟨(.bool false), xu, xu, xu⟩, z1, z1, z1⟩, ⟨⟨(.int .i64 (0)), xu, xu, xu⟩, z1, z1, z1⟩⟩
noncomputable def q79 : Q (Q (Q AV)) := ⟨⟨⟨(.bool false), xu, xu, xu⟩, z1, z1, z1⟩, ⟨⟨(.bool false), xu, xu, xu⟩, z1, z1, z1⟩, ⟨⟨(.bool false), xu, xu, xu⟩, z1, z1, z1⟩, ⟨⟨(.ptr (.i (.o (.o .h))) 1), xu, xu, xu⟩, z1, z1, z1⟩⟩
noncomputable def q80 (w h p : Int) (bb : Bool) : Q (Q (Q AV)) := ⟨⟨z1, ⟨(.bool bb), xu, xu, xu⟩, z1, z1⟩, ⟨⟨(.bool false), xu, xu, xu⟩, z1, z1, z1⟩, ⟨⟨(.int .i64 w), xu, xu, xu⟩, z1, z1, z1⟩, ⟨⟨(.bool true), xu, xu, xu⟩, z1, z1, z1⟩⟩
noncomputable def q81 : Q (Q (Q AV)) := ⟨⟨⟨(.bool false), xu, xu, xu⟩, z1, z1, z1⟩, ⟨⟨(.bool false), xu, xu, xu⟩, z1, z1, z1⟩, z2, ⟨⟨(.int .i64 (64)), xu, xu, xu⟩, z1, z1, z1⟩⟩
noncomputable def a82 (w h p : Int) (bb : Bool) : AF := ⟨6, 91, ⟨⟨⟨(q74 w h p bb), (q35 w h p bb), (q67 w h p bb), (q75 w h p bb)⟩, ⟨(q76 w h p bb), (q38 w h p bb), q69, (q77 w h p bb)⟩, ⟨(q78 w h p bb), q71, (q72 w h p bb), q79⟩, ⟨(q80 w h p bb), q71, ⟨z2, ⟨⟨(.bool false), xu, xu, xu⟩, z1, z1, z1⟩, z2, ⟨⟨(.bool true), xu, xu, xu⟩, z1, z1, z1⟩⟩, q81⟩⟩, .e⟩, [rA En 6 [1, 1, 1, 1, 1, 0, 1, 0, 0, 1, 1, 0, 0, 1, 0] 15, cA En 6 [1, 1, 1, 1, 1, 0, 1, 0, 0, 1, 1, 0, 0, 1, 1], .blk 1, cA En 6 [1, 1, 1, 1, 1, 0, 1, 0, 0, 1, 1, 1], lA En 6 [1, 1, 1, 1, 1, 0, 1, 0, 0], .blk 0, cA En 6 [1, 1, 1, 1, 1, 1]], [], .run, false, false, none⟩
noncomputable def f40 (w h p : Int) (bb : Bool) : AF := (a82 w h p bb)
noncomputable def cs40 (w h p : Int) (bb : Bool) : List AF := []
noncomputable def S40 (w h p : Int) (bb : Bool) : Hp := ⟨(.n .e none (.n (.n (.n .e (some o10) .e) none .e) none .e)), (.o (.i (.o .h))), 2⟩
noncomputable def ks40 : List Ps := [(.i (.o (.o .h)))]
theorem s40 (w h p : Int) : cut ks40 (runF (drawF 1000000 30) En 6 (f39 w h p true) (cs39 w h p true) (S39 w h p true)) = .next (f40 w h p (ile h (64))) (cs40 w h p (ile h (64))) (S40 w h p (ile h (64))) := by kernel_rfl
noncomputable def q83 (w h p : Int) (bb : Bool) : Q (Q (Q AV)) := ⟨⟨⟨(.int .i64 w), xu, xu, xu⟩, ⟨(.int .i64 h), xu, xu, xu⟩, z1, z1⟩, ⟨⟨(.int .i64 w), xu, xu, xu⟩, ⟨(.bool true), xu, xu, xu⟩, z1, z1⟩, ⟨⟨(.int .i64 p), xu, xu, xu⟩, z1, z1, z1⟩, z2⟩
noncomputable def q84 (w h p : Int) (bb : Bool) : Q (Q (Q AV)) := ⟨⟨z1, ⟨(.int .i64 (0)), xu, xu, xu⟩, z1, z1⟩, ⟨⟨(.int .i64 h), xu, xu, xu⟩, ⟨(.ptr (.i (.o (.o .h))) 1), xu, xu, xu⟩, z1, z1⟩, ⟨⟨(.int .i64 h), xu, xu, xu⟩, z1, z1, z1⟩, ⟨⟨(.agg [(.int .i64 (64)), (.int .i64 (96))]), xu, xu, xu⟩, z1, z1, z1⟩⟩
noncomputable def q85 (w h p : Int) (bb : Bool) : Q (Q (Q AV)) := ⟨⟨⟨(.ptr (.o (.i (.o .h))) 0), xu, xu, xu⟩, z1, z1, z1⟩, ⟨⟨(.int .i64 p), xu, xu, xu⟩, z1, z1, z1⟩, z2, ⟨⟨(.bool true), xu, xu, xu⟩, z1, z1, z1⟩⟩
noncomputable def q86 (w h p : Int) (bb : Bool) : Q (Q (Q AV)) := ⟨⟨⟨(.int .i64 h), xu, xu, xu⟩, ⟨(.bool true), xu, xu, xu⟩, z1, z1⟩, ⟨⟨(.bool false), xu, xu, xu⟩, ⟨(.bool true), xu, xu, xu⟩, z1, z1⟩, ⟨⟨(.bool false), xu, xu, xu⟩, z1, z1, z1⟩, ⟨⟨v11, xu, xu, xu⟩, z1, z1, z1⟩⟩
noncomputable def q87 (w h p : Int) (bb : Bool) : Q (Q (Q AV)) := ⟨⟨z1, ⟨(.bool true), xu, xu, xu⟩, z1, z1⟩, ⟨⟨(.bool false), xu, xu, xu⟩, ⟨(.int .i64 (64)), xu, xu, xu⟩, z1, z1⟩, ⟨⟨(.bool false), xu, xu, xu⟩, z1, z1, z1⟩, ⟨⟨(.int .i64 p), xu, xu, xu⟩, z1, z1, z1⟩⟩
noncomputable def q88 : Q (Q (Q AV)) := ⟨⟨⟨(.int .i64 (64)), xu, xu, xu⟩, z1, z1, z1⟩, ⟨⟨(.bool false), xu, xu, xu⟩, z1, z1, z1⟩, ⟨⟨(.bool false), xu, xu, xu⟩, z1, z1, z1⟩, ⟨⟨(.int .i64 (64)), xu, xu, xu⟩, z1, z1, z1⟩⟩
noncomputable def q89 (w h p : Int) (bb : Bool) : Q (Q (Q AV)) := ⟨⟨⟨(.int .i64 p), xu, xu, xu⟩, ⟨(.bool true), xu, xu, xu⟩, z1, z1⟩, ⟨⟨(.bool false), xu, xu, xu⟩, ⟨(.ptr (.i (.o (.o .h))) 0), xu, xu, xu⟩, z1, z1⟩, ⟨⟨(.bool false), xu, xu, xu⟩, z1, z1, z1⟩, ⟨⟨(.int .i64 (1)), xu, xu, xu⟩, z1, z1, z1⟩⟩
noncomputable def q90 (w h p : Int) (bb : Bool) : Q (Q (Q AV)) := ⟨⟨⟨(.int .i64 (0)), xu, xu, xu⟩, ⟨(.bool true), xu, xu, xu⟩, z1, z1⟩, ⟨⟨(.bool false), xu, xu, xu⟩, ⟨(.int .i64 (1)), xu, xu, xu⟩, z1, z1⟩, z2, ⟨⟨(.bool bb), xu, xu, xu⟩, z1, z1, z1⟩⟩
noncomputable def q91 (w h p : Int) (bb : Bool) : Q (Q (Q AV)) := ⟨⟨⟨(.int .i64 (64)), xu, xu, xu⟩, z1, z1, z1⟩, ⟨⟨(.bool false), xu, xu, xu⟩, z1, z1, z1⟩, ⟨⟨(.bool false), xu, xu, xu⟩, z1, z1, z1⟩, ⟨⟨(.int .i64 w), xu, xu, xu⟩, z1, z1, z1⟩⟩
noncomputable def q92 (w h p : Int) (bb : Bool) : Q (Q (Q AV)) := ⟨⟨z1, ⟨(.bool true), xu, xu, xu⟩, z1, z1⟩, ⟨⟨(.bool false), xu, xu, xu⟩, ⟨(.int .i64 (64)), xu, xu, xu⟩, z1, z1⟩, ⟨⟨(.int .i64 w), xu, xu, xu⟩, z1, z1, z1⟩, ⟨⟨(.bool true), xu, xu, xu⟩, z1, z1, z1⟩⟩
noncomputable def a93 (w h p : Int) (bb : Bool) : AF := ⟨6, 91, ⟨⟨⟨(q83 w h p bb), (q84 w h p bb), (q67 w h p bb), (q85 w h p bb)⟩, ⟨(q86 w h p bb), (q87 w h p bb), q88, (q77 w h p bb)⟩, ⟨(q89 w h p bb), (q90 w h p bb), (q91 w h p bb), q79⟩, ⟨(q92 w h p bb), (q42 w h p bb), ⟨z2, ⟨⟨(.bool false), xu, xu, xu⟩, z1, z1, z1⟩, z2, ⟨⟨(.bool true), xu, xu, xu⟩, z1, z1, z1⟩⟩, q81⟩⟩, .e⟩, [rA En 6 [1, 1, 1, 1, 1, 0, 1, 0, 0, 1, 1, 0, 0, 1, 0] 3, cA En 6 [1, 1, 1, 1, 1, 0, 1, 0, 0, 1, 1, 0, 0, 1, 1], .blk 1, cA En 6 [1, 1, 1, 1, 1, 0, 1, 0, 0, 1, 1, 1], lA En 6 [1, 1, 1, 1, 1, 0, 1, 0, 0], .blk 0, cA En 6 [1, 1, 1, 1, 1, 1]], [], .run, false, false, none⟩
noncomputable def f41 (w h p : Int) (bb : Bool) : AF := (a93 w h p bb)
noncomputable def cs41 (w h p : Int) (bb : Bool) : List AF := []
noncomputable def S41 (w h p : Int) (bb : Bool) : Hp := ⟨(.n (.n .e none (.n (.n .e (some o18) .e) none .e)) none (.n (.n (.n .e (some o10) .e) none .e) none .e)), (.i (.i (.o .h))), 2⟩
noncomputable def ks41 : List Ps := [(.i (.o (.o .h))), (.o (.i (.o .h)))]
theorem s41 (w h p : Int) : cut ks41 (runF (drawF 1000000 30) En 43 (f40 w h p true) (cs40 w h p true) (S40 w h p true)) = .next (f41 w h p (ieq p (1))) (cs41 w h p (ieq p (1))) (S41 w h p (ieq p (1))) := by kernel_rfl
noncomputable def q94 (w h p : Int) (bb : Bool) : Q (Q (Q AV)) := ⟨⟨⟨(.int .i64 (0)), xu, xu, xu⟩, z1, z1, z1⟩, ⟨⟨(.int .i64 h), xu, xu, xu⟩, z1, z1, z1⟩, ⟨⟨(.int .i64 p), xu, xu, xu⟩, z1, z1, z1⟩, ⟨⟨(.ptr (.o (.i (.o .h))) 0), xu, xu, xu⟩, z1, z1, z1⟩⟩
noncomputable def q95 (w h p : Int) (bb : Bool) : Q (Q (Q AV)) := ⟨⟨⟨(.ptr (.o (.i (.o .h))) 0), xu, xu, xu⟩, z1, z1, z1⟩, ⟨⟨(.int .i64 p), xu, xu, xu⟩, z1, z1, z1⟩, z2, ⟨⟨(.bool bb), xu, xu, xu⟩, z1, z1, z1⟩⟩
noncomputable def q96 : Q (Q (Q AV)) := ⟨⟨⟨(.int .i64 (0)), xu, xu, xu⟩, ⟨(.bool true), xu, xu, xu⟩, z1, z1⟩, ⟨⟨(.bool false), xu, xu, xu⟩, ⟨(.int .i64 (1)), xu, xu, xu⟩, z1, z1⟩, z2, ⟨⟨(.bool true), xu, xu, xu⟩, z1, z1, z1⟩⟩
noncomputable def a97 (w h p : Int) (bb : Bool) : AF := ⟨6, 91, ⟨⟨⟨(q83 w h p bb), (q84 w h p bb), (q94 w h p bb), (q95 w h p bb)⟩, ⟨(q86 w h p bb), (q87 w h p bb), q88, (q70 w h p bb)⟩, ⟨(q89 w h p bb), q96, (q91 w h p bb), q79⟩, ⟨(q92 w h p bb), q71, ⟨z2, ⟨⟨(.bool false), xu, xu, xu⟩, z1, z1, z1⟩, z2, ⟨⟨(.bool bb), xu, xu, xu⟩, z1, z1, z1⟩⟩, q81⟩⟩, .e⟩, [rA En 6 [1, 1, 1, 1, 1, 0, 1, 0, 0, 1, 1, 0, 0, 1, 0] 9, cA En 6 [1, 1, 1, 1, 1, 0, 1, 0, 0, 1, 1, 0, 0, 1, 1], .blk 1, cA En 6 [1, 1, 1, 1, 1, 0, 1, 0, 0, 1, 1, 1], lA En 6 [1, 1, 1, 1, 1, 0, 1, 0, 0], .blk 0, cA En 6 [1, 1, 1, 1, 1, 1]], [], .run, false, false, none⟩
noncomputable def f42 (w h p : Int) (bb : Bool) : AF := (a97 w h p bb)
noncomputable def cs42 (w h p : Int) (bb : Bool) : List AF := []
noncomputable def S42 (w h p : Int) (bb : Bool) : Hp := ⟨(.n (.n .e none (.n (.n .e (some o18) .e) none .e)) none (.n (.n (.n .e (some o10) .e) none .e) none .e)), (.i (.i (.o .h))), 2⟩
noncomputable def ks42 : List Ps := [(.i (.o (.o .h))), (.o (.i (.o .h)))]
theorem s42 (w h p : Int) : cut ks42 (runF (drawF 1000000 30) En 6 (f41 w h p true) (cs41 w h p true) (S41 w h p true)) = .next (f42 w h p (ile w (64))) (cs42 w h p (ile w (64))) (S42 w h p (ile w (64))) := by kernel_rfl
noncomputable def q98 (w h p : Int) (bb : Bool) : Q (Q (Q AV)) := ⟨⟨⟨(.int .i64 h), xu, xu, xu⟩, ⟨(.bool bb), xu, xu, xu⟩, z1, z1⟩, ⟨⟨(.bool false), xu, xu, xu⟩, ⟨(.bool true), xu, xu, xu⟩, z1, z1⟩, ⟨⟨(.bool false), xu, xu, xu⟩, z1, z1, z1⟩, ⟨⟨v11, xu, xu, xu⟩, z1, z1, z1⟩⟩
noncomputable def q99 (w h p : Int) (bb : Bool) : Q (Q (Q AV)) := ⟨⟨⟨(.int .i64 p), xu, xu, xu⟩, ⟨(.bool bb), xu, xu, xu⟩, z1, z1⟩, ⟨⟨(.bool false), xu, xu, xu⟩, ⟨(.ptr (.i (.o (.o .h))) 0), xu, xu, xu⟩, z1, z1⟩, ⟨⟨(.bool false), xu, xu, xu⟩, z1, z1, z1⟩, ⟨⟨(.int .i64 (1)), xu, xu, xu⟩, z1, z1, z1⟩⟩
noncomputable def q100 : Q (Q (Q AV)) := ⟨⟨⟨(.bool false), xu, xu, xu⟩, z1, z1, z1⟩, ⟨⟨(.bool false), xu, xu, xu⟩, z1, z1, z1⟩, ⟨⟨(.bool false), xu, xu, xu⟩, z1, z1, z1⟩, ⟨⟨(.ptr (.o (.i (.o .h))) 1), xu, xu, xu⟩, z1, z1, z1⟩⟩
noncomputable def q101 (w h p : Int) (bb : Bool) : Q (Q (Q AV)) := ⟨⟨z1, ⟨(.bool bb), xu, xu, xu⟩, z1, z1⟩, ⟨⟨(.bool false), xu, xu, xu⟩, ⟨(.int .i64 (64)), xu, xu, xu⟩, z1, z1⟩, ⟨⟨(.int .i64 w), xu, xu, xu⟩, z1, z1, z1⟩, ⟨⟨(.bool true), xu, xu, xu⟩, z1, z1, z1⟩⟩
noncomputable def q102 : Q (Q (Q AV)) := ⟨⟨⟨(.bool false), xu, xu, xu⟩, z1, z1, z1⟩, ⟨⟨(.bool false), xu, xu, xu⟩, z1, z1, z1⟩, z2, ⟨⟨(.int .i64 (96)), xu, xu, xu⟩, z1, z1, z1⟩⟩
noncomputable def a103 (w h p : Int) (bb : Bool) : AF := ⟨6, 91, ⟨⟨⟨(q83 w h p bb), (q84 w h p bb), (q94 w h p bb), (q85 w h p bb)⟩, ⟨(q98 w h p bb), (q87 w h p bb), q88, (q77 w h p bb)⟩, ⟨(q99 w h p bb), q96, (q91 w h p bb), q100⟩, ⟨(q101 w h p bb), q71, ⟨z2, ⟨⟨(.bool false), xu, xu, xu⟩, z1, z1, z1⟩, z2, ⟨⟨(.bool true), xu, xu, xu⟩, z1, z1, z1⟩⟩, q102⟩⟩, .e⟩, [rA En 6 [1, 1, 1, 1, 1, 0, 1, 0, 0, 1, 1, 0, 0, 1, 0] 15, cA En 6 [1, 1, 1, 1, 1, 0, 1, 0, 0, 1, 1, 0, 0, 1, 1], .blk 1, cA En 6 [1, 1, 1, 1, 1, 0, 1, 0, 0, 1, 1, 1], lA En 6 [1, 1, 1, 1, 1, 0, 1, 0, 0], .blk 0, cA En 6 [1, 1, 1, 1, 1, 1]], [], .run, false, false, none⟩
noncomputable def f43 (w h p : Int) (bb : Bool) : AF := (a103 w h p bb)
noncomputable def cs43 (w h p : Int) (bb : Bool) : List AF := []
noncomputable def S43 (w h p : Int) (bb : Bool) : Hp := ⟨(.n (.n .e none (.n (.n .e (some o18) .e) none .e)) none (.n (.n (.n .e (some o10) .e) none .e) none .e)), (.i (.i (.o .h))), 2⟩
noncomputable def ks43 : List Ps := [(.i (.o (.o .h))), (.o (.i (.o .h)))]
theorem s43 (w h p : Int) : cut ks43 (runF (drawF 1000000 30) En 6 (f42 w h p true) (cs42 w h p true) (S42 w h p true)) = .next (f43 w h p (ile h (96))) (cs43 w h p (ile h (96))) (S43 w h p (ile h (96))) := by kernel_rfl
noncomputable def q104 (w h p : Int) (bb : Bool) : Q (Q (Q AV)) := ⟨⟨⟨(.int .i64 w), xu, xu, xu⟩, ⟨(.int .i64 h), xu, xu, xu⟩, z1, z1⟩, ⟨⟨(.int .i64 w), xu, xu, xu⟩, ⟨(.bool false), xu, xu, xu⟩, z1, z1⟩, ⟨⟨(.int .i64 p), xu, xu, xu⟩, z1, z1, z1⟩, z2⟩
noncomputable def q105 (w h p : Int) (bb : Bool) : Q (Q (Q AV)) := ⟨⟨z1, ⟨(.int .i64 (64)), xu, xu, xu⟩, z1, z1⟩, ⟨⟨(.int .i64 h), xu, xu, xu⟩, ⟨(.ptr (.i (.o (.o .h))) 1), xu, xu, xu⟩, z1, z1⟩, ⟨⟨(.int .i64 h), xu, xu, xu⟩, z1, z1, z1⟩, ⟨⟨(.agg [(.int .i64 (96)), (.int .i64 (128))]), xu, xu, xu⟩, z1, z1, z1⟩⟩
noncomputable def q106 (w h p : Int) (bb : Bool) : Q (Q (Q AV)) := ⟨⟨⟨(.int .i64 (0)), xu, xu, xu⟩, ⟨(.int .i64 (64)), xu, xu, xu⟩, z1, z1⟩, ⟨⟨(.int .i64 h), xu, xu, xu⟩, z1, z1, z1⟩, ⟨⟨(.int .i64 p), xu, xu, xu⟩, z1, z1, z1⟩, ⟨⟨(.ptr (.o (.i (.o .h))) 0), xu, xu, xu⟩, z1, z1, z1⟩⟩
noncomputable def q107 (w h p : Int) (bb : Bool) : Q (Q (Q AV)) := ⟨⟨⟨(.ptr (.i (.i (.o .h))) 0), xu, xu, xu⟩, ⟨(.int .i64 (64)), xu, xu, xu⟩, z1, z1⟩, ⟨⟨(.int .i64 p), xu, xu, xu⟩, z1, z1, z1⟩, z2, ⟨⟨(.bool true), xu, xu, xu⟩, z1, z1, z1⟩⟩
noncomputable def q108 (w h p : Int) (bb : Bool) : Q (Q (Q AV)) := ⟨⟨⟨(.int .i64 h), xu, xu, xu⟩, ⟨(.bool true), xu, xu, xu⟩, z1, z1⟩, ⟨⟨(.bool false), xu, xu, xu⟩, ⟨(.bool false), xu, xu, xu⟩, z1, z1⟩, ⟨⟨(.bool false), xu, xu, xu⟩, z1, z1, z1⟩, ⟨⟨v11, xu, xu, xu⟩, z1, z1, z1⟩⟩
noncomputable def q109 (w h p : Int) (bb : Bool) : Q (Q (Q AV)) := ⟨⟨z1, ⟨(.bool false), xu, xu, xu⟩, z1, z1⟩, ⟨⟨(.bool false), xu, xu, xu⟩, ⟨(.int .i64 (64)), xu, xu, xu⟩, z1, z1⟩, ⟨⟨(.bool false), xu, xu, xu⟩, z1, z1, z1⟩, ⟨⟨(.int .i64 p), xu, xu, xu⟩, z1, z1, z1⟩⟩
noncomputable def q110 : Q (Q (Q AV)) := ⟨⟨⟨(.int .i64 (64)), xu, xu, xu⟩, ⟨(.ptr (.o (.i (.o .h))) 1), xu, xu, xu⟩, z1, z1⟩, ⟨⟨(.bool false), xu, xu, xu⟩, z1, z1, z1⟩, ⟨⟨(.bool false), xu, xu, xu⟩, z1, z1, z1⟩, ⟨⟨(.int .i64 (64)), xu, xu, xu⟩, z1, z1, z1⟩⟩
noncomputable def q111 (w h p : Int) (bb : Bool) : Q (Q (Q AV)) := ⟨⟨⟨(.int .i64 w), xu, xu, xu⟩, ⟨(.int .i64 (64)), xu, xu, xu⟩, z1, z1⟩, ⟨⟨(.bool false), xu, xu, xu⟩, z1, z1, z1⟩, z2, ⟨⟨(.bool true), xu, xu, xu⟩, z1, z1, z1⟩⟩
noncomputable def q112 (w h p : Int) (bb : Bool) : Q (Q (Q AV)) := ⟨⟨⟨(.int .i64 p), xu, xu, xu⟩, ⟨(.bool true), xu, xu, xu⟩, z1, z1⟩, ⟨⟨(.bool false), xu, xu, xu⟩, ⟨(.ptr (.i (.o (.o .h))) 0), xu, xu, xu⟩, z1, z1⟩, ⟨⟨(.bool false), xu, xu, xu⟩, z1, z1, z1⟩, ⟨⟨(.int .i64 (2)), xu, xu, xu⟩, z1, z1, z1⟩⟩
noncomputable def q113 (w h p : Int) (bb : Bool) : Q (Q (Q AV)) := ⟨⟨⟨(.int .i64 (0)), xu, xu, xu⟩, ⟨(.bool false), xu, xu, xu⟩, z1, z1⟩, ⟨⟨(.bool false), xu, xu, xu⟩, ⟨(.int .i64 (2)), xu, xu, xu⟩, z1, z1⟩, z2, ⟨⟨(.bool bb), xu, xu, xu⟩, z1, z1, z1⟩⟩
noncomputable def q114 (w h p : Int) (bb : Bool) : Q (Q (Q AV)) := ⟨⟨⟨(.int .i64 (64)), xu, xu, xu⟩, ⟨(.int .i64 (96)), xu, xu, xu⟩, z1, z1⟩, ⟨⟨(.bool false), xu, xu, xu⟩, z1, z1, z1⟩, ⟨⟨(.bool false), xu, xu, xu⟩, z1, z1, z1⟩, ⟨⟨(.int .i64 w), xu, xu, xu⟩, z1, z1, z1⟩⟩
noncomputable def q115 : Q (Q (Q AV)) := ⟨⟨⟨(.bool false), xu, xu, xu⟩, ⟨(.int .i64 (4096)), xu, xu, xu⟩, z1, z1⟩, ⟨⟨(.bool false), xu, xu, xu⟩, z1, z1, z1⟩, ⟨⟨(.bool false), xu, xu, xu⟩, z1, z1, z1⟩, ⟨⟨(.ptr (.o (.i (.o .h))) 1), xu, xu, xu⟩, z1, z1, z1⟩⟩
noncomputable def q116 (w h p : Int) (bb : Bool) : Q (Q (Q AV)) := ⟨⟨⟨(.int .i64 (0)), xu, xu, xu⟩, ⟨(.ptr (.o (.i (.o .h))) 0), xu, xu, xu⟩, z1, z1⟩, ⟨⟨(.bool false), xu, xu, xu⟩, z1, z1, z1⟩, z2, ⟨⟨(.bool bb), xu, xu, xu⟩, z1, z1, z1⟩⟩
noncomputable def q117 : Q (Q (Q AV)) := ⟨⟨z1, ⟨(.int .i64 (6144)), xu, xu, xu⟩, z1, z1⟩, ⟨⟨(.bool false), xu, xu, xu⟩, z1, z1, z1⟩, z2, ⟨⟨(.bool true), xu, xu, xu⟩, z1, z1, z1⟩⟩
noncomputable def q118 : Q (Q (Q AV)) := ⟨⟨⟨(.bool false), xu, xu, xu⟩, ⟨(.bool false), xu, xu, xu⟩, z1, z1⟩, ⟨⟨(.bool false), xu, xu, xu⟩, z1, z1, z1⟩, z2, ⟨⟨(.int .i64 (96)), xu, xu, xu⟩, z1, z1, z1⟩⟩
noncomputable def a119 (w h p : Int) (bb : Bool) : AF := ⟨6, 91, ⟨⟨⟨(q104 w h p bb), (q105 w h p bb), (q106 w h p bb), (q107 w h p bb)⟩, ⟨(q108 w h p bb), (q109 w h p bb), q110, (q111 w h p bb)⟩, ⟨(q112 w h p bb), (q113 w h p bb), (q114 w h p bb), q115⟩, ⟨(q92 w h p bb), (q116 w h p bb), q117, q118⟩⟩, .e⟩, [rA En 6 [1, 1, 1, 1, 1, 0, 1, 0, 0, 1, 1, 0, 0, 1, 0] 3, cA En 6 [1, 1, 1, 1, 1, 0, 1, 0, 0, 1, 1, 0, 0, 1, 1], .blk 1, cA En 6 [1, 1, 1, 1, 1, 0, 1, 0, 0, 1, 1, 1], lA En 6 [1, 1, 1, 1, 1, 0, 1, 0, 0], .blk 0, cA En 6 [1, 1, 1, 1, 1, 1]], [], .run, false, false, none⟩
noncomputable def f44 (w h p : Int) (bb : Bool) : AF := (a119 w h p bb)
noncomputable def cs44 (w h p : Int) (bb : Bool) : List AF := []
noncomputable def S44 (w h p : Int) (bb : Bool) : Hp := ⟨(.n (.n .e none (.n (.n .e (some o18) .e) none .e)) none (.n (.n (.n .e (some o10) .e) none .e) none (.n (.n .e (some o22) .e) none .e))), (.o (.o (.i .h))), 2⟩
noncomputable def ks44 : List Ps := [(.i (.o (.o .h))), (.o (.i (.o .h))), (.i (.i (.o .h)))]
theorem s44 (w h p : Int) : cut ks44 (runF (drawF 1000000 30) En 43 (f43 w h p true) (cs43 w h p true) (S43 w h p true)) = .next (f44 w h p (ieq p (1))) (cs44 w h p (ieq p (1))) (S44 w h p (ieq p (1))) := by kernel_rfl
noncomputable def q120 (w h p : Int) (bb : Bool) : Q (Q (Q AV)) := ⟨⟨⟨(.int .i64 (0)), xu, xu, xu⟩, ⟨(.int .i64 (64)), xu, xu, xu⟩, z1, z1⟩, ⟨⟨(.int .i64 h), xu, xu, xu⟩, z1, z1, z1⟩, ⟨⟨(.int .i64 p), xu, xu, xu⟩, z1, z1, z1⟩, ⟨⟨(.ptr (.i (.i (.o .h))) 0), xu, xu, xu⟩, z1, z1, z1⟩⟩
noncomputable def q121 (w h p : Int) (bb : Bool) : Q (Q (Q AV)) := ⟨⟨⟨(.ptr (.i (.i (.o .h))) 0), xu, xu, xu⟩, ⟨(.int .i64 (64)), xu, xu, xu⟩, z1, z1⟩, ⟨⟨(.int .i64 p), xu, xu, xu⟩, z1, z1, z1⟩, z2, ⟨⟨(.bool bb), xu, xu, xu⟩, z1, z1, z1⟩⟩
noncomputable def q122 : Q (Q (Q AV)) := ⟨⟨⟨(.int .i64 (64)), xu, xu, xu⟩, ⟨(.ptr (.o (.i (.o .h))) 1), xu, xu, xu⟩, z1, z1⟩, ⟨⟨(.bool false), xu, xu, xu⟩, z1, z1, z1⟩, ⟨⟨(.bool false), xu, xu, xu⟩, z1, z1, z1⟩, ⟨⟨(.int .i64 (96)), xu, xu, xu⟩, z1, z1, z1⟩⟩
noncomputable def q123 (w h p : Int) (bb : Bool) : Q (Q (Q AV)) := ⟨⟨⟨(.int .i64 w), xu, xu, xu⟩, ⟨(.int .i64 (64)), xu, xu, xu⟩, z1, z1⟩, ⟨⟨(.bool false), xu, xu, xu⟩, z1, z1, z1⟩, z2, ⟨⟨(.bool bb), xu, xu, xu⟩, z1, z1, z1⟩⟩
noncomputable def q124 : Q (Q (Q AV)) := ⟨⟨⟨(.int .i64 (0)), xu, xu, xu⟩, ⟨(.bool false), xu, xu, xu⟩, z1, z1⟩, ⟨⟨(.bool false), xu, xu, xu⟩, ⟨(.int .i64 (2)), xu, xu, xu⟩, z1, z1⟩, z2, ⟨⟨(.bool true), xu, xu, xu⟩, z1, z1, z1⟩⟩
noncomputable def q125 : Q (Q (Q AV)) := ⟨⟨⟨(.int .i64 (0)), xu, xu, xu⟩, ⟨(.ptr (.o (.i (.o .h))) 0), xu, xu, xu⟩, z1, z1⟩, ⟨⟨(.bool false), xu, xu, xu⟩, z1, z1, z1⟩, z2, ⟨⟨(.bool true), xu, xu, xu⟩, z1, z1, z1⟩⟩
noncomputable def q126 (w h p : Int) (bb : Bool) : Q (Q (Q AV)) := ⟨⟨z1, ⟨(.int .i64 (6144)), xu, xu, xu⟩, z1, z1⟩, ⟨⟨(.bool false), xu, xu, xu⟩, z1, z1, z1⟩, z2, ⟨⟨(.bool bb), xu, xu, xu⟩, z1, z1, z1⟩⟩
noncomputable def a127 (w h p : Int) (bb : Bool) : AF := ⟨6, 91, ⟨⟨⟨(q104 w h p bb), (q105 w h p bb), (q120 w h p bb), (q121 w h p bb)⟩, ⟨(q108 w h p bb), (q109 w h p bb), q122, (q123 w h p bb)⟩, ⟨(q112 w h p bb), q124, (q114 w h p bb), q115⟩, ⟨(q92 w h p bb), q125, (q126 w h p bb), q118⟩⟩, .e⟩, [rA En 6 [1, 1, 1, 1, 1, 0, 1, 0, 0, 1, 1, 0, 0, 1, 0] 9, cA En 6 [1, 1, 1, 1, 1, 0, 1, 0, 0, 1, 1, 0, 0, 1, 1], .blk 1, cA En 6 [1, 1, 1, 1, 1, 0, 1, 0, 0, 1, 1, 1], lA En 6 [1, 1, 1, 1, 1, 0, 1, 0, 0], .blk 0, cA En 6 [1, 1, 1, 1, 1, 1]], [], .run, false, false, none⟩
noncomputable def f45 (w h p : Int) (bb : Bool) : AF := (a127 w h p bb)
noncomputable def cs45 (w h p : Int) (bb : Bool) : List AF := []
noncomputable def S45 (w h p : Int) (bb : Bool) : Hp := ⟨(.n (.n .e none (.n (.n .e (some o18) .e) none .e)) none (.n (.n (.n .e (some o10) .e) none .e) none (.n (.n .e (some o22) .e) none .e))), (.o (.o (.i .h))), 2⟩
noncomputable def ks45 : List Ps := [(.i (.o (.o .h))), (.o (.i (.o .h))), (.i (.i (.o .h)))]
theorem s45 (w h p : Int) : cut ks45 (runF (drawF 1000000 30) En 6 (f44 w h p true) (cs44 w h p true) (S44 w h p true)) = .next (f45 w h p (ile w (96))) (cs45 w h p (ile w (96))) (S45 w h p (ile w (96))) := by kernel_rfl
noncomputable def q128 (w h p : Int) (bb : Bool) : Q (Q (Q AV)) := ⟨⟨⟨(.int .i64 h), xu, xu, xu⟩, ⟨(.bool bb), xu, xu, xu⟩, z1, z1⟩, ⟨⟨(.bool false), xu, xu, xu⟩, ⟨(.bool false), xu, xu, xu⟩, z1, z1⟩, ⟨⟨(.bool false), xu, xu, xu⟩, z1, z1, z1⟩, ⟨⟨v11, xu, xu, xu⟩, z1, z1, z1⟩⟩
noncomputable def q129 (w h p : Int) (bb : Bool) : Q (Q (Q AV)) := ⟨⟨⟨(.int .i64 p), xu, xu, xu⟩, ⟨(.bool bb), xu, xu, xu⟩, z1, z1⟩, ⟨⟨(.bool false), xu, xu, xu⟩, ⟨(.ptr (.i (.o (.o .h))) 0), xu, xu, xu⟩, z1, z1⟩, ⟨⟨(.bool false), xu, xu, xu⟩, z1, z1, z1⟩, ⟨⟨(.int .i64 (2)), xu, xu, xu⟩, z1, z1, z1⟩⟩
noncomputable def q130 : Q (Q (Q AV)) := ⟨⟨⟨(.bool false), xu, xu, xu⟩, ⟨(.int .i64 (4096)), xu, xu, xu⟩, z1, z1⟩, ⟨⟨(.bool false), xu, xu, xu⟩, z1, z1, z1⟩, ⟨⟨(.bool false), xu, xu, xu⟩, z1, z1, z1⟩, ⟨⟨(.ptr (.i (.i (.o .h))) 1), xu, xu, xu⟩, z1, z1, z1⟩⟩
noncomputable def q131 : Q (Q (Q AV)) := ⟨⟨⟨(.bool false), xu, xu, xu⟩, ⟨(.bool false), xu, xu, xu⟩, z1, z1⟩, ⟨⟨(.bool false), xu, xu, xu⟩, z1, z1, z1⟩, z2, ⟨⟨(.int .i64 (128)), xu, xu, xu⟩, z1, z1, z1⟩⟩
noncomputable def a132 (w h p : Int) (bb : Bool) : AF := ⟨6, 91, ⟨⟨⟨(q104 w h p bb), (q105 w h p bb), (q120 w h p bb), (q107 w h p bb)⟩, ⟨(q128 w h p bb), (q109 w h p bb), q122, (q111 w h p bb)⟩, ⟨(q129 w h p bb), q124, (q114 w h p bb), q130⟩, ⟨(q101 w h p bb), q125, q117, q131⟩⟩, .e⟩, [rA En 6 [1, 1, 1, 1, 1, 0, 1, 0, 0, 1, 1, 0, 0, 1, 0] 15, cA En 6 [1, 1, 1, 1, 1, 0, 1, 0, 0, 1, 1, 0, 0, 1, 1], .blk 1, cA En 6 [1, 1, 1, 1, 1, 0, 1, 0, 0, 1, 1, 1], lA En 6 [1, 1, 1, 1, 1, 0, 1, 0, 0], .blk 0, cA En 6 [1, 1, 1, 1, 1, 1]], [], .run, false, false, none⟩
noncomputable def f46 (w h p : Int) (bb : Bool) : AF := (a132 w h p bb)
noncomputable def cs46 (w h p : Int) (bb : Bool) : List AF := []
noncomputable def S46 (w h p : Int) (bb : Bool) : Hp := ⟨(.n (.n .e none (.n (.n .e (some o18) .e) none .e)) none (.n (.n (.n .e (some o10) .e) none .e) none (.n (.n .e (some o22) .e) none .e))), (.o (.o (.i .h))), 2⟩
noncomputable def ks46 : List Ps := [(.i (.o (.o .h))), (.o (.i (.o .h))), (.i (.i (.o .h)))]
theorem s46 (w h p : Int) : cut ks46 (runF (drawF 1000000 30) En 6 (f45 w h p true) (cs45 w h p true) (S45 w h p true)) = .next (f46 w h p (ile h (128))) (cs46 w h p (ile h (128))) (S46 w h p (ile h (128))) := by kernel_rfl
noncomputable def q133 (w h p : Int) (bb : Bool) : Q (Q (Q AV)) := ⟨⟨z1, ⟨(.int .i64 (64)), xu, xu, xu⟩, z1, z1⟩, ⟨⟨(.int .i64 h), xu, xu, xu⟩, ⟨(.ptr (.i (.o (.o .h))) 1), xu, xu, xu⟩, z1, z1⟩, ⟨⟨(.int .i64 h), xu, xu, xu⟩, z1, z1, z1⟩, ⟨⟨(.agg [(.int .i64 (128)), (.int .i64 (128))]), xu, xu, xu⟩, z1, z1, z1⟩⟩
noncomputable def q134 (w h p : Int) (bb : Bool) : Q (Q (Q AV)) := ⟨⟨⟨(.int .i64 (0)), xu, xu, xu⟩, ⟨(.int .i64 (96)), xu, xu, xu⟩, z1, z1⟩, ⟨⟨(.int .i64 h), xu, xu, xu⟩, z1, z1, z1⟩, ⟨⟨(.int .i64 p), xu, xu, xu⟩, z1, z1, z1⟩, ⟨⟨(.ptr (.i (.i (.o .h))) 0), xu, xu, xu⟩, z1, z1, z1⟩⟩
noncomputable def q135 (w h p : Int) (bb : Bool) : Q (Q (Q AV)) := ⟨⟨⟨(.ptr (.o (.o (.i .h))) 0), xu, xu, xu⟩, ⟨(.int .i64 (64)), xu, xu, xu⟩, z1, z1⟩, ⟨⟨(.int .i64 p), xu, xu, xu⟩, z1, z1, z1⟩, z2, ⟨⟨(.bool true), xu, xu, xu⟩, z1, z1, z1⟩⟩
noncomputable def q136 : Q (Q (Q AV)) := ⟨⟨⟨(.int .i64 (64)), xu, xu, xu⟩, ⟨(.ptr (.i (.i (.o .h))) 1), xu, xu, xu⟩, z1, z1⟩, ⟨⟨(.bool false), xu, xu, xu⟩, z1, z1, z1⟩, ⟨⟨(.bool false), xu, xu, xu⟩, z1, z1, z1⟩, ⟨⟨(.int .i64 (96)), xu, xu, xu⟩, z1, z1, z1⟩⟩
noncomputable def q137 (w h p : Int) (bb : Bool) : Q (Q (Q AV)) := ⟨⟨⟨(.int .i64 p), xu, xu, xu⟩, ⟨(.bool true), xu, xu, xu⟩, z1, z1⟩, ⟨⟨(.bool false), xu, xu, xu⟩, ⟨(.ptr (.i (.o (.o .h))) 0), xu, xu, xu⟩, z1, z1⟩, ⟨⟨(.bool false), xu, xu, xu⟩, z1, z1, z1⟩, ⟨⟨(.int .i64 (3)), xu, xu, xu⟩, z1, z1, z1⟩⟩
noncomputable def q138 (w h p : Int) (bb : Bool) : Q (Q (Q AV)) := ⟨⟨⟨(.int .i64 (0)), xu, xu, xu⟩, ⟨(.bool false), xu, xu, xu⟩, z1, z1⟩, ⟨⟨(.bool false), xu, xu, xu⟩, ⟨(.int .i64 (3)), xu, xu, xu⟩, z1, z1⟩, z2, ⟨⟨(.bool bb), xu, xu, xu⟩, z1, z1, z1⟩⟩
noncomputable def q139 (w h p : Int) (bb : Bool) : Q (Q (Q AV)) := ⟨⟨⟨(.int .i64 (64)), xu, xu, xu⟩, ⟨(.int .i64 (128)), xu, xu, xu⟩, z1, z1⟩, ⟨⟨(.bool false), xu, xu, xu⟩, z1, z1, z1⟩, ⟨⟨(.bool false), xu, xu, xu⟩, z1, z1, z1⟩, ⟨⟨(.int .i64 w), xu, xu, xu⟩, z1, z1, z1⟩⟩
noncomputable def q140 (w h p : Int) (bb : Bool) : Q (Q (Q AV)) := ⟨⟨⟨(.int .i64 (0)), xu, xu, xu⟩, ⟨(.ptr (.i (.i (.o .h))) 0), xu, xu, xu⟩, z1, z1⟩, ⟨⟨(.bool false), xu, xu, xu⟩, z1, z1, z1⟩, z2, ⟨⟨(.bool bb), xu, xu, xu⟩, z1, z1, z1⟩⟩
noncomputable def q141 : Q (Q (Q AV)) := ⟨⟨z1, ⟨(.int .i64 (12288)), xu, xu, xu⟩, z1, z1⟩, ⟨⟨(.bool false), xu, xu, xu⟩, z1, z1, z1⟩, z2, ⟨⟨(.bool true), xu, xu, xu⟩, z1, z1, z1⟩⟩
noncomputable def a142 (w h p : Int) (bb : Bool) : AF := ⟨6, 91, ⟨⟨⟨(q104 w h p bb), (q133 w h p bb), (q134 w h p bb), (q135 w h p bb)⟩, ⟨(q108 w h p bb), (q109 w h p bb), q136, (q111 w h p bb)⟩, ⟨(q137 w h p bb), (q138 w h p bb), (q139 w h p bb), q130⟩, ⟨(q92 w h p bb), (q140 w h p bb), q141, q131⟩⟩, .e⟩, [rA En 6 [1, 1, 1, 1, 1, 0, 1, 0, 0, 1, 1, 0, 0, 1, 0] 3, cA En 6 [1, 1, 1, 1, 1, 0, 1, 0, 0, 1, 1, 0, 0, 1, 1], .blk 1, cA En 6 [1, 1, 1, 1, 1, 0, 1, 0, 0, 1, 1, 1], lA En 6 [1, 1, 1, 1, 1, 0, 1, 0, 0], .blk 0, cA En 6 [1, 1, 1, 1, 1, 1]], [], .run, false, false, none⟩
noncomputable def f47 (w h p : Int) (bb : Bool) : AF := (a142 w h p bb)
noncomputable def cs47 (w h p : Int) (bb : Bool) : List AF := []
noncomputable def S47 (w h p : Int) (bb : Bool) : Hp := ⟨(.n (.n (.n .e none (.n .e (some o24) .e)) none .e) none (.n (.n (.n .e (some o10) .e) none .e) none (.n (.n .e (some o22) .e) none .e))), (.i (.o (.i .h))), 2⟩
noncomputable def ks47 : List Ps := [(.i (.o (.o .h))), (.i (.i (.o .h))), (.o (.o (.i .h)))]
theorem s47 (w h p : Int) : cut ks47 (runF (drawF 1000000 30) En 43 (f46 w h p true) (cs46 w h p true) (S46 w h p true)) = .next (f47 w h p (ieq p (1))) (cs47 w h p (ieq p (1))) (S47 w h p (ieq p (1))) := by kernel_rfl
noncomputable def q143 (w h p : Int) (bb : Bool) : Q (Q (Q AV)) := ⟨⟨⟨(.int .i64 (0)), xu, xu, xu⟩, ⟨(.int .i64 (96)), xu, xu, xu⟩, z1, z1⟩, ⟨⟨(.int .i64 h), xu, xu, xu⟩, z1, z1, z1⟩, ⟨⟨(.int .i64 p), xu, xu, xu⟩, z1, z1, z1⟩, ⟨⟨(.ptr (.o (.o (.i .h))) 0), xu, xu, xu⟩, z1, z1, z1⟩⟩
noncomputable def q144 (w h p : Int) (bb : Bool) : Q (Q (Q AV)) := ⟨⟨⟨(.ptr (.o (.o (.i .h))) 0), xu, xu, xu⟩, ⟨(.int .i64 (64)), xu, xu, xu⟩, z1, z1⟩, ⟨⟨(.int .i64 p), xu, xu, xu⟩, z1, z1, z1⟩, z2, ⟨⟨(.bool bb), xu, xu, xu⟩, z1, z1, z1⟩⟩
noncomputable def q145 : Q (Q (Q AV)) := ⟨⟨⟨(.int .i64 (64)), xu, xu, xu⟩, ⟨(.ptr (.i (.i (.o .h))) 1), xu, xu, xu⟩, z1, z1⟩, ⟨⟨(.bool false), xu, xu, xu⟩, z1, z1, z1⟩, ⟨⟨(.bool false), xu, xu, xu⟩, z1, z1, z1⟩, ⟨⟨(.int .i64 (128)), xu, xu, xu⟩, z1, z1, z1⟩⟩
noncomputable def q146 : Q (Q (Q AV)) := ⟨⟨⟨(.int .i64 (0)), xu, xu, xu⟩, ⟨(.bool false), xu, xu, xu⟩, z1, z1⟩, ⟨⟨(.bool false), xu, xu, xu⟩, ⟨(.int .i64 (3)), xu, xu, xu⟩, z1, z1⟩, z2, ⟨⟨(.bool true), xu, xu, xu⟩, z1, z1, z1⟩⟩
noncomputable def q147 : Q (Q (Q AV)) := ⟨⟨⟨(.int .i64 (0)), xu, xu, xu⟩, ⟨(.ptr (.i (.i (.o .h))) 0), xu, xu, xu⟩, z1, z1⟩, ⟨⟨(.bool false), xu, xu, xu⟩, z1, z1, z1⟩, z2, ⟨⟨(.bool true), xu, xu, xu⟩, z1, z1, z1⟩⟩
noncomputable def q148 (w h p : Int) (bb : Bool) : Q (Q (Q AV)) := ⟨⟨z1, ⟨(.int .i64 (12288)), xu, xu, xu⟩, z1, z1⟩, ⟨⟨(.bool false), xu, xu, xu⟩, z1, z1, z1⟩, z2, ⟨⟨(.bool bb), xu, xu, xu⟩, z1, z1, z1⟩⟩
noncomputable def a149 (w h p : Int) (bb : Bool) : AF := ⟨6, 91, ⟨⟨⟨(q104 w h p bb), (q133 w h p bb), (q143 w h p bb), (q144 w h p bb)⟩, ⟨(q108 w h p bb), (q109 w h p bb), q145, (q123 w h p bb)⟩, ⟨(q137 w h p bb), q146, (q139 w h p bb), q130⟩, ⟨(q92 w h p bb), q147, (q148 w h p bb), q131⟩⟩, .e⟩, [rA En 6 [1, 1, 1, 1, 1, 0, 1, 0, 0, 1, 1, 0, 0, 1, 0] 9, cA En 6 [1, 1, 1, 1, 1, 0, 1, 0, 0, 1, 1, 0, 0, 1, 1], .blk 1, cA En 6 [1, 1, 1, 1, 1, 0, 1, 0, 0, 1, 1, 1], lA En 6 [1, 1, 1, 1, 1, 0, 1, 0, 0], .blk 0, cA En 6 [1, 1, 1, 1, 1, 1]], [], .run, false, false, none⟩
noncomputable def f48 (w h p : Int) (bb : Bool) : AF := (a149 w h p bb)
noncomputable def cs48 (w h p : Int) (bb : Bool) : List AF := []
noncomputable def S48 (w h p : Int) (bb : Bool) : Hp := ⟨(.n (.n (.n .e none (.n .e (some o24) .e)) none .e) none (.n (.n (.n .e (some o10) .e) none .e) none (.n (.n .e (some o22) .e) none .e))), (.i (.o (.i .h))), 2⟩
noncomputable def ks48 : List Ps := [(.i (.o (.o .h))), (.i (.i (.o .h))), (.o (.o (.i .h)))]
theorem s48 (w h p : Int) : cut ks48 (runF (drawF 1000000 30) En 6 (f47 w h p true) (cs47 w h p true) (S47 w h p true)) = .next (f48 w h p (ile w (128))) (cs48 w h p (ile w (128))) (S48 w h p (ile w (128))) := by kernel_rfl
noncomputable def q150 (w h p : Int) (bb : Bool) : Q (Q (Q AV)) := ⟨⟨⟨(.int .i64 p), xu, xu, xu⟩, ⟨(.bool bb), xu, xu, xu⟩, z1, z1⟩, ⟨⟨(.bool false), xu, xu, xu⟩, ⟨(.ptr (.i (.o (.o .h))) 0), xu, xu, xu⟩, z1, z1⟩, ⟨⟨(.bool false), xu, xu, xu⟩, z1, z1, z1⟩, ⟨⟨(.int .i64 (3)), xu, xu, xu⟩, z1, z1, z1⟩⟩
noncomputable def q151 : Q (Q (Q AV)) := ⟨⟨⟨(.bool false), xu, xu, xu⟩, ⟨(.int .i64 (4096)), xu, xu, xu⟩, z1, z1⟩, ⟨⟨(.bool false), xu, xu, xu⟩, z1, z1, z1⟩, ⟨⟨(.bool false), xu, xu, xu⟩, z1, z1, z1⟩, ⟨⟨(.ptr (.o (.o (.i .h))) 1), xu, xu, xu⟩, z1, z1, z1⟩⟩
noncomputable def a152 (w h p : Int) (bb : Bool) : AF := ⟨6, 91, ⟨⟨⟨(q104 w h p bb), (q133 w h p bb), (q143 w h p bb), (q135 w h p bb)⟩, ⟨(q128 w h p bb), (q109 w h p bb), q145, (q111 w h p bb)⟩, ⟨(q150 w h p bb), q146, (q139 w h p bb), q151⟩, ⟨(q101 w h p bb), q147, q141, q131⟩⟩, .e⟩, [rA En 6 [1, 1, 1, 1, 1, 0, 1, 0, 0, 1, 1, 0, 0, 1, 0] 15, cA En 6 [1, 1, 1, 1, 1, 0, 1, 0, 0, 1, 1, 0, 0, 1, 1], .blk 1, cA En 6 [1, 1, 1, 1, 1, 0, 1, 0, 0, 1, 1, 1], lA En 6 [1, 1, 1, 1, 1, 0, 1, 0, 0], .blk 0, cA En 6 [1, 1, 1, 1, 1, 1]], [], .run, false, false, none⟩
noncomputable def f49 (w h p : Int) (bb : Bool) : AF := (a152 w h p bb)
noncomputable def cs49 (w h p : Int) (bb : Bool) : List AF := []
noncomputable def S49 (w h p : Int) (bb : Bool) : Hp := ⟨(.n (.n (.n .e none (.n .e (some o24) .e)) none .e) none (.n (.n (.n .e (some o10) .e) none .e) none (.n (.n .e (some o22) .e) none .e))), (.i (.o (.i .h))), 2⟩
noncomputable def ks49 : List Ps := [(.i (.o (.o .h))), (.i (.i (.o .h))), (.o (.o (.i .h)))]
theorem s49 (w h p : Int) : cut ks49 (runF (drawF 1000000 30) En 6 (f48 w h p true) (cs48 w h p true) (S48 w h p true)) = .next (f49 w h p (ile h (128))) (cs49 w h p (ile h (128))) (S49 w h p (ile h (128))) := by kernel_rfl
theorem l50 (w h p : Int) : finOf (runF (drawF 1000000 30) En 48 (f49 w h p true) (cs49 w h p true) (S49 w h p true)) = some (.tup [(.int .i64 (64)), (.int .i64 (64)), (.int .i64 (0))]) := by kernel_rfl
noncomputable def q153 (w h p : Int) (bb : Bool) : Q (Q (Q AV)) := ⟨⟨⟨(.int .i64 h), xu, xu, xu⟩, ⟨(.bool false), xu, xu, xu⟩, z1, z1⟩, ⟨⟨(.bool false), xu, xu, xu⟩, ⟨(.bool false), xu, xu, xu⟩, z1, z1⟩, ⟨⟨(.bool false), xu, xu, xu⟩, z1, z1, z1⟩, ⟨⟨v11, xu, xu, xu⟩, z1, z1, z1⟩⟩
noncomputable def a154 (w h p : Int) (bb : Bool) : AF := ⟨6, 91, ⟨⟨⟨(q74 w h p bb), (q46 w h p bb), (q67 w h p bb), (q85 w h p bb)⟩, ⟨(q153 w h p bb), (q38 w h p bb), q69, (q77 w h p bb)⟩, ⟨(q50 w h p bb), (q51 w h p bb), (q72 w h p bb), q79⟩, ⟨(q52 w h p bb), (q42 w h p bb), ⟨z2, ⟨⟨(.bool false), xu, xu, xu⟩, z1, z1, z1⟩, z2, ⟨⟨(.bool true), xu, xu, xu⟩, z1, z1, z1⟩⟩, q81⟩⟩, .e⟩, [rA En 6 [1, 1, 1, 1, 1, 0, 1, 0, 0, 1, 1, 0, 0, 1, 0] 3, cA En 6 [1, 1, 1, 1, 1, 0, 1, 0, 0, 1, 1, 0, 0, 1, 1], .blk 1, cA En 6 [1, 1, 1, 1, 1, 0, 1, 0, 0, 1, 1, 1], lA En 6 [1, 1, 1, 1, 1, 0, 1, 0, 0], .blk 0, cA En 6 [1, 1, 1, 1, 1, 1]], [], .run, false, false, none⟩
noncomputable def f51 (w h p : Int) (bb : Bool) : AF := (a154 w h p bb)
noncomputable def cs51 (w h p : Int) (bb : Bool) : List AF := []
noncomputable def S51 (w h p : Int) (bb : Bool) : Hp := ⟨(.n (.n .e none (.n (.n .e (some o18) .e) none .e)) none (.n (.n (.n .e (some o10) .e) none .e) none .e)), (.i (.i (.o .h))), 2⟩
noncomputable def ks51 : List Ps := [(.i (.o (.o .h))), (.o (.i (.o .h)))]
theorem s51 (w h p : Int) : cut ks51 (runF (drawF 1000000 30) En 43 (f40 w h p false) (cs40 w h p false) (S40 w h p false)) = .next (f51 w h p (ieq p (1))) (cs51 w h p (ieq p (1))) (S51 w h p (ieq p (1))) := by kernel_rfl
noncomputable def q155 : Q (Q (Q AV)) := ⟨⟨⟨(.int .i64 (0)), xu, xu, xu⟩, z1, z1, z1⟩, ⟨⟨(.bool false), xu, xu, xu⟩, ⟨(.int .i64 (1)), xu, xu, xu⟩, z1, z1⟩, z2, ⟨⟨(.bool true), xu, xu, xu⟩, z1, z1, z1⟩⟩
noncomputable def a156 (w h p : Int) (bb : Bool) : AF := ⟨6, 91, ⟨⟨⟨(q74 w h p bb), (q46 w h p bb), (q94 w h p bb), (q95 w h p bb)⟩, ⟨(q153 w h p bb), (q38 w h p bb), q69, (q70 w h p bb)⟩, ⟨(q50 w h p bb), q155, (q72 w h p bb), q79⟩, ⟨(q52 w h p bb), q71, ⟨z2, ⟨⟨(.bool false), xu, xu, xu⟩, z1, z1, z1⟩, z2, ⟨⟨(.bool bb), xu, xu, xu⟩, z1, z1, z1⟩⟩, q81⟩⟩, .e⟩, [rA En 6 [1, 1, 1, 1, 1, 0, 1, 0, 0, 1, 1, 0, 0, 1, 0] 9, cA En 6 [1, 1, 1, 1, 1, 0, 1, 0, 0, 1, 1, 0, 0, 1, 1], .blk 1, cA En 6 [1, 1, 1, 1, 1, 0, 1, 0, 0, 1, 1, 1], lA En 6 [1, 1, 1, 1, 1, 0, 1, 0, 0], .blk 0, cA En 6 [1, 1, 1, 1, 1, 1]], [], .run, false, false, none⟩
noncomputable def f52 (w h p : Int) (bb : Bool) : AF := (a156 w h p bb)
noncomputable def cs52 (w h p : Int) (bb : Bool) : List AF := []
noncomputable def S52 (w h p : Int) (bb : Bool) : Hp := ⟨(.n (.n .e none (.n (.n .e (some o18) .e) none .e)) none (.n (.n (.n .e (some o10) .e) none .e) none .e)), (.i (.i (.o .h))), 2⟩
noncomputable def ks52 : List Ps := [(.i (.o (.o .h))), (.o (.i (.o .h)))]
theorem s52 (w h p : Int) : cut ks52 (runF (drawF 1000000 30) En 6 (f51 w h p true) (cs51 w h p true) (S51 w h p true)) = .next (f52 w h p (ile w (64))) (cs52 w h p (ile w (64))) (S52 w h p (ile w (64))) := by kernel_rfl
noncomputable def q157 (w h p : Int) (bb : Bool) : Q (Q (Q AV)) := ⟨⟨⟨(.int .i64 p), xu, xu, xu⟩, ⟨(.bool bb), xu, xu, xu⟩, z1, z1⟩, ⟨⟨(.bool false), xu, xu, xu⟩, z1, z1, z1⟩, ⟨⟨(.bool false), xu, xu, xu⟩, z1, z1, z1⟩, ⟨⟨(.int .i64 (1)), xu, xu, xu⟩, z1, z1, z1⟩⟩
noncomputable def a158 (w h p : Int) (bb : Bool) : AF := ⟨6, 91, ⟨⟨⟨(q74 w h p bb), (q46 w h p bb), (q94 w h p bb), (q85 w h p bb)⟩, ⟨(q128 w h p bb), (q38 w h p bb), q69, (q77 w h p bb)⟩, ⟨(q157 w h p bb), q155, (q72 w h p bb), q100⟩, ⟨(q80 w h p bb), q71, ⟨z2, ⟨⟨(.bool false), xu, xu, xu⟩, z1, z1, z1⟩, z2, ⟨⟨(.bool true), xu, xu, xu⟩, z1, z1, z1⟩⟩, q102⟩⟩, .e⟩, [rA En 6 [1, 1, 1, 1, 1, 0, 1, 0, 0, 1, 1, 0, 0, 1, 0] 15, cA En 6 [1, 1, 1, 1, 1, 0, 1, 0, 0, 1, 1, 0, 0, 1, 1], .blk 1, cA En 6 [1, 1, 1, 1, 1, 0, 1, 0, 0, 1, 1, 1], lA En 6 [1, 1, 1, 1, 1, 0, 1, 0, 0], .blk 0, cA En 6 [1, 1, 1, 1, 1, 1]], [], .run, false, false, none⟩
noncomputable def f53 (w h p : Int) (bb : Bool) : AF := (a158 w h p bb)
noncomputable def cs53 (w h p : Int) (bb : Bool) : List AF := []
noncomputable def S53 (w h p : Int) (bb : Bool) : Hp := ⟨(.n (.n .e none (.n (.n .e (some o18) .e) none .e)) none .e), (.i (.i (.o .h))), 2⟩
noncomputable def ks53 : List Ps := [(.o (.i (.o .h)))]
theorem s53 (w h p : Int) : cut ks53 (runF (drawF 1000000 30) En 6 (f52 w h p true) (cs52 w h p true) (S52 w h p true)) = .next (f53 w h p (ile h (96))) (cs53 w h p (ile h (96))) (S53 w h p (ile h (96))) := by kernel_rfl
noncomputable def q159 (w h p : Int) (bb : Bool) : Q (Q (Q AV)) := ⟨⟨z1, ⟨(.int .i64 (0)), xu, xu, xu⟩, z1, z1⟩, ⟨⟨(.int .i64 h), xu, xu, xu⟩, ⟨(.ptr (.o (.i (.o .h))) 1), xu, xu, xu⟩, z1, z1⟩, ⟨⟨(.int .i64 h), xu, xu, xu⟩, z1, z1, z1⟩, ⟨⟨(.agg [(.int .i64 (96)), (.int .i64 (128))]), xu, xu, xu⟩, z1, z1, z1⟩⟩
noncomputable def q160 (w h p : Int) (bb : Bool) : Q (Q (Q AV)) := ⟨⟨⟨(.ptr (.i (.i (.o .h))) 0), xu, xu, xu⟩, z1, z1, z1⟩, ⟨⟨(.int .i64 p), xu, xu, xu⟩, z1, z1, z1⟩, z2, ⟨⟨(.bool true), xu, xu, xu⟩, z1, z1, z1⟩⟩
noncomputable def q161 (w h p : Int) (bb : Bool) : Q (Q (Q AV)) := ⟨⟨z1, ⟨(.bool true), xu, xu, xu⟩, z1, z1⟩, ⟨⟨(.bool false), xu, xu, xu⟩, ⟨(.int .i64 (96)), xu, xu, xu⟩, z1, z1⟩, ⟨⟨(.bool false), xu, xu, xu⟩, z1, z1, z1⟩, ⟨⟨(.int .i64 p), xu, xu, xu⟩, z1, z1, z1⟩⟩
noncomputable def q162 (w h p : Int) (bb : Bool) : Q (Q (Q AV)) := ⟨⟨⟨(.int .i64 p), xu, xu, xu⟩, ⟨(.bool true), xu, xu, xu⟩, z1, z1⟩, ⟨⟨(.bool false), xu, xu, xu⟩, ⟨(.ptr (.o (.i (.o .h))) 0), xu, xu, xu⟩, z1, z1⟩, ⟨⟨(.bool false), xu, xu, xu⟩, z1, z1, z1⟩, ⟨⟨(.int .i64 (2)), xu, xu, xu⟩, z1, z1, z1⟩⟩
noncomputable def q163 (w h p : Int) (bb : Bool) : Q (Q (Q AV)) := ⟨⟨⟨(.int .i64 (0)), xu, xu, xu⟩, ⟨(.bool true), xu, xu, xu⟩, z1, z1⟩, ⟨⟨(.bool false), xu, xu, xu⟩, ⟨(.int .i64 (2)), xu, xu, xu⟩, z1, z1⟩, z2, ⟨⟨(.bool bb), xu, xu, xu⟩, z1, z1, z1⟩⟩
noncomputable def q164 (w h p : Int) (bb : Bool) : Q (Q (Q AV)) := ⟨⟨⟨(.int .i64 (96)), xu, xu, xu⟩, z1, z1, z1⟩, ⟨⟨(.bool false), xu, xu, xu⟩, z1, z1, z1⟩, ⟨⟨(.bool false), xu, xu, xu⟩, z1, z1, z1⟩, ⟨⟨(.int .i64 w), xu, xu, xu⟩, z1, z1, z1⟩⟩
noncomputable def a165 (w h p : Int) (bb : Bool) : AF := ⟨6, 91, ⟨⟨⟨(q83 w h p bb), (q159 w h p bb), (q94 w h p bb), (q160 w h p bb)⟩, ⟨(q86 w h p bb), (q161 w h p bb), q88, (q77 w h p bb)⟩, ⟨(q162 w h p bb), (q163 w h p bb), (q164 w h p bb), q100⟩, ⟨(q92 w h p bb), (q42 w h p bb), ⟨z2, ⟨⟨(.bool false), xu, xu, xu⟩, z1, z1, z1⟩, z2, ⟨⟨(.bool true), xu, xu, xu⟩, z1, z1, z1⟩⟩, q102⟩⟩, .e⟩, [rA En 6 [1, 1, 1, 1, 1, 0, 1, 0, 0, 1, 1, 0, 0, 1, 0] 3, cA En 6 [1, 1, 1, 1, 1, 0, 1, 0, 0, 1, 1, 0, 0, 1, 1], .blk 1, cA En 6 [1, 1, 1, 1, 1, 0, 1, 0, 0, 1, 1, 1], lA En 6 [1, 1, 1, 1, 1, 0, 1, 0, 0], .blk 0, cA En 6 [1, 1, 1, 1, 1, 1]], [], .run, false, false, none⟩
noncomputable def f54 (w h p : Int) (bb : Bool) : AF := (a165 w h p bb)
noncomputable def cs54 (w h p : Int) (bb : Bool) : List AF := []
noncomputable def S54 (w h p : Int) (bb : Bool) : Hp := ⟨(.n (.n .e none (.n (.n .e (some o18) .e) none .e)) none (.n .e none (.n (.n .e (some o22) .e) none .e))), (.o (.o (.i .h))), 2⟩
noncomputable def ks54 : List Ps := [(.o (.i (.o .h))), (.i (.i (.o .h)))]
theorem s54 (w h p : Int) : cut ks54 (runF (drawF 1000000 30) En 43 (f53 w h p true) (cs53 w h p true) (S53 w h p true)) = .next (f54 w h p (ieq p (1))) (cs54 w h p (ieq p (1))) (S54 w h p (ieq p (1))) := by kernel_rfl
noncomputable def q166 (w h p : Int) (bb : Bool) : Q (Q (Q AV)) := ⟨⟨⟨(.int .i64 (0)), xu, xu, xu⟩, z1, z1, z1⟩, ⟨⟨(.int .i64 h), xu, xu, xu⟩, z1, z1, z1⟩, ⟨⟨(.int .i64 p), xu, xu, xu⟩, z1, z1, z1⟩, ⟨⟨(.ptr (.i (.i (.o .h))) 0), xu, xu, xu⟩, z1, z1, z1⟩⟩
noncomputable def q167 (w h p : Int) (bb : Bool) : Q (Q (Q AV)) := ⟨⟨⟨(.ptr (.i (.i (.o .h))) 0), xu, xu, xu⟩, z1, z1, z1⟩, ⟨⟨(.int .i64 p), xu, xu, xu⟩, z1, z1, z1⟩, z2, ⟨⟨(.bool bb), xu, xu, xu⟩, z1, z1, z1⟩⟩
noncomputable def q168 : Q (Q (Q AV)) := ⟨⟨⟨(.int .i64 (64)), xu, xu, xu⟩, z1, z1, z1⟩, ⟨⟨(.bool false), xu, xu, xu⟩, z1, z1, z1⟩, ⟨⟨(.bool false), xu, xu, xu⟩, z1, z1, z1⟩, ⟨⟨(.int .i64 (96)), xu, xu, xu⟩, z1, z1, z1⟩⟩
noncomputable def q169 : Q (Q (Q AV)) := ⟨⟨⟨(.int .i64 (0)), xu, xu, xu⟩, ⟨(.bool true), xu, xu, xu⟩, z1, z1⟩, ⟨⟨(.bool false), xu, xu, xu⟩, ⟨(.int .i64 (2)), xu, xu, xu⟩, z1, z1⟩, z2, ⟨⟨(.bool true), xu, xu, xu⟩, z1, z1, z1⟩⟩
noncomputable def a170 (w h p : Int) (bb : Bool) : AF := ⟨6, 91, ⟨⟨⟨(q83 w h p bb), (q159 w h p bb), (q166 w h p bb), (q167 w h p bb)⟩, ⟨(q86 w h p bb), (q161 w h p bb), q168, (q70 w h p bb)⟩, ⟨(q162 w h p bb), q169, (q164 w h p bb), q100⟩, ⟨(q92 w h p bb), q71, ⟨z2, ⟨⟨(.bool false), xu, xu, xu⟩, z1, z1, z1⟩, z2, ⟨⟨(.bool bb), xu, xu, xu⟩, z1, z1, z1⟩⟩, q102⟩⟩, .e⟩, [rA En 6 [1, 1, 1, 1, 1, 0, 1, 0, 0, 1, 1, 0, 0, 1, 0] 9, cA En 6 [1, 1, 1, 1, 1, 0, 1, 0, 0, 1, 1, 0, 0, 1, 1], .blk 1, cA En 6 [1, 1, 1, 1, 1, 0, 1, 0, 0, 1, 1, 1], lA En 6 [1, 1, 1, 1, 1, 0, 1, 0, 0], .blk 0, cA En 6 [1, 1, 1, 1, 1, 1]], [], .run, false, false, none⟩
noncomputable def f55 (w h p : Int) (bb : Bool) : AF := (a170 w h p bb)
noncomputable def cs55 (w h p : Int) (bb : Bool) : List AF := []
noncomputable def S55 (w h p : Int) (bb : Bool) : Hp := ⟨(.n (.n .e none (.n (.n .e (some o18) .e) none .e)) none (.n .e none (.n (.n .e (some o22) .e) none .e))), (.o (.o (.i .h))), 2⟩
noncomputable def ks55 : List Ps := [(.o (.i (.o .h))), (.i (.i (.o .h)))]
theorem s55 (w h p : Int) : cut ks55 (runF (drawF 1000000 30) En 6 (f54 w h p true) (cs54 w h p true) (S54 w h p true)) = .next (f55 w h p (ile w (96))) (cs55 w h p (ile w (96))) (S55 w h p (ile w (96))) := by kernel_rfl
noncomputable def q171 (w h p : Int) (bb : Bool) : Q (Q (Q AV)) := ⟨⟨⟨(.int .i64 p), xu, xu, xu⟩, ⟨(.bool bb), xu, xu, xu⟩, z1, z1⟩, ⟨⟨(.bool false), xu, xu, xu⟩, ⟨(.ptr (.o (.i (.o .h))) 0), xu, xu, xu⟩, z1, z1⟩, ⟨⟨(.bool false), xu, xu, xu⟩, z1, z1, z1⟩, ⟨⟨(.int .i64 (2)), xu, xu, xu⟩, z1, z1, z1⟩⟩
noncomputable def q172 : Q (Q (Q AV)) := ⟨⟨⟨(.bool false), xu, xu, xu⟩, z1, z1, z1⟩, ⟨⟨(.bool false), xu, xu, xu⟩, z1, z1, z1⟩, ⟨⟨(.bool false), xu, xu, xu⟩, z1, z1, z1⟩, ⟨⟨(.ptr (.i (.i (.o .h))) 1), xu, xu, xu⟩, z1, z1, z1⟩⟩
noncomputable def q173 : Q (Q (Q AV)) := ⟨⟨⟨(.bool false), xu, xu, xu⟩, z1, z1, z1⟩, ⟨⟨(.bool false), xu, xu, xu⟩, z1, z1, z1⟩, z2, ⟨⟨(.int .i64 (128)), xu, xu, xu⟩, z1, z1, z1⟩⟩
noncomputable def a174 (w h p : Int) (bb : Bool) : AF := ⟨6, 91, ⟨⟨⟨(q83 w h p bb), (q159 w h p bb), (q166 w h p bb), (q160 w h p bb)⟩, ⟨(q98 w h p bb), (q161 w h p bb), q168, (q77 w h p bb)⟩, ⟨(q171 w h p bb), q169, (q164 w h p bb), q172⟩, ⟨(q101 w h p bb), q71, ⟨z2, ⟨⟨(.bool false), xu, xu, xu⟩, z1, z1, z1⟩, z2, ⟨⟨(.bool true), xu, xu, xu⟩, z1, z1, z1⟩⟩, q173⟩⟩, .e⟩, [rA En 6 [1, 1, 1, 1, 1, 0, 1, 0, 0, 1, 1, 0, 0, 1, 0] 15, cA En 6 [1, 1, 1, 1, 1, 0, 1, 0, 0, 1, 1, 0, 0, 1, 1], .blk 1, cA En 6 [1, 1, 1, 1, 1, 0, 1, 0, 0, 1, 1, 1], lA En 6 [1, 1, 1, 1, 1, 0, 1, 0, 0], .blk 0, cA En 6 [1, 1, 1, 1, 1, 1]], [], .run, false, false, none⟩
noncomputable def f56 (w h p : Int) (bb : Bool) : AF := (a174 w h p bb)
noncomputable def cs56 (w h p : Int) (bb : Bool) : List AF := []
noncomputable def S56 (w h p : Int) (bb : Bool) : Hp := ⟨(.n (.n .e none (.n (.n .e (some o18) .e) none .e)) none (.n .e none (.n (.n .e (some o22) .e) none .e))), (.o (.o (.i .h))), 2⟩
noncomputable def ks56 : List Ps := [(.o (.i (.o .h))), (.i (.i (.o .h)))]
theorem s56 (w h p : Int) : cut ks56 (runF (drawF 1000000 30) En 6 (f55 w h p true) (cs55 w h p true) (S55 w h p true)) = .next (f56 w h p (ile h (128))) (cs56 w h p (ile h (128))) (S56 w h p (ile h (128))) := by kernel_rfl
noncomputable def q175 (w h p : Int) (bb : Bool) : Q (Q (Q AV)) := ⟨⟨z1, ⟨(.int .i64 (64)), xu, xu, xu⟩, z1, z1⟩, ⟨⟨(.int .i64 h), xu, xu, xu⟩, ⟨(.ptr (.o (.i (.o .h))) 1), xu, xu, xu⟩, z1, z1⟩, ⟨⟨(.int .i64 h), xu, xu, xu⟩, z1, z1, z1⟩, ⟨⟨(.agg [(.int .i64 (128)), (.int .i64 (128))]), xu, xu, xu⟩, z1, z1, z1⟩⟩
noncomputable def q176 (w h p : Int) (bb : Bool) : Q (Q (Q AV)) := ⟨⟨z1, ⟨(.bool false), xu, xu, xu⟩, z1, z1⟩, ⟨⟨(.bool false), xu, xu, xu⟩, ⟨(.int .i64 (96)), xu, xu, xu⟩, z1, z1⟩, ⟨⟨(.bool false), xu, xu, xu⟩, z1, z1, z1⟩, ⟨⟨(.int .i64 p), xu, xu, xu⟩, z1, z1, z1⟩⟩
noncomputable def q177 (w h p : Int) (bb : Bool) : Q (Q (Q AV)) := ⟨⟨⟨(.int .i64 w), xu, xu, xu⟩, ⟨(.int .i64 (96)), xu, xu, xu⟩, z1, z1⟩, ⟨⟨(.bool false), xu, xu, xu⟩, z1, z1, z1⟩, z2, ⟨⟨(.bool true), xu, xu, xu⟩, z1, z1, z1⟩⟩
noncomputable def q178 (w h p : Int) (bb : Bool) : Q (Q (Q AV)) := ⟨⟨⟨(.int .i64 p), xu, xu, xu⟩, ⟨(.bool true), xu, xu, xu⟩, z1, z1⟩, ⟨⟨(.bool false), xu, xu, xu⟩, ⟨(.ptr (.o (.i (.o .h))) 0), xu, xu, xu⟩, z1, z1⟩, ⟨⟨(.bool false), xu, xu, xu⟩, z1, z1, z1⟩, ⟨⟨(.int .i64 (3)), xu, xu, xu⟩, z1, z1, z1⟩⟩
noncomputable def q179 (w h p : Int) (bb : Bool) : Q (Q (Q AV)) := ⟨⟨⟨(.int .i64 (96)), xu, xu, xu⟩, ⟨(.int .i64 (128)), xu, xu, xu⟩, z1, z1⟩, ⟨⟨(.bool false), xu, xu, xu⟩, z1, z1, z1⟩, ⟨⟨(.bool false), xu, xu, xu⟩, z1, z1, z1⟩, ⟨⟨(.int .i64 w), xu, xu, xu⟩, z1, z1, z1⟩⟩
noncomputable def q180 : Q (Q (Q AV)) := ⟨⟨⟨(.bool false), xu, xu, xu⟩, ⟨(.int .i64 (6144)), xu, xu, xu⟩, z1, z1⟩, ⟨⟨(.bool false), xu, xu, xu⟩, z1, z1, z1⟩, ⟨⟨(.bool false), xu, xu, xu⟩, z1, z1, z1⟩, ⟨⟨(.ptr (.i (.i (.o .h))) 1), xu, xu, xu⟩, z1, z1, z1⟩⟩
noncomputable def a181 (w h p : Int) (bb : Bool) : AF := ⟨6, 91, ⟨⟨⟨(q104 w h p bb), (q175 w h p bb), (q134 w h p bb), (q135 w h p bb)⟩, ⟨(q108 w h p bb), (q176 w h p bb), q136, (q177 w h p bb)⟩, ⟨(q178 w h p bb), (q138 w h p bb), (q179 w h p bb), q180⟩, ⟨(q92 w h p bb), (q140 w h p bb), q141, q131⟩⟩, .e⟩, [rA En 6 [1, 1, 1, 1, 1, 0, 1, 0, 0, 1, 1, 0, 0, 1, 0] 3, cA En 6 [1, 1, 1, 1, 1, 0, 1, 0, 0, 1, 1, 0, 0, 1, 1], .blk 1, cA En 6 [1, 1, 1, 1, 1, 0, 1, 0, 0, 1, 1, 1], lA En 6 [1, 1, 1, 1, 1, 0, 1, 0, 0], .blk 0, cA En 6 [1, 1, 1, 1, 1, 1]], [], .run, false, false, none⟩
noncomputable def f57 (w h p : Int) (bb : Bool) : AF := (a181 w h p bb)
noncomputable def cs57 (w h p : Int) (bb : Bool) : List AF := []
noncomputable def S57 (w h p : Int) (bb : Bool) : Hp := ⟨(.n (.n (.n .e none (.n .e (some o24) .e)) none (.n (.n .e (some o18) .e) none .e)) none (.n .e none (.n (.n .e (some o22) .e) none .e))), (.i (.o (.i .h))), 2⟩
noncomputable def ks57 : List Ps := [(.o (.i (.o .h))), (.i (.i (.o .h))), (.o (.o (.i .h)))]
theorem s57 (w h p : Int) : cut ks57 (runF (drawF 1000000 30) En 43 (f56 w h p true) (cs56 w h p true) (S56 w h p true)) = .next (f57 w h p (ieq p (1))) (cs57 w h p (ieq p (1))) (S57 w h p (ieq p (1))) := by kernel_rfl
noncomputable def q182 (w h p : Int) (bb : Bool) : Q (Q (Q AV)) := ⟨⟨⟨(.int .i64 w), xu, xu, xu⟩, ⟨(.int .i64 (96)), xu, xu, xu⟩, z1, z1⟩, ⟨⟨(.bool false), xu, xu, xu⟩, z1, z1, z1⟩, z2, ⟨⟨(.bool bb), xu, xu, xu⟩, z1, z1, z1⟩⟩
noncomputable def a183 (w h p : Int) (bb : Bool) : AF := ⟨6, 91, ⟨⟨⟨(q104 w h p bb), (q175 w h p bb), (q143 w h p bb), (q144 w h p bb)⟩, ⟨(q108 w h p bb), (q176 w h p bb), q145, (q182 w h p bb)⟩, ⟨(q178 w h p bb), q146, (q179 w h p bb), q180⟩, ⟨(q92 w h p bb), q147, (q148 w h p bb), q131⟩⟩, .e⟩, [rA En 6 [1, 1, 1, 1, 1, 0, 1, 0, 0, 1, 1, 0, 0, 1, 0] 9, cA En 6 [1, 1, 1, 1, 1, 0, 1, 0, 0, 1, 1, 0, 0, 1, 1], .blk 1, cA En 6 [1, 1, 1, 1, 1, 0, 1, 0, 0, 1, 1, 1], lA En 6 [1, 1, 1, 1, 1, 0, 1, 0, 0], .blk 0, cA En 6 [1, 1, 1, 1, 1, 1]], [], .run, false, false, none⟩
noncomputable def f58 (w h p : Int) (bb : Bool) : AF := (a183 w h p bb)
noncomputable def cs58 (w h p : Int) (bb : Bool) : List AF := []
noncomputable def S58 (w h p : Int) (bb : Bool) : Hp := ⟨(.n (.n (.n .e none (.n .e (some o24) .e)) none (.n (.n .e (some o18) .e) none .e)) none (.n .e none (.n (.n .e (some o22) .e) none .e))), (.i (.o (.i .h))), 2⟩
noncomputable def ks58 : List Ps := [(.o (.i (.o .h))), (.i (.i (.o .h))), (.o (.o (.i .h)))]
theorem s58 (w h p : Int) : cut ks58 (runF (drawF 1000000 30) En 6 (f57 w h p true) (cs57 w h p true) (S57 w h p true)) = .next (f58 w h p (ile w (128))) (cs58 w h p (ile w (128))) (S58 w h p (ile w (128))) := by kernel_rfl
noncomputable def q184 (w h p : Int) (bb : Bool) : Q (Q (Q AV)) := ⟨⟨⟨(.int .i64 p), xu, xu, xu⟩, ⟨(.bool bb), xu, xu, xu⟩, z1, z1⟩, ⟨⟨(.bool false), xu, xu, xu⟩, ⟨(.ptr (.o (.i (.o .h))) 0), xu, xu, xu⟩, z1, z1⟩, ⟨⟨(.bool false), xu, xu, xu⟩, z1, z1, z1⟩, ⟨⟨(.int .i64 (3)), xu, xu, xu⟩, z1, z1, z1⟩⟩
noncomputable def q185 : Q (Q (Q AV)) := ⟨⟨⟨(.bool false), xu, xu, xu⟩, ⟨(.int .i64 (6144)), xu, xu, xu⟩, z1, z1⟩, ⟨⟨(.bool false), xu, xu, xu⟩, z1, z1, z1⟩, ⟨⟨(.bool false), xu, xu, xu⟩, z1, z1, z1⟩, ⟨⟨(.ptr (.o (.o (.i .h))) 1), xu, xu, xu⟩, z1, z1, z1⟩⟩
noncomputable def a186 (w h p : Int) (bb : Bool) : AF := ⟨6, 91, ⟨⟨⟨(q104 w h p bb), (q175 w h p bb), (q143 w h p bb), (q135 w h p bb)⟩, ⟨(q128 w h p bb), (q176 w h p bb), q145, (q177 w h p bb)⟩, ⟨(q184 w h p bb), q146, (q179 w h p bb), q185⟩, ⟨(q101 w h p bb), q147, q141, q131⟩⟩, .e⟩, [rA En 6 [1, 1, 1, 1, 1, 0, 1, 0, 0, 1, 1, 0, 0, 1, 0] 15, cA En 6 [1, 1, 1, 1, 1, 0, 1, 0, 0, 1, 1, 0, 0, 1, 1], .blk 1, cA En 6 [1, 1, 1, 1, 1, 0, 1, 0, 0, 1, 1, 1], lA En 6 [1, 1, 1, 1, 1, 0, 1, 0, 0], .blk 0, cA En 6 [1, 1, 1, 1, 1, 1]], [], .run, false, false, none⟩
noncomputable def f59 (w h p : Int) (bb : Bool) : AF := (a186 w h p bb)
noncomputable def cs59 (w h p : Int) (bb : Bool) : List AF := []
noncomputable def S59 (w h p : Int) (bb : Bool) : Hp := ⟨(.n (.n (.n .e none (.n .e (some o24) .e)) none (.n (.n .e (some o18) .e) none .e)) none (.n .e none (.n (.n .e (some o22) .e) none .e))), (.i (.o (.i .h))), 2⟩
noncomputable def ks59 : List Ps := [(.o (.i (.o .h))), (.i (.i (.o .h))), (.o (.o (.i .h)))]
theorem s59 (w h p : Int) : cut ks59 (runF (drawF 1000000 30) En 6 (f58 w h p true) (cs58 w h p true) (S58 w h p true)) = .next (f59 w h p (ile h (128))) (cs59 w h p (ile h (128))) (S59 w h p (ile h (128))) := by kernel_rfl
theorem l60 (w h p : Int) : finOf (runF (drawF 1000000 30) En 48 (f59 w h p true) (cs59 w h p true) (S59 w h p true)) = some (.tup [(.int .i64 (64)), (.int .i64 (96)), (.int .i64 (0))]) := by kernel_rfl
noncomputable def a187 (w h p : Int) (bb : Bool) : AF := ⟨6, 91, ⟨⟨⟨(q74 w h p bb), (q54 w h p bb), (q94 w h p bb), (q160 w h p bb)⟩, ⟨(q153 w h p bb), (q38 w h p bb), q69, (q77 w h p bb)⟩, ⟨(q56 w h p bb), (q57 w h p bb), (q72 w h p bb), q100⟩, ⟨(q52 w h p bb), (q42 w h p bb), ⟨z2, ⟨⟨(.bool false), xu, xu, xu⟩, z1, z1, z1⟩, z2, ⟨⟨(.bool true), xu, xu, xu⟩, z1, z1, z1⟩⟩, q102⟩⟩, .e⟩, [rA En 6 [1, 1, 1, 1, 1, 0, 1, 0, 0, 1, 1, 0, 0, 1, 0] 3, cA En 6 [1, 1, 1, 1, 1, 0, 1, 0, 0, 1, 1, 0, 0, 1, 1], .blk 1, cA En 6 [1, 1, 1, 1, 1, 0, 1, 0, 0, 1, 1, 1], lA En 6 [1, 1, 1, 1, 1, 0, 1, 0, 0], .blk 0, cA En 6 [1, 1, 1, 1, 1, 1]], [], .run, false, false, none⟩
noncomputable def f61 (w h p : Int) (bb : Bool) : AF := (a187 w h p bb)
noncomputable def cs61 (w h p : Int) (bb : Bool) : List AF := []
noncomputable def S61 (w h p : Int) (bb : Bool) : Hp := ⟨(.n (.n .e none (.n (.n .e (some o18) .e) none .e)) none (.n .e none (.n (.n .e (some o22) .e) none .e))), (.o (.o (.i .h))), 2⟩
noncomputable def ks61 : List Ps := [(.o (.i (.o .h))), (.i (.i (.o .h)))]
theorem s61 (w h p : Int) : cut ks61 (runF (drawF 1000000 30) En 43 (f53 w h p false) (cs53 w h p false) (S53 w h p false)) = .next (f61 w h p (ieq p (1))) (cs61 w h p (ieq p (1))) (S61 w h p (ieq p (1))) := by kernel_rfl
noncomputable def q188 : Q (Q (Q AV)) := ⟨⟨⟨(.int .i64 (0)), xu, xu, xu⟩, z1, z1, z1⟩, ⟨⟨(.bool false), xu, xu, xu⟩, z1, z1, z1⟩, ⟨⟨(.bool false), xu, xu, xu⟩, z1, z1, z1⟩, ⟨⟨(.int .i64 (96)), xu, xu, xu⟩, z1, z1, z1⟩⟩
noncomputable def q189 : Q (Q (Q AV)) := ⟨⟨⟨(.int .i64 (0)), xu, xu, xu⟩, z1, z1, z1⟩, ⟨⟨(.bool false), xu, xu, xu⟩, ⟨(.int .i64 (2)), xu, xu, xu⟩, z1, z1⟩, z2, ⟨⟨(.bool true), xu, xu, xu⟩, z1, z1, z1⟩⟩
noncomputable def a190 (w h p : Int) (bb : Bool) : AF := ⟨6, 91, ⟨⟨⟨(q74 w h p bb), (q54 w h p bb), (q166 w h p bb), (q167 w h p bb)⟩, ⟨(q153 w h p bb), (q38 w h p bb), q188, (q70 w h p bb)⟩, ⟨(q56 w h p bb), q189, (q72 w h p bb), q100⟩, ⟨(q52 w h p bb), q71, ⟨z2, ⟨⟨(.bool false), xu, xu, xu⟩, z1, z1, z1⟩, z2, ⟨⟨(.bool bb), xu, xu, xu⟩, z1, z1, z1⟩⟩, q102⟩⟩, .e⟩, [rA En 6 [1, 1, 1, 1, 1, 0, 1, 0, 0, 1, 1, 0, 0, 1, 0] 9, cA En 6 [1, 1, 1, 1, 1, 0, 1, 0, 0, 1, 1, 0, 0, 1, 1], .blk 1, cA En 6 [1, 1, 1, 1, 1, 0, 1, 0, 0, 1, 1, 1], lA En 6 [1, 1, 1, 1, 1, 0, 1, 0, 0], .blk 0, cA En 6 [1, 1, 1, 1, 1, 1]], [], .run, false, false, none⟩
noncomputable def f62 (w h p : Int) (bb : Bool) : AF := (a190 w h p bb)
noncomputable def cs62 (w h p : Int) (bb : Bool) : List AF := []
noncomputable def S62 (w h p : Int) (bb : Bool) : Hp := ⟨(.n (.n .e none (.n (.n .e (some o18) .e) none .e)) none (.n .e none (.n (.n .e (some o22) .e) none .e))), (.o (.o (.i .h))), 2⟩
noncomputable def ks62 : List Ps := [(.o (.i (.o .h))), (.i (.i (.o .h)))]
theorem s62 (w h p : Int) : cut ks62 (runF (drawF 1000000 30) En 6 (f61 w h p true) (cs61 w h p true) (S61 w h p true)) = .next (f62 w h p (ile w (96))) (cs62 w h p (ile w (96))) (S62 w h p (ile w (96))) := by kernel_rfl
noncomputable def q191 (w h p : Int) (bb : Bool) : Q (Q (Q AV)) := ⟨⟨⟨(.int .i64 p), xu, xu, xu⟩, ⟨(.bool bb), xu, xu, xu⟩, z1, z1⟩, ⟨⟨(.bool false), xu, xu, xu⟩, z1, z1, z1⟩, ⟨⟨(.bool false), xu, xu, xu⟩, z1, z1, z1⟩, ⟨⟨(.int .i64 (2)), xu, xu, xu⟩, z1, z1, z1⟩⟩
noncomputable def a192 (w h p : Int) (bb : Bool) : AF := ⟨6, 91, ⟨⟨⟨(q74 w h p bb), (q54 w h p bb), (q166 w h p bb), (q160 w h p bb)⟩, ⟨(q128 w h p bb), (q38 w h p bb), q188, (q77 w h p bb)⟩, ⟨(q191 w h p bb), q189, (q72 w h p bb), q172⟩, ⟨(q80 w h p bb), q71, ⟨z2, ⟨⟨(.bool false), xu, xu, xu⟩, z1, z1, z1⟩, z2, ⟨⟨(.bool true), xu, xu, xu⟩, z1, z1, z1⟩⟩, q173⟩⟩, .e⟩, [rA En 6 [1, 1, 1, 1, 1, 0, 1, 0, 0, 1, 1, 0, 0, 1, 0] 15, cA En 6 [1, 1, 1, 1, 1, 0, 1, 0, 0, 1, 1, 0, 0, 1, 1], .blk 1, cA En 6 [1, 1, 1, 1, 1, 0, 1, 0, 0, 1, 1, 1], lA En 6 [1, 1, 1, 1, 1, 0, 1, 0, 0], .blk 0, cA En 6 [1, 1, 1, 1, 1, 1]], [], .run, false, false, none⟩
noncomputable def f63 (w h p : Int) (bb : Bool) : AF := (a192 w h p bb)
noncomputable def cs63 (w h p : Int) (bb : Bool) : List AF := []
noncomputable def S63 (w h p : Int) (bb : Bool) : Hp := ⟨(.n .e none (.n .e none (.n (.n .e (some o22) .e) none .e))), (.o (.o (.i .h))), 2⟩
noncomputable def ks63 : List Ps := [(.i (.i (.o .h)))]
theorem s63 (w h p : Int) : cut ks63 (runF (drawF 1000000 30) En 6 (f62 w h p true) (cs62 w h p true) (S62 w h p true)) = .next (f63 w h p (ile h (128))) (cs63 w h p (ile h (128))) (S63 w h p (ile h (128))) := by kernel_rfl
noncomputable def q193 (w h p : Int) (bb : Bool) : Q (Q (Q AV)) := ⟨⟨z1, ⟨(.int .i64 (0)), xu, xu, xu⟩, z1, z1⟩, ⟨⟨(.int .i64 h), xu, xu, xu⟩, ⟨(.ptr (.i (.i (.o .h))) 1), xu, xu, xu⟩, z1, z1⟩, ⟨⟨(.int .i64 h), xu, xu, xu⟩, z1, z1, z1⟩, ⟨⟨(.agg [(.int .i64 (128)), (.int .i64 (128))]), xu, xu, xu⟩, z1, z1, z1⟩⟩
noncomputable def q194 (w h p : Int) (bb : Bool) : Q (Q (Q AV)) := ⟨⟨⟨(.ptr (.o (.o (.i .h))) 0), xu, xu, xu⟩, z1, z1, z1⟩, ⟨⟨(.int .i64 p), xu, xu, xu⟩, z1, z1, z1⟩, z2, ⟨⟨(.bool true), xu, xu, xu⟩, z1, z1, z1⟩⟩
noncomputable def q195 (w h p : Int) (bb : Bool) : Q (Q (Q AV)) := ⟨⟨z1, ⟨(.bool true), xu, xu, xu⟩, z1, z1⟩, ⟨⟨(.bool false), xu, xu, xu⟩, ⟨(.int .i64 (128)), xu, xu, xu⟩, z1, z1⟩, ⟨⟨(.bool false), xu, xu, xu⟩, z1, z1, z1⟩, ⟨⟨(.int .i64 p), xu, xu, xu⟩, z1, z1, z1⟩⟩
noncomputable def q196 : Q (Q (Q AV)) := ⟨⟨⟨(.int .i64 (96)), xu, xu, xu⟩, z1, z1, z1⟩, ⟨⟨(.bool false), xu, xu, xu⟩, z1, z1, z1⟩, ⟨⟨(.bool false), xu, xu, xu⟩, z1, z1, z1⟩, ⟨⟨(.int .i64 (96)), xu, xu, xu⟩, z1, z1, z1⟩⟩
noncomputable def q197 (w h p : Int) (bb : Bool) : Q (Q (Q AV)) := ⟨⟨⟨(.int .i64 p), xu, xu, xu⟩, ⟨(.bool true), xu, xu, xu⟩, z1, z1⟩, ⟨⟨(.bool false), xu, xu, xu⟩, ⟨(.ptr (.i (.i (.o .h))) 0), xu, xu, xu⟩, z1, z1⟩, ⟨⟨(.bool false), xu, xu, xu⟩, z1, z1, z1⟩, ⟨⟨(.int .i64 (3)), xu, xu, xu⟩, z1, z1, z1⟩⟩
noncomputable def q198 (w h p : Int) (bb : Bool) : Q (Q (Q AV)) := ⟨⟨⟨(.int .i64 (0)), xu, xu, xu⟩, ⟨(.bool true), xu, xu, xu⟩, z1, z1⟩, ⟨⟨(.bool false), xu, xu, xu⟩, ⟨(.int .i64 (3)), xu, xu, xu⟩, z1, z1⟩, z2, ⟨⟨(.bool bb), xu, xu, xu⟩, z1, z1, z1⟩⟩
noncomputable def q199 (w h p : Int) (bb : Bool) : Q (Q (Q AV)) := ⟨⟨⟨(.int .i64 (128)), xu, xu, xu⟩, z1, z1, z1⟩, ⟨⟨(.bool false), xu, xu, xu⟩, z1, z1, z1⟩, ⟨⟨(.bool false), xu, xu, xu⟩, z1, z1, z1⟩, ⟨⟨(.int .i64 w), xu, xu, xu⟩, z1, z1, z1⟩⟩
noncomputable def q200 (w h p : Int) (bb : Bool) : Q (Q (Q AV)) := ⟨⟨z1, ⟨(.bool true), xu, xu, xu⟩, z1, z1⟩, ⟨⟨(.bool false), xu, xu, xu⟩, ⟨(.int .i64 (96)), xu, xu, xu⟩, z1, z1⟩, ⟨⟨(.int .i64 w), xu, xu, xu⟩, z1, z1, z1⟩, ⟨⟨(.bool true), xu, xu, xu⟩, z1, z1, z1⟩⟩
noncomputable def a201 (w h p : Int) (bb : Bool) : AF := ⟨6, 91, ⟨⟨⟨(q83 w h p bb), (q193 w h p bb), (q166 w h p bb), (q194 w h p bb)⟩, ⟨(q86 w h p bb), (q195 w h p bb), q196, (q77 w h p bb)⟩, ⟨(q197 w h p bb), (q198 w h p bb), (q199 w h p bb), q172⟩, ⟨(q200 w h p bb), (q42 w h p bb), ⟨z2, ⟨⟨(.bool false), xu, xu, xu⟩, z1, z1, z1⟩, z2, ⟨⟨(.bool true), xu, xu, xu⟩, z1, z1, z1⟩⟩, q173⟩⟩, .e⟩, [rA En 6 [1, 1, 1, 1, 1, 0, 1, 0, 0, 1, 1, 0, 0, 1, 0] 3, cA En 6 [1, 1, 1, 1, 1, 0, 1, 0, 0, 1, 1, 0, 0, 1, 1], .blk 1, cA En 6 [1, 1, 1, 1, 1, 0, 1, 0, 0, 1, 1, 1], lA En 6 [1, 1, 1, 1, 1, 0, 1, 0, 0], .blk 0, cA En 6 [1, 1, 1, 1, 1, 1]], [], .run, false, false, none⟩
noncomputable def f64 (w h p : Int) (bb : Bool) : AF := (a201 w h p bb)
noncomputable def cs64 (w h p : Int) (bb : Bool) : List AF := []
noncomputable def S64 (w h p : Int) (bb : Bool) : Hp := ⟨(.n (.n (.n .e none (.n .e (some o24) .e)) none .e) none (.n .e none (.n (.n .e (some o22) .e) none .e))), (.i (.o (.i .h))), 2⟩
noncomputable def ks64 : List Ps := [(.i (.i (.o .h))), (.o (.o (.i .h)))]
theorem s64 (w h p : Int) : cut ks64 (runF (drawF 1000000 30) En 43 (f63 w h p true) (cs63 w h p true) (S63 w h p true)) = .next (f64 w h p (ieq p (1))) (cs64 w h p (ieq p (1))) (S64 w h p (ieq p (1))) := by kernel_rfl
noncomputable def q202 (w h p : Int) (bb : Bool) : Q (Q (Q AV)) := ⟨⟨⟨(.int .i64 (0)), xu, xu, xu⟩, z1, z1, z1⟩, ⟨⟨(.int .i64 h), xu, xu, xu⟩, z1, z1, z1⟩, ⟨⟨(.int .i64 p), xu, xu, xu⟩, z1, z1, z1⟩, ⟨⟨(.ptr (.o (.o (.i .h))) 0), xu, xu, xu⟩, z1, z1, z1⟩⟩
noncomputable def q203 (w h p : Int) (bb : Bool) : Q (Q (Q AV)) := ⟨⟨⟨(.ptr (.o (.o (.i .h))) 0), xu, xu, xu⟩, z1, z1, z1⟩, ⟨⟨(.int .i64 p), xu, xu, xu⟩, z1, z1, z1⟩, z2, ⟨⟨(.bool bb), xu, xu, xu⟩, z1, z1, z1⟩⟩
noncomputable def q204 : Q (Q (Q AV)) := ⟨⟨⟨(.int .i64 (96)), xu, xu, xu⟩, z1, z1, z1⟩, ⟨⟨(.bool false), xu, xu, xu⟩, z1, z1, z1⟩, ⟨⟨(.bool false), xu, xu, xu⟩, z1, z1, z1⟩, ⟨⟨(.int .i64 (128)), xu, xu, xu⟩, z1, z1, z1⟩⟩
noncomputable def q205 : Q (Q (Q AV)) := ⟨⟨⟨(.int .i64 (0)), xu, xu, xu⟩, ⟨(.bool true), xu, xu, xu⟩, z1, z1⟩, ⟨⟨(.bool false), xu, xu, xu⟩, ⟨(.int .i64 (3)), xu, xu, xu⟩, z1, z1⟩, z2, ⟨⟨(.bool true), xu, xu, xu⟩, z1, z1, z1⟩⟩
noncomputable def a206 (w h p : Int) (bb : Bool) : AF := ⟨6, 91, ⟨⟨⟨(q83 w h p bb), (q193 w h p bb), (q202 w h p bb), (q203 w h p bb)⟩, ⟨(q86 w h p bb), (q195 w h p bb), q204, (q70 w h p bb)⟩, ⟨(q197 w h p bb), q205, (q199 w h p bb), q172⟩, ⟨(q200 w h p bb), q71, ⟨z2, ⟨⟨(.bool false), xu, xu, xu⟩, z1, z1, z1⟩, z2, ⟨⟨(.bool bb), xu, xu, xu⟩, z1, z1, z1⟩⟩, q173⟩⟩, .e⟩, [rA En 6 [1, 1, 1, 1, 1, 0, 1, 0, 0, 1, 1, 0, 0, 1, 0] 9, cA En 6 [1, 1, 1, 1, 1, 0, 1, 0, 0, 1, 1, 0, 0, 1, 1], .blk 1, cA En 6 [1, 1, 1, 1, 1, 0, 1, 0, 0, 1, 1, 1], lA En 6 [1, 1, 1, 1, 1, 0, 1, 0, 0], .blk 0, cA En 6 [1, 1, 1, 1, 1, 1]], [], .run, false, false, none⟩
noncomputable def f65 (w h p : Int) (bb : Bool) : AF := (a206 w h p bb)
noncomputable def cs65 (w h p : Int) (bb : Bool) : List AF := []
noncomputable def S65 (w h p : Int) (bb : Bool) : Hp := ⟨(.n (.n (.n .e none (.n .e (some o24) .e)) none .e) none (.n .e none (.n (.n .e (some o22) .e) none .e))), (.i (.o (.i .h))), 2⟩
noncomputable def ks65 : List Ps := [(.i (.i (.o .h))), (.o (.o (.i .h)))]
theorem s65 (w h p : Int) : cut ks65 (runF (drawF 1000000 30) En 6 (f64 w h p true) (cs64 w h p true) (S64 w h p true)) = .next (f65 w h p (ile w (128))) (cs65 w h p (ile w (128))) (S65 w h p (ile w (128))) := by kernel_rfl
noncomputable def q207 (w h p : Int) (bb : Bool) : Q (Q (Q AV)) := ⟨⟨⟨(.int .i64 p), xu, xu, xu⟩, ⟨(.bool bb), xu, xu, xu⟩, z1, z1⟩, ⟨⟨(.bool false), xu, xu, xu⟩, ⟨(.ptr (.i (.i (.o .h))) 0), xu, xu, xu⟩, z1, z1⟩, ⟨⟨(.bool false), xu, xu, xu⟩, z1, z1, z1⟩, ⟨⟨(.int .i64 (3)), xu, xu, xu⟩, z1, z1, z1⟩⟩
noncomputable def q208 : Q (Q (Q AV)) := ⟨⟨⟨(.bool false), xu, xu, xu⟩, z1, z1, z1⟩, ⟨⟨(.bool false), xu, xu, xu⟩, z1, z1, z1⟩, ⟨⟨(.bool false), xu, xu, xu⟩, z1, z1, z1⟩, ⟨⟨(.ptr (.o (.o (.i .h))) 1), xu, xu, xu⟩, z1, z1, z1⟩⟩
noncomputable def q209 (w h p : Int) (bb : Bool) : Q (Q (Q AV)) := ⟨⟨z1, ⟨(.bool bb), xu, xu, xu⟩, z1, z1⟩, ⟨⟨(.bool false), xu, xu, xu⟩, ⟨(.int .i64 (96)), xu, xu, xu⟩, z1, z1⟩, ⟨⟨(.int .i64 w), xu, xu, xu⟩, z1, z1, z1⟩, ⟨⟨(.bool true), xu, xu, xu⟩, z1, z1, z1⟩⟩
noncomputable def a210 (w h p : Int) (bb : Bool) : AF := ⟨6, 91, ⟨⟨⟨(q83 w h p bb), (q193 w h p bb), (q202 w h p bb), (q194 w h p bb)⟩, ⟨(q98 w h p bb), (q195 w h p bb), q204, (q77 w h p bb)⟩, ⟨(q207 w h p bb), q205, (q199 w h p bb), q208⟩, ⟨(q209 w h p bb), q71, ⟨z2, ⟨⟨(.bool false), xu, xu, xu⟩, z1, z1, z1⟩, z2, ⟨⟨(.bool true), xu, xu, xu⟩, z1, z1, z1⟩⟩, q173⟩⟩, .e⟩, [rA En 6 [1, 1, 1, 1, 1, 0, 1, 0, 0, 1, 1, 0, 0, 1, 0] 15, cA En 6 [1, 1, 1, 1, 1, 0, 1, 0, 0, 1, 1, 0, 0, 1, 1], .blk 1, cA En 6 [1, 1, 1, 1, 1, 0, 1, 0, 0, 1, 1, 1], lA En 6 [1, 1, 1, 1, 1, 0, 1, 0, 0], .blk 0, cA En 6 [1, 1, 1, 1, 1, 1]], [], .run, false, false, none⟩
noncomputable def f66 (w h p : Int) (bb : Bool) : AF := (a210 w h p bb)
noncomputable def cs66 (w h p : Int) (bb : Bool) : List AF := []
noncomputable def S66 (w h p : Int) (bb : Bool) : Hp := ⟨(.n (.n (.n .e none (.n .e (some o24) .e)) none .e) none (.n .e none (.n (.n .e (some o22) .e) none .e))), (.i (.o (.i .h))), 2⟩
noncomputable def ks66 : List Ps := [(.i (.i (.o .h))), (.o (.o (.i .h)))]
theorem s66 (w h p : Int) : cut ks66 (runF (drawF 1000000 30) En 6 (f65 w h p true) (cs65 w h p true) (S65 w h p true)) = .next (f66 w h p (ile h (128))) (cs66 w h p (ile h (128))) (S66 w h p (ile h (128))) := by kernel_rfl
theorem l67 (w h p : Int) : finOf (runF (drawF 1000000 30) En 48 (f66 w h p true) (cs66 w h p true) (S66 w h p true)) = some (.tup [(.int .i64 (96)), (.int .i64 (128)), (.int .i64 (0))]) := by kernel_rfl
noncomputable def q211 (w h p : Int) (bb : Bool) : Q (Q (Q AV)) := ⟨⟨⟨(.ptr (.o (.i (.o .h))) 0), xu, xu, xu⟩, z1, z1, z1⟩, ⟨⟨(.int .i64 p), xu, xu, xu⟩, z1, z1, z1⟩, z2, ⟨⟨(.bool false), xu, xu, xu⟩, z1, z1, z1⟩⟩
noncomputable def q212 (w h p : Int) (bb : Bool) : Q (Q (Q AV)) := ⟨⟨⟨(.int .i64 w), xu, xu, xu⟩, z1, z1, z1⟩, ⟨⟨(.bool false), xu, xu, xu⟩, z1, z1, z1⟩, z2, ⟨⟨(.bool false), xu, xu, xu⟩, z1, z1, z1⟩⟩
noncomputable def a213 (w h p : Int) (bb : Bool) : AF := ⟨6, 91, ⟨⟨⟨(q6 w h p bb), (q46 w h p bb), (q26 w h p bb), (q211 w h p bb)⟩, ⟨(q48 w h p bb), (q38 w h p bb), q65, (q212 w h p bb)⟩, ⟨(q50 w h p bb), (q51 w h p bb), q65, q43⟩, ⟨(q52 w h p bb), (q42 w h p bb), ⟨z2, ⟨⟨(.bool false), xu, xu, xu⟩, z1, z1, z1⟩, z2, z2⟩, ⟨⟨⟨(.bool false), xu, xu, xu⟩, z1, z1, z1⟩, ⟨⟨(.bool false), xu, xu, xu⟩, z1, z1, z1⟩, z2, z2⟩⟩⟩, .e⟩, [rA En 6 [1, 1, 1, 1, 1, 0, 1, 0, 0, 1, 1, 0, 0, 1, 0] 3, cA En 6 [1, 1, 1, 1, 1, 0, 1, 0, 0, 1, 1, 0, 0, 1, 1], .blk 1, cA En 6 [1, 1, 1, 1, 1, 0, 1, 0, 0, 1, 1, 1], lA En 6 [1, 1, 1, 1, 1, 0, 1, 0, 0], .blk 0, cA En 6 [1, 1, 1, 1, 1, 1]], [], .run, false, false, none⟩
noncomputable def f68 (w h p : Int) (bb : Bool) : AF := (a213 w h p bb)
noncomputable def cs68 (w h p : Int) (bb : Bool) : List AF := []
noncomputable def S68 (w h p : Int) (bb : Bool) : Hp := ⟨(.n (.n .e none (.n (.n .e (some o18) .e) none .e)) none .e), (.i (.i (.o .h))), 2⟩
noncomputable def ks68 : List Ps := [(.o (.i (.o .h)))]
theorem s68 (w h p : Int) : cut ks68 (runF (drawF 1000000 30) En 55 (f38 w h p false) (cs38 w h p false) (S38 w h p false)) = .next (f68 w h p (ieq p (1))) (cs68 w h p (ieq p (1))) (S68 w h p (ieq p (1))) := by kernel_rfl
noncomputable def q214 (w h p : Int) (bb : Bool) : Q (Q (Q AV)) := ⟨⟨⟨(.ptr (.i (.i (.o .h))) 0), xu, xu, xu⟩, z1, z1, z1⟩, ⟨⟨(.int .i64 p), xu, xu, xu⟩, z1, z1, z1⟩, z2, ⟨⟨(.bool false), xu, xu, xu⟩, z1, z1, z1⟩⟩
noncomputable def a215 (w h p : Int) (bb : Bool) : AF := ⟨6, 91, ⟨⟨⟨(q6 w h p bb), (q54 w h p bb), (q26 w h p bb), (q214 w h p bb)⟩, ⟨(q48 w h p bb), (q38 w h p bb), q65, (q212 w h p bb)⟩, ⟨(q56 w h p bb), (q57 w h p bb), q65, q43⟩, ⟨(q52 w h p bb), (q42 w h p bb), ⟨z2, ⟨⟨(.bool false), xu, xu, xu⟩, z1, z1, z1⟩, z2, z2⟩, ⟨⟨⟨(.bool false), xu, xu, xu⟩, z1, z1, z1⟩, ⟨⟨(.bool false), xu, xu, xu⟩, z1, z1, z1⟩, z2, z2⟩⟩⟩, .e⟩, [rA En 6 [1, 1, 1, 1, 1, 0, 1, 0, 0, 1, 1, 0, 0, 1, 0] 3, cA En 6 [1, 1, 1, 1, 1, 0, 1, 0, 0, 1, 1, 0, 0, 1, 1], .blk 1, cA En 6 [1, 1, 1, 1, 1, 0, 1, 0, 0, 1, 1, 1], lA En 6 [1, 1, 1, 1, 1, 0, 1, 0, 0], .blk 0, cA En 6 [1, 1, 1, 1, 1, 1]], [], .run, false, false, none⟩
noncomputable def f69 (w h p : Int) (bb : Bool) : AF := (a215 w h p bb)
noncomputable def cs69 (w h p : Int) (bb : Bool) : List AF := []
noncomputable def S69 (w h p : Int) (bb : Bool) : Hp := ⟨(.n .e none (.n .e none (.n (.n .e (some o22) .e) none .e))), (.o (.o (.i .h))), 2⟩
noncomputable def ks69 : List Ps := [(.i (.i (.o .h)))]
theorem s69 (w h p : Int) : cut ks69 (runF (drawF 1000000 30) En 55 (f68 w h p false) (cs68 w h p false) (S68 w h p false)) = .next (f69 w h p (ieq p (1))) (cs69 w h p (ieq p (1))) (S69 w h p (ieq p (1))) := by kernel_rfl
noncomputable def q216 (w h p : Int) (bb : Bool) : Q (Q (Q AV)) := ⟨⟨⟨(.ptr (.o (.o (.i .h))) 0), xu, xu, xu⟩, z1, z1, z1⟩, ⟨⟨(.int .i64 p), xu, xu, xu⟩, z1, z1, z1⟩, z2, ⟨⟨(.bool false), xu, xu, xu⟩, z1, z1, z1⟩⟩
noncomputable def a217 (w h p : Int) (bb : Bool) : AF := ⟨6, 91, ⟨⟨⟨(q6 w h p bb), (q59 w h p bb), (q26 w h p bb), (q216 w h p bb)⟩, ⟨(q48 w h p bb), (q38 w h p bb), q65, (q212 w h p bb)⟩, ⟨(q61 w h p bb), (q62 w h p bb), q65, q43⟩, ⟨(q52 w h p bb), (q42 w h p bb), ⟨z2, ⟨⟨(.bool false), xu, xu, xu⟩, z1, z1, z1⟩, z2, z2⟩, ⟨⟨⟨(.bool false), xu, xu, xu⟩, z1, z1, z1⟩, ⟨⟨(.bool false), xu, xu, xu⟩, z1, z1, z1⟩, z2, z2⟩⟩⟩, .e⟩, [rA En 6 [1, 1, 1, 1, 1, 0, 1, 0, 0, 1, 1, 0, 0, 1, 0] 3, cA En 6 [1, 1, 1, 1, 1, 0, 1, 0, 0, 1, 1, 0, 0, 1, 1], .blk 1, cA En 6 [1, 1, 1, 1, 1, 0, 1, 0, 0, 1, 1, 1], lA En 6 [1, 1, 1, 1, 1, 0, 1, 0, 0], .blk 0, cA En 6 [1, 1, 1, 1, 1, 1]], [], .run, false, false, none⟩
noncomputable def f70 (w h p : Int) (bb : Bool) : AF := (a217 w h p bb)
noncomputable def cs70 (w h p : Int) (bb : Bool) : List AF := []
noncomputable def S70 (w h p : Int) (bb : Bool) : Hp := ⟨(.n (.n (.n .e none (.n .e (some o24) .e)) none .e) none .e), (.i (.o (.i .h))), 2⟩
noncomputable def ks70 : List Ps := [(.o (.o (.i .h)))]
theorem s70 (w h p : Int) : cut ks70 (runF (drawF 1000000 30) En 55 (f69 w h p false) (cs69 w h p false) (S69 w h p false)) = .next (f70 w h p (ieq p (1))) (cs70 w h p (ieq p (1))) (S70 w h p (ieq p (1))) := by kernel_rfl
theorem l71 (w h p : Int) : finOf (runF (drawF 1000000 30) En 57 (f70 w h p false) (cs70 w h p false) (S70 w h p false)) = some (.tup [(.int .i64 (0)), (.int .i64 (0)), (.int .i64 (41))]) := by kernel_rfl
noncomputable def a218 (w h p : Int) (bb : Bool) : AF := ⟨12, 22, ⟨⟨⟨⟨⟨⟨(.int .i64 w), xu, xu, xu⟩, z1, z1, z1⟩, z2, z2, z2⟩, ⟨⟨⟨(.bool false), xu, xu, xu⟩, z1, z1, z1⟩, ⟨⟨(.bool false), xu, xu, xu⟩, z1, z1, z1⟩, z2, z2⟩, ⟨⟨⟨(.int .i64 (1)), xu, xu, xu⟩, z1, z1, z1⟩, z2, z2, z2⟩, ⟨⟨⟨(.int .i64 (64)), xu, xu, xu⟩, z1, z1, z1⟩, z2, z2, z2⟩⟩, ⟨⟨⟨⟨(.int .i64 h), xu, xu, xu⟩, z1, z1, z1⟩, z2, z2, z2⟩, ⟨z2, ⟨⟨(.int .i64 (1)), xu, xu, xu⟩, z1, z1, z1⟩, z2, z2⟩, ⟨⟨⟨(.bool true), xu, xu, xu⟩, z1, z1, z1⟩, z2, z2, z2⟩, ⟨⟨⟨(.int .i64 w), xu, xu, xu⟩, z1, z1, z1⟩, z2, z2, z2⟩⟩, ⟨z3, ⟨⟨⟨(.ptr (.i (.o .h)) 0), xu, xu, xu⟩, z1, z1, z1⟩, z2, z2, z2⟩, ⟨⟨⟨(.agg [(.int .i64 (64)), (.int .i64 (96))]), xu, xu, xu⟩, z1, z1, z1⟩, z2, z2, z2⟩, ⟨⟨⟨(.bool bb), xu, xu, xu⟩, z1, z1, z1⟩, z2, z2, z2⟩⟩, ⟨z3, ⟨⟨⟨v11, xu, xu, xu⟩, z1, z1, z1⟩, z2, z2, z2⟩, ⟨⟨⟨(.ptr (.i (.o .h)) 0), xu, xu, xu⟩, z1, z1, z1⟩, z2, z2, z2⟩, ⟨⟨⟨(.bool bb), xu, xu, xu⟩, z1, z1, z1⟩, z2, z2, z2⟩⟩⟩, .e⟩, [rA En 12 [1, 0, 1, 0, 0, 1, 1, 0, 0, 1, 0] 5, cA En 12 [1, 0, 1, 0, 0, 1, 1, 0, 0, 1, 1], .blk 1, cA En 12 [1, 0, 1, 0, 0, 1, 1, 1], lA En 12 [1, 0, 1, 0, 0], .blk 0, cA En 12 [1, 1]], [], .run, false, false, none⟩
noncomputable def f72 (w h p : Int) (bb : Bool) : AF := (a218 w h p bb)
noncomputable def cs72 (w h p : Int) (bb : Bool) : List AF := [(a15 w h p bb)]
noncomputable def S72 (w h p : Int) (bb : Bool) : Hp := ⟨(.n .e none (.n (.n .e (some o18) .e) none .e)), (.o (.i .h)), 2⟩
noncomputable def ks72 : List Ps := [(.i (.o .h))]
theorem s72 (w h p : Int) : cut ks72 (runF (drawF 1000000 30) En 36 (f14 w h p false) (cs14 w h p false) (S14 w h p false)) = .next (f72 w h p (ieq (64) w)) (cs72 w h p (ieq (64) w)) (S72 w h p (ieq (64) w)) := by kernel_rfl
noncomputable def a219 (w h p : Int) (bb : Bool) : AF := ⟨12, 22, ⟨⟨⟨⟨⟨⟨(.int .i64 w), xu, xu, xu⟩, z1, z1, z1⟩, z2, z2, z2⟩, ⟨⟨⟨(.bool false), xu, xu, xu⟩, z1, z1, z1⟩, ⟨⟨(.bool false), xu, xu, xu⟩, z1, z1, z1⟩, z2, z2⟩, ⟨⟨⟨(.int .i64 (2)), xu, xu, xu⟩, z1, z1, z1⟩, z2, z2, z2⟩, ⟨⟨⟨(.int .i64 (96)), xu, xu, xu⟩, z1, z1, z1⟩, z2, z2, z2⟩⟩, ⟨⟨⟨⟨(.int .i64 h), xu, xu, xu⟩, z1, z1, z1⟩, z2, z2, z2⟩, ⟨z2, ⟨⟨(.int .i64 (2)), xu, xu, xu⟩, z1, z1, z1⟩, z2, z2⟩, ⟨⟨⟨(.bool true), xu, xu, xu⟩, z1, z1, z1⟩, z2, z2, z2⟩, ⟨⟨⟨(.int .i64 w), xu, xu, xu⟩, z1, z1, z1⟩, z2, z2, z2⟩⟩, ⟨z3, ⟨⟨⟨(.ptr (.o (.i .h)) 0), xu, xu, xu⟩, z1, z1, z1⟩, z2, z2, z2⟩, ⟨⟨⟨(.agg [(.int .i64 (96)), (.int .i64 (128))]), xu, xu, xu⟩, z1, z1, z1⟩, z2, z2, z2⟩, ⟨⟨⟨(.bool bb), xu, xu, xu⟩, z1, z1, z1⟩, z2, z2, z2⟩⟩, ⟨z3, ⟨⟨⟨v11, xu, xu, xu⟩, z1, z1, z1⟩, z2, z2, z2⟩, ⟨⟨⟨(.ptr (.o (.i .h)) 0), xu, xu, xu⟩, z1, z1, z1⟩, z2, z2, z2⟩, ⟨⟨⟨(.bool bb), xu, xu, xu⟩, z1, z1, z1⟩, z2, z2, z2⟩⟩⟩, .e⟩, [rA En 12 [1, 0, 1, 0, 0, 1, 1, 0, 0, 1, 0] 5, cA En 12 [1, 0, 1, 0, 0, 1, 1, 0, 0, 1, 1], .blk 1, cA En 12 [1, 0, 1, 0, 0, 1, 1, 1], lA En 12 [1, 0, 1, 0, 0], .blk 0, cA En 12 [1, 1]], [], .run, false, false, none⟩
noncomputable def f73 (w h p : Int) (bb : Bool) : AF := (a219 w h p bb)
noncomputable def cs73 (w h p : Int) (bb : Bool) : List AF := [(a15 w h p bb)]
noncomputable def S73 (w h p : Int) (bb : Bool) : Hp := ⟨(.n (.n .e none (.n .e (some o22) .e)) none .e), (.i (.i .h)), 2⟩
noncomputable def ks73 : List Ps := [(.o (.i .h))]
theorem s73 (w h p : Int) : cut ks73 (runF (drawF 1000000 30) En 36 (f72 w h p false) (cs72 w h p false) (S72 w h p false)) = .next (f73 w h p (ieq (96) w)) (cs73 w h p (ieq (96) w)) (S73 w h p (ieq (96) w)) := by kernel_rfl
noncomputable def q220 (w h p : Int) (bb : Bool) : Q (Q (Q AV)) := ⟨⟨⟨(.int .i64 w), xu, xu, xu⟩, z1, z1, z1⟩, ⟨⟨(.ptr (.o (.i .h)) 1), xu, xu, xu⟩, z1, z1, z1⟩, z2, z2⟩
noncomputable def a221 (w h p : Int) (bb : Bool) : AF := ⟨12, 22, ⟨⟨⟨(q220 w h p bb), ⟨⟨⟨(.bool false), xu, xu, xu⟩, z1, z1, z1⟩, ⟨⟨(.bool bb), xu, xu, xu⟩, z1, z1, z1⟩, z2, z2⟩, ⟨⟨⟨(.int .i64 (2)), xu, xu, xu⟩, z1, z1, z1⟩, z2, z2, z2⟩, ⟨⟨⟨(.int .i64 (96)), xu, xu, xu⟩, z1, z1, z1⟩, z2, z2, z2⟩⟩, ⟨⟨⟨⟨(.int .i64 h), xu, xu, xu⟩, z1, z1, z1⟩, ⟨⟨(.int .i64 (128)), xu, xu, xu⟩, z1, z1, z1⟩, z2, z2⟩, ⟨z2, ⟨⟨(.int .i64 (2)), xu, xu, xu⟩, z1, z1, z1⟩, z2, z2⟩, ⟨⟨⟨(.bool true), xu, xu, xu⟩, z1, z1, z1⟩, z2, z2, z2⟩, ⟨⟨⟨(.int .i64 w), xu, xu, xu⟩, z1, z1, z1⟩, z2, z2, z2⟩⟩, ⟨⟨z2, ⟨⟨(.int .i64 h), xu, xu, xu⟩, z1, z1, z1⟩, z2, z2⟩, ⟨⟨⟨(.ptr (.o (.i .h)) 0), xu, xu, xu⟩, z1, z1, z1⟩, z2, z2, z2⟩, ⟨⟨⟨(.agg [(.int .i64 (96)), (.int .i64 (128))]), xu, xu, xu⟩, z1, z1, z1⟩, z2, z2, z2⟩, ⟨⟨⟨(.bool true), xu, xu, xu⟩, z1, z1, z1⟩, z2, z2, z2⟩⟩, ⟨⟨z2, ⟨⟨(.bool bb), xu, xu, xu⟩, z1, z1, z1⟩, z2, z2⟩, ⟨⟨⟨v11, xu, xu, xu⟩, z1, z1, z1⟩, z2, z2, z2⟩, ⟨⟨⟨(.ptr (.o (.i .h)) 0), xu, xu, xu⟩, z1, z1, z1⟩, z2, z2, z2⟩, ⟨⟨⟨(.bool true), xu, xu, xu⟩, z1, z1, z1⟩, z2, z2, z2⟩⟩⟩, .e⟩, [cA En 12 [1, 0, 1, 0, 0, 1, 1, 0, 0, 1, 1], .blk 1, cA En 12 [1, 0, 1, 0, 0, 1, 1, 1], lA En 12 [1, 0, 1, 0, 0], .blk 0, cA En 12 [1, 1]], [], .run, false, false, none⟩
noncomputable def f74 (w h p : Int) (bb : Bool) : AF := (a221 w h p bb)
noncomputable def cs74 (w h p : Int) (bb : Bool) : List AF := [(a15 w h p bb)]
noncomputable def S74 (w h p : Int) (bb : Bool) : Hp := ⟨(.n (.n .e none (.n .e (some o22) .e)) none .e), (.i (.i .h)), 2⟩
noncomputable def ks74 : List Ps := [(.o (.i .h))]
theorem s74 (w h p : Int) : cut ks74 (runF (drawF 1000000 30) En 6 (f73 w h p true) (cs73 w h p true) (S73 w h p true)) = .next (f74 w h p (ieq (128) h)) (cs74 w h p (ieq (128) h)) (S74 w h p (ieq (128) h)) := by kernel_rfl
theorem l75 (w h p : Int) : finOf (runF (drawF 1000000 30) En 19 (f74 w h p true) (cs74 w h p true) (S74 w h p true)) = some (.tup [(.int .i64 w), (.int .i64 h), (.int .i64 (0))]) := by kernel_rfl
noncomputable def a222 (w h p : Int) (bb : Bool) : AF := ⟨12, 22, ⟨⟨⟨(q220 w h p bb), ⟨⟨⟨(.bool false), xu, xu, xu⟩, z1, z1, z1⟩, ⟨⟨(.bool false), xu, xu, xu⟩, z1, z1, z1⟩, z2, z2⟩, ⟨⟨⟨(.int .i64 (3)), xu, xu, xu⟩, z1, z1, z1⟩, z2, z2, z2⟩, ⟨⟨⟨(.int .i64 (128)), xu, xu, xu⟩, z1, z1, z1⟩, z2, z2, z2⟩⟩, ⟨⟨⟨⟨(.int .i64 h), xu, xu, xu⟩, z1, z1, z1⟩, ⟨⟨(.int .i64 (128)), xu, xu, xu⟩, z1, z1, z1⟩, z2, z2⟩, ⟨z2, ⟨⟨(.int .i64 (3)), xu, xu, xu⟩, z1, z1, z1⟩, z2, z2⟩, ⟨⟨⟨(.bool true), xu, xu, xu⟩, z1, z1, z1⟩, z2, z2, z2⟩, ⟨⟨⟨(.int .i64 w), xu, xu, xu⟩, z1, z1, z1⟩, z2, z2, z2⟩⟩, ⟨⟨z2, ⟨⟨(.int .i64 h), xu, xu, xu⟩, z1, z1, z1⟩, z2, z2⟩, ⟨⟨⟨(.ptr (.i (.i .h)) 0), xu, xu, xu⟩, z1, z1, z1⟩, z2, z2, z2⟩, ⟨⟨⟨(.agg [(.int .i64 (128)), (.int .i64 (128))]), xu, xu, xu⟩, z1, z1, z1⟩, z2, z2, z2⟩, ⟨⟨⟨(.bool bb), xu, xu, xu⟩, z1, z1, z1⟩, z2, z2, z2⟩⟩, ⟨⟨z2, ⟨⟨(.bool false), xu, xu, xu⟩, z1, z1, z1⟩, z2, z2⟩, ⟨⟨⟨v11, xu, xu, xu⟩, z1, z1, z1⟩, z2, z2, z2⟩, ⟨⟨⟨(.ptr (.i (.i .h)) 0), xu, xu, xu⟩, z1, z1, z1⟩, z2, z2, z2⟩, ⟨⟨⟨(.bool bb), xu, xu, xu⟩, z1, z1, z1⟩, z2, z2, z2⟩⟩⟩, .e⟩, [rA En 12 [1, 0, 1, 0, 0, 1, 1, 0, 0, 1, 0] 5, cA En 12 [1, 0, 1, 0, 0, 1, 1, 0, 0, 1, 1], .blk 1, cA En 12 [1, 0, 1, 0, 0, 1, 1, 1], lA En 12 [1, 0, 1, 0, 0], .blk 0, cA En 12 [1, 1]], [], .run, false, false, none⟩
noncomputable def f76 (w h p : Int) (bb : Bool) : AF := (a222 w h p bb)
noncomputable def cs76 (w h p : Int) (bb : Bool) : List AF := [(a15 w h p bb)]
noncomputable def S76 (w h p : Int) (bb : Bool) : Hp := ⟨(.n (.n .e none (.n .e (some o22) .e)) none (.n .e none (.n .e (some o24) .e))), (.o (.o (.o .h))), 2⟩
noncomputable def ks76 : List Ps := [(.o (.i .h)), (.i (.i .h))]
theorem s76 (w h p : Int) : cut ks76 (runF (drawF 1000000 30) En 30 (f74 w h p false) (cs74 w h p false) (S74 w h p false)) = .next (f76 w h p (ieq (128) w)) (cs76 w h p (ieq (128) w)) (S76 w h p (ieq (128) w)) := by kernel_rfl
noncomputable def f77 (w h p : Int) (bb : Bool) : AF := (a27 w h p bb)
noncomputable def cs77 (w h p : Int) (bb : Bool) : List AF := []
noncomputable def S77 (w h p : Int) (bb : Bool) : Hp := ⟨.e, (.o (.o (.o .h))), 2⟩
noncomputable def ks77 : List Ps := []
theorem s77 (w h p : Int) : cut ks77 (runF (drawF 1000000 30) En 36 (f76 w h p false) (cs76 w h p false) (S76 w h p false)) = .next (f77 w h p (ieq p (2))) (cs77 w h p (ieq p (2))) (S77 w h p (ieq p (2))) := by kernel_rfl
noncomputable def f78 (w h p : Int) (bb : Bool) : AF := (a28 w h p bb)
noncomputable def cs78 (w h p : Int) (bb : Bool) : List AF := [(a29 w h p bb)]
noncomputable def S78 (w h p : Int) (bb : Bool) : Hp := ⟨(.n .e none (.n (.n (.n .e (some o10) .e) none .e) none .e)), (.o (.i (.o .h))), 2⟩
noncomputable def ks78 : List Ps := [(.i (.o (.o .h)))]
theorem s78 (w h p : Int) : cut ks78 (runF (drawF 1000000 30) En 52 (f77 w h p true) (cs77 w h p true) (S77 w h p true)) = .next (f78 w h p (ieq (64) h)) (cs78 w h p (ieq (64) h)) (S78 w h p (ieq (64) h)) := by kernel_rfl
noncomputable def q223 (w h p : Int) (bb : Bool) : Q (Q (Q AV)) := ⟨⟨⟨(.int .i64 h), xu, xu, xu⟩, z1, z1, z1⟩, ⟨⟨(.ptr (.i (.o (.o .h))) 1), xu, xu, xu⟩, z1, z1, z1⟩, z2, z2⟩
noncomputable def a224 (w h p : Int) (bb : Bool) : AF := ⟨12, 22, ⟨⟨⟨(q223 w h p bb), ⟨⟨⟨(.bool false), xu, xu, xu⟩, z1, z1, z1⟩, ⟨⟨(.bool bb), xu, xu, xu⟩, z1, z1, z1⟩, z2, z2⟩, ⟨⟨⟨(.int .i64 (0)), xu, xu, xu⟩, z1, z1, z1⟩, z2, z2, z2⟩, ⟨⟨⟨(.int .i64 (64)), xu, xu, xu⟩, z1, z1, z1⟩, z2, z2, z2⟩⟩, ⟨⟨⟨⟨(.int .i64 w), xu, xu, xu⟩, z1, z1, z1⟩, ⟨⟨(.int .i64 (64)), xu, xu, xu⟩, z1, z1, z1⟩, z2, z2⟩, z3, ⟨⟨⟨(.bool true), xu, xu, xu⟩, z1, z1, z1⟩, z2, z2, z2⟩, ⟨⟨⟨(.int .i64 h), xu, xu, xu⟩, z1, z1, z1⟩, z2, z2, z2⟩⟩, ⟨⟨z2, ⟨⟨(.int .i64 w), xu, xu, xu⟩, z1, z1, z1⟩, z2, z2⟩, ⟨⟨⟨(.ptr (.i (.o (.o .h))) 0), xu, xu, xu⟩, z1, z1, z1⟩, z2, z2, z2⟩, ⟨⟨⟨(.agg [(.int .i64 (64)), (.int .i64 (64))]), xu, xu, xu⟩, z1, z1, z1⟩, z2, z2, z2⟩, ⟨⟨⟨(.bool true), xu, xu, xu⟩, z1, z1, z1⟩, z2, z2, z2⟩⟩, ⟨⟨z2, ⟨⟨(.bool bb), xu, xu, xu⟩, z1, z1, z1⟩, z2, z2⟩, ⟨⟨⟨v11, xu, xu, xu⟩, z1, z1, z1⟩, z2, z2, z2⟩, ⟨⟨⟨(.ptr (.i (.o (.o .h))) 0), xu, xu, xu⟩, z1, z1, z1⟩, z2, z2, z2⟩, ⟨⟨⟨(.bool true), xu, xu, xu⟩, z1, z1, z1⟩, z2, z2, z2⟩⟩⟩, .e⟩, [cA En 12 [1, 0, 1, 0, 0, 1, 1, 0, 0, 1, 1], .blk 1, cA En 12 [1, 0, 1, 0, 0, 1, 1, 1], lA En 12 [1, 0, 1, 0, 0], .blk 0, cA En 12 [1, 1]], [], .run, false, false, none⟩
noncomputable def f79 (w h p : Int) (bb : Bool) : AF := (a224 w h p bb)
noncomputable def cs79 (w h p : Int) (bb : Bool) : List AF := [(a29 w h p bb)]
noncomputable def S79 (w h p : Int) (bb : Bool) : Hp := ⟨(.n .e none (.n (.n (.n .e (some o10) .e) none .e) none .e)), (.o (.i (.o .h))), 2⟩
noncomputable def ks79 : List Ps := [(.i (.o (.o .h)))]
theorem s79 (w h p : Int) : cut ks79 (runF (drawF 1000000 30) En 6 (f78 w h p true) (cs78 w h p true) (S78 w h p true)) = .next (f79 w h p (ieq (64) w)) (cs79 w h p (ieq (64) w)) (S79 w h p (ieq (64) w)) := by kernel_rfl
noncomputable def a225 (w h p : Int) (bb : Bool) : AF := ⟨12, 22, ⟨⟨⟨(q223 w h p bb), ⟨⟨⟨(.bool false), xu, xu, xu⟩, z1, z1, z1⟩, ⟨⟨(.bool false), xu, xu, xu⟩, z1, z1, z1⟩, z2, z2⟩, ⟨⟨⟨(.int .i64 (1)), xu, xu, xu⟩, z1, z1, z1⟩, z2, z2, z2⟩, ⟨⟨⟨(.int .i64 (64)), xu, xu, xu⟩, z1, z1, z1⟩, z2, z2, z2⟩⟩, ⟨⟨⟨⟨(.int .i64 w), xu, xu, xu⟩, z1, z1, z1⟩, ⟨⟨(.int .i64 (64)), xu, xu, xu⟩, z1, z1, z1⟩, z2, z2⟩, ⟨z2, ⟨⟨(.int .i64 (1)), xu, xu, xu⟩, z1, z1, z1⟩, z2, z2⟩, ⟨⟨⟨(.bool true), xu, xu, xu⟩, z1, z1, z1⟩, z2, z2, z2⟩, ⟨⟨⟨(.int .i64 h), xu, xu, xu⟩, z1, z1, z1⟩, z2, z2, z2⟩⟩, ⟨⟨z2, ⟨⟨(.int .i64 w), xu, xu, xu⟩, z1, z1, z1⟩, z2, z2⟩, ⟨⟨⟨(.ptr (.o (.i (.o .h))) 0), xu, xu, xu⟩, z1, z1, z1⟩, z2, z2, z2⟩, ⟨⟨⟨(.agg [(.int .i64 (64)), (.int .i64 (96))]), xu, xu, xu⟩, z1, z1, z1⟩, z2, z2, z2⟩, ⟨⟨⟨(.bool bb), xu, xu, xu⟩, z1, z1, z1⟩, z2, z2, z2⟩⟩, ⟨⟨z2, ⟨⟨(.bool false), xu, xu, xu⟩, z1, z1, z1⟩, z2, z2⟩, ⟨⟨⟨v11, xu, xu, xu⟩, z1, z1, z1⟩, z2, z2, z2⟩, ⟨⟨⟨(.ptr (.o (.i (.o .h))) 0), xu, xu, xu⟩, z1, z1, z1⟩, z2, z2, z2⟩, ⟨⟨⟨(.bool bb), xu, xu, xu⟩, z1, z1, z1⟩, z2, z2, z2⟩⟩⟩, .e⟩, [rA En 12 [1, 0, 1, 0, 0, 1, 1, 0, 0, 1, 0] 5, cA En 12 [1, 0, 1, 0, 0, 1, 1, 0, 0, 1, 1], .blk 1, cA En 12 [1, 0, 1, 0, 0, 1, 1, 1], lA En 12 [1, 0, 1, 0, 0], .blk 0, cA En 12 [1, 1]], [], .run, false, false, none⟩
noncomputable def f80 (w h p : Int) (bb : Bool) : AF := (a225 w h p bb)
noncomputable def cs80 (w h p : Int) (bb : Bool) : List AF := [(a29 w h p bb)]
noncomputable def S80 (w h p : Int) (bb : Bool) : Hp := ⟨(.n (.n .e none (.n (.n .e (some o18) .e) none .e)) none (.n (.n (.n .e (some o10) .e) none .e) none .e)), (.i (.i (.o .h))), 2⟩
noncomputable def ks80 : List Ps := [(.i (.o (.o .h))), (.o (.i (.o .h)))]
theorem s80 (w h p : Int) : cut ks80 (runF (drawF 1000000 30) En 30 (f79 w h p false) (cs79 w h p false) (S79 w h p false)) = .next (f80 w h p (ieq (64) h)) (cs80 w h p (ieq (64) h)) (S80 w h p (ieq (64) h)) := by kernel_rfl
noncomputable def q226 (w h p : Int) (bb : Bool) : Q (Q (Q AV)) := ⟨⟨⟨(.int .i64 h), xu, xu, xu⟩, z1, z1, z1⟩, ⟨⟨(.ptr (.o (.i (.o .h))) 1), xu, xu, xu⟩, z1, z1, z1⟩, z2, z2⟩
noncomputable def a227 (w h p : Int) (bb : Bool) : AF := ⟨12, 22, ⟨⟨⟨(q226 w h p bb), ⟨⟨⟨(.bool false), xu, xu, xu⟩, z1, z1, z1⟩, ⟨⟨(.bool bb), xu, xu, xu⟩, z1, z1, z1⟩, z2, z2⟩, ⟨⟨⟨(.int .i64 (1)), xu, xu, xu⟩, z1, z1, z1⟩, z2, z2, z2⟩, ⟨⟨⟨(.int .i64 (64)), xu, xu, xu⟩, z1, z1, z1⟩, z2, z2, z2⟩⟩, ⟨⟨⟨⟨(.int .i64 w), xu, xu, xu⟩, z1, z1, z1⟩, ⟨⟨(.int .i64 (96)), xu, xu, xu⟩, z1, z1, z1⟩, z2, z2⟩, ⟨z2, ⟨⟨(.int .i64 (1)), xu, xu, xu⟩, z1, z1, z1⟩, z2, z2⟩, ⟨⟨⟨(.bool true), xu, xu, xu⟩, z1, z1, z1⟩, z2, z2, z2⟩, ⟨⟨⟨(.int .i64 h), xu, xu, xu⟩, z1, z1, z1⟩, z2, z2, z2⟩⟩, ⟨⟨z2, ⟨⟨(.int .i64 w), xu, xu, xu⟩, z1, z1, z1⟩, z2, z2⟩, ⟨⟨⟨(.ptr (.o (.i (.o .h))) 0), xu, xu, xu⟩, z1, z1, z1⟩, z2, z2, z2⟩, ⟨⟨⟨(.agg [(.int .i64 (64)), (.int .i64 (96))]), xu, xu, xu⟩, z1, z1, z1⟩, z2, z2, z2⟩, ⟨⟨⟨(.bool true), xu, xu, xu⟩, z1, z1, z1⟩, z2, z2, z2⟩⟩, ⟨⟨z2, ⟨⟨(.bool bb), xu, xu, xu⟩, z1, z1, z1⟩, z2, z2⟩, ⟨⟨⟨v11, xu, xu, xu⟩, z1, z1, z1⟩, z2, z2, z2⟩, ⟨⟨⟨(.ptr (.o (.i (.o .h))) 0), xu, xu, xu⟩, z1, z1, z1⟩, z2, z2, z2⟩, ⟨⟨⟨(.bool true), xu, xu, xu⟩, z1, z1, z1⟩, z2, z2, z2⟩⟩⟩, .e⟩, [cA En 12 [1, 0, 1, 0, 0, 1, 1, 0, 0, 1, 1], .blk 1, cA En 12 [1, 0, 1, 0, 0, 1, 1, 1], lA En 12 [1, 0, 1, 0, 0], .blk 0, cA En 12 [1, 1]], [], .run, false, false, none⟩
noncomputable def f81 (w h p : Int) (bb : Bool) : AF := (a227 w h p bb)
noncomputable def cs81 (w h p : Int) (bb : Bool) : List AF := [(a29 w h p bb)]
noncomputable def S81 (w h p : Int) (bb : Bool) : Hp := ⟨(.n (.n .e none (.n (.n .e (some o18) .e) none .e)) none .e), (.i (.i (.o .h))), 2⟩
noncomputable def ks81 : List Ps := [(.o (.i (.o .h)))]
theorem s81 (w h p : Int) : cut ks81 (runF (drawF 1000000 30) En 6 (f80 w h p true) (cs80 w h p true) (S80 w h p true)) = .next (f81 w h p (ieq (96) w)) (cs81 w h p (ieq (96) w)) (S81 w h p (ieq (96) w)) := by kernel_rfl
theorem l82 (w h p : Int) : finOf (runF (drawF 1000000 30) En 20 (f81 w h p true) (cs81 w h p true) (S81 w h p true)) = some (.tup [(.int .i64 h), (.int .i64 w), (.int .i64 (0))]) := by kernel_rfl
noncomputable def f83 (w h p : Int) (bb : Bool) : AF := (a30 w h p bb)
noncomputable def cs83 (w h p : Int) (bb : Bool) : List AF := [(a29 w h p bb)]
noncomputable def S83 (w h p : Int) (bb : Bool) : Hp := ⟨(.n (.n .e none (.n (.n .e (some o18) .e) none .e)) none .e), (.i (.i (.o .h))), 2⟩
noncomputable def ks83 : List Ps := [(.o (.i (.o .h)))]
theorem s83 (w h p : Int) : cut ks83 (runF (drawF 1000000 30) En 36 (f78 w h p false) (cs78 w h p false) (S78 w h p false)) = .next (f83 w h p (ieq (64) h)) (cs83 w h p (ieq (64) h)) (S83 w h p (ieq (64) h)) := by kernel_rfl
noncomputable def f84 (w h p : Int) (bb : Bool) : AF := (a31 w h p bb)
noncomputable def cs84 (w h p : Int) (bb : Bool) : List AF := [(a29 w h p bb)]
noncomputable def S84 (w h p : Int) (bb : Bool) : Hp := ⟨(.n .e none (.n .e none (.n (.n .e (some o22) .e) none .e))), (.o (.o (.i .h))), 2⟩
noncomputable def ks84 : List Ps := [(.i (.i (.o .h)))]
theorem s84 (w h p : Int) : cut ks84 (runF (drawF 1000000 30) En 36 (f83 w h p false) (cs83 w h p false) (S83 w h p false)) = .next (f84 w h p (ieq (96) h)) (cs84 w h p (ieq (96) h)) (S84 w h p (ieq (96) h)) := by kernel_rfl
noncomputable def q228 (w h p : Int) (bb : Bool) : Q (Q (Q AV)) := ⟨⟨⟨(.int .i64 h), xu, xu, xu⟩, z1, z1, z1⟩, ⟨⟨(.ptr (.i (.i (.o .h))) 1), xu, xu, xu⟩, z1, z1, z1⟩, z2, z2⟩
noncomputable def a229 (w h p : Int) (bb : Bool) : AF := ⟨12, 22, ⟨⟨⟨(q228 w h p bb), ⟨⟨⟨(.bool false), xu, xu, xu⟩, z1, z1, z1⟩, ⟨⟨(.bool bb), xu, xu, xu⟩, z1, z1, z1⟩, z2, z2⟩, ⟨⟨⟨(.int .i64 (2)), xu, xu, xu⟩, z1, z1, z1⟩, z2, z2, z2⟩, ⟨⟨⟨(.int .i64 (96)), xu, xu, xu⟩, z1, z1, z1⟩, z2, z2, z2⟩⟩, ⟨⟨⟨⟨(.int .i64 w), xu, xu, xu⟩, z1, z1, z1⟩, ⟨⟨(.int .i64 (128)), xu, xu, xu⟩, z1, z1, z1⟩, z2, z2⟩, ⟨z2, ⟨⟨(.int .i64 (2)), xu, xu, xu⟩, z1, z1, z1⟩, z2, z2⟩, ⟨⟨⟨(.bool true), xu, xu, xu⟩, z1, z1, z1⟩, z2, z2, z2⟩, ⟨⟨⟨(.int .i64 h), xu, xu, xu⟩, z1, z1, z1⟩, z2, z2, z2⟩⟩, ⟨⟨z2, ⟨⟨(.int .i64 w), xu, xu, xu⟩, z1, z1, z1⟩, z2, z2⟩, ⟨⟨⟨(.ptr (.i (.i (.o .h))) 0), xu, xu, xu⟩, z1, z1, z1⟩, z2, z2, z2⟩, ⟨⟨⟨(.agg [(.int .i64 (96)), (.int .i64 (128))]), xu, xu, xu⟩, z1, z1, z1⟩, z2, z2, z2⟩, ⟨⟨⟨(.bool true), xu, xu, xu⟩, z1, z1, z1⟩, z2, z2, z2⟩⟩, ⟨⟨z2, ⟨⟨(.bool bb), xu, xu, xu⟩, z1, z1, z1⟩, z2, z2⟩, ⟨⟨⟨v11, xu, xu, xu⟩, z1, z1, z1⟩, z2, z2, z2⟩, ⟨⟨⟨(.ptr (.i (.i (.o .h))) 0), xu, xu, xu⟩, z1, z1, z1⟩, z2, z2, z2⟩, ⟨⟨⟨(.bool true), xu, xu, xu⟩, z1, z1, z1⟩, z2, z2, z2⟩⟩⟩, .e⟩, [cA En 12 [1, 0, 1, 0, 0, 1, 1, 0, 0, 1, 1], .blk 1, cA En 12 [1, 0, 1, 0, 0, 1, 1, 1], lA En 12 [1, 0, 1, 0, 0], .blk 0, cA En 12 [1, 1]], [], .run, false, false, none⟩
noncomputable def f85 (w h p : Int) (bb : Bool) : AF := (a229 w h p bb)
noncomputable def cs85 (w h p : Int) (bb : Bool) : List AF := [(a29 w h p bb)]
noncomputable def S85 (w h p : Int) (bb : Bool) : Hp := ⟨(.n .e none (.n .e none (.n (.n .e (some o22) .e) none .e))), (.o (.o (.i .h))), 2⟩
noncomputable def ks85 : List Ps := [(.i (.i (.o .h)))]
theorem s85 (w h p : Int) : cut ks85 (runF (drawF 1000000 30) En 6 (f84 w h p true) (cs84 w h p true) (S84 w h p true)) = .next (f85 w h p (ieq (128) w)) (cs85 w h p (ieq (128) w)) (S85 w h p (ieq (128) w)) := by kernel_rfl
noncomputable def a230 (w h p : Int) (bb : Bool) : AF := ⟨12, 22, ⟨⟨⟨(q228 w h p bb), ⟨⟨⟨(.bool false), xu, xu, xu⟩, z1, z1, z1⟩, ⟨⟨(.bool false), xu, xu, xu⟩, z1, z1, z1⟩, z2, z2⟩, ⟨⟨⟨(.int .i64 (3)), xu, xu, xu⟩, z1, z1, z1⟩, z2, z2, z2⟩, ⟨⟨⟨(.int .i64 (128)), xu, xu, xu⟩, z1, z1, z1⟩, z2, z2, z2⟩⟩, ⟨⟨⟨⟨(.int .i64 w), xu, xu, xu⟩, z1, z1, z1⟩, ⟨⟨(.int .i64 (128)), xu, xu, xu⟩, z1, z1, z1⟩, z2, z2⟩, ⟨z2, ⟨⟨(.int .i64 (3)), xu, xu, xu⟩, z1, z1, z1⟩, z2, z2⟩, ⟨⟨⟨(.bool true), xu, xu, xu⟩, z1, z1, z1⟩, z2, z2, z2⟩, ⟨⟨⟨(.int .i64 h), xu, xu, xu⟩, z1, z1, z1⟩, z2, z2, z2⟩⟩, ⟨⟨z2, ⟨⟨(.int .i64 w), xu, xu, xu⟩, z1, z1, z1⟩, z2, z2⟩, ⟨⟨⟨(.ptr (.o (.o (.i .h))) 0), xu, xu, xu⟩, z1, z1, z1⟩, z2, z2, z2⟩, ⟨⟨⟨(.agg [(.int .i64 (128)), (.int .i64 (128))]), xu, xu, xu⟩, z1, z1, z1⟩, z2, z2, z2⟩, ⟨⟨⟨(.bool bb), xu, xu, xu⟩, z1, z1, z1⟩, z2, z2, z2⟩⟩, ⟨⟨z2, ⟨⟨(.bool false), xu, xu, xu⟩, z1, z1, z1⟩, z2, z2⟩, ⟨⟨⟨v11, xu, xu, xu⟩, z1, z1, z1⟩, z2, z2, z2⟩, ⟨⟨⟨(.ptr (.o (.o (.i .h))) 0), xu, xu, xu⟩, z1, z1, z1⟩, z2, z2, z2⟩, ⟨⟨⟨(.bool bb), xu, xu, xu⟩, z1, z1, z1⟩, z2, z2, z2⟩⟩⟩, .e⟩, [rA En 12 [1, 0, 1, 0, 0, 1, 1, 0, 0, 1, 0] 5, cA En 12 [1, 0, 1, 0, 0, 1, 1, 0, 0, 1, 1], .blk 1, cA En 12 [1, 0, 1, 0, 0, 1, 1, 1], lA En 12 [1, 0, 1, 0, 0], .blk 0, cA En 12 [1, 1]], [], .run, false, false, none⟩
noncomputable def f86 (w h p : Int) (bb : Bool) : AF := (a230 w h p bb)
noncomputable def cs86 (w h p : Int) (bb : Bool) : List AF := [(a29 w h p bb)]
noncomputable def S86 (w h p : Int) (bb : Bool) : Hp := ⟨(.n (.n (.n .e none (.n .e (some o24) .e)) none .e) none (.n .e none (.n (.n .e (some o22) .e) none .e))), (.i (.o (.i .h))), 2⟩
noncomputable def ks86 : List Ps := [(.i (.i (.o .h))), (.o (.o (.i .h)))]
theorem s86 (w h p : Int) : cut ks86 (runF (drawF 1000000 30) En 30 (f85 w h p false) (cs85 w h p false) (S85 w h p false)) = .next (f86 w h p (ieq (128) h)) (cs86 w h p (ieq (128) h)) (S86 w h p (ieq (128) h)) := by kernel_rfl
noncomputable def f87 (w h p : Int) (bb : Bool) : AF := (a45 w h p bb)
noncomputable def cs87 (w h p : Int) (bb : Bool) : List AF := []
noncomputable def S87 (w h p : Int) (bb : Bool) : Hp := ⟨(.n (.n .e none (.n .e none (.n .e (some o10) .e))) none .e), (.i (.i (.i .h))), 2⟩
noncomputable def ks87 : List Ps := [(.o (.i (.i .h)))]
theorem s87 (w h p : Int) : cut ks87 (runF (drawF 1000000 30) En 79 (f86 w h p false) (cs86 w h p false) (S86 w h p false)) = .next (f87 w h p (ieq p (1))) (cs87 w h p (ieq p (1))) (S87 w h p (ieq p (1))) := by kernel_rfl
noncomputable def f88 (w h p : Int) (bb : Bool) : AF := (a53 w h p bb)
noncomputable def cs88 (w h p : Int) (bb : Bool) : List AF := []
noncomputable def S88 (w h p : Int) (bb : Bool) : Hp := ⟨(.n .e none (.n .e none (.n .e none (.n .e (some o18) .e)))), (.o (.o (.o (.o .h)))), 2⟩
noncomputable def ks88 : List Ps := [(.i (.i (.i .h)))]
theorem s88 (w h p : Int) : cut ks88 (runF (drawF 1000000 30) En 55 (f87 w h p false) (cs87 w h p false) (S87 w h p false)) = .next (f88 w h p (ieq p (1))) (cs88 w h p (ieq p (1))) (S88 w h p (ieq p (1))) := by kernel_rfl
noncomputable def f89 (w h p : Int) (bb : Bool) : AF := (a58 w h p bb)
noncomputable def cs89 (w h p : Int) (bb : Bool) : List AF := []
noncomputable def S89 (w h p : Int) (bb : Bool) : Hp := ⟨(.n (.n (.n (.n (.n .e (some o22) .e) none .e) none .e) none .e) none .e), (.i (.o (.o (.o .h)))), 2⟩
noncomputable def ks89 : List Ps := [(.o (.o (.o (.o .h))))]
theorem s89 (w h p : Int) : cut ks89 (runF (drawF 1000000 30) En 55 (f88 w h p false) (cs88 w h p false) (S88 w h p false)) = .next (f89 w h p (ieq p (1))) (cs89 w h p (ieq p (1))) (S89 w h p (ieq p (1))) := by kernel_rfl
noncomputable def f90 (w h p : Int) (bb : Bool) : AF := (a63 w h p bb)
noncomputable def cs90 (w h p : Int) (bb : Bool) : List AF := []
noncomputable def S90 (w h p : Int) (bb : Bool) : Hp := ⟨(.n .e none (.n (.n (.n (.n .e (some o24) .e) none .e) none .e) none .e)), (.o (.i (.o (.o .h)))), 2⟩
noncomputable def ks90 : List Ps := [(.i (.o (.o (.o .h))))]
theorem s90 (w h p : Int) : cut ks90 (runF (drawF 1000000 30) En 55 (f89 w h p false) (cs89 w h p false) (S89 w h p false)) = .next (f90 w h p (ieq p (1))) (cs90 w h p (ieq p (1))) (S90 w h p (ieq p (1))) := by kernel_rfl
theorem l91 (w h p : Int) : finOf (runF (drawF 1000000 30) En 57 (f90 w h p false) (cs90 w h p false) (S90 w h p false)) = some (.tup [(.int .i64 (0)), (.int .i64 (0)), (.int .i64 (41))]) := by kernel_rfl
noncomputable def f92 (w h p : Int) (bb : Bool) : AF := (a32 w h p bb)
noncomputable def cs92 (w h p : Int) (bb : Bool) : List AF := [(a29 w h p bb)]
noncomputable def S92 (w h p : Int) (bb : Bool) : Hp := ⟨(.n (.n (.n .e none (.n .e (some o24) .e)) none .e) none .e), (.i (.o (.i .h))), 2⟩
noncomputable def ks92 : List Ps := [(.o (.o (.i .h)))]
theorem s92 (w h p : Int) : cut ks92 (runF (drawF 1000000 30) En 36 (f84 w h p false) (cs84 w h p false) (S84 w h p false)) = .next (f92 w h p (ieq (128) h)) (cs92 w h p (ieq (128) h)) (S92 w h p (ieq (128) h)) := by kernel_rfl
noncomputable def f93 (w h p : Int) (bb : Bool) : AF := (a45 w h p bb)
noncomputable def cs93 (w h p : Int) (bb : Bool) : List AF := []
noncomputable def S93 (w h p : Int) (bb : Bool) : Hp := ⟨(.n (.n .e none (.n .e none (.n .e (some o10) .e))) none .e), (.i (.i (.i .h))), 2⟩
noncomputable def ks93 : List Ps := [(.o (.i (.i .h)))]
theorem s93 (w h p : Int) : cut ks93 (runF (drawF 1000000 30) En 79 (f92 w h p false) (cs92 w h p false) (S92 w h p false)) = .next (f93 w h p (ieq p (1))) (cs93 w h p (ieq p (1))) (S93 w h p (ieq p (1))) := by kernel_rfl
noncomputable def f94 (w h p : Int) (bb : Bool) : AF := (a53 w h p bb)
noncomputable def cs94 (w h p : Int) (bb : Bool) : List AF := []
noncomputable def S94 (w h p : Int) (bb : Bool) : Hp := ⟨(.n .e none (.n .e none (.n .e none (.n .e (some o18) .e)))), (.o (.o (.o (.o .h)))), 2⟩
noncomputable def ks94 : List Ps := [(.i (.i (.i .h)))]
theorem s94 (w h p : Int) : cut ks94 (runF (drawF 1000000 30) En 55 (f93 w h p false) (cs93 w h p false) (S93 w h p false)) = .next (f94 w h p (ieq p (1))) (cs94 w h p (ieq p (1))) (S94 w h p (ieq p (1))) := by kernel_rfl
noncomputable def f95 (w h p : Int) (bb : Bool) : AF := (a58 w h p bb)
noncomputable def cs95 (w h p : Int) (bb : Bool) : List AF := []
noncomputable def S95 (w h p : Int) (bb : Bool) : Hp := ⟨(.n (.n (.n (.n (.n .e (some o22) .e) none .e) none .e) none .e) none .e), (.i (.o (.o (.o .h)))), 2⟩
noncomputable def ks95 : List Ps := [(.o (.o (.o (.o .h))))]
theorem s95 (w h p : Int) : cut ks95 (runF (drawF 1000000 30) En 55 (f94 w h p false) (cs94 w h p false) (S94 w h p false)) = .next (f95 w h p (ieq p (1))) (cs95 w h p (ieq p (1))) (S95 w h p (ieq p (1))) := by kernel_rfl
noncomputable def f96 (w h p : Int) (bb : Bool) : AF := (a63 w h p bb)
noncomputable def cs96 (w h p : Int) (bb : Bool) : List AF := []
noncomputable def S96 (w h p : Int) (bb : Bool) : Hp := ⟨(.n .e none (.n (.n (.n (.n .e (some o24) .e) none .e) none .e) none .e)), (.o (.i (.o (.o .h)))), 2⟩
noncomputable def ks96 : List Ps := [(.i (.o (.o (.o .h))))]
theorem s96 (w h p : Int) : cut ks96 (runF (drawF 1000000 30) En 55 (f95 w h p false) (cs95 w h p false) (S95 w h p false)) = .next (f96 w h p (ieq p (1))) (cs96 w h p (ieq p (1))) (S96 w h p (ieq p (1))) := by kernel_rfl
theorem l97 (w h p : Int) : finOf (runF (drawF 1000000 30) En 57 (f96 w h p false) (cs96 w h p false) (S96 w h p false)) = some (.tup [(.int .i64 (0)), (.int .i64 (0)), (.int .i64 (41))]) := by kernel_rfl
noncomputable def f98 (w h p : Int) (bb : Bool) : AF := (a66 w h p bb)
noncomputable def cs98 (w h p : Int) (bb : Bool) : List AF := []
noncomputable def S98 (w h p : Int) (bb : Bool) : Hp := ⟨(.n .e none (.n (.n (.n .e (some o10) .e) none .e) none .e)), (.o (.i (.o .h))), 2⟩
noncomputable def ks98 : List Ps := [(.i (.o (.o .h)))]
theorem s98 (w h p : Int) : cut ks98 (runF (drawF 1000000 30) En 55 (f77 w h p false) (cs77 w h p false) (S77 w h p false)) = .next (f98 w h p (ieq p (1))) (cs98 w h p (ieq p (1))) (S98 w h p (ieq p (1))) := by kernel_rfl
noncomputable def f99 (w h p : Int) (bb : Bool) : AF := (a73 w h p bb)
noncomputable def cs99 (w h p : Int) (bb : Bool) : List AF := []
noncomputable def S99 (w h p : Int) (bb : Bool) : Hp := ⟨(.n .e none (.n (.n (.n .e (some o10) .e) none .e) none .e)), (.o (.i (.o .h))), 2⟩
noncomputable def ks99 : List Ps := [(.i (.o (.o .h)))]
theorem s99 (w h p : Int) : cut ks99 (runF (drawF 1000000 30) En 6 (f98 w h p true) (cs98 w h p true) (S98 w h p true)) = .next (f99 w h p (ile w (64))) (cs99 w h p (ile w (64))) (S99 w h p (ile w (64))) := by kernel_rfl
noncomputable def a231 (w h p : Int) (bb : Bool) : AF := ⟨6, 91, ⟨⟨⟨(q6 w h p bb), (q46 w h p bb), (q67 w h p bb), (q211 w h p bb)⟩, ⟨(q48 w h p bb), (q38 w h p bb), q69, (q212 w h p bb)⟩, ⟨(q50 w h p bb), (q51 w h p bb), (q72 w h p bb), q43⟩, ⟨(q52 w h p bb), (q42 w h p bb), ⟨z2, ⟨⟨(.bool false), xu, xu, xu⟩, z1, z1, z1⟩, z2, ⟨⟨(.bool false), xu, xu, xu⟩, z1, z1, z1⟩⟩, ⟨⟨⟨(.bool false), xu, xu, xu⟩, z1, z1, z1⟩, ⟨⟨(.bool false), xu, xu, xu⟩, z1, z1, z1⟩, z2, z2⟩⟩⟩, .e⟩, [rA En 6 [1, 1, 1, 1, 1, 0, 1, 0, 0, 1, 1, 0, 0, 1, 0] 3, cA En 6 [1, 1, 1, 1, 1, 0, 1, 0, 0, 1, 1, 0, 0, 1, 1], .blk 1, cA En 6 [1, 1, 1, 1, 1, 0, 1, 0, 0, 1, 1, 1], lA En 6 [1, 1, 1, 1, 1, 0, 1, 0, 0], .blk 0, cA En 6 [1, 1, 1, 1, 1, 1]], [], .run, false, false, none⟩
noncomputable def f100 (w h p : Int) (bb : Bool) : AF := (a231 w h p bb)
noncomputable def cs100 (w h p : Int) (bb : Bool) : List AF := []
noncomputable def S100 (w h p : Int) (bb : Bool) : Hp := ⟨(.n (.n .e none (.n (.n .e (some o18) .e) none .e)) none (.n (.n (.n .e (some o10) .e) none .e) none .e)), (.i (.i (.o .h))), 2⟩
noncomputable def ks100 : List Ps := [(.i (.o (.o .h))), (.o (.i (.o .h)))]
theorem s100 (w h p : Int) : cut ks100 (runF (drawF 1000000 30) En 49 (f99 w h p false) (cs99 w h p false) (S99 w h p false)) = .next (f100 w h p (ieq p (1))) (cs100 w h p (ieq p (1))) (S100 w h p (ieq p (1))) := by kernel_rfl
noncomputable def a232 (w h p : Int) (bb : Bool) : AF := ⟨6, 91, ⟨⟨⟨(q6 w h p bb), (q46 w h p bb), (q94 w h p bb), (q95 w h p bb)⟩, ⟨(q48 w h p bb), (q38 w h p bb), q69, (q70 w h p bb)⟩, ⟨(q50 w h p bb), q155, (q72 w h p bb), q43⟩, ⟨(q52 w h p bb), q71, ⟨z2, ⟨⟨(.bool false), xu, xu, xu⟩, z1, z1, z1⟩, z2, ⟨⟨(.bool bb), xu, xu, xu⟩, z1, z1, z1⟩⟩, ⟨⟨⟨(.bool false), xu, xu, xu⟩, z1, z1, z1⟩, ⟨⟨(.bool false), xu, xu, xu⟩, z1, z1, z1⟩, z2, z2⟩⟩⟩, .e⟩, [rA En 6 [1, 1, 1, 1, 1, 0, 1, 0, 0, 1, 1, 0, 0, 1, 0] 9, cA En 6 [1, 1, 1, 1, 1, 0, 1, 0, 0, 1, 1, 0, 0, 1, 1], .blk 1, cA En 6 [1, 1, 1, 1, 1, 0, 1, 0, 0, 1, 1, 1], lA En 6 [1, 1, 1, 1, 1, 0, 1, 0, 0], .blk 0, cA En 6 [1, 1, 1, 1, 1, 1]], [], .run, false, false, none⟩
noncomputable def f101 (w h p : Int) (bb : Bool) : AF := (a232 w h p bb)
noncomputable def cs101 (w h p : Int) (bb : Bool) : List AF := []
noncomputable def S101 (w h p : Int) (bb : Bool) : Hp := ⟨(.n (.n .e none (.n (.n .e (some o18) .e) none .e)) none .e), (.i (.i (.o .h))), 2⟩
noncomputable def ks101 : List Ps := [(.o (.i (.o .h)))]
theorem s101 (w h p : Int) : cut ks101 (runF (drawF 1000000 30) En 6 (f100 w h p true) (cs100 w h p true) (S100 w h p true)) = .next (f101 w h p (ile w (64))) (cs101 w h p (ile w (64))) (S101 w h p (ile w (64))) := by kernel_rfl
noncomputable def a233 (w h p : Int) (bb : Bool) : AF := ⟨6, 91, ⟨⟨⟨(q6 w h p bb), (q54 w h p bb), (q94 w h p bb), (q214 w h p bb)⟩, ⟨(q48 w h p bb), (q38 w h p bb), q69, (q212 w h p bb)⟩, ⟨(q56 w h p bb), (q57 w h p bb), (q72 w h p bb), q43⟩, ⟨(q52 w h p bb), (q42 w h p bb), ⟨z2, ⟨⟨(.bool false), xu, xu, xu⟩, z1, z1, z1⟩, z2, ⟨⟨(.bool false), xu, xu, xu⟩, z1, z1, z1⟩⟩, ⟨⟨⟨(.bool false), xu, xu, xu⟩, z1, z1, z1⟩, ⟨⟨(.bool false), xu, xu, xu⟩, z1, z1, z1⟩, z2, z2⟩⟩⟩, .e⟩, [rA En 6 [1, 1, 1, 1, 1, 0, 1, 0, 0, 1, 1, 0, 0, 1, 0] 3, cA En 6 [1, 1, 1, 1, 1, 0, 1, 0, 0, 1, 1, 0, 0, 1, 1], .blk 1, cA En 6 [1, 1, 1, 1, 1, 0, 1, 0, 0, 1, 1, 1], lA En 6 [1, 1, 1, 1, 1, 0, 1, 0, 0], .blk 0, cA En 6 [1, 1, 1, 1, 1, 1]], [], .run, false, false, none⟩
noncomputable def f102 (w h p : Int) (bb : Bool) : AF := (a233 w h p bb)
noncomputable def cs102 (w h p : Int) (bb : Bool) : List AF := []
noncomputable def S102 (w h p : Int) (bb : Bool) : Hp := ⟨(.n (.n .e none (.n (.n .e (some o18) .e) none .e)) none (.n .e none (.n (.n .e (some o22) .e) none .e))), (.o (.o (.i .h))), 2⟩
noncomputable def ks102 : List Ps := [(.o (.i (.o .h))), (.i (.i (.o .h)))]
theorem s102 (w h p : Int) : cut ks102 (runF (drawF 1000000 30) En 49 (f101 w h p false) (cs101 w h p false) (S101 w h p false)) = .next (f102 w h p (ieq p (1))) (cs102 w h p (ieq p (1))) (S102 w h p (ieq p (1))) := by kernel_rfl
noncomputable def a234 (w h p : Int) (bb : Bool) : AF := ⟨6, 91, ⟨⟨⟨(q6 w h p bb), (q54 w h p bb), (q166 w h p bb), (q167 w h p bb)⟩, ⟨(q48 w h p bb), (q38 w h p bb), q188, (q70 w h p bb)⟩, ⟨(q56 w h p bb), q189, (q72 w h p bb), q43⟩, ⟨(q52 w h p bb), q71, ⟨z2, ⟨⟨(.bool false), xu, xu, xu⟩, z1, z1, z1⟩, z2, ⟨⟨(.bool bb), xu, xu, xu⟩, z1, z1, z1⟩⟩, ⟨⟨⟨(.bool false), xu, xu, xu⟩, z1, z1, z1⟩, ⟨⟨(.bool false), xu, xu, xu⟩, z1, z1, z1⟩, z2, z2⟩⟩⟩, .e⟩, [rA En 6 [1, 1, 1, 1, 1, 0, 1, 0, 0, 1, 1, 0, 0, 1, 0] 9, cA En 6 [1, 1, 1, 1, 1, 0, 1, 0, 0, 1, 1, 0, 0, 1, 1], .blk 1, cA En 6 [1, 1, 1, 1, 1, 0, 1, 0, 0, 1, 1, 1], lA En 6 [1, 1, 1, 1, 1, 0, 1, 0, 0], .blk 0, cA En 6 [1, 1, 1, 1, 1, 1]], [], .run, false, false, none⟩
noncomputable def f103 (w h p : Int) (bb : Bool) : AF := (a234 w h p bb)
noncomputable def cs103 (w h p : Int) (bb : Bool) : List AF := []
noncomputable def S103 (w h p : Int) (bb : Bool) : Hp := ⟨(.n .e none (.n .e none (.n (.n .e (some o22) .e) none .e))), (.o (.o (.i .h))), 2⟩
noncomputable def ks103 : List Ps := [(.i (.i (.o .h)))]
theorem s103 (w h p : Int) : cut ks103 (runF (drawF 1000000 30) En 6 (f102 w h p true) (cs102 w h p true) (S102 w h p true)) = .next (f103 w h p (ile w (96))) (cs103 w h p (ile w (96))) (S103 w h p (ile w (96))) := by kernel_rfl
noncomputable def f104 (w h p : Int) (bb : Bool) : AF := (a192 w h p bb)
noncomputable def cs104 (w h p : Int) (bb : Bool) : List AF := []
noncomputable def S104 (w h p : Int) (bb : Bool) : Hp := ⟨(.n .e none (.n .e none (.n (.n .e (some o22) .e) none .e))), (.o (.o (.i .h))), 2⟩
noncomputable def ks104 : List Ps := [(.i (.i (.o .h)))]
theorem s104 (w h p : Int) : cut ks104 (runF (drawF 1000000 30) En 6 (f103 w h p true) (cs103 w h p true) (S103 w h p true)) = .next (f104 w h p (ile h (128))) (cs104 w h p (ile h (128))) (S104 w h p (ile h (128))) := by kernel_rfl
noncomputable def f105 (w h p : Int) (bb : Bool) : AF := (a201 w h p bb)
noncomputable def cs105 (w h p : Int) (bb : Bool) : List AF := []
noncomputable def S105 (w h p : Int) (bb : Bool) : Hp := ⟨(.n (.n (.n .e none (.n .e (some o24) .e)) none .e) none (.n .e none (.n (.n .e (some o22) .e) none .e))), (.i (.o (.i .h))), 2⟩
noncomputable def ks105 : List Ps := [(.i (.i (.o .h))), (.o (.o (.i .h)))]
theorem s105 (w h p : Int) : cut ks105 (runF (drawF 1000000 30) En 43 (f104 w h p true) (cs104 w h p true) (S104 w h p true)) = .next (f105 w h p (ieq p (1))) (cs105 w h p (ieq p (1))) (S105 w h p (ieq p (1))) := by kernel_rfl
noncomputable def f106 (w h p : Int) (bb : Bool) : AF := (a206 w h p bb)
noncomputable def cs106 (w h p : Int) (bb : Bool) : List AF := []
noncomputable def S106 (w h p : Int) (bb : Bool) : Hp := ⟨(.n (.n (.n .e none (.n .e (some o24) .e)) none .e) none (.n .e none (.n (.n .e (some o22) .e) none .e))), (.i (.o (.i .h))), 2⟩
noncomputable def ks106 : List Ps := [(.i (.i (.o .h))), (.o (.o (.i .h)))]
theorem s106 (w h p : Int) : cut ks106 (runF (drawF 1000000 30) En 6 (f105 w h p true) (cs105 w h p true) (S105 w h p true)) = .next (f106 w h p (ile w (128))) (cs106 w h p (ile w (128))) (S106 w h p (ile w (128))) := by kernel_rfl
noncomputable def f107 (w h p : Int) (bb : Bool) : AF := (a210 w h p bb)
noncomputable def cs107 (w h p : Int) (bb : Bool) : List AF := []
noncomputable def S107 (w h p : Int) (bb : Bool) : Hp := ⟨(.n (.n (.n .e none (.n .e (some o24) .e)) none .e) none (.n .e none (.n (.n .e (some o22) .e) none .e))), (.i (.o (.i .h))), 2⟩
noncomputable def ks107 : List Ps := [(.i (.i (.o .h))), (.o (.o (.i .h)))]
theorem s107 (w h p : Int) : cut ks107 (runF (drawF 1000000 30) En 6 (f106 w h p true) (cs106 w h p true) (S106 w h p true)) = .next (f107 w h p (ile h (128))) (cs107 w h p (ile h (128))) (S107 w h p (ile h (128))) := by kernel_rfl
theorem l108 (w h p : Int) : finOf (runF (drawF 1000000 30) En 48 (f107 w h p true) (cs107 w h p true) (S107 w h p true)) = some (.tup [(.int .i64 (96)), (.int .i64 (128)), (.int .i64 (0))]) := by kernel_rfl
noncomputable def f109 (w h p : Int) (bb : Bool) : AF := (a213 w h p bb)
noncomputable def cs109 (w h p : Int) (bb : Bool) : List AF := []
noncomputable def S109 (w h p : Int) (bb : Bool) : Hp := ⟨(.n (.n .e none (.n (.n .e (some o18) .e) none .e)) none .e), (.i (.i (.o .h))), 2⟩
noncomputable def ks109 : List Ps := [(.o (.i (.o .h)))]
theorem s109 (w h p : Int) : cut ks109 (runF (drawF 1000000 30) En 55 (f98 w h p false) (cs98 w h p false) (S98 w h p false)) = .next (f109 w h p (ieq p (1))) (cs109 w h p (ieq p (1))) (S109 w h p (ieq p (1))) := by kernel_rfl
noncomputable def f110 (w h p : Int) (bb : Bool) : AF := (a215 w h p bb)
noncomputable def cs110 (w h p : Int) (bb : Bool) : List AF := []
noncomputable def S110 (w h p : Int) (bb : Bool) : Hp := ⟨(.n .e none (.n .e none (.n (.n .e (some o22) .e) none .e))), (.o (.o (.i .h))), 2⟩
noncomputable def ks110 : List Ps := [(.i (.i (.o .h)))]
theorem s110 (w h p : Int) : cut ks110 (runF (drawF 1000000 30) En 55 (f109 w h p false) (cs109 w h p false) (S109 w h p false)) = .next (f110 w h p (ieq p (1))) (cs110 w h p (ieq p (1))) (S110 w h p (ieq p (1))) := by kernel_rfl
noncomputable def f111 (w h p : Int) (bb : Bool) : AF := (a217 w h p bb)
noncomputable def cs111 (w h p : Int) (bb : Bool) : List AF := []
noncomputable def S111 (w h p : Int) (bb : Bool) : Hp := ⟨(.n (.n (.n .e none (.n .e (some o24) .e)) none .e) none .e), (.i (.o (.i .h))), 2⟩
noncomputable def ks111 : List Ps := [(.o (.o (.i .h)))]
theorem s111 (w h p : Int) : cut ks111 (runF (drawF 1000000 30) En 55 (f110 w h p false) (cs110 w h p false) (S110 w h p false)) = .next (f111 w h p (ieq p (1))) (cs111 w h p (ieq p (1))) (S111 w h p (ieq p (1))) := by kernel_rfl
theorem l112 (w h p : Int) : finOf (runF (drawF 1000000 30) En 57 (f111 w h p false) (cs111 w h p false) (S111 w h p false)) = some (.tup [(.int .i64 (0)), (.int .i64 (0)), (.int .i64 (41))]) := by kernel_rfl
noncomputable def f113 (w h p : Int) (bb : Bool) : AF := (a25 w h p bb)
noncomputable def cs113 (w h p : Int) (bb : Bool) : List AF := [(a15 w h p bb)]
noncomputable def S113 (w h p : Int) (bb : Bool) : Hp := ⟨(.n .e none (.n .e none (.n .e (some o24) .e))), (.o (.o (.o .h))), 2⟩
noncomputable def ks113 : List Ps := [(.i (.i .h))]
theorem s113 (w h p : Int) : cut ks113 (runF (drawF 1000000 30) En 36 (f73 w h p false) (cs73 w h p false) (S73 w h p false)) = .next (f113 w h p (ieq (128) w)) (cs113 w h p (ieq (128) w)) (S113 w h p (ieq (128) w)) := by kernel_rfl
noncomputable def q235 (w h p : Int) (bb : Bool) : Q (Q (Q AV)) := ⟨⟨⟨(.int .i64 w), xu, xu, xu⟩, z1, z1, z1⟩, ⟨⟨(.ptr (.i (.i .h)) 1), xu, xu, xu⟩, z1, z1, z1⟩, z2, z2⟩
noncomputable def a236 (w h p : Int) (bb : Bool) : AF := ⟨12, 22, ⟨⟨⟨(q235 w h p bb), ⟨⟨⟨(.bool false), xu, xu, xu⟩, z1, z1, z1⟩, ⟨⟨(.bool bb), xu, xu, xu⟩, z1, z1, z1⟩, z2, z2⟩, ⟨⟨⟨(.int .i64 (3)), xu, xu, xu⟩, z1, z1, z1⟩, z2, z2, z2⟩, ⟨⟨⟨(.int .i64 (128)), xu, xu, xu⟩, z1, z1, z1⟩, z2, z2, z2⟩⟩, ⟨⟨⟨⟨(.int .i64 h), xu, xu, xu⟩, z1, z1, z1⟩, ⟨⟨(.int .i64 (128)), xu, xu, xu⟩, z1, z1, z1⟩, z2, z2⟩, ⟨z2, ⟨⟨(.int .i64 (3)), xu, xu, xu⟩, z1, z1, z1⟩, z2, z2⟩, ⟨⟨⟨(.bool true), xu, xu, xu⟩, z1, z1, z1⟩, z2, z2, z2⟩, ⟨⟨⟨(.int .i64 w), xu, xu, xu⟩, z1, z1, z1⟩, z2, z2, z2⟩⟩, ⟨⟨z2, ⟨⟨(.int .i64 h), xu, xu, xu⟩, z1, z1, z1⟩, z2, z2⟩, ⟨⟨⟨(.ptr (.i (.i .h)) 0), xu, xu, xu⟩, z1, z1, z1⟩, z2, z2, z2⟩, ⟨⟨⟨(.agg [(.int .i64 (128)), (.int .i64 (128))]), xu, xu, xu⟩, z1, z1, z1⟩, z2, z2, z2⟩, ⟨⟨⟨(.bool true), xu, xu, xu⟩, z1, z1, z1⟩, z2, z2, z2⟩⟩, ⟨⟨z2, ⟨⟨(.bool bb), xu, xu, xu⟩, z1, z1, z1⟩, z2, z2⟩, ⟨⟨⟨v11, xu, xu, xu⟩, z1, z1, z1⟩, z2, z2, z2⟩, ⟨⟨⟨(.ptr (.i (.i .h)) 0), xu, xu, xu⟩, z1, z1, z1⟩, z2, z2, z2⟩, ⟨⟨⟨(.bool true), xu, xu, xu⟩, z1, z1, z1⟩, z2, z2, z2⟩⟩⟩, .e⟩, [cA En 12 [1, 0, 1, 0, 0, 1, 1, 0, 0, 1, 1], .blk 1, cA En 12 [1, 0, 1, 0, 0, 1, 1, 1], lA En 12 [1, 0, 1, 0, 0], .blk 0, cA En 12 [1, 1]], [], .run, false, false, none⟩
noncomputable def f114 (w h p : Int) (bb : Bool) : AF := (a236 w h p bb)
noncomputable def cs114 (w h p : Int) (bb : Bool) : List AF := [(a15 w h p bb)]
noncomputable def S114 (w h p : Int) (bb : Bool) : Hp := ⟨(.n .e none (.n .e none (.n .e (some o24) .e))), (.o (.o (.o .h))), 2⟩
noncomputable def ks114 : List Ps := [(.i (.i .h))]
theorem s114 (w h p : Int) : cut ks114 (runF (drawF 1000000 30) En 6 (f113 w h p true) (cs113 w h p true) (S113 w h p true)) = .next (f114 w h p (ieq (128) h)) (cs114 w h p (ieq (128) h)) (S114 w h p (ieq (128) h)) := by kernel_rfl
theorem l115 (w h p : Int) : finOf (runF (drawF 1000000 30) En 19 (f114 w h p true) (cs114 w h p true) (S114 w h p true)) = some (.tup [(.int .i64 w), (.int .i64 h), (.int .i64 (0))]) := by kernel_rfl
noncomputable def f116 (w h p : Int) (bb : Bool) : AF := (a27 w h p bb)
noncomputable def cs116 (w h p : Int) (bb : Bool) : List AF := []
noncomputable def S116 (w h p : Int) (bb : Bool) : Hp := ⟨.e, (.o (.o (.o .h))), 2⟩
noncomputable def ks116 : List Ps := []
theorem s116 (w h p : Int) : cut ks116 (runF (drawF 1000000 30) En 30 (f114 w h p false) (cs114 w h p false) (S114 w h p false)) = .next (f116 w h p (ieq p (2))) (cs116 w h p (ieq p (2))) (S116 w h p (ieq p (2))) := by kernel_rfl
noncomputable def f117 (w h p : Int) (bb : Bool) : AF := (a28 w h p bb)
noncomputable def cs117 (w h p : Int) (bb : Bool) : List AF := [(a29 w h p bb)]
noncomputable def S117 (w h p : Int) (bb : Bool) : Hp := ⟨(.n .e none (.n (.n (.n .e (some o10) .e) none .e) none .e)), (.o (.i (.o .h))), 2⟩
noncomputable def ks117 : List Ps := [(.i (.o (.o .h)))]
theorem s117 (w h p : Int) : cut ks117 (runF (drawF 1000000 30) En 52 (f116 w h p true) (cs116 w h p true) (S116 w h p true)) = .next (f117 w h p (ieq (64) h)) (cs117 w h p (ieq (64) h)) (S117 w h p (ieq (64) h)) := by kernel_rfl
noncomputable def f118 (w h p : Int) (bb : Bool) : AF := (a224 w h p bb)
noncomputable def cs118 (w h p : Int) (bb : Bool) : List AF := [(a29 w h p bb)]
noncomputable def S118 (w h p : Int) (bb : Bool) : Hp := ⟨(.n .e none (.n (.n (.n .e (some o10) .e) none .e) none .e)), (.o (.i (.o .h))), 2⟩
noncomputable def ks118 : List Ps := [(.i (.o (.o .h)))]
theorem s118 (w h p : Int) : cut ks118 (runF (drawF 1000000 30) En 6 (f117 w h p true) (cs117 w h p true) (S117 w h p true)) = .next (f118 w h p (ieq (64) w)) (cs118 w h p (ieq (64) w)) (S118 w h p (ieq (64) w)) := by kernel_rfl
noncomputable def f119 (w h p : Int) (bb : Bool) : AF := (a225 w h p bb)
noncomputable def cs119 (w h p : Int) (bb : Bool) : List AF := [(a29 w h p bb)]
noncomputable def S119 (w h p : Int) (bb : Bool) : Hp := ⟨(.n (.n .e none (.n (.n .e (some o18) .e) none .e)) none (.n (.n (.n .e (some o10) .e) none .e) none .e)), (.i (.i (.o .h))), 2⟩
noncomputable def ks119 : List Ps := [(.i (.o (.o .h))), (.o (.i (.o .h)))]
theorem s119 (w h p : Int) : cut ks119 (runF (drawF 1000000 30) En 30 (f118 w h p false) (cs118 w h p false) (S118 w h p false)) = .next (f119 w h p (ieq (64) h)) (cs119 w h p (ieq (64) h)) (S119 w h p (ieq (64) h)) := by kernel_rfl
noncomputable def f120 (w h p : Int) (bb : Bool) : AF := (a227 w h p bb)
noncomputable def cs120 (w h p : Int) (bb : Bool) : List AF := [(a29 w h p bb)]
noncomputable def S120 (w h p : Int) (bb : Bool) : Hp := ⟨(.n (.n .e none (.n (.n .e (some o18) .e) none .e)) none .e), (.i (.i (.o .h))), 2⟩
noncomputable def ks120 : List Ps := [(.o (.i (.o .h)))]
theorem s120 (w h p : Int) : cut ks120 (runF (drawF 1000000 30) En 6 (f119 w h p true) (cs119 w h p true) (S119 w h p true)) = .next (f120 w h p (ieq (96) w)) (cs120 w h p (ieq (96) w)) (S120 w h p (ieq (96) w)) := by kernel_rfl
noncomputable def a237 (w h p : Int) (bb : Bool) : AF := ⟨12, 22, ⟨⟨⟨(q226 w h p bb), ⟨⟨⟨(.bool false), xu, xu, xu⟩, z1, z1, z1⟩, ⟨⟨(.bool false), xu, xu, xu⟩, z1, z1, z1⟩, z2, z2⟩, ⟨⟨⟨(.int .i64 (2)), xu, xu, xu⟩, z1, z1, z1⟩, z2, z2, z2⟩, ⟨⟨⟨(.int .i64 (96)), xu, xu, xu⟩, z1, z1, z1⟩, z2, z2, z2⟩⟩, ⟨⟨⟨⟨(.int .i64 w), xu, xu, xu⟩, z1, z1, z1⟩, ⟨⟨(.int .i64 (96)), xu, xu, xu⟩, z1, z1, z1⟩, z2, z2⟩, ⟨z2, ⟨⟨(.int .i64 (2)), xu, xu, xu⟩, z1, z1, z1⟩, z2, z2⟩, ⟨⟨⟨(.bool true), xu, xu, xu⟩, z1, z1, z1⟩, z2, z2, z2⟩, ⟨⟨⟨(.int .i64 h), xu, xu, xu⟩, z1, z1, z1⟩, z2, z2, z2⟩⟩, ⟨⟨z2, ⟨⟨(.int .i64 w), xu, xu, xu⟩, z1, z1, z1⟩, z2, z2⟩, ⟨⟨⟨(.ptr (.i (.i (.o .h))) 0), xu, xu, xu⟩, z1, z1, z1⟩, z2, z2, z2⟩, ⟨⟨⟨(.agg [(.int .i64 (96)), (.int .i64 (128))]), xu, xu, xu⟩, z1, z1, z1⟩, z2, z2, z2⟩, ⟨⟨⟨(.bool bb), xu, xu, xu⟩, z1, z1, z1⟩, z2, z2, z2⟩⟩, ⟨⟨z2, ⟨⟨(.bool false), xu, xu, xu⟩, z1, z1, z1⟩, z2, z2⟩, ⟨⟨⟨v11, xu, xu, xu⟩, z1, z1, z1⟩, z2, z2, z2⟩, ⟨⟨⟨(.ptr (.i (.i (.o .h))) 0), xu, xu, xu⟩, z1, z1, z1⟩, z2, z2, z2⟩, ⟨⟨⟨(.bool bb), xu, xu, xu⟩, z1, z1, z1⟩, z2, z2, z2⟩⟩⟩, .e⟩, [rA En 12 [1, 0, 1, 0, 0, 1, 1, 0, 0, 1, 0] 5, cA En 12 [1, 0, 1, 0, 0, 1, 1, 0, 0, 1, 1], .blk 1, cA En 12 [1, 0, 1, 0, 0, 1, 1, 1], lA En 12 [1, 0, 1, 0, 0], .blk 0, cA En 12 [1, 1]], [], .run, false, false, none⟩
noncomputable def f121 (w h p : Int) (bb : Bool) : AF := (a237 w h p bb)
noncomputable def cs121 (w h p : Int) (bb : Bool) : List AF := [(a29 w h p bb)]
noncomputable def S121 (w h p : Int) (bb : Bool) : Hp := ⟨(.n (.n .e none (.n (.n .e (some o18) .e) none .e)) none (.n .e none (.n (.n .e (some o22) .e) none .e))), (.o (.o (.i .h))), 2⟩
noncomputable def ks121 : List Ps := [(.o (.i (.o .h))), (.i (.i (.o .h)))]
theorem s121 (w h p : Int) : cut ks121 (runF (drawF 1000000 30) En 30 (f120 w h p false) (cs120 w h p false) (S120 w h p false)) = .next (f121 w h p (ieq (96) h)) (cs121 w h p (ieq (96) h)) (S121 w h p (ieq (96) h)) := by kernel_rfl
noncomputable def f122 (w h p : Int) (bb : Bool) : AF := (a32 w h p bb)
noncomputable def cs122 (w h p : Int) (bb : Bool) : List AF := [(a29 w h p bb)]
noncomputable def S122 (w h p : Int) (bb : Bool) : Hp := ⟨(.n (.n (.n .e none (.n .e (some o24) .e)) none .e) none .e), (.i (.o (.i .h))), 2⟩
noncomputable def ks122 : List Ps := [(.o (.o (.i .h)))]
theorem s122 (w h p : Int) : cut ks122 (runF (drawF 1000000 30) En 36 (f121 w h p false) (cs121 w h p false) (S121 w h p false)) = .next (f122 w h p (ieq (128) h)) (cs122 w h p (ieq (128) h)) (S122 w h p (ieq (128) h)) := by kernel_rfl
noncomputable def f123 (w h p : Int) (bb : Bool) : AF := (a45 w h p bb)
noncomputable def cs123 (w h p : Int) (bb : Bool) : List AF := []
noncomputable def S123 (w h p : Int) (bb : Bool) : Hp := ⟨(.n (.n .e none (.n .e none (.n .e (some o10) .e))) none .e), (.i (.i (.i .h))), 2⟩
noncomputable def ks123 : List Ps := [(.o (.i (.i .h)))]
theorem s123 (w h p : Int) : cut ks123 (runF (drawF 1000000 30) En 79 (f122 w h p false) (cs122 w h p false) (S122 w h p false)) = .next (f123 w h p (ieq p (1))) (cs123 w h p (ieq p (1))) (S123 w h p (ieq p (1))) := by kernel_rfl
noncomputable def f124 (w h p : Int) (bb : Bool) : AF := (a53 w h p bb)
noncomputable def cs124 (w h p : Int) (bb : Bool) : List AF := []
noncomputable def S124 (w h p : Int) (bb : Bool) : Hp := ⟨(.n .e none (.n .e none (.n .e none (.n .e (some o18) .e)))), (.o (.o (.o (.o .h)))), 2⟩
noncomputable def ks124 : List Ps := [(.i (.i (.i .h)))]
theorem s124 (w h p : Int) : cut ks124 (runF (drawF 1000000 30) En 55 (f123 w h p false) (cs123 w h p false) (S123 w h p false)) = .next (f124 w h p (ieq p (1))) (cs124 w h p (ieq p (1))) (S124 w h p (ieq p (1))) := by kernel_rfl
noncomputable def f125 (w h p : Int) (bb : Bool) : AF := (a58 w h p bb)
noncomputable def cs125 (w h p : Int) (bb : Bool) : List AF := []
noncomputable def S125 (w h p : Int) (bb : Bool) : Hp := ⟨(.n (.n (.n (.n (.n .e (some o22) .e) none .e) none .e) none .e) none .e), (.i (.o (.o (.o .h)))), 2⟩
noncomputable def ks125 : List Ps := [(.o (.o (.o (.o .h))))]
theorem s125 (w h p : Int) : cut ks125 (runF (drawF 1000000 30) En 55 (f124 w h p false) (cs124 w h p false) (S124 w h p false)) = .next (f125 w h p (ieq p (1))) (cs125 w h p (ieq p (1))) (S125 w h p (ieq p (1))) := by kernel_rfl
noncomputable def f126 (w h p : Int) (bb : Bool) : AF := (a63 w h p bb)
noncomputable def cs126 (w h p : Int) (bb : Bool) : List AF := []
noncomputable def S126 (w h p : Int) (bb : Bool) : Hp := ⟨(.n .e none (.n (.n (.n (.n .e (some o24) .e) none .e) none .e) none .e)), (.o (.i (.o (.o .h)))), 2⟩
noncomputable def ks126 : List Ps := [(.i (.o (.o (.o .h))))]
theorem s126 (w h p : Int) : cut ks126 (runF (drawF 1000000 30) En 55 (f125 w h p false) (cs125 w h p false) (S125 w h p false)) = .next (f126 w h p (ieq p (1))) (cs126 w h p (ieq p (1))) (S126 w h p (ieq p (1))) := by kernel_rfl
theorem l127 (w h p : Int) : finOf (runF (drawF 1000000 30) En 57 (f126 w h p false) (cs126 w h p false) (S126 w h p false)) = some (.tup [(.int .i64 (0)), (.int .i64 (0)), (.int .i64 (41))]) := by kernel_rfl
noncomputable def f128 (w h p : Int) (bb : Bool) : AF := (a30 w h p bb)
noncomputable def cs128 (w h p : Int) (bb : Bool) : List AF := [(a29 w h p bb)]
noncomputable def S128 (w h p : Int) (bb : Bool) : Hp := ⟨(.n (.n .e none (.n (.n .e (some o18) .e) none .e)) none .e), (.i (.i (.o .h))), 2⟩
noncomputable def ks128 : List Ps := [(.o (.i (.o .h)))]
theorem s128 (w h p : Int) : cut ks128 (runF (drawF 1000000 30) En 36 (f117 w h p false) (cs117 w h p false) (S117 w h p false)) = .next (f128 w h p (ieq (64) h)) (cs128 w h p (ieq (64) h)) (S128 w h p (ieq (64) h)) := by kernel_rfl
noncomputable def f129 (w h p : Int) (bb : Bool) : AF := (a31 w h p bb)
noncomputable def cs129 (w h p : Int) (bb : Bool) : List AF := [(a29 w h p bb)]
noncomputable def S129 (w h p : Int) (bb : Bool) : Hp := ⟨(.n .e none (.n .e none (.n (.n .e (some o22) .e) none .e))), (.o (.o (.i .h))), 2⟩
noncomputable def ks129 : List Ps := [(.i (.i (.o .h)))]
theorem s129 (w h p : Int) : cut ks129 (runF (drawF 1000000 30) En 36 (f128 w h p false) (cs128 w h p false) (S128 w h p false)) = .next (f129 w h p (ieq (96) h)) (cs129 w h p (ieq (96) h)) (S129 w h p (ieq (96) h)) := by kernel_rfl
noncomputable def f130 (w h p : Int) (bb : Bool) : AF := (a229 w h p bb)
noncomputable def cs130 (w h p : Int) (bb : Bool) : List AF := [(a29 w h p bb)]
noncomputable def S130 (w h p : Int) (bb : Bool) : Hp := ⟨(.n .e none (.n .e none (.n (.n .e (some o22) .e) none .e))), (.o (.o (.i .h))), 2⟩
noncomputable def ks130 : List Ps := [(.i (.i (.o .h)))]
theorem s130 (w h p : Int) : cut ks130 (runF (drawF 1000000 30) En 6 (f129 w h p true) (cs129 w h p true) (S129 w h p true)) = .next (f130 w h p (ieq (128) w)) (cs130 w h p (ieq (128) w)) (S130 w h p (ieq (128) w)) := by kernel_rfl
theorem l131 (w h p : Int) : finOf (runF (drawF 1000000 30) En 20 (f130 w h p true) (cs130 w h p true) (S130 w h p true)) = some (.tup [(.int .i64 h), (.int .i64 w), (.int .i64 (0))]) := by kernel_rfl
noncomputable def f132 (w h p : Int) (bb : Bool) : AF := (a32 w h p bb)
noncomputable def cs132 (w h p : Int) (bb : Bool) : List AF := [(a29 w h p bb)]
noncomputable def S132 (w h p : Int) (bb : Bool) : Hp := ⟨(.n (.n (.n .e none (.n .e (some o24) .e)) none .e) none .e), (.i (.o (.i .h))), 2⟩
noncomputable def ks132 : List Ps := [(.o (.o (.i .h)))]
theorem s132 (w h p : Int) : cut ks132 (runF (drawF 1000000 30) En 36 (f129 w h p false) (cs129 w h p false) (S129 w h p false)) = .next (f132 w h p (ieq (128) h)) (cs132 w h p (ieq (128) h)) (S132 w h p (ieq (128) h)) := by kernel_rfl
noncomputable def f133 (w h p : Int) (bb : Bool) : AF := (a45 w h p bb)
noncomputable def cs133 (w h p : Int) (bb : Bool) : List AF := []
noncomputable def S133 (w h p : Int) (bb : Bool) : Hp := ⟨(.n (.n .e none (.n .e none (.n .e (some o10) .e))) none .e), (.i (.i (.i .h))), 2⟩
noncomputable def ks133 : List Ps := [(.o (.i (.i .h)))]
theorem s133 (w h p : Int) : cut ks133 (runF (drawF 1000000 30) En 79 (f132 w h p false) (cs132 w h p false) (S132 w h p false)) = .next (f133 w h p (ieq p (1))) (cs133 w h p (ieq p (1))) (S133 w h p (ieq p (1))) := by kernel_rfl
noncomputable def f134 (w h p : Int) (bb : Bool) : AF := (a53 w h p bb)
noncomputable def cs134 (w h p : Int) (bb : Bool) : List AF := []
noncomputable def S134 (w h p : Int) (bb : Bool) : Hp := ⟨(.n .e none (.n .e none (.n .e none (.n .e (some o18) .e)))), (.o (.o (.o (.o .h)))), 2⟩
noncomputable def ks134 : List Ps := [(.i (.i (.i .h)))]
theorem s134 (w h p : Int) : cut ks134 (runF (drawF 1000000 30) En 55 (f133 w h p false) (cs133 w h p false) (S133 w h p false)) = .next (f134 w h p (ieq p (1))) (cs134 w h p (ieq p (1))) (S134 w h p (ieq p (1))) := by kernel_rfl
noncomputable def f135 (w h p : Int) (bb : Bool) : AF := (a58 w h p bb)
noncomputable def cs135 (w h p : Int) (bb : Bool) : List AF := []
noncomputable def S135 (w h p : Int) (bb : Bool) : Hp := ⟨(.n (.n (.n (.n (.n .e (some o22) .e) none .e) none .e) none .e) none .e), (.i (.o (.o (.o .h)))), 2⟩
noncomputable def ks135 : List Ps := [(.o (.o (.o (.o .h))))]
theorem s135 (w h p : Int) : cut ks135 (runF (drawF 1000000 30) En 55 (f134 w h p false) (cs134 w h p false) (S134 w h p false)) = .next (f135 w h p (ieq p (1))) (cs135 w h p (ieq p (1))) (S135 w h p (ieq p (1))) := by kernel_rfl
noncomputable def f136 (w h p : Int) (bb : Bool) : AF := (a63 w h p bb)
noncomputable def cs136 (w h p : Int) (bb : Bool) : List AF := []
noncomputable def S136 (w h p : Int) (bb : Bool) : Hp := ⟨(.n .e none (.n (.n (.n (.n .e (some o24) .e) none .e) none .e) none .e)), (.o (.i (.o (.o .h)))), 2⟩
noncomputable def ks136 : List Ps := [(.i (.o (.o (.o .h))))]
theorem s136 (w h p : Int) : cut ks136 (runF (drawF 1000000 30) En 55 (f135 w h p false) (cs135 w h p false) (S135 w h p false)) = .next (f136 w h p (ieq p (1))) (cs136 w h p (ieq p (1))) (S136 w h p (ieq p (1))) := by kernel_rfl
theorem l137 (w h p : Int) : finOf (runF (drawF 1000000 30) En 57 (f136 w h p false) (cs136 w h p false) (S136 w h p false)) = some (.tup [(.int .i64 (0)), (.int .i64 (0)), (.int .i64 (41))]) := by kernel_rfl
noncomputable def f138 (w h p : Int) (bb : Bool) : AF := (a66 w h p bb)
noncomputable def cs138 (w h p : Int) (bb : Bool) : List AF := []
noncomputable def S138 (w h p : Int) (bb : Bool) : Hp := ⟨(.n .e none (.n (.n (.n .e (some o10) .e) none .e) none .e)), (.o (.i (.o .h))), 2⟩
noncomputable def ks138 : List Ps := [(.i (.o (.o .h)))]
theorem s138 (w h p : Int) : cut ks138 (runF (drawF 1000000 30) En 55 (f116 w h p false) (cs116 w h p false) (S116 w h p false)) = .next (f138 w h p (ieq p (1))) (cs138 w h p (ieq p (1))) (S138 w h p (ieq p (1))) := by kernel_rfl
noncomputable def f139 (w h p : Int) (bb : Bool) : AF := (a73 w h p bb)
noncomputable def cs139 (w h p : Int) (bb : Bool) : List AF := []
noncomputable def S139 (w h p : Int) (bb : Bool) : Hp := ⟨(.n .e none (.n (.n (.n .e (some o10) .e) none .e) none .e)), (.o (.i (.o .h))), 2⟩
noncomputable def ks139 : List Ps := [(.i (.o (.o .h)))]
theorem s139 (w h p : Int) : cut ks139 (runF (drawF 1000000 30) En 6 (f138 w h p true) (cs138 w h p true) (S138 w h p true)) = .next (f139 w h p (ile w (64))) (cs139 w h p (ile w (64))) (S139 w h p (ile w (64))) := by kernel_rfl
noncomputable def f140 (w h p : Int) (bb : Bool) : AF := (a231 w h p bb)
noncomputable def cs140 (w h p : Int) (bb : Bool) : List AF := []
noncomputable def S140 (w h p : Int) (bb : Bool) : Hp := ⟨(.n (.n .e none (.n (.n .e (some o18) .e) none .e)) none (.n (.n (.n .e (some o10) .e) none .e) none .e)), (.i (.i (.o .h))), 2⟩
noncomputable def ks140 : List Ps := [(.i (.o (.o .h))), (.o (.i (.o .h)))]
theorem s140 (w h p : Int) : cut ks140 (runF (drawF 1000000 30) En 49 (f139 w h p false) (cs139 w h p false) (S139 w h p false)) = .next (f140 w h p (ieq p (1))) (cs140 w h p (ieq p (1))) (S140 w h p (ieq p (1))) := by kernel_rfl
noncomputable def f141 (w h p : Int) (bb : Bool) : AF := (a232 w h p bb)
noncomputable def cs141 (w h p : Int) (bb : Bool) : List AF := []
noncomputable def S141 (w h p : Int) (bb : Bool) : Hp := ⟨(.n (.n .e none (.n (.n .e (some o18) .e) none .e)) none .e), (.i (.i (.o .h))), 2⟩
noncomputable def ks141 : List Ps := [(.o (.i (.o .h)))]
theorem s141 (w h p : Int) : cut ks141 (runF (drawF 1000000 30) En 6 (f140 w h p true) (cs140 w h p true) (S140 w h p true)) = .next (f141 w h p (ile w (64))) (cs141 w h p (ile w (64))) (S141 w h p (ile w (64))) := by kernel_rfl
noncomputable def f142 (w h p : Int) (bb : Bool) : AF := (a233 w h p bb)
noncomputable def cs142 (w h p : Int) (bb : Bool) : List AF := []
noncomputable def S142 (w h p : Int) (bb : Bool) : Hp := ⟨(.n (.n .e none (.n (.n .e (some o18) .e) none .e)) none (.n .e none (.n (.n .e (some o22) .e) none .e))), (.o (.o (.i .h))), 2⟩
noncomputable def ks142 : List Ps := [(.o (.i (.o .h))), (.i (.i (.o .h)))]
theorem s142 (w h p : Int) : cut ks142 (runF (drawF 1000000 30) En 49 (f141 w h p false) (cs141 w h p false) (S141 w h p false)) = .next (f142 w h p (ieq p (1))) (cs142 w h p (ieq p (1))) (S142 w h p (ieq p (1))) := by kernel_rfl
noncomputable def f143 (w h p : Int) (bb : Bool) : AF := (a234 w h p bb)
noncomputable def cs143 (w h p : Int) (bb : Bool) : List AF := []
noncomputable def S143 (w h p : Int) (bb : Bool) : Hp := ⟨(.n .e none (.n .e none (.n (.n .e (some o22) .e) none .e))), (.o (.o (.i .h))), 2⟩
noncomputable def ks143 : List Ps := [(.i (.i (.o .h)))]
theorem s143 (w h p : Int) : cut ks143 (runF (drawF 1000000 30) En 6 (f142 w h p true) (cs142 w h p true) (S142 w h p true)) = .next (f143 w h p (ile w (96))) (cs143 w h p (ile w (96))) (S143 w h p (ile w (96))) := by kernel_rfl
noncomputable def a238 (w h p : Int) (bb : Bool) : AF := ⟨6, 91, ⟨⟨⟨(q6 w h p bb), (q59 w h p bb), (q166 w h p bb), (q216 w h p bb)⟩, ⟨(q48 w h p bb), (q38 w h p bb), q188, (q212 w h p bb)⟩, ⟨(q61 w h p bb), (q62 w h p bb), (q72 w h p bb), q43⟩, ⟨(q52 w h p bb), (q42 w h p bb), ⟨z2, ⟨⟨(.bool false), xu, xu, xu⟩, z1, z1, z1⟩, z2, ⟨⟨(.bool false), xu, xu, xu⟩, z1, z1, z1⟩⟩, ⟨⟨⟨(.bool false), xu, xu, xu⟩, z1, z1, z1⟩, ⟨⟨(.bool false), xu, xu, xu⟩, z1, z1, z1⟩, z2, z2⟩⟩⟩, .e⟩, [rA En 6 [1, 1, 1, 1, 1, 0, 1, 0, 0, 1, 1, 0, 0, 1, 0] 3, cA En 6 [1, 1, 1, 1, 1, 0, 1, 0, 0, 1, 1, 0, 0, 1, 1], .blk 1, cA En 6 [1, 1, 1, 1, 1, 0, 1, 0, 0, 1, 1, 1], lA En 6 [1, 1, 1, 1, 1, 0, 1, 0, 0], .blk 0, cA En 6 [1, 1, 1, 1, 1, 1]], [], .run, false, false, none⟩
noncomputable def f144 (w h p : Int) (bb : Bool) : AF := (a238 w h p bb)
noncomputable def cs144 (w h p : Int) (bb : Bool) : List AF := []
noncomputable def S144 (w h p : Int) (bb : Bool) : Hp := ⟨(.n (.n (.n .e none (.n .e (some o24) .e)) none .e) none (.n .e none (.n (.n .e (some o22) .e) none .e))), (.i (.o (.i .h))), 2⟩
noncomputable def ks144 : List Ps := [(.i (.i (.o .h))), (.o (.o (.i .h)))]
theorem s144 (w h p : Int) : cut ks144 (runF (drawF 1000000 30) En 49 (f143 w h p false) (cs143 w h p false) (S143 w h p false)) = .next (f144 w h p (ieq p (1))) (cs144 w h p (ieq p (1))) (S144 w h p (ieq p (1))) := by kernel_rfl
noncomputable def q239 : Q (Q (Q AV)) := ⟨⟨⟨(.int .i64 (0)), xu, xu, xu⟩, z1, z1, z1⟩, ⟨⟨(.bool false), xu, xu, xu⟩, z1, z1, z1⟩, ⟨⟨(.bool false), xu, xu, xu⟩, z1, z1, z1⟩, ⟨⟨(.int .i64 (128)), xu, xu, xu⟩, z1, z1, z1⟩⟩
noncomputable def q240 : Q (Q (Q AV)) := ⟨⟨⟨(.int .i64 (0)), xu, xu, xu⟩, z1, z1, z1⟩, ⟨⟨(.bool false), xu, xu, xu⟩, ⟨(.int .i64 (3)), xu, xu, xu⟩, z1, z1⟩, z2, ⟨⟨(.bool true), xu, xu, xu⟩, z1, z1, z1⟩⟩
noncomputable def a241 (w h p : Int) (bb : Bool) : AF := ⟨6, 91, ⟨⟨⟨(q6 w h p bb), (q59 w h p bb), (q202 w h p bb), (q203 w h p bb)⟩, ⟨(q48 w h p bb), (q38 w h p bb), q239, (q70 w h p bb)⟩, ⟨(q61 w h p bb), q240, (q72 w h p bb), q43⟩, ⟨(q52 w h p bb), q71, ⟨z2, ⟨⟨(.bool false), xu, xu, xu⟩, z1, z1, z1⟩, z2, ⟨⟨(.bool bb), xu, xu, xu⟩, z1, z1, z1⟩⟩, ⟨⟨⟨(.bool false), xu, xu, xu⟩, z1, z1, z1⟩, ⟨⟨(.bool false), xu, xu, xu⟩, z1, z1, z1⟩, z2, z2⟩⟩⟩, .e⟩, [rA En 6 [1, 1, 1, 1, 1, 0, 1, 0, 0, 1, 1, 0, 0, 1, 0] 9, cA En 6 [1, 1, 1, 1, 1, 0, 1, 0, 0, 1, 1, 0, 0, 1, 1], .blk 1, cA En 6 [1, 1, 1, 1, 1, 0, 1, 0, 0, 1, 1, 1], lA En 6 [1, 1, 1, 1, 1, 0, 1, 0, 0], .blk 0, cA En 6 [1, 1, 1, 1, 1, 1]], [], .run, false, false, none⟩
noncomputable def f145 (w h p : Int) (bb : Bool) : AF := (a241 w h p bb)
noncomputable def cs145 (w h p : Int) (bb : Bool) : List AF := []
noncomputable def S145 (w h p : Int) (bb : Bool) : Hp := ⟨(.n (.n (.n .e none (.n .e (some o24) .e)) none .e) none .e), (.i (.o (.i .h))), 2⟩
noncomputable def ks145 : List Ps := [(.o (.o (.i .h)))]
theorem s145 (w h p : Int) : cut ks145 (runF (drawF 1000000 30) En 6 (f144 w h p true) (cs144 w h p true) (S144 w h p true)) = .next (f145 w h p (ile w (128))) (cs145 w h p (ile w (128))) (S145 w h p (ile w (128))) := by kernel_rfl
noncomputable def q242 (w h p : Int) (bb : Bool) : Q (Q (Q AV)) := ⟨⟨⟨(.int .i64 p), xu, xu, xu⟩, ⟨(.bool bb), xu, xu, xu⟩, z1, z1⟩, ⟨⟨(.bool false), xu, xu, xu⟩, z1, z1, z1⟩, ⟨⟨(.bool false), xu, xu, xu⟩, z1, z1, z1⟩, ⟨⟨(.int .i64 (3)), xu, xu, xu⟩, z1, z1, z1⟩⟩
noncomputable def a243 (w h p : Int) (bb : Bool) : AF := ⟨6, 91, ⟨⟨⟨(q74 w h p bb), (q59 w h p bb), (q202 w h p bb), (q194 w h p bb)⟩, ⟨(q128 w h p bb), (q38 w h p bb), q239, (q77 w h p bb)⟩, ⟨(q242 w h p bb), q240, (q72 w h p bb), q208⟩, ⟨(q80 w h p bb), q71, ⟨z2, ⟨⟨(.bool false), xu, xu, xu⟩, z1, z1, z1⟩, z2, ⟨⟨(.bool true), xu, xu, xu⟩, z1, z1, z1⟩⟩, q173⟩⟩, .e⟩, [rA En 6 [1, 1, 1, 1, 1, 0, 1, 0, 0, 1, 1, 0, 0, 1, 0] 15, cA En 6 [1, 1, 1, 1, 1, 0, 1, 0, 0, 1, 1, 0, 0, 1, 1], .blk 1, cA En 6 [1, 1, 1, 1, 1, 0, 1, 0, 0, 1, 1, 1], lA En 6 [1, 1, 1, 1, 1, 0, 1, 0, 0], .blk 0, cA En 6 [1, 1, 1, 1, 1, 1]], [], .run, false, false, none⟩
noncomputable def f146 (w h p : Int) (bb : Bool) : AF := (a243 w h p bb)
noncomputable def cs146 (w h p : Int) (bb : Bool) : List AF := []
noncomputable def S146 (w h p : Int) (bb : Bool) : Hp := ⟨(.n (.n (.n .e none (.n .e (some o24) .e)) none .e) none .e), (.i (.o (.i .h))), 2⟩
noncomputable def ks146 : List Ps := [(.o (.o (.i .h)))]
theorem s146 (w h p : Int) : cut ks146 (runF (drawF 1000000 30) En 6 (f145 w h p true) (cs145 w h p true) (S145 w h p true)) = .next (f146 w h p (ile h (128))) (cs146 w h p (ile h (128))) (S146 w h p (ile h (128))) := by kernel_rfl
theorem l147 (w h p : Int) : finOf (runF (drawF 1000000 30) En 48 (f146 w h p true) (cs146 w h p true) (S146 w h p true)) = some (.tup [(.int .i64 (128)), (.int .i64 (128)), (.int .i64 (0))]) := by kernel_rfl
noncomputable def f148 (w h p : Int) (bb : Bool) : AF := (a213 w h p bb)
noncomputable def cs148 (w h p : Int) (bb : Bool) : List AF := []
noncomputable def S148 (w h p : Int) (bb : Bool) : Hp := ⟨(.n (.n .e none (.n (.n .e (some o18) .e) none .e)) none .e), (.i (.i (.o .h))), 2⟩
noncomputable def ks148 : List Ps := [(.o (.i (.o .h)))]
theorem s148 (w h p : Int) : cut ks148 (runF (drawF 1000000 30) En 55 (f138 w h p false) (cs138 w h p false) (S138 w h p false)) = .next (f148 w h p (ieq p (1))) (cs148 w h p (ieq p (1))) (S148 w h p (ieq p (1))) := by kernel_rfl
noncomputable def f149 (w h p : Int) (bb : Bool) : AF := (a215 w h p bb)
noncomputable def cs149 (w h p : Int) (bb : Bool) : List AF := []
noncomputable def S149 (w h p : Int) (bb : Bool) : Hp := ⟨(.n .e none (.n .e none (.n (.n .e (some o22) .e) none .e))), (.o (.o (.i .h))), 2⟩
noncomputable def ks149 : List Ps := [(.i (.i (.o .h)))]
theorem s149 (w h p : Int) : cut ks149 (runF (drawF 1000000 30) En 55 (f148 w h p false) (cs148 w h p false) (S148 w h p false)) = .next (f149 w h p (ieq p (1))) (cs149 w h p (ieq p (1))) (S149 w h p (ieq p (1))) := by kernel_rfl
noncomputable def f150 (w h p : Int) (bb : Bool) : AF := (a217 w h p bb)
noncomputable def cs150 (w h p : Int) (bb : Bool) : List AF := []
noncomputable def S150 (w h p : Int) (bb : Bool) : Hp := ⟨(.n (.n (.n .e none (.n .e (some o24) .e)) none .e) none .e), (.i (.o (.i .h))), 2⟩
noncomputable def ks150 : List Ps := [(.o (.o (.i .h)))]
theorem s150 (w h p : Int) : cut ks150 (runF (drawF 1000000 30) En 55 (f149 w h p false) (cs149 w h p false) (S149 w h p false)) = .next (f150 w h p (ieq p (1))) (cs150 w h p (ieq p (1))) (S150 w h p (ieq p (1))) := by kernel_rfl
theorem l151 (w h p : Int) : finOf (runF (drawF 1000000 30) En 57 (f150 w h p false) (cs150 w h p false) (S150 w h p false)) = some (.tup [(.int .i64 (0)), (.int .i64 (0)), (.int .i64 (41))]) := by kernel_rfl
noncomputable def f152 (w h p : Int) (bb : Bool) : AF := (a27 w h p bb)
noncomputable def cs152 (w h p : Int) (bb : Bool) : List AF := []
noncomputable def S152 (w h p : Int) (bb : Bool) : Hp := ⟨.e, (.o (.o (.o .h))), 2⟩
noncomputable def ks152 : List Ps := []
theorem s152 (w h p : Int) : cut ks152 (runF (drawF 1000000 30) En 36 (f113 w h p false) (cs113 w h p false) (S113 w h p false)) = .next (f152 w h p (ieq p (2))) (cs152 w h p (ieq p (2))) (S152 w h p (ieq p (2))) := by kernel_rfl
noncomputable def f153 (w h p : Int) (bb : Bool) : AF := (a28 w h p bb)
noncomputable def cs153 (w h p : Int) (bb : Bool) : List AF := [(a29 w h p bb)]
noncomputable def S153 (w h p : Int) (bb : Bool) : Hp := ⟨(.n .e none (.n (.n (.n .e (some o10) .e) none .e) none .e)), (.o (.i (.o .h))), 2⟩
noncomputable def ks153 : List Ps := [(.i (.o (.o .h)))]
theorem s153 (w h p : Int) : cut ks153 (runF (drawF 1000000 30) En 52 (f152 w h p true) (cs152 w h p true) (S152 w h p true)) = .next (f153 w h p (ieq (64) h)) (cs153 w h p (ieq (64) h)) (S153 w h p (ieq (64) h)) := by kernel_rfl
noncomputable def f154 (w h p : Int) (bb : Bool) : AF := (a224 w h p bb)
noncomputable def cs154 (w h p : Int) (bb : Bool) : List AF := [(a29 w h p bb)]
noncomputable def S154 (w h p : Int) (bb : Bool) : Hp := ⟨(.n .e none (.n (.n (.n .e (some o10) .e) none .e) none .e)), (.o (.i (.o .h))), 2⟩
noncomputable def ks154 : List Ps := [(.i (.o (.o .h)))]
theorem s154 (w h p : Int) : cut ks154 (runF (drawF 1000000 30) En 6 (f153 w h p true) (cs153 w h p true) (S153 w h p true)) = .next (f154 w h p (ieq (64) w)) (cs154 w h p (ieq (64) w)) (S154 w h p (ieq (64) w)) := by kernel_rfl
noncomputable def f155 (w h p : Int) (bb : Bool) : AF := (a225 w h p bb)
noncomputable def cs155 (w h p : Int) (bb : Bool) : List AF := [(a29 w h p bb)]
noncomputable def S155 (w h p : Int) (bb : Bool) : Hp := ⟨(.n (.n .e none (.n (.n .e (some o18) .e) none .e)) none (.n (.n (.n .e (some o10) .e) none .e) none .e)), (.i (.i (.o .h))), 2⟩
noncomputable def ks155 : List Ps := [(.i (.o (.o .h))), (.o (.i (.o .h)))]
theorem s155 (w h p : Int) : cut ks155 (runF (drawF 1000000 30) En 30 (f154 w h p false) (cs154 w h p false) (S154 w h p false)) = .next (f155 w h p (ieq (64) h)) (cs155 w h p (ieq (64) h)) (S155 w h p (ieq (64) h)) := by kernel_rfl
noncomputable def f156 (w h p : Int) (bb : Bool) : AF := (a227 w h p bb)
noncomputable def cs156 (w h p : Int) (bb : Bool) : List AF := [(a29 w h p bb)]
noncomputable def S156 (w h p : Int) (bb : Bool) : Hp := ⟨(.n (.n .e none (.n (.n .e (some o18) .e) none .e)) none .e), (.i (.i (.o .h))), 2⟩
noncomputable def ks156 : List Ps := [(.o (.i (.o .h)))]
theorem s156 (w h p : Int) : cut ks156 (runF (drawF 1000000 30) En 6 (f155 w h p true) (cs155 w h p true) (S155 w h p true)) = .next (f156 w h p (ieq (96) w)) (cs156 w h p (ieq (96) w)) (S156 w h p (ieq (96) w)) := by kernel_rfl
noncomputable def f157 (w h p : Int) (bb : Bool) : AF := (a237 w h p bb)
noncomputable def cs157 (w h p : Int) (bb : Bool) : List AF := [(a29 w h p bb)]
noncomputable def S157 (w h p : Int) (bb : Bool) : Hp := ⟨(.n (.n .e none (.n (.n .e (some o18) .e) none .e)) none (.n .e none (.n (.n .e (some o22) .e) none .e))), (.o (.o (.i .h))), 2⟩
noncomputable def ks157 : List Ps := [(.o (.i (.o .h))), (.i (.i (.o .h)))]
theorem s157 (w h p : Int) : cut ks157 (runF (drawF 1000000 30) En 30 (f156 w h p false) (cs156 w h p false) (S156 w h p false)) = .next (f157 w h p (ieq (96) h)) (cs157 w h p (ieq (96) h)) (S157 w h p (ieq (96) h)) := by kernel_rfl
noncomputable def f158 (w h p : Int) (bb : Bool) : AF := (a32 w h p bb)
noncomputable def cs158 (w h p : Int) (bb : Bool) : List AF := [(a29 w h p bb)]
noncomputable def S158 (w h p : Int) (bb : Bool) : Hp := ⟨(.n (.n (.n .e none (.n .e (some o24) .e)) none .e) none .e), (.i (.o (.i .h))), 2⟩
noncomputable def ks158 : List Ps := [(.o (.o (.i .h)))]
theorem s158 (w h p : Int) : cut ks158 (runF (drawF 1000000 30) En 36 (f157 w h p false) (cs157 w h p false) (S157 w h p false)) = .next (f158 w h p (ieq (128) h)) (cs158 w h p (ieq (128) h)) (S158 w h p (ieq (128) h)) := by kernel_rfl
noncomputable def f159 (w h p : Int) (bb : Bool) : AF := (a45 w h p bb)
noncomputable def cs159 (w h p : Int) (bb : Bool) : List AF := []
noncomputable def S159 (w h p : Int) (bb : Bool) : Hp := ⟨(.n (.n .e none (.n .e none (.n .e (some o10) .e))) none .e), (.i (.i (.i .h))), 2⟩
noncomputable def ks159 : List Ps := [(.o (.i (.i .h)))]
theorem s159 (w h p : Int) : cut ks159 (runF (drawF 1000000 30) En 79 (f158 w h p false) (cs158 w h p false) (S158 w h p false)) = .next (f159 w h p (ieq p (1))) (cs159 w h p (ieq p (1))) (S159 w h p (ieq p (1))) := by kernel_rfl
noncomputable def f160 (w h p : Int) (bb : Bool) : AF := (a53 w h p bb)
noncomputable def cs160 (w h p : Int) (bb : Bool) : List AF := []
noncomputable def S160 (w h p : Int) (bb : Bool) : Hp := ⟨(.n .e none (.n .e none (.n .e none (.n .e (some o18) .e)))), (.o (.o (.o (.o .h)))), 2⟩
noncomputable def ks160 : List Ps := [(.i (.i (.i .h)))]
theorem s160 (w h p : Int) : cut ks160 (runF (drawF 1000000 30) En 55 (f159 w h p false) (cs159 w h p false) (S159 w h p false)) = .next (f160 w h p (ieq p (1))) (cs160 w h p (ieq p (1))) (S160 w h p (ieq p (1))) := by kernel_rfl
noncomputable def f161 (w h p : Int) (bb : Bool) : AF := (a58 w h p bb)
noncomputable def cs161 (w h p : Int) (bb : Bool) : List AF := []
noncomputable def S161 (w h p : Int) (bb : Bool) : Hp := ⟨(.n (.n (.n (.n (.n .e (some o22) .e) none .e) none .e) none .e) none .e), (.i (.o (.o (.o .h)))), 2⟩
noncomputable def ks161 : List Ps := [(.o (.o (.o (.o .h))))]
theorem s161 (w h p : Int) : cut ks161 (runF (drawF 1000000 30) En 55 (f160 w h p false) (cs160 w h p false) (S160 w h p false)) = .next (f161 w h p (ieq p (1))) (cs161 w h p (ieq p (1))) (S161 w h p (ieq p (1))) := by kernel_rfl
noncomputable def f162 (w h p : Int) (bb : Bool) : AF := (a63 w h p bb)
noncomputable def cs162 (w h p : Int) (bb : Bool) : List AF := []
noncomputable def S162 (w h p : Int) (bb : Bool) : Hp := ⟨(.n .e none (.n (.n (.n (.n .e (some o24) .e) none .e) none .e) none .e)), (.o (.i (.o (.o .h)))), 2⟩
noncomputable def ks162 : List Ps := [(.i (.o (.o (.o .h))))]
theorem s162 (w h p : Int) : cut ks162 (runF (drawF 1000000 30) En 55 (f161 w h p false) (cs161 w h p false) (S161 w h p false)) = .next (f162 w h p (ieq p (1))) (cs162 w h p (ieq p (1))) (S162 w h p (ieq p (1))) := by kernel_rfl
theorem l163 (w h p : Int) : finOf (runF (drawF 1000000 30) En 57 (f162 w h p false) (cs162 w h p false) (S162 w h p false)) = some (.tup [(.int .i64 (0)), (.int .i64 (0)), (.int .i64 (41))]) := by kernel_rfl
noncomputable def f164 (w h p : Int) (bb : Bool) : AF := (a30 w h p bb)
noncomputable def cs164 (w h p : Int) (bb : Bool) : List AF := [(a29 w h p bb)]
noncomputable def S164 (w h p : Int) (bb : Bool) : Hp := ⟨(.n (.n .e none (.n (.n .e (some o18) .e) none .e)) none .e), (.i (.i (.o .h))), 2⟩
noncomputable def ks164 : List Ps := [(.o (.i (.o .h)))]
theorem s164 (w h p : Int) : cut ks164 (runF (drawF 1000000 30) En 36 (f153 w h p false) (cs153 w h p false) (S153 w h p false)) = .next (f164 w h p (ieq (64) h)) (cs164 w h p (ieq (64) h)) (S164 w h p (ieq (64) h)) := by kernel_rfl
noncomputable def f165 (w h p : Int) (bb : Bool) : AF := (a31 w h p bb)
noncomputable def cs165 (w h p : Int) (bb : Bool) : List AF := [(a29 w h p bb)]
noncomputable def S165 (w h p : Int) (bb : Bool) : Hp := ⟨(.n .e none (.n .e none (.n (.n .e (some o22) .e) none .e))), (.o (.o (.i .h))), 2⟩
noncomputable def ks165 : List Ps := [(.i (.i (.o .h)))]
theorem s165 (w h p : Int) : cut ks165 (runF (drawF 1000000 30) En 36 (f164 w h p false) (cs164 w h p false) (S164 w h p false)) = .next (f165 w h p (ieq (96) h)) (cs165 w h p (ieq (96) h)) (S165 w h p (ieq (96) h)) := by kernel_rfl
noncomputable def f166 (w h p : Int) (bb : Bool) : AF := (a229 w h p bb)
noncomputable def cs166 (w h p : Int) (bb : Bool) : List AF := [(a29 w h p bb)]
noncomputable def S166 (w h p : Int) (bb : Bool) : Hp := ⟨(.n .e none (.n .e none (.n (.n .e (some o22) .e) none .e))), (.o (.o (.i .h))), 2⟩
noncomputable def ks166 : List Ps := [(.i (.i (.o .h)))]
theorem s166 (w h p : Int) : cut ks166 (runF (drawF 1000000 30) En 6 (f165 w h p true) (cs165 w h p true) (S165 w h p true)) = .next (f166 w h p (ieq (128) w)) (cs166 w h p (ieq (128) w)) (S166 w h p (ieq (128) w)) := by kernel_rfl
noncomputable def f167 (w h p : Int) (bb : Bool) : AF := (a230 w h p bb)
noncomputable def cs167 (w h p : Int) (bb : Bool) : List AF := [(a29 w h p bb)]
noncomputable def S167 (w h p : Int) (bb : Bool) : Hp := ⟨(.n (.n (.n .e none (.n .e (some o24) .e)) none .e) none (.n .e none (.n (.n .e (some o22) .e) none .e))), (.i (.o (.i .h))), 2⟩
noncomputable def ks167 : List Ps := [(.i (.i (.o .h))), (.o (.o (.i .h)))]
theorem s167 (w h p : Int) : cut ks167 (runF (drawF 1000000 30) En 30 (f166 w h p false) (cs166 w h p false) (S166 w h p false)) = .next (f167 w h p (ieq (128) h)) (cs167 w h p (ieq (128) h)) (S167 w h p (ieq (128) h)) := by kernel_rfl
noncomputable def f168 (w h p : Int) (bb : Bool) : AF := (a45 w h p bb)
noncomputable def cs168 (w h p : Int) (bb : Bool) : List AF := []
noncomputable def S168 (w h p : Int) (bb : Bool) : Hp := ⟨(.n (.n .e none (.n .e none (.n .e (some o10) .e))) none .e), (.i (.i (.i .h))), 2⟩
noncomputable def ks168 : List Ps := [(.o (.i (.i .h)))]
theorem s168 (w h p : Int) : cut ks168 (runF (drawF 1000000 30) En 79 (f167 w h p false) (cs167 w h p false) (S167 w h p false)) = .next (f168 w h p (ieq p (1))) (cs168 w h p (ieq p (1))) (S168 w h p (ieq p (1))) := by kernel_rfl
noncomputable def f169 (w h p : Int) (bb : Bool) : AF := (a53 w h p bb)
noncomputable def cs169 (w h p : Int) (bb : Bool) : List AF := []
noncomputable def S169 (w h p : Int) (bb : Bool) : Hp := ⟨(.n .e none (.n .e none (.n .e none (.n .e (some o18) .e)))), (.o (.o (.o (.o .h)))), 2⟩
noncomputable def ks169 : List Ps := [(.i (.i (.i .h)))]
theorem s169 (w h p : Int) : cut ks169 (runF (drawF 1000000 30) En 55 (f168 w h p false) (cs168 w h p false) (S168 w h p false)) = .next (f169 w h p (ieq p (1))) (cs169 w h p (ieq p (1))) (S169 w h p (ieq p (1))) := by kernel_rfl
noncomputable def f170 (w h p : Int) (bb : Bool) : AF := (a58 w h p bb)
noncomputable def cs170 (w h p : Int) (bb : Bool) : List AF := []
noncomputable def S170 (w h p : Int) (bb : Bool) : Hp := ⟨(.n (.n (.n (.n (.n .e (some o22) .e) none .e) none .e) none .e) none .e), (.i (.o (.o (.o .h)))), 2⟩
noncomputable def ks170 : List Ps := [(.o (.o (.o (.o .h))))]
theorem s170 (w h p : Int) : cut ks170 (runF (drawF 1000000 30) En 55 (f169 w h p false) (cs169 w h p false) (S169 w h p false)) = .next (f170 w h p (ieq p (1))) (cs170 w h p (ieq p (1))) (S170 w h p (ieq p (1))) := by kernel_rfl
noncomputable def f171 (w h p : Int) (bb : Bool) : AF := (a63 w h p bb)
noncomputable def cs171 (w h p : Int) (bb : Bool) : List AF := []
noncomputable def S171 (w h p : Int) (bb : Bool) : Hp := ⟨(.n .e none (.n (.n (.n (.n .e (some o24) .e) none .e) none .e) none .e)), (.o (.i (.o (.o .h)))), 2⟩
noncomputable def ks171 : List Ps := [(.i (.o (.o (.o .h))))]
theorem s171 (w h p : Int) : cut ks171 (runF (drawF 1000000 30) En 55 (f170 w h p false) (cs170 w h p false) (S170 w h p false)) = .next (f171 w h p (ieq p (1))) (cs171 w h p (ieq p (1))) (S171 w h p (ieq p (1))) := by kernel_rfl
theorem l172 (w h p : Int) : finOf (runF (drawF 1000000 30) En 57 (f171 w h p false) (cs171 w h p false) (S171 w h p false)) = some (.tup [(.int .i64 (0)), (.int .i64 (0)), (.int .i64 (41))]) := by kernel_rfl
noncomputable def f173 (w h p : Int) (bb : Bool) : AF := (a32 w h p bb)
noncomputable def cs173 (w h p : Int) (bb : Bool) : List AF := [(a29 w h p bb)]
noncomputable def S173 (w h p : Int) (bb : Bool) : Hp := ⟨(.n (.n (.n .e none (.n .e (some o24) .e)) none .e) none .e), (.i (.o (.i .h))), 2⟩
noncomputable def ks173 : List Ps := [(.o (.o (.i .h)))]
theorem s173 (w h p : Int) : cut ks173 (runF (drawF 1000000 30) En 36 (f165 w h p false) (cs165 w h p false) (S165 w h p false)) = .next (f173 w h p (ieq (128) h)) (cs173 w h p (ieq (128) h)) (S173 w h p (ieq (128) h)) := by kernel_rfl
noncomputable def f174 (w h p : Int) (bb : Bool) : AF := (a34 w h p bb)
noncomputable def cs174 (w h p : Int) (bb : Bool) : List AF := [(a29 w h p bb)]
noncomputable def S174 (w h p : Int) (bb : Bool) : Hp := ⟨(.n (.n (.n .e none (.n .e (some o24) .e)) none .e) none .e), (.i (.o (.i .h))), 2⟩
noncomputable def ks174 : List Ps := [(.o (.o (.i .h)))]
theorem s174 (w h p : Int) : cut ks174 (runF (drawF 1000000 30) En 6 (f173 w h p true) (cs173 w h p true) (S173 w h p true)) = .next (f174 w h p (ieq (128) w)) (cs174 w h p (ieq (128) w)) (S174 w h p (ieq (128) w)) := by kernel_rfl
noncomputable def f175 (w h p : Int) (bb : Bool) : AF := (a45 w h p bb)
noncomputable def cs175 (w h p : Int) (bb : Bool) : List AF := []
noncomputable def S175 (w h p : Int) (bb : Bool) : Hp := ⟨(.n (.n .e none (.n .e none (.n .e (some o10) .e))) none .e), (.i (.i (.i .h))), 2⟩
noncomputable def ks175 : List Ps := [(.o (.i (.i .h)))]
theorem s175 (w h p : Int) : cut ks175 (runF (drawF 1000000 30) En 73 (f174 w h p false) (cs174 w h p false) (S174 w h p false)) = .next (f175 w h p (ieq p (1))) (cs175 w h p (ieq p (1))) (S175 w h p (ieq p (1))) := by kernel_rfl
noncomputable def f176 (w h p : Int) (bb : Bool) : AF := (a53 w h p bb)
noncomputable def cs176 (w h p : Int) (bb : Bool) : List AF := []
noncomputable def S176 (w h p : Int) (bb : Bool) : Hp := ⟨(.n .e none (.n .e none (.n .e none (.n .e (some o18) .e)))), (.o (.o (.o (.o .h)))), 2⟩
noncomputable def ks176 : List Ps := [(.i (.i (.i .h)))]
theorem s176 (w h p : Int) : cut ks176 (runF (drawF 1000000 30) En 55 (f175 w h p false) (cs175 w h p false) (S175 w h p false)) = .next (f176 w h p (ieq p (1))) (cs176 w h p (ieq p (1))) (S176 w h p (ieq p (1))) := by kernel_rfl
noncomputable def f177 (w h p : Int) (bb : Bool) : AF := (a58 w h p bb)
noncomputable def cs177 (w h p : Int) (bb : Bool) : List AF := []
noncomputable def S177 (w h p : Int) (bb : Bool) : Hp := ⟨(.n (.n (.n (.n (.n .e (some o22) .e) none .e) none .e) none .e) none .e), (.i (.o (.o (.o .h)))), 2⟩
noncomputable def ks177 : List Ps := [(.o (.o (.o (.o .h))))]
theorem s177 (w h p : Int) : cut ks177 (runF (drawF 1000000 30) En 55 (f176 w h p false) (cs176 w h p false) (S176 w h p false)) = .next (f177 w h p (ieq p (1))) (cs177 w h p (ieq p (1))) (S177 w h p (ieq p (1))) := by kernel_rfl
noncomputable def f178 (w h p : Int) (bb : Bool) : AF := (a63 w h p bb)
noncomputable def cs178 (w h p : Int) (bb : Bool) : List AF := []
noncomputable def S178 (w h p : Int) (bb : Bool) : Hp := ⟨(.n .e none (.n (.n (.n (.n .e (some o24) .e) none .e) none .e) none .e)), (.o (.i (.o (.o .h)))), 2⟩
noncomputable def ks178 : List Ps := [(.i (.o (.o (.o .h))))]
theorem s178 (w h p : Int) : cut ks178 (runF (drawF 1000000 30) En 55 (f177 w h p false) (cs177 w h p false) (S177 w h p false)) = .next (f178 w h p (ieq p (1))) (cs178 w h p (ieq p (1))) (S178 w h p (ieq p (1))) := by kernel_rfl
theorem l179 (w h p : Int) : finOf (runF (drawF 1000000 30) En 57 (f178 w h p false) (cs178 w h p false) (S178 w h p false)) = some (.tup [(.int .i64 (0)), (.int .i64 (0)), (.int .i64 (41))]) := by kernel_rfl
noncomputable def f180 (w h p : Int) (bb : Bool) : AF := (a45 w h p bb)
noncomputable def cs180 (w h p : Int) (bb : Bool) : List AF := []
noncomputable def S180 (w h p : Int) (bb : Bool) : Hp := ⟨(.n (.n .e none (.n .e none (.n .e (some o10) .e))) none .e), (.i (.i (.i .h))), 2⟩
noncomputable def ks180 : List Ps := [(.o (.i (.i .h)))]
theorem s180 (w h p : Int) : cut ks180 (runF (drawF 1000000 30) En 79 (f173 w h p false) (cs173 w h p false) (S173 w h p false)) = .next (f180 w h p (ieq p (1))) (cs180 w h p (ieq p (1))) (S180 w h p (ieq p (1))) := by kernel_rfl
noncomputable def f181 (w h p : Int) (bb : Bool) : AF := (a53 w h p bb)
noncomputable def cs181 (w h p : Int) (bb : Bool) : List AF := []
noncomputable def S181 (w h p : Int) (bb : Bool) : Hp := ⟨(.n .e none (.n .e none (.n .e none (.n .e (some o18) .e)))), (.o (.o (.o (.o .h)))), 2⟩
noncomputable def ks181 : List Ps := [(.i (.i (.i .h)))]
theorem s181 (w h p : Int) : cut ks181 (runF (drawF 1000000 30) En 55 (f180 w h p false) (cs180 w h p false) (S180 w h p false)) = .next (f181 w h p (ieq p (1))) (cs181 w h p (ieq p (1))) (S181 w h p (ieq p (1))) := by kernel_rfl
noncomputable def f182 (w h p : Int) (bb : Bool) : AF := (a58 w h p bb)
noncomputable def cs182 (w h p : Int) (bb : Bool) : List AF := []
noncomputable def S182 (w h p : Int) (bb : Bool) : Hp := ⟨(.n (.n (.n (.n (.n .e (some o22) .e) none .e) none .e) none .e) none .e), (.i (.o (.o (.o .h)))), 2⟩
noncomputable def ks182 : List Ps := [(.o (.o (.o (.o .h))))]
theorem s182 (w h p : Int) : cut ks182 (runF (drawF 1000000 30) En 55 (f181 w h p false) (cs181 w h p false) (S181 w h p false)) = .next (f182 w h p (ieq p (1))) (cs182 w h p (ieq p (1))) (S182 w h p (ieq p (1))) := by kernel_rfl
noncomputable def f183 (w h p : Int) (bb : Bool) : AF := (a63 w h p bb)
noncomputable def cs183 (w h p : Int) (bb : Bool) : List AF := []
noncomputable def S183 (w h p : Int) (bb : Bool) : Hp := ⟨(.n .e none (.n (.n (.n (.n .e (some o24) .e) none .e) none .e) none .e)), (.o (.i (.o (.o .h)))), 2⟩
noncomputable def ks183 : List Ps := [(.i (.o (.o (.o .h))))]
theorem s183 (w h p : Int) : cut ks183 (runF (drawF 1000000 30) En 55 (f182 w h p false) (cs182 w h p false) (S182 w h p false)) = .next (f183 w h p (ieq p (1))) (cs183 w h p (ieq p (1))) (S183 w h p (ieq p (1))) := by kernel_rfl
theorem l184 (w h p : Int) : finOf (runF (drawF 1000000 30) En 57 (f183 w h p false) (cs183 w h p false) (S183 w h p false)) = some (.tup [(.int .i64 (0)), (.int .i64 (0)), (.int .i64 (41))]) := by kernel_rfl
noncomputable def f185 (w h p : Int) (bb : Bool) : AF := (a66 w h p bb)
noncomputable def cs185 (w h p : Int) (bb : Bool) : List AF := []
noncomputable def S185 (w h p : Int) (bb : Bool) : Hp := ⟨(.n .e none (.n (.n (.n .e (some o10) .e) none .e) none .e)), (.o (.i (.o .h))), 2⟩
noncomputable def ks185 : List Ps := [(.i (.o (.o .h)))]
theorem s185 (w h p : Int) : cut ks185 (runF (drawF 1000000 30) En 55 (f152 w h p false) (cs152 w h p false) (S152 w h p false)) = .next (f185 w h p (ieq p (1))) (cs185 w h p (ieq p (1))) (S185 w h p (ieq p (1))) := by kernel_rfl
noncomputable def f186 (w h p : Int) (bb : Bool) : AF := (a73 w h p bb)
noncomputable def cs186 (w h p : Int) (bb : Bool) : List AF := []
noncomputable def S186 (w h p : Int) (bb : Bool) : Hp := ⟨(.n .e none (.n (.n (.n .e (some o10) .e) none .e) none .e)), (.o (.i (.o .h))), 2⟩
noncomputable def ks186 : List Ps := [(.i (.o (.o .h)))]
theorem s186 (w h p : Int) : cut ks186 (runF (drawF 1000000 30) En 6 (f185 w h p true) (cs185 w h p true) (S185 w h p true)) = .next (f186 w h p (ile w (64))) (cs186 w h p (ile w (64))) (S186 w h p (ile w (64))) := by kernel_rfl
noncomputable def f187 (w h p : Int) (bb : Bool) : AF := (a82 w h p bb)
noncomputable def cs187 (w h p : Int) (bb : Bool) : List AF := []
noncomputable def S187 (w h p : Int) (bb : Bool) : Hp := ⟨(.n .e none (.n (.n (.n .e (some o10) .e) none .e) none .e)), (.o (.i (.o .h))), 2⟩
noncomputable def ks187 : List Ps := [(.i (.o (.o .h)))]
theorem s187 (w h p : Int) : cut ks187 (runF (drawF 1000000 30) En 6 (f186 w h p true) (cs186 w h p true) (S186 w h p true)) = .next (f187 w h p (ile h (64))) (cs187 w h p (ile h (64))) (S187 w h p (ile h (64))) := by kernel_rfl
noncomputable def f188 (w h p : Int) (bb : Bool) : AF := (a93 w h p bb)
noncomputable def cs188 (w h p : Int) (bb : Bool) : List AF := []
noncomputable def S188 (w h p : Int) (bb : Bool) : Hp := ⟨(.n (.n .e none (.n (.n .e (some o18) .e) none .e)) none (.n (.n (.n .e (some o10) .e) none .e) none .e)), (.i (.i (.o .h))), 2⟩
noncomputable def ks188 : List Ps := [(.i (.o (.o .h))), (.o (.i (.o .h)))]
theorem s188 (w h p : Int) : cut ks188 (runF (drawF 1000000 30) En 43 (f187 w h p true) (cs187 w h p true) (S187 w h p true)) = .next (f188 w h p (ieq p (1))) (cs188 w h p (ieq p (1))) (S188 w h p (ieq p (1))) := by kernel_rfl
noncomputable def f189 (w h p : Int) (bb : Bool) : AF := (a97 w h p bb)
noncomputable def cs189 (w h p : Int) (bb : Bool) : List AF := []
noncomputable def S189 (w h p : Int) (bb : Bool) : Hp := ⟨(.n (.n .e none (.n (.n .e (some o18) .e) none .e)) none (.n (.n (.n .e (some o10) .e) none .e) none .e)), (.i (.i (.o .h))), 2⟩
noncomputable def ks189 : List Ps := [(.i (.o (.o .h))), (.o (.i (.o .h)))]
theorem s189 (w h p : Int) : cut ks189 (runF (drawF 1000000 30) En 6 (f188 w h p true) (cs188 w h p true) (S188 w h p true)) = .next (f189 w h p (ile w (64))) (cs189 w h p (ile w (64))) (S189 w h p (ile w (64))) := by kernel_rfl
noncomputable def f190 (w h p : Int) (bb : Bool) : AF := (a103 w h p bb)
noncomputable def cs190 (w h p : Int) (bb : Bool) : List AF := []
noncomputable def S190 (w h p : Int) (bb : Bool) : Hp := ⟨(.n (.n .e none (.n (.n .e (some o18) .e) none .e)) none (.n (.n (.n .e (some o10) .e) none .e) none .e)), (.i (.i (.o .h))), 2⟩
noncomputable def ks190 : List Ps := [(.i (.o (.o .h))), (.o (.i (.o .h)))]
theorem s190 (w h p : Int) : cut ks190 (runF (drawF 1000000 30) En 6 (f189 w h p true) (cs189 w h p true) (S189 w h p true)) = .next (f190 w h p (ile h (96))) (cs190 w h p (ile h (96))) (S190 w h p (ile h (96))) := by kernel_rfl
noncomputable def f191 (w h p : Int) (bb : Bool) : AF := (a119 w h p bb)
noncomputable def cs191 (w h p : Int) (bb : Bool) : List AF := []
noncomputable def S191 (w h p : Int) (bb : Bool) : Hp := ⟨(.n (.n .e none (.n (.n .e (some o18) .e) none .e)) none (.n (.n (.n .e (some o10) .e) none .e) none (.n (.n .e (some o22) .e) none .e))), (.o (.o (.i .h))), 2⟩
noncomputable def ks191 : List Ps := [(.i (.o (.o .h))), (.o (.i (.o .h))), (.i (.i (.o .h)))]
theorem s191 (w h p : Int) : cut ks191 (runF (drawF 1000000 30) En 43 (f190 w h p true) (cs190 w h p true) (S190 w h p true)) = .next (f191 w h p (ieq p (1))) (cs191 w h p (ieq p (1))) (S191 w h p (ieq p (1))) := by kernel_rfl
noncomputable def f192 (w h p : Int) (bb : Bool) : AF := (a127 w h p bb)
noncomputable def cs192 (w h p : Int) (bb : Bool) : List AF := []
noncomputable def S192 (w h p : Int) (bb : Bool) : Hp := ⟨(.n (.n .e none (.n (.n .e (some o18) .e) none .e)) none (.n (.n (.n .e (some o10) .e) none .e) none (.n (.n .e (some o22) .e) none .e))), (.o (.o (.i .h))), 2⟩
noncomputable def ks192 : List Ps := [(.i (.o (.o .h))), (.o (.i (.o .h))), (.i (.i (.o .h)))]
theorem s192 (w h p : Int) : cut ks192 (runF (drawF 1000000 30) En 6 (f191 w h p true) (cs191 w h p true) (S191 w h p true)) = .next (f192 w h p (ile w (96))) (cs192 w h p (ile w (96))) (S192 w h p (ile w (96))) := by kernel_rfl
noncomputable def f193 (w h p : Int) (bb : Bool) : AF := (a132 w h p bb)
noncomputable def cs193 (w h p : Int) (bb : Bool) : List AF := []
noncomputable def S193 (w h p : Int) (bb : Bool) : Hp := ⟨(.n (.n .e none (.n (.n .e (some o18) .e) none .e)) none (.n (.n (.n .e (some o10) .e) none .e) none (.n (.n .e (some o22) .e) none .e))), (.o (.o (.i .h))), 2⟩
noncomputable def ks193 : List Ps := [(.i (.o (.o .h))), (.o (.i (.o .h))), (.i (.i (.o .h)))]
theorem s193 (w h p : Int) : cut ks193 (runF (drawF 1000000 30) En 6 (f192 w h p true) (cs192 w h p true) (S192 w h p true)) = .next (f193 w h p (ile h (128))) (cs193 w h p (ile h (128))) (S193 w h p (ile h (128))) := by kernel_rfl
noncomputable def f194 (w h p : Int) (bb : Bool) : AF := (a142 w h p bb)
noncomputable def cs194 (w h p : Int) (bb : Bool) : List AF := []
noncomputable def S194 (w h p : Int) (bb : Bool) : Hp := ⟨(.n (.n (.n .e none (.n .e (some o24) .e)) none .e) none (.n (.n (.n .e (some o10) .e) none .e) none (.n (.n .e (some o22) .e) none .e))), (.i (.o (.i .h))), 2⟩
noncomputable def ks194 : List Ps := [(.i (.o (.o .h))), (.i (.i (.o .h))), (.o (.o (.i .h)))]
theorem s194 (w h p : Int) : cut ks194 (runF (drawF 1000000 30) En 43 (f193 w h p true) (cs193 w h p true) (S193 w h p true)) = .next (f194 w h p (ieq p (1))) (cs194 w h p (ieq p (1))) (S194 w h p (ieq p (1))) := by kernel_rfl
noncomputable def f195 (w h p : Int) (bb : Bool) : AF := (a149 w h p bb)
noncomputable def cs195 (w h p : Int) (bb : Bool) : List AF := []
noncomputable def S195 (w h p : Int) (bb : Bool) : Hp := ⟨(.n (.n (.n .e none (.n .e (some o24) .e)) none .e) none (.n (.n (.n .e (some o10) .e) none .e) none (.n (.n .e (some o22) .e) none .e))), (.i (.o (.i .h))), 2⟩
noncomputable def ks195 : List Ps := [(.i (.o (.o .h))), (.i (.i (.o .h))), (.o (.o (.i .h)))]
theorem s195 (w h p : Int) : cut ks195 (runF (drawF 1000000 30) En 6 (f194 w h p true) (cs194 w h p true) (S194 w h p true)) = .next (f195 w h p (ile w (128))) (cs195 w h p (ile w (128))) (S195 w h p (ile w (128))) := by kernel_rfl
noncomputable def f196 (w h p : Int) (bb : Bool) : AF := (a152 w h p bb)
noncomputable def cs196 (w h p : Int) (bb : Bool) : List AF := []
noncomputable def S196 (w h p : Int) (bb : Bool) : Hp := ⟨(.n (.n (.n .e none (.n .e (some o24) .e)) none .e) none (.n (.n (.n .e (some o10) .e) none .e) none (.n (.n .e (some o22) .e) none .e))), (.i (.o (.i .h))), 2⟩
noncomputable def ks196 : List Ps := [(.i (.o (.o .h))), (.i (.i (.o .h))), (.o (.o (.i .h)))]
theorem s196 (w h p : Int) : cut ks196 (runF (drawF 1000000 30) En 6 (f195 w h p true) (cs195 w h p true) (S195 w h p true)) = .next (f196 w h p (ile h (128))) (cs196 w h p (ile h (128))) (S196 w h p (ile h (128))) := by kernel_rfl
theorem l197 (w h p : Int) : finOf (runF (drawF 1000000 30) En 48 (f196 w h p true) (cs196 w h p true) (S196 w h p true)) = some (.tup [(.int .i64 (64)), (.int .i64 (64)), (.int .i64 (0))]) := by kernel_rfl
noncomputable def f198 (w h p : Int) (bb : Bool) : AF := (a154 w h p bb)
noncomputable def cs198 (w h p : Int) (bb : Bool) : List AF := []
noncomputable def S198 (w h p : Int) (bb : Bool) : Hp := ⟨(.n (.n .e none (.n (.n .e (some o18) .e) none .e)) none (.n (.n (.n .e (some o10) .e) none .e) none .e)), (.i (.i (.o .h))), 2⟩
noncomputable def ks198 : List Ps := [(.i (.o (.o .h))), (.o (.i (.o .h)))]
theorem s198 (w h p : Int) : cut ks198 (runF (drawF 1000000 30) En 43 (f187 w h p false) (cs187 w h p false) (S187 w h p false)) = .next (f198 w h p (ieq p (1))) (cs198 w h p (ieq p (1))) (S198 w h p (ieq p (1))) := by kernel_rfl
noncomputable def f199 (w h p : Int) (bb : Bool) : AF := (a156 w h p bb)
noncomputable def cs199 (w h p : Int) (bb : Bool) : List AF := []
noncomputable def S199 (w h p : Int) (bb : Bool) : Hp := ⟨(.n (.n .e none (.n (.n .e (some o18) .e) none .e)) none (.n (.n (.n .e (some o10) .e) none .e) none .e)), (.i (.i (.o .h))), 2⟩
noncomputable def ks199 : List Ps := [(.i (.o (.o .h))), (.o (.i (.o .h)))]
theorem s199 (w h p : Int) : cut ks199 (runF (drawF 1000000 30) En 6 (f198 w h p true) (cs198 w h p true) (S198 w h p true)) = .next (f199 w h p (ile w (64))) (cs199 w h p (ile w (64))) (S199 w h p (ile w (64))) := by kernel_rfl
noncomputable def f200 (w h p : Int) (bb : Bool) : AF := (a158 w h p bb)
noncomputable def cs200 (w h p : Int) (bb : Bool) : List AF := []
noncomputable def S200 (w h p : Int) (bb : Bool) : Hp := ⟨(.n (.n .e none (.n (.n .e (some o18) .e) none .e)) none .e), (.i (.i (.o .h))), 2⟩
noncomputable def ks200 : List Ps := [(.o (.i (.o .h)))]
theorem s200 (w h p : Int) : cut ks200 (runF (drawF 1000000 30) En 6 (f199 w h p true) (cs199 w h p true) (S199 w h p true)) = .next (f200 w h p (ile h (96))) (cs200 w h p (ile h (96))) (S200 w h p (ile h (96))) := by kernel_rfl
noncomputable def f201 (w h p : Int) (bb : Bool) : AF := (a165 w h p bb)
noncomputable def cs201 (w h p : Int) (bb : Bool) : List AF := []
noncomputable def S201 (w h p : Int) (bb : Bool) : Hp := ⟨(.n (.n .e none (.n (.n .e (some o18) .e) none .e)) none (.n .e none (.n (.n .e (some o22) .e) none .e))), (.o (.o (.i .h))), 2⟩
noncomputable def ks201 : List Ps := [(.o (.i (.o .h))), (.i (.i (.o .h)))]
theorem s201 (w h p : Int) : cut ks201 (runF (drawF 1000000 30) En 43 (f200 w h p true) (cs200 w h p true) (S200 w h p true)) = .next (f201 w h p (ieq p (1))) (cs201 w h p (ieq p (1))) (S201 w h p (ieq p (1))) := by kernel_rfl
noncomputable def f202 (w h p : Int) (bb : Bool) : AF := (a170 w h p bb)
noncomputable def cs202 (w h p : Int) (bb : Bool) : List AF := []
noncomputable def S202 (w h p : Int) (bb : Bool) : Hp := ⟨(.n (.n .e none (.n (.n .e (some o18) .e) none .e)) none (.n .e none (.n (.n .e (some o22) .e) none .e))), (.o (.o (.i .h))), 2⟩
noncomputable def ks202 : List Ps := [(.o (.i (.o .h))), (.i (.i (.o .h)))]
theorem s202 (w h p : Int) : cut ks202 (runF (drawF 1000000 30) En 6 (f201 w h p true) (cs201 w h p true) (S201 w h p true)) = .next (f202 w h p (ile w (96))) (cs202 w h p (ile w (96))) (S202 w h p (ile w (96))) := by kernel_rfl
noncomputable def f203 (w h p : Int) (bb : Bool) : AF := (a174 w h p bb)
noncomputable def cs203 (w h p : Int) (bb : Bool) : List AF := []
noncomputable def S203 (w h p : Int) (bb : Bool) : Hp := ⟨(.n (.n .e none (.n (.n .e (some o18) .e) none .e)) none (.n .e none (.n (.n .e (some o22) .e) none .e))), (.o (.o (.i .h))), 2⟩
noncomputable def ks203 : List Ps := [(.o (.i (.o .h))), (.i (.i (.o .h)))]
theorem s203 (w h p : Int) : cut ks203 (runF (drawF 1000000 30) En 6 (f202 w h p true) (cs202 w h p true) (S202 w h p true)) = .next (f203 w h p (ile h (128))) (cs203 w h p (ile h (128))) (S203 w h p (ile h (128))) := by kernel_rfl
noncomputable def f204 (w h p : Int) (bb : Bool) : AF := (a181 w h p bb)
noncomputable def cs204 (w h p : Int) (bb : Bool) : List AF := []
noncomputable def S204 (w h p : Int) (bb : Bool) : Hp := ⟨(.n (.n (.n .e none (.n .e (some o24) .e)) none (.n (.n .e (some o18) .e) none .e)) none (.n .e none (.n (.n .e (some o22) .e) none .e))), (.i (.o (.i .h))), 2⟩
noncomputable def ks204 : List Ps := [(.o (.i (.o .h))), (.i (.i (.o .h))), (.o (.o (.i .h)))]
theorem s204 (w h p : Int) : cut ks204 (runF (drawF 1000000 30) En 43 (f203 w h p true) (cs203 w h p true) (S203 w h p true)) = .next (f204 w h p (ieq p (1))) (cs204 w h p (ieq p (1))) (S204 w h p (ieq p (1))) := by kernel_rfl
noncomputable def f205 (w h p : Int) (bb : Bool) : AF := (a183 w h p bb)
noncomputable def cs205 (w h p : Int) (bb : Bool) : List AF := []
noncomputable def S205 (w h p : Int) (bb : Bool) : Hp := ⟨(.n (.n (.n .e none (.n .e (some o24) .e)) none (.n (.n .e (some o18) .e) none .e)) none (.n .e none (.n (.n .e (some o22) .e) none .e))), (.i (.o (.i .h))), 2⟩
noncomputable def ks205 : List Ps := [(.o (.i (.o .h))), (.i (.i (.o .h))), (.o (.o (.i .h)))]
theorem s205 (w h p : Int) : cut ks205 (runF (drawF 1000000 30) En 6 (f204 w h p true) (cs204 w h p true) (S204 w h p true)) = .next (f205 w h p (ile w (128))) (cs205 w h p (ile w (128))) (S205 w h p (ile w (128))) := by kernel_rfl
noncomputable def f206 (w h p : Int) (bb : Bool) : AF := (a186 w h p bb)
noncomputable def cs206 (w h p : Int) (bb : Bool) : List AF := []
noncomputable def S206 (w h p : Int) (bb : Bool) : Hp := ⟨(.n (.n (.n .e none (.n .e (some o24) .e)) none (.n (.n .e (some o18) .e) none .e)) none (.n .e none (.n (.n .e (some o22) .e) none .e))), (.i (.o (.i .h))), 2⟩
noncomputable def ks206 : List Ps := [(.o (.i (.o .h))), (.i (.i (.o .h))), (.o (.o (.i .h)))]
theorem s206 (w h p : Int) : cut ks206 (runF (drawF 1000000 30) En 6 (f205 w h p true) (cs205 w h p true) (S205 w h p true)) = .next (f206 w h p (ile h (128))) (cs206 w h p (ile h (128))) (S206 w h p (ile h (128))) := by kernel_rfl
theorem l207 (w h p : Int) : finOf (runF (drawF 1000000 30) En 48 (f206 w h p true) (cs206 w h p true) (S206 w h p true)) = some (.tup [(.int .i64 (64)), (.int .i64 (96)), (.int .i64 (0))]) := by kernel_rfl
noncomputable def f208 (w h p : Int) (bb : Bool) : AF := (a187 w h p bb)
noncomputable def cs208 (w h p : Int) (bb : Bool) : List AF := []
noncomputable def S208 (w h p : Int) (bb : Bool) : Hp := ⟨(.n (.n .e none (.n (.n .e (some o18) .e) none .e)) none (.n .e none (.n (.n .e (some o22) .e) none .e))), (.o (.o (.i .h))), 2⟩
noncomputable def ks208 : List Ps := [(.o (.i (.o .h))), (.i (.i (.o .h)))]
theorem s208 (w h p : Int) : cut ks208 (runF (drawF 1000000 30) En 43 (f200 w h p false) (cs200 w h p false) (S200 w h p false)) = .next (f208 w h p (ieq p (1))) (cs208 w h p (ieq p (1))) (S208 w h p (ieq p (1))) := by kernel_rfl
noncomputable def f209 (w h p : Int) (bb : Bool) : AF := (a190 w h p bb)
noncomputable def cs209 (w h p : Int) (bb : Bool) : List AF := []
noncomputable def S209 (w h p : Int) (bb : Bool) : Hp := ⟨(.n (.n .e none (.n (.n .e (some o18) .e) none .e)) none (.n .e none (.n (.n .e (some o22) .e) none .e))), (.o (.o (.i .h))), 2⟩
noncomputable def ks209 : List Ps := [(.o (.i (.o .h))), (.i (.i (.o .h)))]
theorem s209 (w h p : Int) : cut ks209 (runF (drawF 1000000 30) En 6 (f208 w h p true) (cs208 w h p true) (S208 w h p true)) = .next (f209 w h p (ile w (96))) (cs209 w h p (ile w (96))) (S209 w h p (ile w (96))) := by kernel_rfl
noncomputable def f210 (w h p : Int) (bb : Bool) : AF := (a192 w h p bb)
noncomputable def cs210 (w h p : Int) (bb : Bool) : List AF := []
noncomputable def S210 (w h p : Int) (bb : Bool) : Hp := ⟨(.n .e none (.n .e none (.n (.n .e (some o22) .e) none .e))), (.o (.o (.i .h))), 2⟩
noncomputable def ks210 : List Ps := [(.i (.i (.o .h)))]
theorem s210 (w h p : Int) : cut ks210 (runF (drawF 1000000 30) En 6 (f209 w h p true) (cs209 w h p true) (S209 w h p true)) = .next (f210 w h p (ile h (128))) (cs210 w h p (ile h (128))) (S210 w h p (ile h (128))) := by kernel_rfl
noncomputable def f211 (w h p : Int) (bb : Bool) : AF := (a201 w h p bb)
noncomputable def cs211 (w h p : Int) (bb : Bool) : List AF := []
noncomputable def S211 (w h p : Int) (bb : Bool) : Hp := ⟨(.n (.n (.n .e none (.n .e (some o24) .e)) none .e) none (.n .e none (.n (.n .e (some o22) .e) none .e))), (.i (.o (.i .h))), 2⟩
noncomputable def ks211 : List Ps := [(.i (.i (.o .h))), (.o (.o (.i .h)))]
theorem s211 (w h p : Int) : cut ks211 (runF (drawF 1000000 30) En 43 (f210 w h p true) (cs210 w h p true) (S210 w h p true)) = .next (f211 w h p (ieq p (1))) (cs211 w h p (ieq p (1))) (S211 w h p (ieq p (1))) := by kernel_rfl
noncomputable def f212 (w h p : Int) (bb : Bool) : AF := (a206 w h p bb)
noncomputable def cs212 (w h p : Int) (bb : Bool) : List AF := []
noncomputable def S212 (w h p : Int) (bb : Bool) : Hp := ⟨(.n (.n (.n .e none (.n .e (some o24) .e)) none .e) none (.n .e none (.n (.n .e (some o22) .e) none .e))), (.i (.o (.i .h))), 2⟩
noncomputable def ks212 : List Ps := [(.i (.i (.o .h))), (.o (.o (.i .h)))]
theorem s212 (w h p : Int) : cut ks212 (runF (drawF 1000000 30) En 6 (f211 w h p true) (cs211 w h p true) (S211 w h p true)) = .next (f212 w h p (ile w (128))) (cs212 w h p (ile w (128))) (S212 w h p (ile w (128))) := by kernel_rfl
noncomputable def f213 (w h p : Int) (bb : Bool) : AF := (a210 w h p bb)
noncomputable def cs213 (w h p : Int) (bb : Bool) : List AF := []
noncomputable def S213 (w h p : Int) (bb : Bool) : Hp := ⟨(.n (.n (.n .e none (.n .e (some o24) .e)) none .e) none (.n .e none (.n (.n .e (some o22) .e) none .e))), (.i (.o (.i .h))), 2⟩
noncomputable def ks213 : List Ps := [(.i (.i (.o .h))), (.o (.o (.i .h)))]
theorem s213 (w h p : Int) : cut ks213 (runF (drawF 1000000 30) En 6 (f212 w h p true) (cs212 w h p true) (S212 w h p true)) = .next (f213 w h p (ile h (128))) (cs213 w h p (ile h (128))) (S213 w h p (ile h (128))) := by kernel_rfl
theorem l214 (w h p : Int) : finOf (runF (drawF 1000000 30) En 48 (f213 w h p true) (cs213 w h p true) (S213 w h p true)) = some (.tup [(.int .i64 (96)), (.int .i64 (128)), (.int .i64 (0))]) := by kernel_rfl
noncomputable def f215 (w h p : Int) (bb : Bool) : AF := (a231 w h p bb)
noncomputable def cs215 (w h p : Int) (bb : Bool) : List AF := []
noncomputable def S215 (w h p : Int) (bb : Bool) : Hp := ⟨(.n (.n .e none (.n (.n .e (some o18) .e) none .e)) none (.n (.n (.n .e (some o10) .e) none .e) none .e)), (.i (.i (.o .h))), 2⟩
noncomputable def ks215 : List Ps := [(.i (.o (.o .h))), (.o (.i (.o .h)))]
theorem s215 (w h p : Int) : cut ks215 (runF (drawF 1000000 30) En 49 (f186 w h p false) (cs186 w h p false) (S186 w h p false)) = .next (f215 w h p (ieq p (1))) (cs215 w h p (ieq p (1))) (S215 w h p (ieq p (1))) := by kernel_rfl
noncomputable def f216 (w h p : Int) (bb : Bool) : AF := (a232 w h p bb)
noncomputable def cs216 (w h p : Int) (bb : Bool) : List AF := []
noncomputable def S216 (w h p : Int) (bb : Bool) : Hp := ⟨(.n (.n .e none (.n (.n .e (some o18) .e) none .e)) none .e), (.i (.i (.o .h))), 2⟩
noncomputable def ks216 : List Ps := [(.o (.i (.o .h)))]
theorem s216 (w h p : Int) : cut ks216 (runF (drawF 1000000 30) En 6 (f215 w h p true) (cs215 w h p true) (S215 w h p true)) = .next (f216 w h p (ile w (64))) (cs216 w h p (ile w (64))) (S216 w h p (ile w (64))) := by kernel_rfl
noncomputable def f217 (w h p : Int) (bb : Bool) : AF := (a233 w h p bb)
noncomputable def cs217 (w h p : Int) (bb : Bool) : List AF := []
noncomputable def S217 (w h p : Int) (bb : Bool) : Hp := ⟨(.n (.n .e none (.n (.n .e (some o18) .e) none .e)) none (.n .e none (.n (.n .e (some o22) .e) none .e))), (.o (.o (.i .h))), 2⟩
noncomputable def ks217 : List Ps := [(.o (.i (.o .h))), (.i (.i (.o .h)))]
theorem s217 (w h p : Int) : cut ks217 (runF (drawF 1000000 30) En 49 (f216 w h p false) (cs216 w h p false) (S216 w h p false)) = .next (f217 w h p (ieq p (1))) (cs217 w h p (ieq p (1))) (S217 w h p (ieq p (1))) := by kernel_rfl
noncomputable def f218 (w h p : Int) (bb : Bool) : AF := (a234 w h p bb)
noncomputable def cs218 (w h p : Int) (bb : Bool) : List AF := []
noncomputable def S218 (w h p : Int) (bb : Bool) : Hp := ⟨(.n .e none (.n .e none (.n (.n .e (some o22) .e) none .e))), (.o (.o (.i .h))), 2⟩
noncomputable def ks218 : List Ps := [(.i (.i (.o .h)))]
theorem s218 (w h p : Int) : cut ks218 (runF (drawF 1000000 30) En 6 (f217 w h p true) (cs217 w h p true) (S217 w h p true)) = .next (f218 w h p (ile w (96))) (cs218 w h p (ile w (96))) (S218 w h p (ile w (96))) := by kernel_rfl
noncomputable def f219 (w h p : Int) (bb : Bool) : AF := (a192 w h p bb)
noncomputable def cs219 (w h p : Int) (bb : Bool) : List AF := []
noncomputable def S219 (w h p : Int) (bb : Bool) : Hp := ⟨(.n .e none (.n .e none (.n (.n .e (some o22) .e) none .e))), (.o (.o (.i .h))), 2⟩
noncomputable def ks219 : List Ps := [(.i (.i (.o .h)))]
theorem s219 (w h p : Int) : cut ks219 (runF (drawF 1000000 30) En 6 (f218 w h p true) (cs218 w h p true) (S218 w h p true)) = .next (f219 w h p (ile h (128))) (cs219 w h p (ile h (128))) (S219 w h p (ile h (128))) := by kernel_rfl
noncomputable def f220 (w h p : Int) (bb : Bool) : AF := (a201 w h p bb)
noncomputable def cs220 (w h p : Int) (bb : Bool) : List AF := []
noncomputable def S220 (w h p : Int) (bb : Bool) : Hp := ⟨(.n (.n (.n .e none (.n .e (some o24) .e)) none .e) none (.n .e none (.n (.n .e (some o22) .e) none .e))), (.i (.o (.i .h))), 2⟩
noncomputable def ks220 : List Ps := [(.i (.i (.o .h))), (.o (.o (.i .h)))]
theorem s220 (w h p : Int) : cut ks220 (runF (drawF 1000000 30) En 43 (f219 w h p true) (cs219 w h p true) (S219 w h p true)) = .next (f220 w h p (ieq p (1))) (cs220 w h p (ieq p (1))) (S220 w h p (ieq p (1))) := by kernel_rfl
noncomputable def f221 (w h p : Int) (bb : Bool) : AF := (a206 w h p bb)
noncomputable def cs221 (w h p : Int) (bb : Bool) : List AF := []
noncomputable def S221 (w h p : Int) (bb : Bool) : Hp := ⟨(.n (.n (.n .e none (.n .e (some o24) .e)) none .e) none (.n .e none (.n (.n .e (some o22) .e) none .e))), (.i (.o (.i .h))), 2⟩
noncomputable def ks221 : List Ps := [(.i (.i (.o .h))), (.o (.o (.i .h)))]
theorem s221 (w h p : Int) : cut ks221 (runF (drawF 1000000 30) En 6 (f220 w h p true) (cs220 w h p true) (S220 w h p true)) = .next (f221 w h p (ile w (128))) (cs221 w h p (ile w (128))) (S221 w h p (ile w (128))) := by kernel_rfl
noncomputable def f222 (w h p : Int) (bb : Bool) : AF := (a210 w h p bb)
noncomputable def cs222 (w h p : Int) (bb : Bool) : List AF := []
noncomputable def S222 (w h p : Int) (bb : Bool) : Hp := ⟨(.n (.n (.n .e none (.n .e (some o24) .e)) none .e) none (.n .e none (.n (.n .e (some o22) .e) none .e))), (.i (.o (.i .h))), 2⟩
noncomputable def ks222 : List Ps := [(.i (.i (.o .h))), (.o (.o (.i .h)))]
theorem s222 (w h p : Int) : cut ks222 (runF (drawF 1000000 30) En 6 (f221 w h p true) (cs221 w h p true) (S221 w h p true)) = .next (f222 w h p (ile h (128))) (cs222 w h p (ile h (128))) (S222 w h p (ile h (128))) := by kernel_rfl
theorem l223 (w h p : Int) : finOf (runF (drawF 1000000 30) En 48 (f222 w h p true) (cs222 w h p true) (S222 w h p true)) = some (.tup [(.int .i64 (96)), (.int .i64 (128)), (.int .i64 (0))]) := by kernel_rfl
noncomputable def f224 (w h p : Int) (bb : Bool) : AF := (a238 w h p bb)
noncomputable def cs224 (w h p : Int) (bb : Bool) : List AF := []
noncomputable def S224 (w h p : Int) (bb : Bool) : Hp := ⟨(.n (.n (.n .e none (.n .e (some o24) .e)) none .e) none (.n .e none (.n (.n .e (some o22) .e) none .e))), (.i (.o (.i .h))), 2⟩
noncomputable def ks224 : List Ps := [(.i (.i (.o .h))), (.o (.o (.i .h)))]
theorem s224 (w h p : Int) : cut ks224 (runF (drawF 1000000 30) En 49 (f218 w h p false) (cs218 w h p false) (S218 w h p false)) = .next (f224 w h p (ieq p (1))) (cs224 w h p (ieq p (1))) (S224 w h p (ieq p (1))) := by kernel_rfl
noncomputable def f225 (w h p : Int) (bb : Bool) : AF := (a241 w h p bb)
noncomputable def cs225 (w h p : Int) (bb : Bool) : List AF := []
noncomputable def S225 (w h p : Int) (bb : Bool) : Hp := ⟨(.n (.n (.n .e none (.n .e (some o24) .e)) none .e) none .e), (.i (.o (.i .h))), 2⟩
noncomputable def ks225 : List Ps := [(.o (.o (.i .h)))]
theorem s225 (w h p : Int) : cut ks225 (runF (drawF 1000000 30) En 6 (f224 w h p true) (cs224 w h p true) (S224 w h p true)) = .next (f225 w h p (ile w (128))) (cs225 w h p (ile w (128))) (S225 w h p (ile w (128))) := by kernel_rfl
noncomputable def f226 (w h p : Int) (bb : Bool) : AF := (a243 w h p bb)
noncomputable def cs226 (w h p : Int) (bb : Bool) : List AF := []
noncomputable def S226 (w h p : Int) (bb : Bool) : Hp := ⟨(.n (.n (.n .e none (.n .e (some o24) .e)) none .e) none .e), (.i (.o (.i .h))), 2⟩
noncomputable def ks226 : List Ps := [(.o (.o (.i .h)))]
theorem s226 (w h p : Int) : cut ks226 (runF (drawF 1000000 30) En 6 (f225 w h p true) (cs225 w h p true) (S225 w h p true)) = .next (f226 w h p (ile h (128))) (cs226 w h p (ile h (128))) (S226 w h p (ile h (128))) := by kernel_rfl
theorem l227 (w h p : Int) : finOf (runF (drawF 1000000 30) En 48 (f226 w h p true) (cs226 w h p true) (S226 w h p true)) = some (.tup [(.int .i64 (128)), (.int .i64 (128)), (.int .i64 (0))]) := by kernel_rfl
noncomputable def f228 (w h p : Int) (bb : Bool) : AF := (a213 w h p bb)
noncomputable def cs228 (w h p : Int) (bb : Bool) : List AF := []
noncomputable def S228 (w h p : Int) (bb : Bool) : Hp := ⟨(.n (.n .e none (.n (.n .e (some o18) .e) none .e)) none .e), (.i (.i (.o .h))), 2⟩
noncomputable def ks228 : List Ps := [(.o (.i (.o .h)))]
theorem s228 (w h p : Int) : cut ks228 (runF (drawF 1000000 30) En 55 (f185 w h p false) (cs185 w h p false) (S185 w h p false)) = .next (f228 w h p (ieq p (1))) (cs228 w h p (ieq p (1))) (S228 w h p (ieq p (1))) := by kernel_rfl
noncomputable def f229 (w h p : Int) (bb : Bool) : AF := (a215 w h p bb)
noncomputable def cs229 (w h p : Int) (bb : Bool) : List AF := []
noncomputable def S229 (w h p : Int) (bb : Bool) : Hp := ⟨(.n .e none (.n .e none (.n (.n .e (some o22) .e) none .e))), (.o (.o (.i .h))), 2⟩
noncomputable def ks229 : List Ps := [(.i (.i (.o .h)))]
theorem s229 (w h p : Int) : cut ks229 (runF (drawF 1000000 30) En 55 (f228 w h p false) (cs228 w h p false) (S228 w h p false)) = .next (f229 w h p (ieq p (1))) (cs229 w h p (ieq p (1))) (S229 w h p (ieq p (1))) := by kernel_rfl
noncomputable def f230 (w h p : Int) (bb : Bool) : AF := (a217 w h p bb)
noncomputable def cs230 (w h p : Int) (bb : Bool) : List AF := []
noncomputable def S230 (w h p : Int) (bb : Bool) : Hp := ⟨(.n (.n (.n .e none (.n .e (some o24) .e)) none .e) none .e), (.i (.o (.i .h))), 2⟩
noncomputable def ks230 : List Ps := [(.o (.o (.i .h)))]
theorem s230 (w h p : Int) : cut ks230 (runF (drawF 1000000 30) En 55 (f229 w h p false) (cs229 w h p false) (S229 w h p false)) = .next (f230 w h p (ieq p (1))) (cs230 w h p (ieq p (1))) (S230 w h p (ieq p (1))) := by kernel_rfl
theorem l231 (w h p : Int) : finOf (runF (drawF 1000000 30) En 57 (f230 w h p false) (cs230 w h p false) (S230 w h p false)) = some (.tup [(.int .i64 (0)), (.int .i64 (0)), (.int .i64 (41))]) := by kernel_rfl

end Go.Proofs.YtoohcobdljmofaaGreatDoor.mediaChooses.c6
