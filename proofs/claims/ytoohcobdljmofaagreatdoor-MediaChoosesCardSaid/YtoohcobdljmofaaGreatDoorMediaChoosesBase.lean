/-
  'MediaChooses': what both Choose functions return, as plain functions of three integers; the program's tables for the abstract machine. Conditions: none.
-/
import Derived.Test.YtoohcobdljmofaaGreatDoorProg
import Derived.Test.YtoohcobdljmofaaGreatDoorSM6
import Derived.KernelRfl
namespace Go.Proofs.YtoohcobdljmofaaGreatDoor.mediaChooses
open Go Go.AM
/-- the program's tables, as trees -/
noncomputable def En : Env := mkEnv Tryz.prog
theorem okE : En.Ok := mkEnv_ok Tryz.prog
theorem mixed : En.P.follows .mixedOrders = true := by kernel_rfl
/-- the error, the width and the height that a request gives -/
def chE (w h p : Int) : Int := if w < 1 ∨ 128 < w ∨ h < 1 ∨ 128 < h ∨ p < 0 ∨ 2 < p then 2 else if (w = 64 ∧ h = 64) ∨ (w = 64 ∧ h = 96) ∨ (w = 96 ∧ h = 128) ∨ (w = 128 ∧ h = 128) then 0 else if p = 2 ∧ ((h = 64 ∧ w = 64) ∨ (h = 64 ∧ w = 96) ∨ (h = 96 ∧ w = 128) ∨ (h = 128 ∧ w = 128)) then 0 else if p = 1 then 0 else 41
def chW (w h p : Int) : Int := if w < 1 ∨ 128 < w ∨ h < 1 ∨ 128 < h ∨ p < 0 ∨ 2 < p then 0 else if (w = 64 ∧ h = 64) ∨ (w = 64 ∧ h = 96) ∨ (w = 96 ∧ h = 128) ∨ (w = 128 ∧ h = 128) then w else if p = 2 ∧ ((h = 64 ∧ w = 64) ∨ (h = 64 ∧ w = 96) ∨ (h = 96 ∧ w = 128) ∨ (h = 128 ∧ w = 128)) then h else if p = 1 then (if w ≤ 64 ∧ h ≤ 96 then 64 else if w ≤ 96 then 96 else 128) else 0
def chH (w h p : Int) : Int := if w < 1 ∨ 128 < w ∨ h < 1 ∨ 128 < h ∨ p < 0 ∨ 2 < p then 0 else if (w = 64 ∧ h = 64) ∨ (w = 64 ∧ h = 96) ∨ (w = 96 ∧ h = 128) ∨ (w = 128 ∧ h = 128) then h else if p = 2 ∧ ((h = 64 ∧ w = 64) ∨ (h = 64 ∧ w = 96) ∨ (h = 96 ∧ w = 128) ∨ (h = 128 ∧ w = 128)) then w else if p = 1 then (if w ≤ 64 ∧ h ≤ 64 then 64 else if w ≤ 64 ∧ h ≤ 96 then 96 else 128) else 0
noncomputable def chV (w h p : Int) : AV := .tup [.int .i64 (chW w h p), .int .i64 (chH w h p), .int .i64 (chE w h p)]
theorem tup3 {a b c a' b' c' : Int} (h1 : a = a') (h2 : b = b') (h3 : c = c') : AV.tup [.int .i64 a, .int .i64 b, .int .i64 c] = .tup [.int .i64 a', .int .i64 b', .int .i64 c'] := by rw [h1, h2, h3]
def TRUE : Bool := true
theorem flat3 (w h p : Int) : ∀ x, x ∈ [AV.int .i64 w, .int .i64 h, .int .i64 p] → kbA En.ng x = true := by
  intro x hx
  simp only [List.mem_cons, List.not_mem_nil, or_false] at hx
  rcases hx with rfl | rfl | rfl <;> rfl
/-- a call at three integers that only computes -/
theorem pure3 {F : Nat} {w h p : Int} {f0 : AF} {v : AV} (hen : enterA En F [.int .i64 w, .int .i64 h, .int .i64 p] false = some f0) (hv : kbA En.ng v = true) {S : Hp} (hS : S = H0 En) (he : Go.AM.Ends En f0 [] S (fun v' _ => v' = v)) : PureF En f0 v := by
  subst hS
  exact PureF.of_ends (plain_of_enter hen (flat3 w h p)) hv he
end Go.Proofs.YtoohcobdljmofaaGreatDoor.mediaChooses
