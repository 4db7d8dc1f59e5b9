/-
  'MediaGrants': what both Choose functions return, as plain functions of three integers; the program's tables for the abstract machine. Conditions: none.
-/
import Derived.Test.YtoohcobdljmofaaGreatDoorProg
import Derived.Test.YtoohcobdljmofaaGreatDoorSM6
import Derived.KernelRfl
namespace Go.Proofs.YtoohcobdljmofaaGreatDoor.mediaGrants
open Go Go.AM
/-- the program's tables, as trees -/
noncomputable def En : Env := mkEnv Tryz.prog
theorem okE : En.Ok := mkEnv_ok Tryz.prog
theorem mixed : En.P.follows .mixedOrders = true := by kernel_rfl
/-- the error, the width and the height that a request gives -/
def chE (w h p : Int) : Int := if w < 1 ∨ 128 < w ∨ h < 1 ∨ 128 < h ∨ p < 0 ∨ 2 < p then 2 else if (w = 64 ∧ h = 64) ∨ (w = 64 ∧ h = 96) ∨ (w = 96 ∧ h = 128) ∨ (w = 128 ∧ h = 128) then 0 else if p = 2 ∧ ((h = 64 ∧ w = 64) ∨ (h = 64 ∧ w = 96) ∨ (h = 96 ∧ w = 128) ∨ (h = 128 ∧ w = 128)) then 0 else if p = 1 then 0 else 41
def chW (w h p : Int) : Int := if w < 1 ∨ 128 < w ∨ h < 1 ∨ 128 < h ∨ p < 0 ∨ 2 < p then 0 else if (w = 64 ∧ h = 64) ∨ (w = 64 ∧ h = 96) ∨ (w = 96 ∧ h = 128) ∨ (w = 128 ∧ h = 128) then w else if p = 2 ∧ ((h = 64 ∧ w = 64) ∨ (h = 64 ∧ w = 96) ∨ (h = 96 ∧ w = 128) ∨ (h = 128 ∧ w = 128)) then h else if p = 1 then (if w ≤ 64 ∧ h ≤ 96 then 64 else if w ≤ 96 then 96 else 128) else 0
def chH (w h p : Int) : Int := if w < 1 ∨ 128 < w ∨ h < 1 ∨ 128 < h ∨ p < 0 ∨ 2 < p then 0 else if (w = 64 ∧ h = 64) ∨ (w = 64 ∧ h = 96) ∨ (w = 96 ∧ h = 128) ∨ (w = 128 ∧ h = 128) then h else if p = 2 ∧ ((h = 64 ∧ w = 64) ∨ (h = 64 ∧ w = 96) ∨ (h = 96 ∧ w = 128) ∨ (h = 128 ∧ w = 128)) then w else if p = 1 then (if w ≤ 64 ∧ h ≤ 64 then 64 else if w ≤ 64 ∧ h ≤ 96 then 96 else 128) else 0
noncomputable def chV (w h p : Int) : AV := .tup [.int .i64 (chW w h p), .int .i64 (chH w h p), .int .i64 (chE w h p)]
theorem tup3 {a b c a' b' c' : Int} (h1 : a = a') (h2 : b = b') (h3 : c = c') : AV.tup [.int .i64 a, .int .i64 b, .int .i64 c] = .tup [.int .i64 a', .int .i64 b', .int .i64 c'] := by rw [h1, h2, h3]
def TRUE : Bool := true
theorem beq2 {x y : Bool} {p q : Prop} (hx : x = true ↔ p) (hy : y = true ↔ q) (h : p ↔ q) : x = y := by
  rw [Bool.eq_iff_iff, hx, hy]; exact h
theorem wr_id (z : Int) (h : -9223372036854775808 ≤ z ∧ z ≤ 9223372036854775807) : wr .i64 z = z := by
  rw [wr_eq]; exact wrap_of_range .i64 z (by show -9223372036854775808 ≤ z; exact h.1) (by show z ≤ 9223372036854775807; exact h.2)
theorem wr_s (z : Int) (h : -1000 ≤ z ∧ z ≤ 1000) : wr .i64 (Int.add z (1)) = z + 1 := by
  have h1 := wr_id (z + 1) (by omega)
  exact h1
theorem rng (w : Int) (h : 0 ≤ w ∧ w ≤ 255) : 1 ≤ wr .i64 (Int.add (1) (wr .i64 (Int.tmod w (128)))) ∧ wr .i64 (Int.add (1) (wr .i64 (Int.tmod w (128)))) ≤ 128 := by
  have e : Int.tmod w 128 = w % 128 := Int.tmod_eq_emod_of_nonneg h.1
  have h1 : wr .i64 (Int.tmod w (128)) = w % 128 := by rw [e]; exact wr_id (w % 128) (by omega)
  rw [h1]
  have h2 : wr .i64 (1 + w % 128) = 1 + w % 128 := wr_id (1 + w % 128) (by omega)
  have h3 : Int.add (1) (w % 128) = 1 + w % 128 := rfl
  rw [h3]
  rw [h2]; omega

/-- a tray has this size -/
def TR (x y : Int) : Prop := (x = 64 ∧ y = 64) ∨ (x = 64 ∧ y = 96) ∨ (x = 96 ∧ y = 128) ∨ (x = 128 ∧ y = 128)
instance (x y : Int) : Decidable (TR x y) := inferInstanceAs (Decidable ((x = 64 ∧ y = 64) ∨ (x = 64 ∧ y = 96) ∨ (x = 96 ∧ y = 128) ∨ (x = 128 ∧ y = 128)))
def OUT (w h p : Int) : Prop := w < 1 ∨ 128 < w ∨ h < 1 ∨ 128 < h ∨ p < 0 ∨ 2 < p
instance (w h p : Int) : Decidable (OUT w h p) := inferInstanceAs (Decidable (w < 1 ∨ 128 < w ∨ h < 1 ∨ 128 < h ∨ p < 0 ∨ 2 < p))
theorem eE (w h p : Int) : chE w h p = if OUT w h p then 2 else if TR w h then 0 else if p = 2 ∧ TR h w then 0 else if p = 1 then 0 else 41 := rfl
theorem eW (w h p : Int) : chW w h p = if OUT w h p then 0 else if TR w h then w else if p = 2 ∧ TR h w then h else if p = 1 then (if w ≤ 64 ∧ h ≤ 96 then 64 else if w ≤ 96 then 96 else 128) else 0 := rfl
theorem eH (w h p : Int) : chH w h p = if OUT w h p then 0 else if TR w h then h else if p = 2 ∧ TR h w then w else if p = 1 then (if w ≤ 64 ∧ h ≤ 64 then 64 else if w ≤ 64 ∧ h ≤ 96 then 96 else 128) else 0 := rfl
def tau (x y : Int) : Int := if TR x y then 1 else 0
theorem in_of (x y p : Int) (hx : 1 ≤ x ∧ x ≤ 128) (hy : 1 ≤ y ∧ y ≤ 128) (hp : 0 ≤ p ∧ p ≤ 2) : ¬ OUT x y p := by unfold OUT; omega
theorem ch0 (x y : Int) (hx : 1 ≤ x ∧ x ≤ 128) (hy : 1 ≤ y ∧ y ≤ 128) : (tau x y = 1 ∧ chE x y (0) = 0 ∧ chW x y (0) = x ∧ chH x y (0) = y) ∨ (tau x y = 0 ∧ chE x y (0) = 41 ∧ chW x y (0) = 0 ∧ chH x y (0) = 0) := by
  have h1 := in_of x y 0 hx hy (by omega)
  by_cases h : TR x y
  · left; simp [eE, eW, eH, tau, h1, h]
  · right; simp [eE, eW, eH, tau, h1, h]
theorem ch1 (x y : Int) (hx : 1 ≤ x ∧ x ≤ 128) (hy : 1 ≤ y ∧ y ≤ 128) : chE x y (1) = 0 ∧ ((chW x y (1) = 64 ∧ chH x y (1) = 64 ∧ x ≤ 64 ∧ y ≤ 64) ∨ (chW x y (1) = 64 ∧ chH x y (1) = 96 ∧ x ≤ 64 ∧ 64 < y ∧ y ≤ 96) ∨ (chW x y (1) = 96 ∧ chH x y (1) = 128 ∧ x ≤ 96 ∧ ¬ (x ≤ 64 ∧ y ≤ 96)) ∨ (chW x y (1) = 128 ∧ chH x y (1) = 128 ∧ 96 < x)) ∧ (tau x y = 0 ∨ (chW x y (1) = x ∧ chH x y (1) = y)) := by
  have h1 := in_of x y 1 hx hy (by omega)
  by_cases h : TR x y
  · have e1 : chE x y 1 = 0 := by simp [eE, h1, h]
    have e2 : chW x y 1 = x := by simp [eW, h1, h]
    have e3 : chH x y 1 = y := by simp [eH, h1, h]
    refine ⟨e1, ?_, .inr ⟨e2, e3⟩⟩
    rw [e2, e3]
    rcases h with h | h | h | h <;> omega
  · have e0 : tau x y = 0 := by simp [tau, h]
    have e1 : chE x y 1 = 0 := by simp [eE, h1, h]
    have e2 : chW x y 1 = if x ≤ 64 ∧ y ≤ 96 then 64 else if x ≤ 96 then 96 else 128 := by simp [eW, h1, h]
    have e3 : chH x y 1 = if x ≤ 64 ∧ y ≤ 64 then 64 else if x ≤ 64 ∧ y ≤ 96 then 96 else 128 := by simp [eH, h1, h]
    refine ⟨e1, ?_, .inl e0⟩
    rw [e2, e3]
    by_cases a1 : x ≤ 64 ∧ y ≤ 64
    · rw [if_pos (show x ≤ 64 ∧ y ≤ 96 by omega), if_pos a1]; omega
    · by_cases a2 : x ≤ 64 ∧ y ≤ 96
      · rw [if_pos a2, if_neg a1, if_pos a2]; omega
      · rw [if_neg a2, if_neg a1, if_neg a2]
        by_cases a3 : x ≤ 96
        · rw [if_pos a3]; omega
        · rw [if_neg a3]; omega
theorem ch2 (x y : Int) (hx : 1 ≤ x ∧ x ≤ 128) (hy : 1 ≤ y ∧ y ≤ 128) : (tau x y = 1 ∧ chE x y (2) = 0 ∧ chW x y (2) = x ∧ chH x y (2) = y) ∨ (tau x y = 0 ∧ chE x y (2) = 0 ∧ chW x y (2) = y ∧ chH x y (2) = x) ∨ (tau x y = 0 ∧ chE x y (2) = 41 ∧ chW x y (2) = 0 ∧ chH x y (2) = 0) := by
  have h1 := in_of x y 2 hx hy (by omega)
  by_cases h : TR x y
  · left; simp [eE, eW, eH, tau, h1, h]
  · right
    by_cases h' : TR y x
    · left; simp [eE, eW, eH, tau, h1, h, h']
    · right; simp [eE, eW, eH, tau, h1, h, h']
theorem trayOf (i j : Int) : ¬ (chE i j (0) = 0) ∨ ((i = 64 ∧ j = 64) ∨ (i = 64 ∧ j = 96) ∨ (i = 96 ∧ j = 128) ∨ (i = 128 ∧ j = 128)) := by
  by_cases h : TR i j
  · exact .inr h
  · left
    by_cases h1 : OUT i j 0
    · simp [eE, h1]
    · simp [eE, h1, h]
/-- a size that a tray has is granted with every policy -/
theorem same (x y k : Int) (h : TR x y) (hk : k = 0 ∨ k = 1 ∨ k = 2) : chW x y k = x ∧ (chH x y k = y ∧ chE x y k = 0) := by
  have h1 : ¬ OUT x y k := by unfold OUT; rcases h with h | h | h | h <;> omega
  exact ⟨by simp [eW, h1, h], by simp [eH, h1, h], by simp [eE, h1, h]⟩
theorem granted (x y k : Int) (hx : 1 ≤ x ∧ x ≤ 128) (hy : 1 ≤ y ∧ y ≤ 128) (hk : k = 0 ∨ k = 1 ∨ k = 2) (h0 : chE x y k = 0) : TR (chW x y k) (chH x y k) := by
  have h1 := in_of x y k hx hy (by omega)
  by_cases h : TR x y
  · have := same x y k h hk
    rw [this.1, this.2.1]; exact h
  · rcases hk with rfl | rfl | rfl
    · simp [eE, h1, h] at h0
    · have := (ch1 x y hx hy).2.1
      unfold TR; omega
    · by_cases h' : TR y x
      · rw [show chW x y 2 = y from by simp [eW, h1, h, h'], show chH x y 2 = x from by simp [eH, h1, h, h']]; exact h'
      · simp [eE, h1, h, h'] at h0
theorem ag (x y k j : Int) (hx : 1 ≤ x ∧ x ≤ 128) (hy : 1 ≤ y ∧ y ≤ 128) (hk : k = 0 ∨ k = 1 ∨ k = 2) (hj : j = 0 ∨ j = 1 ∨ j = 2) (h0 : chE x y k = 0) :
    chW (chW x y k) (chH x y k) j = chW x y k ∧ (chH (chW x y k) (chH x y k) j = chH x y k ∧ chE (chW x y k) (chH x y k) j = 0) :=
  same _ _ j (granted x y k hx hy hk h0) hj
/-- a list of numbers -/
theorem flatL (l : List Int) : ∀ x, x ∈ l.map (fun n => AV.int .i64 n) → kbA En.ng x = true := by
  intro x hx
  obtain ⟨n, _, rfl⟩ := List.mem_map.1 hx
  rfl
/-- a call at numbers that only computes -/
theorem pureN {F : Nat} {l : List Int} {f0 : AF} {v : AV} (hen : enterA En F (l.map (fun n => AV.int .i64 n)) false = some f0) (hv : kbA En.ng v = true) {S : Hp} (hS : S = H0 En) (he : Go.AM.Ends En f0 [] S (fun v' _ => v' = v)) : PureF En f0 v := by
  subst hS
  exact PureF.of_ends (plain_of_enter hen (flatL l)) hv he
end Go.Proofs.YtoohcobdljmofaaGreatDoor.mediaGrants
