/-
  The law itself, for all its arguments: the pieces joined; both loops by induction. Conditions: none.
-/
import Derived.Test.YtoohcobdljmofaaGreatDoorMediaGrantsL2
namespace Go.Proofs.YtoohcobdljmofaaGreatDoor.mediaGrants.law
open Go Go.AM
set_option linter.unusedVariables false
theorem inner_step (x y a b i j : Int) (t : Tm) (hinv : (1 ≤ x ∧ x ≤ 128) ∧ (1 ≤ y ∧ y ≤ 128) ∧ ((a = 64 ∧ b = 64 ∧ x ≤ 64 ∧ y ≤ 64) ∨ (a = 64 ∧ b = 96 ∧ x ≤ 64 ∧ 64 < y ∧ y ≤ 96) ∨ (a = 96 ∧ b = 128 ∧ x ≤ 96 ∧ ¬ (x ≤ 64 ∧ y ≤ 96)) ∨ (a = 128 ∧ b = 128 ∧ 96 < x))) (hi : 1 ≤ i ∧ i ≤ 128) (hj : 1 ≤ j ∧ j ≤ 129)
    (hO : ∀ i' t', i' = i + 1 → Go.AM.Ends En (outerF x y a b i' t') (outerC x y a b i' t') (outerS x y a b i' t') (fun v _ => v = .bool true))
    (ih : j ≤ 128 → ∀ j' t', j' = j + 1 → Go.AM.Ends En (innerF x y a b i j' t') (innerC x y a b i j' t') (innerS x y a b i j' t') (fun v _ => v = .bool true)) :
    Go.AM.Ends En (innerF x y a b i j t) (innerC x y a b i j t) (innerS x y a b i j t) (fun v _ => v = .bool true) := by
    have F := trayOf i j
    refine Ends.segF okE mixed (s11 x y a b i j t) ?_
    by_cases h3 : (j ≤ (128 : Int))
    · rw [show (ile j (128)) = true from (ile_iff _ _).2 h3]
      refine Ends.segF okE mixed (s12 x y a b i j t) ?_
      refine Ends.pureAt (c10.pure10 i j (0) i j) (p13 x y a b i j t) ?_
      refine Ends.segF okE mixed (s14 x y a b i j t) ?_
      by_cases h4 : (((chW i j (0)) = i) ∧ (((chH i j (0)) = j) ∧ ((chE i j (0)) = (0 : Int))))
      · rw [show (Bool.and (ieq (chW i j (0)) i) (Bool.and (ieq (chH i j (0)) j) (ieq (chE i j (0)) (0)))) = true from (and_iff' (ieq_iff _ _) (and_iff' (ieq_iff _ _) (ieq_iff _ _))).2 h4]
        refine Ends.segF okE mixed (s15 x y a b i j t) ?_
        by_cases h5 : (x ≤ i)
        · rw [show (ile x i) = true from (ile_iff _ _).2 h5]
          refine Ends.segF okE mixed (s16 x y a b i j t) ?_
          by_cases h6 : (y ≤ j)
          · rw [show (ile y j) = true from (ile_iff _ _).2 h6]
            refine Ends.segF okE mixed (s17 x y a b i j t) ?_
            rw [show (ieq a (0)) = false from off (ieq_iff _ _) (show (¬ (a = (0 : Int))) from by as_aux_lemma => (first | exact fun h => h rfl | exact fun h => h (ag x y _ _ hx hy (by omega) (by omega) (by omega)) | (clear F1 F2; omega) | (clear F0 F2; omega) | (clear F0 F1; omega) | (clear F0; omega) | (clear F1; omega) | (clear F2; omega) | omega))]
            refine Ends.segF okE mixed (s18 x y a b i j t) ?_
            obtain rfl | rfl | rfl : a = 64 ∨ a = 96 ∨ a = 128 := by omega
            · skip
              refine Ends.segF okE mixed (s19 x y b i j t) ?_
              obtain rfl | rfl : b = 64 ∨ b = 96 := by omega
              · skip
                refine Ends.segF okE mixed (s20 x y i j t) ?_
                obtain rfl | rfl | rfl : i = 64 ∨ i = 96 ∨ i = 128 := by omega
                · skip
                  refine Ends.segF okE mixed (s21 x y j t) ?_
                  obtain rfl | rfl : j = 64 ∨ j = 96 := by omega
                  · skip
                    refine Ends.segF okE mixed (s22 x y t) ?_
                    exact ih (by omega) (65) (t122 x y t) (by first | omega | exact wr_s _ (by omega))
                  · skip
                    refine Ends.segF okE mixed (s23 x y t) ?_
                    exact ih (by omega) (97) (t130 x y t) (by first | omega | exact wr_s _ (by omega))
                · skip
                  refine Ends.segF okE mixed (s24 x y j t) ?_
                  obtain rfl : j = 128 := by omega
                  · skip
                    refine Ends.segF okE mixed (s25 x y t) ?_
                    exact ih (by omega) (129) (t147 x y t) (by first | omega | exact wr_s _ (by omega))
                · skip
                  refine Ends.segF okE mixed (s26 x y j t) ?_
                  obtain rfl : j = 128 := by omega
                  · skip
                    refine Ends.segF okE mixed (s27 x y t) ?_
                    exact ih (by omega) (129) (t158 x y t) (by first | omega | exact wr_s _ (by omega))
              · skip
                refine Ends.segF okE mixed (s28 x y i j t) ?_
                obtain rfl | rfl | rfl : i = 64 ∨ i = 96 ∨ i = 128 := by omega
                · skip
                  refine Ends.segF okE mixed (s29 x y j t) ?_
                  obtain rfl : j = 96 := by omega
                  · skip
                    refine Ends.segF okE mixed (s30 x y t) ?_
                    exact ih (by omega) (97) (t170 x y t) (by first | omega | exact wr_s _ (by omega))
                · skip
                  refine Ends.segF okE mixed (s31 x y j t) ?_
                  obtain rfl : j = 128 := by omega
                  · skip
                    refine Ends.segF okE mixed (s32 x y t) ?_
                    exact ih (by omega) (129) (t175 x y t) (by first | omega | exact wr_s _ (by omega))
                · skip
                  refine Ends.segF okE mixed (s33 x y j t) ?_
                  obtain rfl : j = 128 := by omega
                  · skip
                    refine Ends.segF okE mixed (s34 x y t) ?_
                    exact ih (by omega) (129) (t180 x y t) (by first | omega | exact wr_s _ (by omega))
            · skip
              refine Ends.segF okE mixed (s35 x y b i j t) ?_
              obtain rfl : b = 128 := by omega
              · skip
                refine Ends.segF okE mixed (s36 x y i j t) ?_
                obtain rfl | rfl : i = 96 ∨ i = 128 := by omega
                · skip
                  refine Ends.segF okE mixed (s37 x y j t) ?_
                  obtain rfl : j = 128 := by omega
                  · skip
                    refine Ends.segF okE mixed (s38 x y t) ?_
                    exact ih (by omega) (129) (t201 x y t) (by first | omega | exact wr_s _ (by omega))
                · skip
                  refine Ends.segF okE mixed (s39 x y j t) ?_
                  obtain rfl : j = 128 := by omega
                  · skip
                    refine Ends.segF okE mixed (s40 x y t) ?_
                    exact ih (by omega) (129) (t207 x y t) (by first | omega | exact wr_s _ (by omega))
            · skip
              refine Ends.segF okE mixed (s41 x y b i j t) ?_
              obtain rfl : b = 128 := by omega
              · skip
                refine Ends.segF okE mixed (s42 x y i j t) ?_
                obtain rfl : i = 128 := by omega
                · skip
                  refine Ends.segF okE mixed (s43 x y j t) ?_
                  obtain rfl : j = 128 := by omega
                  · skip
                    refine Ends.segF okE mixed (s44 x y t) ?_
                    exact ih (by omega) (129) (t226 x y t) (by first | omega | exact wr_s _ (by omega))
          · rw [show (ile y j) = false from off (ile_iff _ _) h6]
            refine Ends.segF okE mixed (s45 x y a b i j t) ?_
            exact ih (by omega) (wr .i64 (Int.add j (1))) (t242 x y a b i j t) (by first | omega | exact wr_s _ (by omega))
        · rw [show (ile x i) = false from off (ile_iff _ _) h5]
          refine Ends.segF okE mixed (s46 x y a b i j t) ?_
          exact ih (by omega) (wr .i64 (Int.add j (1))) (t249 x y a b i j t) (by first | omega | exact wr_s _ (by omega))
      · rw [show (Bool.and (ieq (chW i j (0)) i) (Bool.and (ieq (chH i j (0)) j) (ieq (chE i j (0)) (0)))) = false from off (and_iff' (ieq_iff _ _) (and_iff' (ieq_iff _ _) (ieq_iff _ _))) h4]
        refine Ends.segF okE mixed (s47 x y a b i j t) ?_
        exact ih (by omega) (wr .i64 (Int.add j (1))) (t257 x y a b i j t) (by first | omega | exact wr_s _ (by omega))
    · rw [show (ile j (128)) = false from off (ile_iff _ _) h3]
      refine Ends.segF okE mixed (s48 x y a b i j t) ?_
      exact hO (wr .i64 (Int.add i (1))) (t262 x y a b i j t) (by first | omega | exact wr_s _ (by omega))

theorem innerT (x y a b i : Int) (hinv : (1 ≤ x ∧ x ≤ 128) ∧ (1 ≤ y ∧ y ≤ 128) ∧ ((a = 64 ∧ b = 64 ∧ x ≤ 64 ∧ y ≤ 64) ∨ (a = 64 ∧ b = 96 ∧ x ≤ 64 ∧ 64 < y ∧ y ≤ 96) ∨ (a = 96 ∧ b = 128 ∧ x ≤ 96 ∧ ¬ (x ≤ 64 ∧ y ≤ 96)) ∨ (a = 128 ∧ b = 128 ∧ 96 < x))) (hi : 1 ≤ i ∧ i ≤ 128)
    (hO : ∀ i' t', i' = i + 1 → Go.AM.Ends En (outerF x y a b i' t') (outerC x y a b i' t') (outerS x y a b i' t') (fun v _ => v = .bool true)) :
    ∀ (n : Nat) (j : Int) (t : Tm), 1 ≤ j → j = 129 - n → Go.AM.Ends En (innerF x y a b i j t) (innerC x y a b i j t) (innerS x y a b i j t) (fun v _ => v = .bool true) := by
  intro n
  induction n with
  | zero => exact fun j t h1 h2 => inner_step x y a b i j t hinv hi (by omega) hO (fun h => absurd h (by omega))
  | succ n IH => exact fun j t h1 h2 => inner_step x y a b i j t hinv hi (by omega) hO (fun h j' t' e => IH j' t' (by omega) (by omega))
theorem outer_step (x y a b i : Int) (t : Tm) (hinv : (1 ≤ x ∧ x ≤ 128) ∧ (1 ≤ y ∧ y ≤ 128) ∧ ((a = 64 ∧ b = 64 ∧ x ≤ 64 ∧ y ≤ 64) ∨ (a = 64 ∧ b = 96 ∧ x ≤ 64 ∧ 64 < y ∧ y ≤ 96) ∨ (a = 96 ∧ b = 128 ∧ x ≤ 96 ∧ ¬ (x ≤ 64 ∧ y ≤ 96)) ∨ (a = 128 ∧ b = 128 ∧ 96 < x))) (hi : 1 ≤ i ∧ i ≤ 129)
    (ih : i ≤ 128 → ∀ i' t', i' = i + 1 → Go.AM.Ends En (outerF x y a b i' t') (outerC x y a b i' t') (outerS x y a b i' t') (fun v _ => v = .bool true)) :
    Go.AM.Ends En (outerF x y a b i t) (outerC x y a b i t) (outerS x y a b i t) (fun v _ => v = .bool true) := by
    refine Ends.segF okE mixed (s7 x y a b i t) ?_
    by_cases h2 : (i ≤ (128 : Int))
    · rw [show (ile i (128)) = true from (ile_iff _ _).2 h2]
      refine Ends.segF okE mixed (s8 x y a b i t) ?_
      exact innerT x y a b i hinv (by omega) (ih (by omega)) 128 (1) (t33 x y a b i t) (by omega) (by omega)
    · rw [show (ile i (128)) = false from off (ile_iff _ _) h2]
      exact Ends.lastF okE mixed (l9 x y a b i t) (by rfl)

theorem outerT (x y a b : Int) (hinv : (1 ≤ x ∧ x ≤ 128) ∧ (1 ≤ y ∧ y ≤ 128) ∧ ((a = 64 ∧ b = 64 ∧ x ≤ 64 ∧ y ≤ 64) ∨ (a = 64 ∧ b = 96 ∧ x ≤ 64 ∧ 64 < y ∧ y ≤ 96) ∨ (a = 96 ∧ b = 128 ∧ x ≤ 96 ∧ ¬ (x ≤ 64 ∧ y ≤ 96)) ∨ (a = 128 ∧ b = 128 ∧ 96 < x))) : ∀ (n : Nat) (i : Int) (t : Tm), 1 ≤ i → i = 129 - n → Go.AM.Ends En (outerF x y a b i t) (outerC x y a b i t) (outerS x y a b i t) (fun v _ => v = .bool true) := by
  intro n
  induction n with
  | zero => exact fun i t h1 h2 => outer_step x y a b i t hinv (by omega) (fun h => absurd h (by omega))
  | succ n IH => exact fun i t h1 h2 => outer_step x y a b i t hinv (by omega) (fun h i' t' e => IH i' t' (by omega) (by omega))
set_option maxHeartbeats 4000000 in
theorem genT (x y : Int) (t : Tm) (hx : 1 ≤ x ∧ x ≤ 128) (hy : 1 ≤ y ∧ y ≤ 128) : Go.AM.Ends En (genF x y t) (genC x y t) (genS x y t) (fun v _ => v = .bool true) := by
    have F0 := ch0 x y hx hy
    have F1 := ch1 x y hx hy
    have F2 := ch2 x y hx hy
    refine Ends.segF okE mixed (s50 x y t) ?_
    refine Ends.pureAt (c5.pure5 x y (0)) (p51 x y t) ?_
    refine Ends.segF okE mixed (s52 x y t) ?_
    by_cases h8 : ((chW x y (0)) = (0 : Int))
    · rw [show (ieq (chW x y (0)) (0)) = true from (ieq_iff _ _).2 h8]
      refine Ends.segF okE mixed (s53 x y t) ?_
      rw [show (ieq (chH x y (0)) (0)) = true from (ieq_iff _ _).2 (show ((chH x y (0)) = (0 : Int)) from by as_aux_lemma => (first | exact fun h => h rfl | exact fun h => h (ag x y _ _ hx hy (by omega) (by omega) (by omega)) | (clear F1 F2; omega) | (clear F0 F2; omega) | (clear F0 F1; omega) | (clear F0; omega) | (clear F1; omega) | (clear F2; omega) | omega))]
      refine Ends.segF okE mixed (s54 x y t) ?_
      rw [show (Bool.not (ieq (chE x y (0)) (41))) = false from off (not_iff' (ieq_iff _ _)) (show (¬ (¬ ((chE x y (0)) = (41 : Int)))) from by as_aux_lemma => (first | exact fun h => h rfl | exact fun h => h (ag x y _ _ hx hy (by omega) (by omega) (by omega)) | (clear F1 F2; omega) | (clear F0 F2; omega) | (clear F0 F1; omega) | (clear F0; omega) | (clear F1; omega) | (clear F2; omega) | omega))]
      refine Ends.segF okE mixed (s55 x y t) ?_
      refine Ends.pureAt (c5.pure5 x y (0)) (p56 x y t) ?_
      refine Ends.segF okE mixed (s57 x y t) ?_
      rw [show (Bool.not (ieq (chE x y (0)) (0))) = true from (not_iff' (ieq_iff _ _)).2 (show (¬ ((chE x y (0)) = (0 : Int))) from by as_aux_lemma => (first | exact fun h => h rfl | exact fun h => h (ag x y _ _ hx hy (by omega) (by omega) (by omega)) | (clear F1 F2; omega) | (clear F0 F2; omega) | (clear F0 F1; omega) | (clear F0; omega) | (clear F1; omega) | (clear F2; omega) | omega))]
      refine Ends.segF okE mixed (s58 x y t) ?_
      rw [show (Bool.not (ieq (chE x y (0)) (41))) = false from off (not_iff' (ieq_iff _ _)) (show (¬ (¬ ((chE x y (0)) = (41 : Int)))) from by as_aux_lemma => (first | exact fun h => h rfl | exact fun h => h (ag x y _ _ hx hy (by omega) (by omega) (by omega)) | (clear F1 F2; omega) | (clear F0 F2; omega) | (clear F0 F1; omega) | (clear F0; omega) | (clear F1; omega) | (clear F2; omega) | omega))]
      refine Ends.segF okE mixed (s59 x y t) ?_
      rw [show (Bool.not (ieq (chE x y (0)) (41))) = false from off (not_iff' (ieq_iff _ _)) (show (¬ (¬ ((chE x y (0)) = (41 : Int)))) from by as_aux_lemma => (first | exact fun h => h rfl | exact fun h => h (ag x y _ _ hx hy (by omega) (by omega) (by omega)) | (clear F1 F2; omega) | (clear F0 F2; omega) | (clear F0 F1; omega) | (clear F0; omega) | (clear F1; omega) | (clear F2; omega) | omega))]
      refine Ends.segF okE mixed (s60 x y t) ?_
      refine Ends.pureAt (c5.pure5 x y (1)) (p61 x y t) ?_
      refine Ends.segF okE mixed (s62 x y t) ?_
      rw [show (Bool.not (ieq (chE x y (1)) (0))) = false from off (not_iff' (ieq_iff _ _)) (show (¬ (¬ ((chE x y (1)) = (0 : Int)))) from by as_aux_lemma => (first | exact fun h => h rfl | exact fun h => h (ag x y _ _ hx hy (by omega) (by omega) (by omega)) | (clear F1 F2; omega) | (clear F0 F2; omega) | (clear F0 F1; omega) | (clear F0; omega) | (clear F1; omega) | (clear F2; omega) | omega))]
      refine Ends.segF okE mixed (s63 x y t) ?_
      refine Ends.pureAt (c10.pure10 (chW x y (1)) (chH x y (1)) (0) (chW x y (1)) (chH x y (1))) (p64 x y t) ?_
      refine Ends.segF okE mixed (s65 x y t) ?_
      rw [show (Bool.not (Bool.and (ieq (chW (chW x y (1)) (chH x y (1)) (0)) (chW x y (1))) (Bool.and (ieq (chH (chW x y (1)) (chH x y (1)) (0)) (chH x y (1))) (ieq (chE (chW x y (1)) (chH x y (1)) (0)) (0))))) = false from off (not_iff' (and_iff' (ieq_iff _ _) (and_iff' (ieq_iff _ _) (ieq_iff _ _)))) (show (¬ (¬ (((chW (chW x y (1)) (chH x y (1)) (0)) = (chW x y (1))) ∧ (((chH (chW x y (1)) (chH x y (1)) (0)) = (chH x y (1))) ∧ ((chE (chW x y (1)) (chH x y (1)) (0)) = (0 : Int)))))) from by as_aux_lemma => (first | exact fun h => h rfl | exact fun h => h (ag x y _ _ hx hy (by omega) (by omega) (by omega)) | (clear F1 F2; omega) | (clear F0 F2; omega) | (clear F0 F1; omega) | (clear F0; omega) | (clear F1; omega) | (clear F2; omega) | omega))]
      refine Ends.segF okE mixed (s66 x y t) ?_
      refine Ends.pureAt (c10.pure10 (chW x y (1)) (chH x y (1)) (1) (chW x y (1)) (chH x y (1))) (p67 x y t) ?_
      refine Ends.segF okE mixed (s68 x y t) ?_
      rw [show (Bool.not (Bool.and (ieq (chW (chW x y (1)) (chH x y (1)) (1)) (chW x y (1))) (Bool.and (ieq (chH (chW x y (1)) (chH x y (1)) (1)) (chH x y (1))) (ieq (chE (chW x y (1)) (chH x y (1)) (1)) (0))))) = false from off (not_iff' (and_iff' (ieq_iff _ _) (and_iff' (ieq_iff _ _) (ieq_iff _ _)))) (show (¬ (¬ (((chW (chW x y (1)) (chH x y (1)) (1)) = (chW x y (1))) ∧ (((chH (chW x y (1)) (chH x y (1)) (1)) = (chH x y (1))) ∧ ((chE (chW x y (1)) (chH x y (1)) (1)) = (0 : Int)))))) from by as_aux_lemma => (first | exact fun h => h rfl | exact fun h => h (ag x y _ _ hx hy (by omega) (by omega) (by omega)) | (clear F1 F2; omega) | (clear F0 F2; omega) | (clear F0 F1; omega) | (clear F0; omega) | (clear F1; omega) | (clear F2; omega) | omega))]
      refine Ends.segF okE mixed (s69 x y t) ?_
      refine Ends.pureAt (c10.pure10 (chW x y (1)) (chH x y (1)) (2) (chW x y (1)) (chH x y (1))) (p70 x y t) ?_
      refine Ends.segF okE mixed (s71 x y t) ?_
      rw [show (Bool.not (Bool.and (ieq (chW (chW x y (1)) (chH x y (1)) (2)) (chW x y (1))) (Bool.and (ieq (chH (chW x y (1)) (chH x y (1)) (2)) (chH x y (1))) (ieq (chE (chW x y (1)) (chH x y (1)) (2)) (0))))) = false from off (not_iff' (and_iff' (ieq_iff _ _) (and_iff' (ieq_iff _ _) (ieq_iff _ _)))) (show (¬ (¬ (((chW (chW x y (1)) (chH x y (1)) (2)) = (chW x y (1))) ∧ (((chH (chW x y (1)) (chH x y (1)) (2)) = (chH x y (1))) ∧ ((chE (chW x y (1)) (chH x y (1)) (2)) = (0 : Int)))))) from by as_aux_lemma => (first | exact fun h => h rfl | exact fun h => h (ag x y _ _ hx hy (by omega) (by omega) (by omega)) | (clear F1 F2; omega) | (clear F0 F2; omega) | (clear F0 F1; omega) | (clear F0; omega) | (clear F1; omega) | (clear F2; omega) | omega))]
      refine Ends.segF okE mixed (s72 x y t) ?_
      rw [show (Bool.not (ieq (chE x y (0)) (41))) = false from off (not_iff' (ieq_iff _ _)) (show (¬ (¬ ((chE x y (0)) = (41 : Int)))) from by as_aux_lemma => (first | exact fun h => h rfl | exact fun h => h (ag x y _ _ hx hy (by omega) (by omega) (by omega)) | (clear F1 F2; omega) | (clear F0 F2; omega) | (clear F0 F1; omega) | (clear F0; omega) | (clear F1; omega) | (clear F2; omega) | omega))]
      refine Ends.segF okE mixed (s73 x y t) ?_
      rw [show (ilt (chW x y (1)) x) = false from off (ilt_iff _ _) (show (¬ ((chW x y (1)) < x)) from by as_aux_lemma => (first | exact fun h => h rfl | exact fun h => h (ag x y _ _ hx hy (by omega) (by omega) (by omega)) | (clear F1 F2; omega) | (clear F0 F2; omega) | (clear F0 F1; omega) | (clear F0; omega) | (clear F1; omega) | (clear F2; omega) | omega))]
      refine Ends.segF okE mixed (s74 x y t) ?_
      rw [show (ilt (chH x y (1)) y) = false from off (ilt_iff _ _) (show (¬ ((chH x y (1)) < y)) from by as_aux_lemma => (first | exact fun h => h rfl | exact fun h => h (ag x y _ _ hx hy (by omega) (by omega) (by omega)) | (clear F1 F2; omega) | (clear F0 F2; omega) | (clear F0 F1; omega) | (clear F0; omega) | (clear F1; omega) | (clear F2; omega) | omega))]
      refine Ends.segF okE mixed (s75 x y t) ?_
      refine Ends.pureAt (c5.pure5 x y (2)) (p76 x y t) ?_
      refine Ends.segF okE mixed (s77 x y t) ?_
      by_cases h21 : (¬ ((chE x y (2)) = (0 : Int)))
      · rw [show (Bool.not (ieq (chE x y (2)) (0))) = true from (not_iff' (ieq_iff _ _)).2 h21]
        refine Ends.segF okE mixed (s78 x y t) ?_
        rw [show (Bool.not (ieq (chE x y (2)) (41))) = false from off (not_iff' (ieq_iff _ _)) (show (¬ (¬ ((chE x y (2)) = (41 : Int)))) from by as_aux_lemma => (first | exact fun h => h rfl | exact fun h => h (ag x y _ _ hx hy (by omega) (by omega) (by omega)) | (clear F1 F2; omega) | (clear F0 F2; omega) | (clear F0 F1; omega) | (clear F0; omega) | (clear F1; omega) | (clear F2; omega) | omega))]
        refine Ends.segF okE mixed (s79 x y t) ?_
        rw [show (Bool.not (ieq (chE x y (0)) (41))) = false from off (not_iff' (ieq_iff _ _)) (show (¬ (¬ ((chE x y (0)) = (41 : Int)))) from by as_aux_lemma => (first | exact fun h => h rfl | exact fun h => h (ag x y _ _ hx hy (by omega) (by omega) (by omega)) | (clear F1 F2; omega) | (clear F0 F2; omega) | (clear F0 F1; omega) | (clear F0; omega) | (clear F1; omega) | (clear F2; omega) | omega))]
        refine Ends.segF okE mixed (s80 x y t) ?_
        exact outerT x y (chW x y (1)) (chH x y (1)) (by omega) 128 (1) (t429 x y t) (by omega) (by omega)
      · rw [show (Bool.not (ieq (chE x y (2)) (0))) = false from off (not_iff' (ieq_iff _ _)) h21]
        refine Ends.segF okE mixed (s81 x y t) ?_
        refine Ends.pureAt (c10.pure10 (chW x y (2)) (chH x y (2)) (0) (chW x y (2)) (chH x y (2))) (p82 x y t) ?_
        refine Ends.segF okE mixed (s83 x y t) ?_
        rw [show (Bool.not (Bool.and (ieq (chW (chW x y (2)) (chH x y (2)) (0)) (chW x y (2))) (Bool.and (ieq (chH (chW x y (2)) (chH x y (2)) (0)) (chH x y (2))) (ieq (chE (chW x y (2)) (chH x y (2)) (0)) (0))))) = false from off (not_iff' (and_iff' (ieq_iff _ _) (and_iff' (ieq_iff _ _) (ieq_iff _ _)))) (show (¬ (¬ (((chW (chW x y (2)) (chH x y (2)) (0)) = (chW x y (2))) ∧ (((chH (chW x y (2)) (chH x y (2)) (0)) = (chH x y (2))) ∧ ((chE (chW x y (2)) (chH x y (2)) (0)) = (0 : Int)))))) from by as_aux_lemma => (first | exact fun h => h rfl | exact fun h => h (ag x y _ _ hx hy (by omega) (by omega) (by omega)) | (clear F1 F2; omega) | (clear F0 F2; omega) | (clear F0 F1; omega) | (clear F0; omega) | (clear F1; omega) | (clear F2; omega) | omega))]
        refine Ends.segF okE mixed (s84 x y t) ?_
        refine Ends.pureAt (c10.pure10 (chW x y (2)) (chH x y (2)) (1) (chW x y (2)) (chH x y (2))) (p85 x y t) ?_
        refine Ends.segF okE mixed (s86 x y t) ?_
        rw [show (Bool.not (Bool.and (ieq (chW (chW x y (2)) (chH x y (2)) (1)) (chW x y (2))) (Bool.and (ieq (chH (chW x y (2)) (chH x y (2)) (1)) (chH x y (2))) (ieq (chE (chW x y (2)) (chH x y (2)) (1)) (0))))) = false from off (not_iff' (and_iff' (ieq_iff _ _) (and_iff' (ieq_iff _ _) (ieq_iff _ _)))) (show (¬ (¬ (((chW (chW x y (2)) (chH x y (2)) (1)) = (chW x y (2))) ∧ (((chH (chW x y (2)) (chH x y (2)) (1)) = (chH x y (2))) ∧ ((chE (chW x y (2)) (chH x y (2)) (1)) = (0 : Int)))))) from by as_aux_lemma => (first | exact fun h => h rfl | exact fun h => h (ag x y _ _ hx hy (by omega) (by omega) (by omega)) | (clear F1 F2; omega) | (clear F0 F2; omega) | (clear F0 F1; omega) | (clear F0; omega) | (clear F1; omega) | (clear F2; omega) | omega))]
        refine Ends.segF okE mixed (s87 x y t) ?_
        refine Ends.pureAt (c10.pure10 (chW x y (2)) (chH x y (2)) (2) (chW x y (2)) (chH x y (2))) (p88 x y t) ?_
        refine Ends.segF okE mixed (s89 x y t) ?_
        rw [show (Bool.not (Bool.and (ieq (chW (chW x y (2)) (chH x y (2)) (2)) (chW x y (2))) (Bool.and (ieq (chH (chW x y (2)) (chH x y (2)) (2)) (chH x y (2))) (ieq (chE (chW x y (2)) (chH x y (2)) (2)) (0))))) = false from off (not_iff' (and_iff' (ieq_iff _ _) (and_iff' (ieq_iff _ _) (ieq_iff _ _)))) (show (¬ (¬ (((chW (chW x y (2)) (chH x y (2)) (2)) = (chW x y (2))) ∧ (((chH (chW x y (2)) (chH x y (2)) (2)) = (chH x y (2))) ∧ ((chE (chW x y (2)) (chH x y (2)) (2)) = (0 : Int)))))) from by as_aux_lemma => (first | exact fun h => h rfl | exact fun h => h (ag x y _ _ hx hy (by omega) (by omega) (by omega)) | (clear F1 F2; omega) | (clear F0 F2; omega) | (clear F0 F1; omega) | (clear F0; omega) | (clear F1; omega) | (clear F2; omega) | omega))]
        refine Ends.segF okE mixed (s90 x y t) ?_
        rw [show (Bool.not (ieq (chE x y (0)) (41))) = false from off (not_iff' (ieq_iff _ _)) (show (¬ (¬ ((chE x y (0)) = (41 : Int)))) from by as_aux_lemma => (first | exact fun h => h rfl | exact fun h => h (ag x y _ _ hx hy (by omega) (by omega) (by omega)) | (clear F1 F2; omega) | (clear F0 F2; omega) | (clear F0 F1; omega) | (clear F0; omega) | (clear F1; omega) | (clear F2; omega) | omega))]
        refine Ends.segF okE mixed (s91 x y t) ?_
        rw [show (ieq (chE x y (0)) (41)) = true from (ieq_iff _ _).2 (show ((chE x y (0)) = (41 : Int)) from by as_aux_lemma => (first | exact fun h => h rfl | exact fun h => h (ag x y _ _ hx hy (by omega) (by omega) (by omega)) | (clear F1 F2; omega) | (clear F0 F2; omega) | (clear F0 F1; omega) | (clear F0; omega) | (clear F1; omega) | (clear F2; omega) | omega))]
        refine Ends.segF okE mixed (s92 x y t) ?_
        rw [show (Bool.not (ieq (chW x y (2)) y)) = false from off (not_iff' (ieq_iff _ _)) (show (¬ (¬ ((chW x y (2)) = y))) from by as_aux_lemma => (first | exact fun h => h rfl | exact fun h => h (ag x y _ _ hx hy (by omega) (by omega) (by omega)) | (clear F1 F2; omega) | (clear F0 F2; omega) | (clear F0 F1; omega) | (clear F0; omega) | (clear F1; omega) | (clear F2; omega) | omega))]
        refine Ends.segF okE mixed (s93 x y t) ?_
        rw [show (Bool.not (ieq (chH x y (2)) x)) = false from off (not_iff' (ieq_iff _ _)) (show (¬ (¬ ((chH x y (2)) = x))) from by as_aux_lemma => (first | exact fun h => h rfl | exact fun h => h (ag x y _ _ hx hy (by omega) (by omega) (by omega)) | (clear F1 F2; omega) | (clear F0 F2; omega) | (clear F0 F1; omega) | (clear F0; omega) | (clear F1; omega) | (clear F2; omega) | omega))]
        refine Ends.segF okE mixed (s94 x y t) ?_
        exact outerT x y (chW x y (1)) (chH x y (1)) (by omega) 128 (1) (t506 x y t) (by omega) (by omega)
    · rw [show (ieq (chW x y (0)) (0)) = false from off (ieq_iff _ _) h8]
      refine Ends.segF okE mixed (s95 x y t) ?_
      refine Ends.pureAt (c10.pure10 x y (0) x y) (p96 x y t) ?_
      refine Ends.segF okE mixed (s97 x y t) ?_
      rw [show (Bool.not (Bool.and (ieq (chW x y (0)) x) (Bool.and (ieq (chH x y (0)) y) (ieq (chE x y (0)) (0))))) = false from off (not_iff' (and_iff' (ieq_iff _ _) (and_iff' (ieq_iff _ _) (ieq_iff _ _)))) (show (¬ (¬ (((chW x y (0)) = x) ∧ (((chH x y (0)) = y) ∧ ((chE x y (0)) = (0 : Int)))))) from by as_aux_lemma => (first | exact fun h => h rfl | exact fun h => h (ag x y _ _ hx hy (by omega) (by omega) (by omega)) | (clear F1 F2; omega) | (clear F0 F2; omega) | (clear F0 F1; omega) | (clear F0; omega) | (clear F1; omega) | (clear F2; omega) | omega))]
      refine Ends.segF okE mixed (s98 x y t) ?_
      refine Ends.pureAt (c5.pure5 x y (0)) (p99 x y t) ?_
      refine Ends.segF okE mixed (s100 x y t) ?_
      rw [show (Bool.not (ieq (chE x y (0)) (0))) = false from off (not_iff' (ieq_iff _ _)) (show (¬ (¬ ((chE x y (0)) = (0 : Int)))) from by as_aux_lemma => (first | exact fun h => h rfl | exact fun h => h (ag x y _ _ hx hy (by omega) (by omega) (by omega)) | (clear F1 F2; omega) | (clear F0 F2; omega) | (clear F0 F1; omega) | (clear F0; omega) | (clear F1; omega) | (clear F2; omega) | omega))]
      refine Ends.segF okE mixed (s101 x y t) ?_
      refine Ends.pureAt (c10.pure10 (chW x y (0)) (chH x y (0)) (0) (chW x y (0)) (chH x y (0))) (p102 x y t) ?_
      refine Ends.segF okE mixed (s103 x y t) ?_
      rw [show (Bool.not (Bool.and (ieq (chW (chW x y (0)) (chH x y (0)) (0)) (chW x y (0))) (Bool.and (ieq (chH (chW x y (0)) (chH x y (0)) (0)) (chH x y (0))) (ieq (chE (chW x y (0)) (chH x y (0)) (0)) (0))))) = false from off (not_iff' (and_iff' (ieq_iff _ _) (and_iff' (ieq_iff _ _) (ieq_iff _ _)))) (show (¬ (¬ (((chW (chW x y (0)) (chH x y (0)) (0)) = (chW x y (0))) ∧ (((chH (chW x y (0)) (chH x y (0)) (0)) = (chH x y (0))) ∧ ((chE (chW x y (0)) (chH x y (0)) (0)) = (0 : Int)))))) from by as_aux_lemma => (first | exact fun h => h rfl | exact fun h => h (ag x y _ _ hx hy (by omega) (by omega) (by omega)) | (clear F1 F2; omega) | (clear F0 F2; omega) | (clear F0 F1; omega) | (clear F0; omega) | (clear F1; omega) | (clear F2; omega) | omega))]
      refine Ends.segF okE mixed (s104 x y t) ?_
      refine Ends.pureAt (c10.pure10 (chW x y (0)) (chH x y (0)) (1) (chW x y (0)) (chH x y (0))) (p105 x y t) ?_
      refine Ends.segF okE mixed (s106 x y t) ?_
      rw [show (Bool.not (Bool.and (ieq (chW (chW x y (0)) (chH x y (0)) (1)) (chW x y (0))) (Bool.and (ieq (chH (chW x y (0)) (chH x y (0)) (1)) (chH x y (0))) (ieq (chE (chW x y (0)) (chH x y (0)) (1)) (0))))) = false from off (not_iff' (and_iff' (ieq_iff _ _) (and_iff' (ieq_iff _ _) (ieq_iff _ _)))) (show (¬ (¬ (((chW (chW x y (0)) (chH x y (0)) (1)) = (chW x y (0))) ∧ (((chH (chW x y (0)) (chH x y (0)) (1)) = (chH x y (0))) ∧ ((chE (chW x y (0)) (chH x y (0)) (1)) = (0 : Int)))))) from by as_aux_lemma => (first | exact fun h => h rfl | exact fun h => h (ag x y _ _ hx hy (by omega) (by omega) (by omega)) | (clear F1 F2; omega) | (clear F0 F2; omega) | (clear F0 F1; omega) | (clear F0; omega) | (clear F1; omega) | (clear F2; omega) | omega))]
      refine Ends.segF okE mixed (s107 x y t) ?_
      refine Ends.pureAt (c10.pure10 (chW x y (0)) (chH x y (0)) (2) (chW x y (0)) (chH x y (0))) (p108 x y t) ?_
      refine Ends.segF okE mixed (s109 x y t) ?_
      rw [show (Bool.not (Bool.and (ieq (chW (chW x y (0)) (chH x y (0)) (2)) (chW x y (0))) (Bool.and (ieq (chH (chW x y (0)) (chH x y (0)) (2)) (chH x y (0))) (ieq (chE (chW x y (0)) (chH x y (0)) (2)) (0))))) = false from off (not_iff' (and_iff' (ieq_iff _ _) (and_iff' (ieq_iff _ _) (ieq_iff _ _)))) (show (¬ (¬ (((chW (chW x y (0)) (chH x y (0)) (2)) = (chW x y (0))) ∧ (((chH (chW x y (0)) (chH x y (0)) (2)) = (chH x y (0))) ∧ ((chE (chW x y (0)) (chH x y (0)) (2)) = (0 : Int)))))) from by as_aux_lemma => (first | exact fun h => h rfl | exact fun h => h (ag x y _ _ hx hy (by omega) (by omega) (by omega)) | (clear F1 F2; omega) | (clear F0 F2; omega) | (clear F0 F1; omega) | (clear F0; omega) | (clear F1; omega) | (clear F2; omega) | omega))]
      refine Ends.segF okE mixed (s110 x y t) ?_
      rw [show (Bool.not (ieq (chW x y (0)) x)) = false from off (not_iff' (ieq_iff _ _)) (show (¬ (¬ ((chW x y (0)) = x))) from by as_aux_lemma => (first | exact fun h => h rfl | exact fun h => h (ag x y _ _ hx hy (by omega) (by omega) (by omega)) | (clear F1 F2; omega) | (clear F0 F2; omega) | (clear F0 F1; omega) | (clear F0; omega) | (clear F1; omega) | (clear F2; omega) | omega))]
      refine Ends.segF okE mixed (s111 x y t) ?_
      rw [show (Bool.not (ieq (chH x y (0)) y)) = false from off (not_iff' (ieq_iff _ _)) (show (¬ (¬ ((chH x y (0)) = y))) from by as_aux_lemma => (first | exact fun h => h rfl | exact fun h => h (ag x y _ _ hx hy (by omega) (by omega) (by omega)) | (clear F1 F2; omega) | (clear F0 F2; omega) | (clear F0 F1; omega) | (clear F0; omega) | (clear F1; omega) | (clear F2; omega) | omega))]
      refine Ends.segF okE mixed (s112 x y t) ?_
      refine Ends.pureAt (c5.pure5 x y (1)) (p113 x y t) ?_
      refine Ends.segF okE mixed (s114 x y t) ?_
      rw [show (Bool.not (ieq (chE x y (1)) (0))) = false from off (not_iff' (ieq_iff _ _)) (show (¬ (¬ ((chE x y (1)) = (0 : Int)))) from by as_aux_lemma => (first | exact fun h => h rfl | exact fun h => h (ag x y _ _ hx hy (by omega) (by omega) (by omega)) | (clear F1 F2; omega) | (clear F0 F2; omega) | (clear F0 F1; omega) | (clear F0; omega) | (clear F1; omega) | (clear F2; omega) | omega))]
      refine Ends.segF okE mixed (s115 x y t) ?_
      refine Ends.pureAt (c10.pure10 (chW x y (1)) (chH x y (1)) (0) (chW x y (1)) (chH x y (1))) (p116 x y t) ?_
      refine Ends.segF okE mixed (s117 x y t) ?_
      rw [show (Bool.not (Bool.and (ieq (chW (chW x y (1)) (chH x y (1)) (0)) (chW x y (1))) (Bool.and (ieq (chH (chW x y (1)) (chH x y (1)) (0)) (chH x y (1))) (ieq (chE (chW x y (1)) (chH x y (1)) (0)) (0))))) = false from off (not_iff' (and_iff' (ieq_iff _ _) (and_iff' (ieq_iff _ _) (ieq_iff _ _)))) (show (¬ (¬ (((chW (chW x y (1)) (chH x y (1)) (0)) = (chW x y (1))) ∧ (((chH (chW x y (1)) (chH x y (1)) (0)) = (chH x y (1))) ∧ ((chE (chW x y (1)) (chH x y (1)) (0)) = (0 : Int)))))) from by as_aux_lemma => (first | exact fun h => h rfl | exact fun h => h (ag x y _ _ hx hy (by omega) (by omega) (by omega)) | (clear F1 F2; omega) | (clear F0 F2; omega) | (clear F0 F1; omega) | (clear F0; omega) | (clear F1; omega) | (clear F2; omega) | omega))]
      refine Ends.segF okE mixed (s118 x y t) ?_
      refine Ends.pureAt (c10.pure10 (chW x y (1)) (chH x y (1)) (1) (chW x y (1)) (chH x y (1))) (p119 x y t) ?_
      refine Ends.segF okE mixed (s120 x y t) ?_
      rw [show (Bool.not (Bool.and (ieq (chW (chW x y (1)) (chH x y (1)) (1)) (chW x y (1))) (Bool.and (ieq (chH (chW x y (1)) (chH x y (1)) (1)) (chH x y (1))) (ieq (chE (chW x y (1)) (chH x y (1)) (1)) (0))))) = false from off (not_iff' (and_iff' (ieq_iff _ _) (and_iff' (ieq_iff _ _) (ieq_iff _ _)))) (show (¬ (¬ (((chW (chW x y (1)) (chH x y (1)) (1)) = (chW x y (1))) ∧ (((chH (chW x y (1)) (chH x y (1)) (1)) = (chH x y (1))) ∧ ((chE (chW x y (1)) (chH x y (1)) (1)) = (0 : Int)))))) from by as_aux_lemma => (first | exact fun h => h rfl | exact fun h => h (ag x y _ _ hx hy (by omega) (by omega) (by omega)) | (clear F1 F2; omega) | (clear F0 F2; omega) | (clear F0 F1; omega) | (clear F0; omega) | (clear F1; omega) | (clear F2; omega) | omega))]
      refine Ends.segF okE mixed (s121 x y t) ?_
      refine Ends.pureAt (c10.pure10 (chW x y (1)) (chH x y (1)) (2) (chW x y (1)) (chH x y (1))) (p122 x y t) ?_
      refine Ends.segF okE mixed (s123 x y t) ?_
      rw [show (Bool.not (Bool.and (ieq (chW (chW x y (1)) (chH x y (1)) (2)) (chW x y (1))) (Bool.and (ieq (chH (chW x y (1)) (chH x y (1)) (2)) (chH x y (1))) (ieq (chE (chW x y (1)) (chH x y (1)) (2)) (0))))) = false from off (not_iff' (and_iff' (ieq_iff _ _) (and_iff' (ieq_iff _ _) (ieq_iff _ _)))) (show (¬ (¬ (((chW (chW x y (1)) (chH x y (1)) (2)) = (chW x y (1))) ∧ (((chH (chW x y (1)) (chH x y (1)) (2)) = (chH x y (1))) ∧ ((chE (chW x y (1)) (chH x y (1)) (2)) = (0 : Int)))))) from by as_aux_lemma => (first | exact fun h => h rfl | exact fun h => h (ag x y _ _ hx hy (by omega) (by omega) (by omega)) | (clear F1 F2; omega) | (clear F0 F2; omega) | (clear F0 F1; omega) | (clear F0; omega) | (clear F1; omega) | (clear F2; omega) | omega))]
      refine Ends.segF okE mixed (s124 x y t) ?_
      rw [show (Bool.not (ieq (chW x y (1)) x)) = false from off (not_iff' (ieq_iff _ _)) (show (¬ (¬ ((chW x y (1)) = x))) from by as_aux_lemma => (first | exact fun h => h rfl | exact fun h => h (ag x y _ _ hx hy (by omega) (by omega) (by omega)) | (clear F1 F2; omega) | (clear F0 F2; omega) | (clear F0 F1; omega) | (clear F0; omega) | (clear F1; omega) | (clear F2; omega) | omega))]
      refine Ends.segF okE mixed (s125 x y t) ?_
      rw [show (Bool.not (ieq (chH x y (1)) y)) = false from off (not_iff' (ieq_iff _ _)) (show (¬ (¬ ((chH x y (1)) = y))) from by as_aux_lemma => (first | exact fun h => h rfl | exact fun h => h (ag x y _ _ hx hy (by omega) (by omega) (by omega)) | (clear F1 F2; omega) | (clear F0 F2; omega) | (clear F0 F1; omega) | (clear F0; omega) | (clear F1; omega) | (clear F2; omega) | omega))]
      refine Ends.segF okE mixed (s126 x y t) ?_
      rw [show (ilt (chW x y (1)) x) = false from off (ilt_iff _ _) (show (¬ ((chW x y (1)) < x)) from by as_aux_lemma => (first | exact fun h => h rfl | exact fun h => h (ag x y _ _ hx hy (by omega) (by omega) (by omega)) | (clear F1 F2; omega) | (clear F0 F2; omega) | (clear F0 F1; omega) | (clear F0; omega) | (clear F1; omega) | (clear F2; omega) | omega))]
      refine Ends.segF okE mixed (s127 x y t) ?_
      rw [show (ilt (chH x y (1)) y) = false from off (ilt_iff _ _) (show (¬ ((chH x y (1)) < y)) from by as_aux_lemma => (first | exact fun h => h rfl | exact fun h => h (ag x y _ _ hx hy (by omega) (by omega) (by omega)) | (clear F1 F2; omega) | (clear F0 F2; omega) | (clear F0 F1; omega) | (clear F0; omega) | (clear F1; omega) | (clear F2; omega) | omega))]
      refine Ends.segF okE mixed (s128 x y t) ?_
      refine Ends.pureAt (c5.pure5 x y (2)) (p129 x y t) ?_
      refine Ends.segF okE mixed (s130 x y t) ?_
      rw [show (Bool.not (ieq (chE x y (2)) (0))) = false from off (not_iff' (ieq_iff _ _)) (show (¬ (¬ ((chE x y (2)) = (0 : Int)))) from by as_aux_lemma => (first | exact fun h => h rfl | exact fun h => h (ag x y _ _ hx hy (by omega) (by omega) (by omega)) | (clear F1 F2; omega) | (clear F0 F2; omega) | (clear F0 F1; omega) | (clear F0; omega) | (clear F1; omega) | (clear F2; omega) | omega))]
      refine Ends.segF okE mixed (s131 x y t) ?_
      refine Ends.pureAt (c10.pure10 (chW x y (2)) (chH x y (2)) (0) (chW x y (2)) (chH x y (2))) (p132 x y t) ?_
      refine Ends.segF okE mixed (s133 x y t) ?_
      rw [show (Bool.not (Bool.and (ieq (chW (chW x y (2)) (chH x y (2)) (0)) (chW x y (2))) (Bool.and (ieq (chH (chW x y (2)) (chH x y (2)) (0)) (chH x y (2))) (ieq (chE (chW x y (2)) (chH x y (2)) (0)) (0))))) = false from off (not_iff' (and_iff' (ieq_iff _ _) (and_iff' (ieq_iff _ _) (ieq_iff _ _)))) (show (¬ (¬ (((chW (chW x y (2)) (chH x y (2)) (0)) = (chW x y (2))) ∧ (((chH (chW x y (2)) (chH x y (2)) (0)) = (chH x y (2))) ∧ ((chE (chW x y (2)) (chH x y (2)) (0)) = (0 : Int)))))) from by as_aux_lemma => (first | exact fun h => h rfl | exact fun h => h (ag x y _ _ hx hy (by omega) (by omega) (by omega)) | (clear F1 F2; omega) | (clear F0 F2; omega) | (clear F0 F1; omega) | (clear F0; omega) | (clear F1; omega) | (clear F2; omega) | omega))]
      refine Ends.segF okE mixed (s134 x y t) ?_
      refine Ends.pureAt (c10.pure10 (chW x y (2)) (chH x y (2)) (1) (chW x y (2)) (chH x y (2))) (p135 x y t) ?_
      refine Ends.segF okE mixed (s136 x y t) ?_
      rw [show (Bool.not (Bool.and (ieq (chW (chW x y (2)) (chH x y (2)) (1)) (chW x y (2))) (Bool.and (ieq (chH (chW x y (2)) (chH x y (2)) (1)) (chH x y (2))) (ieq (chE (chW x y (2)) (chH x y (2)) (1)) (0))))) = false from off (not_iff' (and_iff' (ieq_iff _ _) (and_iff' (ieq_iff _ _) (ieq_iff _ _)))) (show (¬ (¬ (((chW (chW x y (2)) (chH x y (2)) (1)) = (chW x y (2))) ∧ (((chH (chW x y (2)) (chH x y (2)) (1)) = (chH x y (2))) ∧ ((chE (chW x y (2)) (chH x y (2)) (1)) = (0 : Int)))))) from by as_aux_lemma => (first | exact fun h => h rfl | exact fun h => h (ag x y _ _ hx hy (by omega) (by omega) (by omega)) | (clear F1 F2; omega) | (clear F0 F2; omega) | (clear F0 F1; omega) | (clear F0; omega) | (clear F1; omega) | (clear F2; omega) | omega))]
      refine Ends.segF okE mixed (s137 x y t) ?_
      refine Ends.pureAt (c10.pure10 (chW x y (2)) (chH x y (2)) (2) (chW x y (2)) (chH x y (2))) (p138 x y t) ?_
      refine Ends.segF okE mixed (s139 x y t) ?_
      rw [show (Bool.not (Bool.and (ieq (chW (chW x y (2)) (chH x y (2)) (2)) (chW x y (2))) (Bool.and (ieq (chH (chW x y (2)) (chH x y (2)) (2)) (chH x y (2))) (ieq (chE (chW x y (2)) (chH x y (2)) (2)) (0))))) = false from off (not_iff' (and_iff' (ieq_iff _ _) (and_iff' (ieq_iff _ _) (ieq_iff _ _)))) (show (¬ (¬ (((chW (chW x y (2)) (chH x y (2)) (2)) = (chW x y (2))) ∧ (((chH (chW x y (2)) (chH x y (2)) (2)) = (chH x y (2))) ∧ ((chE (chW x y (2)) (chH x y (2)) (2)) = (0 : Int)))))) from by as_aux_lemma => (first | exact fun h => h rfl | exact fun h => h (ag x y _ _ hx hy (by omega) (by omega) (by omega)) | (clear F1 F2; omega) | (clear F0 F2; omega) | (clear F0 F1; omega) | (clear F0; omega) | (clear F1; omega) | (clear F2; omega) | omega))]
      refine Ends.segF okE mixed (s140 x y t) ?_
      rw [show (Bool.not (ieq (chW x y (2)) x)) = false from off (not_iff' (ieq_iff _ _)) (show (¬ (¬ ((chW x y (2)) = x))) from by as_aux_lemma => (first | exact fun h => h rfl | exact fun h => h (ag x y _ _ hx hy (by omega) (by omega) (by omega)) | (clear F1 F2; omega) | (clear F0 F2; omega) | (clear F0 F1; omega) | (clear F0; omega) | (clear F1; omega) | (clear F2; omega) | omega))]
      refine Ends.segF okE mixed (s141 x y t) ?_
      rw [show (Bool.not (ieq (chH x y (2)) y)) = false from off (not_iff' (ieq_iff _ _)) (show (¬ (¬ ((chH x y (2)) = y))) from by as_aux_lemma => (first | exact fun h => h rfl | exact fun h => h (ag x y _ _ hx hy (by omega) (by omega) (by omega)) | (clear F1 F2; omega) | (clear F0 F2; omega) | (clear F0 F1; omega) | (clear F0; omega) | (clear F1; omega) | (clear F2; omega) | omega))]
      refine Ends.segF okE mixed (s142 x y t) ?_
      exact outerT x y (chW x y (1)) (chH x y (1)) (by omega) 128 (1) (t736 x y t) (by omega) (by omega)

theorem ends (w h : Int) (hw : 0 ≤ w ∧ w ≤ 255) (hh : 0 ≤ h ∧ h ≤ 255) : Go.AM.Ends En (mainF w h) (mainC w h) (mainS w h) (fun v _ => v = .bool true) := by
    refine Ends.segF okE mixed (s2 w h) ?_
    refine Ends.pureAt c8.works8 (p3 w h) ?_
    refine Ends.segF okE mixed (s4 w h) ?_
    rw [show (Bool.not (TRUE)) = false from off (not_iff' Iff.rfl) (show (¬ (¬ ((TRUE) = true))) from by as_aux_lemma => (first | exact fun h => h rfl | exact fun h => h (ag x y _ _ hx hy (by omega) (by omega) (by omega)) | (clear F1 F2; omega) | (clear F0 F2; omega) | (clear F0 F1; omega) | (clear F0; omega) | (clear F1; omega) | (clear F2; omega) | omega))]
    refine Ends.segF okE mixed (s5 w h) ?_
    exact genT (wr .i64 (Int.add (1) (wr .i64 (Int.tmod w (128))))) (wr .i64 (Int.add (1) (wr .i64 (Int.tmod h (128))))) (t9 w h) (rng w hw) (rng h hh)

/-- the call, at its arguments -/
theorem walk (w h : Int) (hw : (Lit.int .u8 w).wf = true) (hh : (Lit.int .u8 h).wf = true) (W : World) : Calls Tryz.prog 4 #[.int .u8 w, .int .u8 h] W fun e W' => e = .returned (.bool true) ∧ RowKit.Below W.heap.size W W' := by
  have r : ∀ z : Int, (Lit.int .u8 z).wf = true → 0 ≤ z ∧ z ≤ 255 := fun z hz => by
    simp [Lit.wf, IntKind.min, IntKind.max, IntKind.bits, IntKind.signed] at hz
    omega
  have hH : HR (fun a => if a.idx < En.ng then some ⟨a.idx, 0, 0⟩ else none) En.ng (mainS w h) W := by
    rw [hp]
    refine ⟨fun a o h => ?_, fun a a' o o' L L' h => ?_, fun a L h => ?_, fun g hg => ⟨0, ?_⟩⟩
    · rw [H0_get] at h; cases h
    · rw [H0_get] at h; cases h
    · show a.idx < (Ps.of En.ng).idx
      rw [Ps.idx_of]
      by_cases hlt : a.idx < En.ng
      · exact hlt
      · rw [if_neg hlt] at h; cases h
    · rw [Ps.idx_of, if_pos hg]
  refine (Ends.calls okE (en w h) (ends w h (r w hw) (r h hh)) (.cons (.int _ _) (.cons (.int _ _) .nil)) hH).mono fun e W' ⟨v, v', γ', S', h1, h2, h3, h4, h5⟩ => ?_
  subst h2
  cases h3
  exact ⟨h1, h5.below hH (by rw [hp]; show (Ps.of En.ng).idx ≤ En.ng; rw [Ps.idx_of]; exact Nat.le_refl _)⟩
end Go.Proofs.YtoohcobdljmofaaGreatDoor.mediaGrants.law
