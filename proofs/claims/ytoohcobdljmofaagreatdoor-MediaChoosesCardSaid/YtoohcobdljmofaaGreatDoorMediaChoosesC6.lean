/-
  THE REFERENCE's Choose returns chW, chH, chE, for all integers: the pieces joined. Conditions: none.
-/
import Derived.Test.YtoohcobdljmofaaGreatDoorMediaChoosesC6D
namespace Go.Proofs.YtoohcobdljmofaaGreatDoor.mediaChooses.c6
open Go Go.AM
set_option linter.unusedVariables false
theorem ends (w h p : Int) : Go.AM.Ends En (f1 w h p true) [] (S1 w h p true) (fun v _ => v = chV w h p) := by
  refine Ends.segF okE mixed (s2 w h p) ?_
  by_cases h1 : (w < (1 : Int))
  · rw [show (ilt w (1)) = true from (ilt_iff _ _).2 h1]
    exact Ends.lastF okE mixed (l3 w h p) (by exact tup3 (by unfold chW; (repeat (first | rw [if_pos (by omega)] | rw [if_neg (by omega)])) <;> first | rfl | omega) (by unfold chH; (repeat (first | rw [if_pos (by omega)] | rw [if_neg (by omega)])) <;> first | rfl | omega) (by unfold chE; (repeat (first | rw [if_pos (by omega)] | rw [if_neg (by omega)])) <;> first | rfl | omega))
  · rw [show (ilt w (1)) = false from off (ilt_iff _ _) h1]
    refine Ends.segF okE mixed (s4 w h p) ?_
    by_cases h2 : ((128 : Int) < w)
    · rw [show (ilt (128) w) = true from (ilt_iff _ _).2 h2]
      exact Ends.lastF okE mixed (l5 w h p) (by exact tup3 (by unfold chW; (repeat (first | rw [if_pos (by omega)] | rw [if_neg (by omega)])) <;> first | rfl | omega) (by unfold chH; (repeat (first | rw [if_pos (by omega)] | rw [if_neg (by omega)])) <;> first | rfl | omega) (by unfold chE; (repeat (first | rw [if_pos (by omega)] | rw [if_neg (by omega)])) <;> first | rfl | omega))
    · rw [show (ilt (128) w) = false from off (ilt_iff _ _) h2]
      refine Ends.segF okE mixed (s6 w h p) ?_
      by_cases h3 : (h < (1 : Int))
      · rw [show (ilt h (1)) = true from (ilt_iff _ _).2 h3]
        exact Ends.lastF okE mixed (l7 w h p) (by exact tup3 (by unfold chW; (repeat (first | rw [if_pos (by omega)] | rw [if_neg (by omega)])) <;> first | rfl | omega) (by unfold chH; (repeat (first | rw [if_pos (by omega)] | rw [if_neg (by omega)])) <;> first | rfl | omega) (by unfold chE; (repeat (first | rw [if_pos (by omega)] | rw [if_neg (by omega)])) <;> first | rfl | omega))
      · rw [show (ilt h (1)) = false from off (ilt_iff _ _) h3]
        refine Ends.segF okE mixed (s8 w h p) ?_
        by_cases h4 : ((128 : Int) < h)
        · rw [show (ilt (128) h) = true from (ilt_iff _ _).2 h4]
          exact Ends.lastF okE mixed (l9 w h p) (by exact tup3 (by unfold chW; (repeat (first | rw [if_pos (by omega)] | rw [if_neg (by omega)])) <;> first | rfl | omega) (by unfold chH; (repeat (first | rw [if_pos (by omega)] | rw [if_neg (by omega)])) <;> first | rfl | omega) (by unfold chE; (repeat (first | rw [if_pos (by omega)] | rw [if_neg (by omega)])) <;> first | rfl | omega))
        · rw [show (ilt (128) h) = false from off (ilt_iff _ _) h4]
          refine Ends.segF okE mixed (s10 w h p) ?_
          by_cases h5 : (p < (0 : Int))
          · rw [show (ilt p (0)) = true from (ilt_iff _ _).2 h5]
            exact Ends.lastF okE mixed (l11 w h p) (by exact tup3 (by unfold chW; (repeat (first | rw [if_pos (by omega)] | rw [if_neg (by omega)])) <;> first | rfl | omega) (by unfold chH; (repeat (first | rw [if_pos (by omega)] | rw [if_neg (by omega)])) <;> first | rfl | omega) (by unfold chE; (repeat (first | rw [if_pos (by omega)] | rw [if_neg (by omega)])) <;> first | rfl | omega))
          · rw [show (ilt p (0)) = false from off (ilt_iff _ _) h5]
            refine Ends.segF okE mixed (s12 w h p) ?_
            by_cases h6 : ((2 : Int) < p)
            · rw [show (ilt (2) p) = true from (ilt_iff _ _).2 h6]
              exact Ends.lastF okE mixed (l13 w h p) (by exact tup3 (by unfold chW; (repeat (first | rw [if_pos (by omega)] | rw [if_neg (by omega)])) <;> first | rfl | omega) (by unfold chH; (repeat (first | rw [if_pos (by omega)] | rw [if_neg (by omega)])) <;> first | rfl | omega) (by unfold chE; (repeat (first | rw [if_pos (by omega)] | rw [if_neg (by omega)])) <;> first | rfl | omega))
            · rw [show (ilt (2) p) = false from off (ilt_iff _ _) h6]
              refine Ends.segF okE mixed (s14 w h p) ?_
              by_cases h7 : ((64 : Int) = w)
              · rw [show (ieq (64) w) = true from (ieq_iff _ _).2 h7]
                refine Ends.segF okE mixed (s15 w h p) ?_
                by_cases h8 : ((64 : Int) = h)
                · rw [show (ieq (64) h) = true from (ieq_iff _ _).2 h8]
                  exact Ends.lastF okE mixed (l16 w h p) (by exact tup3 (by unfold chW; (repeat (first | rw [if_pos (by omega)] | rw [if_neg (by omega)])) <;> first | rfl | omega) (by unfold chH; (repeat (first | rw [if_pos (by omega)] | rw [if_neg (by omega)])) <;> first | rfl | omega) (by unfold chE; (repeat (first | rw [if_pos (by omega)] | rw [if_neg (by omega)])) <;> first | rfl | omega))
                · rw [show (ieq (64) h) = false from off (ieq_iff _ _) h8]
                  refine Ends.segF okE mixed (s17 w h p) ?_
                  have h9 : ((64 : Int) = w) := by omega
                  rw [show (ieq (64) w) = true from (ieq_iff _ _).2 h9]
                  refine Ends.segF okE mixed (s18 w h p) ?_
                  by_cases h10 : ((96 : Int) = h)
                  · rw [show (ieq (96) h) = true from (ieq_iff _ _).2 h10]
                    exact Ends.lastF okE mixed (l19 w h p) (by exact tup3 (by unfold chW; (repeat (first | rw [if_pos (by omega)] | rw [if_neg (by omega)])) <;> first | rfl | omega) (by unfold chH; (repeat (first | rw [if_pos (by omega)] | rw [if_neg (by omega)])) <;> first | rfl | omega) (by unfold chE; (repeat (first | rw [if_pos (by omega)] | rw [if_neg (by omega)])) <;> first | rfl | omega))
                  · rw [show (ieq (96) h) = false from off (ieq_iff _ _) h10]
                    refine Ends.segF okE mixed (s20 w h p) ?_
                    have h11 : (¬ ((96 : Int) = w)) := by omega
                    rw [show (ieq (96) w) = false from off (ieq_iff _ _) h11]
                    refine Ends.segF okE mixed (s21 w h p) ?_
                    have h12 : (¬ ((128 : Int) = w)) := by omega
                    rw [show (ieq (128) w) = false from off (ieq_iff _ _) h12]
                    refine Ends.segF okE mixed (s22 w h p) ?_
                    by_cases h13 : (p = (2 : Int))
                    · rw [show (ieq p (2)) = true from (ieq_iff _ _).2 h13]
                      refine Ends.segF okE mixed (s23 w h p) ?_
                      have h14 : (¬ ((64 : Int) = h)) := by omega
                      rw [show (ieq (64) h) = false from off (ieq_iff _ _) h14]
                      refine Ends.segF okE mixed (s24 w h p) ?_
                      have h15 : (¬ ((64 : Int) = h)) := by omega
                      rw [show (ieq (64) h) = false from off (ieq_iff _ _) h15]
                      refine Ends.segF okE mixed (s25 w h p) ?_
                      have h16 : (¬ ((96 : Int) = h)) := by omega
                      rw [show (ieq (96) h) = false from off (ieq_iff _ _) h16]
                      refine Ends.segF okE mixed (s26 w h p) ?_
                      by_cases h17 : ((128 : Int) = h)
                      · rw [show (ieq (128) h) = true from (ieq_iff _ _).2 h17]
                        refine Ends.segF okE mixed (s27 w h p) ?_
                        have h18 : (¬ ((128 : Int) = w)) := by omega
                        rw [show (ieq (128) w) = false from off (ieq_iff _ _) h18]
                        refine Ends.segF okE mixed (s28 w h p) ?_
                        have h19 : (¬ (p = (1 : Int))) := by omega
                        rw [show (ieq p (1)) = false from off (ieq_iff _ _) h19]
                        refine Ends.segF okE mixed (s29 w h p) ?_
                        have h20 : (¬ (p = (1 : Int))) := by omega
                        rw [show (ieq p (1)) = false from off (ieq_iff _ _) h20]
                        refine Ends.segF okE mixed (s30 w h p) ?_
                        have h21 : (¬ (p = (1 : Int))) := by omega
                        rw [show (ieq p (1)) = false from off (ieq_iff _ _) h21]
                        refine Ends.segF okE mixed (s31 w h p) ?_
                        have h22 : (¬ (p = (1 : Int))) := by omega
                        rw [show (ieq p (1)) = false from off (ieq_iff _ _) h22]
                        exact Ends.lastF okE mixed (l32 w h p) (by exact tup3 (by unfold chW; (repeat (first | rw [if_pos (by omega)] | rw [if_neg (by omega)])) <;> first | rfl | omega) (by unfold chH; (repeat (first | rw [if_pos (by omega)] | rw [if_neg (by omega)])) <;> first | rfl | omega) (by unfold chE; (repeat (first | rw [if_pos (by omega)] | rw [if_neg (by omega)])) <;> first | rfl | omega))
                      · rw [show (ieq (128) h) = false from off (ieq_iff _ _) h17]
                        refine Ends.segF okE mixed (s33 w h p) ?_
                        have h23 : (¬ (p = (1 : Int))) := by omega
                        rw [show (ieq p (1)) = false from off (ieq_iff _ _) h23]
                        refine Ends.segF okE mixed (s34 w h p) ?_
                        have h24 : (¬ (p = (1 : Int))) := by omega
                        rw [show (ieq p (1)) = false from off (ieq_iff _ _) h24]
                        refine Ends.segF okE mixed (s35 w h p) ?_
                        have h25 : (¬ (p = (1 : Int))) := by omega
                        rw [show (ieq p (1)) = false from off (ieq_iff _ _) h25]
                        refine Ends.segF okE mixed (s36 w h p) ?_
                        have h26 : (¬ (p = (1 : Int))) := by omega
                        rw [show (ieq p (1)) = false from off (ieq_iff _ _) h26]
                        exact Ends.lastF okE mixed (l37 w h p) (by exact tup3 (by unfold chW; (repeat (first | rw [if_pos (by omega)] | rw [if_neg (by omega)])) <;> first | rfl | omega) (by unfold chH; (repeat (first | rw [if_pos (by omega)] | rw [if_neg (by omega)])) <;> first | rfl | omega) (by unfold chE; (repeat (first | rw [if_pos (by omega)] | rw [if_neg (by omega)])) <;> first | rfl | omega))
                    · rw [show (ieq p (2)) = false from off (ieq_iff _ _) h13]
                      refine Ends.segF okE mixed (s38 w h p) ?_
                      by_cases h27 : (p = (1 : Int))
                      · rw [show (ieq p (1)) = true from (ieq_iff _ _).2 h27]
                        refine Ends.segF okE mixed (s39 w h p) ?_
                        have h28 : (w ≤ (64 : Int)) := by omega
                        rw [show (ile w (64)) = true from (ile_iff _ _).2 h28]
                        refine Ends.segF okE mixed (s40 w h p) ?_
                        by_cases h29 : (h ≤ (64 : Int))
                        · rw [show (ile h (64)) = true from (ile_iff _ _).2 h29]
                          refine Ends.segF okE mixed (s41 w h p) ?_
                          have h30 : (p = (1 : Int)) := by omega
                          rw [show (ieq p (1)) = true from (ieq_iff _ _).2 h30]
                          refine Ends.segF okE mixed (s42 w h p) ?_
                          have h31 : (w ≤ (64 : Int)) := by omega
                          rw [show (ile w (64)) = true from (ile_iff _ _).2 h31]
                          refine Ends.segF okE mixed (s43 w h p) ?_
                          have h32 : (h ≤ (96 : Int)) := by omega
                          rw [show (ile h (96)) = true from (ile_iff _ _).2 h32]
                          refine Ends.segF okE mixed (s44 w h p) ?_
                          have h33 : (p = (1 : Int)) := by omega
                          rw [show (ieq p (1)) = true from (ieq_iff _ _).2 h33]
                          refine Ends.segF okE mixed (s45 w h p) ?_
                          have h34 : (w ≤ (96 : Int)) := by omega
                          rw [show (ile w (96)) = true from (ile_iff _ _).2 h34]
                          refine Ends.segF okE mixed (s46 w h p) ?_
                          have h35 : (h ≤ (128 : Int)) := by omega
                          rw [show (ile h (128)) = true from (ile_iff _ _).2 h35]
                          refine Ends.segF okE mixed (s47 w h p) ?_
                          have h36 : (p = (1 : Int)) := by omega
                          rw [show (ieq p (1)) = true from (ieq_iff _ _).2 h36]
                          refine Ends.segF okE mixed (s48 w h p) ?_
                          have h37 : (w ≤ (128 : Int)) := by omega
                          rw [show (ile w (128)) = true from (ile_iff _ _).2 h37]
                          refine Ends.segF okE mixed (s49 w h p) ?_
                          have h38 : (h ≤ (128 : Int)) := by omega
                          rw [show (ile h (128)) = true from (ile_iff _ _).2 h38]
                          exact Ends.lastF okE mixed (l50 w h p) (by exact tup3 (by unfold chW; (repeat (first | rw [if_pos (by omega)] | rw [if_neg (by omega)])) <;> first | rfl | omega) (by unfold chH; (repeat (first | rw [if_pos (by omega)] | rw [if_neg (by omega)])) <;> first | rfl | omega) (by unfold chE; (repeat (first | rw [if_pos (by omega)] | rw [if_neg (by omega)])) <;> first | rfl | omega))
                        · rw [show (ile h (64)) = false from off (ile_iff _ _) h29]
                          refine Ends.segF okE mixed (s51 w h p) ?_
                          have h39 : (p = (1 : Int)) := by omega
                          rw [show (ieq p (1)) = true from (ieq_iff _ _).2 h39]
                          refine Ends.segF okE mixed (s52 w h p) ?_
                          have h40 : (w ≤ (64 : Int)) := by omega
                          rw [show (ile w (64)) = true from (ile_iff _ _).2 h40]
                          refine Ends.segF okE mixed (s53 w h p) ?_
                          by_cases h41 : (h ≤ (96 : Int))
                          · rw [show (ile h (96)) = true from (ile_iff _ _).2 h41]
                            refine Ends.segF okE mixed (s54 w h p) ?_
                            have h42 : (p = (1 : Int)) := by omega
                            rw [show (ieq p (1)) = true from (ieq_iff _ _).2 h42]
                            refine Ends.segF okE mixed (s55 w h p) ?_
                            have h43 : (w ≤ (96 : Int)) := by omega
                            rw [show (ile w (96)) = true from (ile_iff _ _).2 h43]
                            refine Ends.segF okE mixed (s56 w h p) ?_
                            have h44 : (h ≤ (128 : Int)) := by omega
                            rw [show (ile h (128)) = true from (ile_iff _ _).2 h44]
                            refine Ends.segF okE mixed (s57 w h p) ?_
                            have h45 : (p = (1 : Int)) := by omega
                            rw [show (ieq p (1)) = true from (ieq_iff _ _).2 h45]
                            refine Ends.segF okE mixed (s58 w h p) ?_
                            have h46 : (w ≤ (128 : Int)) := by omega
                            rw [show (ile w (128)) = true from (ile_iff _ _).2 h46]
                            refine Ends.segF okE mixed (s59 w h p) ?_
                            have h47 : (h ≤ (128 : Int)) := by omega
                            rw [show (ile h (128)) = true from (ile_iff _ _).2 h47]
                            exact Ends.lastF okE mixed (l60 w h p) (by exact tup3 (by unfold chW; (repeat (first | rw [if_pos (by omega)] | rw [if_neg (by omega)])) <;> first | rfl | omega) (by unfold chH; (repeat (first | rw [if_pos (by omega)] | rw [if_neg (by omega)])) <;> first | rfl | omega) (by unfold chE; (repeat (first | rw [if_pos (by omega)] | rw [if_neg (by omega)])) <;> first | rfl | omega))
                          · rw [show (ile h (96)) = false from off (ile_iff _ _) h41]
                            refine Ends.segF okE mixed (s61 w h p) ?_
                            have h48 : (p = (1 : Int)) := by omega
                            rw [show (ieq p (1)) = true from (ieq_iff _ _).2 h48]
                            refine Ends.segF okE mixed (s62 w h p) ?_
                            have h49 : (w ≤ (96 : Int)) := by omega
                            rw [show (ile w (96)) = true from (ile_iff _ _).2 h49]
                            refine Ends.segF okE mixed (s63 w h p) ?_
                            have h50 : (h ≤ (128 : Int)) := by omega
                            rw [show (ile h (128)) = true from (ile_iff _ _).2 h50]
                            refine Ends.segF okE mixed (s64 w h p) ?_
                            have h51 : (p = (1 : Int)) := by omega
                            rw [show (ieq p (1)) = true from (ieq_iff _ _).2 h51]
                            refine Ends.segF okE mixed (s65 w h p) ?_
                            have h52 : (w ≤ (128 : Int)) := by omega
                            rw [show (ile w (128)) = true from (ile_iff _ _).2 h52]
                            refine Ends.segF okE mixed (s66 w h p) ?_
                            have h53 : (h ≤ (128 : Int)) := by omega
                            rw [show (ile h (128)) = true from (ile_iff _ _).2 h53]
                            exact Ends.lastF okE mixed (l67 w h p) (by exact tup3 (by unfold chW; (repeat (first | rw [if_pos (by omega)] | rw [if_neg (by omega)])) <;> first | rfl | omega) (by unfold chH; (repeat (first | rw [if_pos (by omega)] | rw [if_neg (by omega)])) <;> first | rfl | omega) (by unfold chE; (repeat (first | rw [if_pos (by omega)] | rw [if_neg (by omega)])) <;> first | rfl | omega))
                      · rw [show (ieq p (1)) = false from off (ieq_iff _ _) h27]
                        refine Ends.segF okE mixed (s68 w h p) ?_
                        have h54 : (¬ (p = (1 : Int))) := by omega
                        rw [show (ieq p (1)) = false from off (ieq_iff _ _) h54]
                        refine Ends.segF okE mixed (s69 w h p) ?_
                        have h55 : (¬ (p = (1 : Int))) := by omega
                        rw [show (ieq p (1)) = false from off (ieq_iff _ _) h55]
                        refine Ends.segF okE mixed (s70 w h p) ?_
                        have h56 : (¬ (p = (1 : Int))) := by omega
                        rw [show (ieq p (1)) = false from off (ieq_iff _ _) h56]
                        exact Ends.lastF okE mixed (l71 w h p) (by exact tup3 (by unfold chW; (repeat (first | rw [if_pos (by omega)] | rw [if_neg (by omega)])) <;> first | rfl | omega) (by unfold chH; (repeat (first | rw [if_pos (by omega)] | rw [if_neg (by omega)])) <;> first | rfl | omega) (by unfold chE; (repeat (first | rw [if_pos (by omega)] | rw [if_neg (by omega)])) <;> first | rfl | omega))
              · rw [show (ieq (64) w) = false from off (ieq_iff _ _) h7]
                refine Ends.segF okE mixed (s72 w h p) ?_
                have h57 : (¬ ((64 : Int) = w)) := by omega
                rw [show (ieq (64) w) = false from off (ieq_iff _ _) h57]
                refine Ends.segF okE mixed (s73 w h p) ?_
                by_cases h58 : ((96 : Int) = w)
                · rw [show (ieq (96) w) = true from (ieq_iff _ _).2 h58]
                  refine Ends.segF okE mixed (s74 w h p) ?_
                  by_cases h59 : ((128 : Int) = h)
                  · rw [show (ieq (128) h) = true from (ieq_iff _ _).2 h59]
                    exact Ends.lastF okE mixed (l75 w h p) (by exact tup3 (by unfold chW; (repeat (first | rw [if_pos (by omega)] | rw [if_neg (by omega)])) <;> first | rfl | omega) (by unfold chH; (repeat (first | rw [if_pos (by omega)] | rw [if_neg (by omega)])) <;> first | rfl | omega) (by unfold chE; (repeat (first | rw [if_pos (by omega)] | rw [if_neg (by omega)])) <;> first | rfl | omega))
                  · rw [show (ieq (128) h) = false from off (ieq_iff _ _) h59]
                    refine Ends.segF okE mixed (s76 w h p) ?_
                    have h60 : (¬ ((128 : Int) = w)) := by omega
                    rw [show (ieq (128) w) = false from off (ieq_iff _ _) h60]
                    refine Ends.segF okE mixed (s77 w h p) ?_
                    by_cases h61 : (p = (2 : Int))
                    · rw [show (ieq p (2)) = true from (ieq_iff _ _).2 h61]
                      refine Ends.segF okE mixed (s78 w h p) ?_
                      by_cases h62 : ((64 : Int) = h)
                      · rw [show (ieq (64) h) = true from (ieq_iff _ _).2 h62]
                        refine Ends.segF okE mixed (s79 w h p) ?_
                        have h63 : (¬ ((64 : Int) = w)) := by omega
                        rw [show (ieq (64) w) = false from off (ieq_iff _ _) h63]
                        refine Ends.segF okE mixed (s80 w h p) ?_
                        have h64 : ((64 : Int) = h) := by omega
                        rw [show (ieq (64) h) = true from (ieq_iff _ _).2 h64]
                        refine Ends.segF okE mixed (s81 w h p) ?_
                        have h65 : ((96 : Int) = w) := by omega
                        rw [show (ieq (96) w) = true from (ieq_iff _ _).2 h65]
                        exact Ends.lastF okE mixed (l82 w h p) (by exact tup3 (by unfold chW; (repeat (first | rw [if_pos (by omega)] | rw [if_neg (by omega)])) <;> first | rfl | omega) (by unfold chH; (repeat (first | rw [if_pos (by omega)] | rw [if_neg (by omega)])) <;> first | rfl | omega) (by unfold chE; (repeat (first | rw [if_pos (by omega)] | rw [if_neg (by omega)])) <;> first | rfl | omega))
                      · rw [show (ieq (64) h) = false from off (ieq_iff _ _) h62]
                        refine Ends.segF okE mixed (s83 w h p) ?_
                        have h66 : (¬ ((64 : Int) = h)) := by omega
                        rw [show (ieq (64) h) = false from off (ieq_iff _ _) h66]
                        refine Ends.segF okE mixed (s84 w h p) ?_
                        by_cases h67 : ((96 : Int) = h)
                        · rw [show (ieq (96) h) = true from (ieq_iff _ _).2 h67]
                          refine Ends.segF okE mixed (s85 w h p) ?_
                          have h68 : (¬ ((128 : Int) = w)) := by omega
                          rw [show (ieq (128) w) = false from off (ieq_iff _ _) h68]
                          refine Ends.segF okE mixed (s86 w h p) ?_
                          have h69 : (¬ ((128 : Int) = h)) := by omega
                          rw [show (ieq (128) h) = false from off (ieq_iff _ _) h69]
                          refine Ends.segF okE mixed (s87 w h p) ?_
                          have h70 : (¬ (p = (1 : Int))) := by omega
                          rw [show (ieq p (1)) = false from off (ieq_iff _ _) h70]
                          refine Ends.segF okE mixed (s88 w h p) ?_
                          have h71 : (¬ (p = (1 : Int))) := by omega
                          rw [show (ieq p (1)) = false from off (ieq_iff _ _) h71]
                          refine Ends.segF okE mixed (s89 w h p) ?_
                          have h72 : (¬ (p = (1 : Int))) := by omega
                          rw [show (ieq p (1)) = false from off (ieq_iff _ _) h72]
                          refine Ends.segF okE mixed (s90 w h p) ?_
                          have h73 : (¬ (p = (1 : Int))) := by omega
                          rw [show (ieq p (1)) = false from off (ieq_iff _ _) h73]
                          exact Ends.lastF okE mixed (l91 w h p) (by exact tup3 (by unfold chW; (repeat (first | rw [if_pos (by omega)] | rw [if_neg (by omega)])) <;> first | rfl | omega) (by unfold chH; (repeat (first | rw [if_pos (by omega)] | rw [if_neg (by omega)])) <;> first | rfl | omega) (by unfold chE; (repeat (first | rw [if_pos (by omega)] | rw [if_neg (by omega)])) <;> first | rfl | omega))
                        · rw [show (ieq (96) h) = false from off (ieq_iff _ _) h67]
                          refine Ends.segF okE mixed (s92 w h p) ?_
                          have h74 : (¬ ((128 : Int) = h)) := by omega
                          rw [show (ieq (128) h) = false from off (ieq_iff _ _) h74]
                          refine Ends.segF okE mixed (s93 w h p) ?_
                          have h75 : (¬ (p = (1 : Int))) := by omega
                          rw [show (ieq p (1)) = false from off (ieq_iff _ _) h75]
                          refine Ends.segF okE mixed (s94 w h p) ?_
                          have h76 : (¬ (p = (1 : Int))) := by omega
                          rw [show (ieq p (1)) = false from off (ieq_iff _ _) h76]
                          refine Ends.segF okE mixed (s95 w h p) ?_
                          have h77 : (¬ (p = (1 : Int))) := by omega
                          rw [show (ieq p (1)) = false from off (ieq_iff _ _) h77]
                          refine Ends.segF okE mixed (s96 w h p) ?_
                          have h78 : (¬ (p = (1 : Int))) := by omega
                          rw [show (ieq p (1)) = false from off (ieq_iff _ _) h78]
                          exact Ends.lastF okE mixed (l97 w h p) (by exact tup3 (by unfold chW; (repeat (first | rw [if_pos (by omega)] | rw [if_neg (by omega)])) <;> first | rfl | omega) (by unfold chH; (repeat (first | rw [if_pos (by omega)] | rw [if_neg (by omega)])) <;> first | rfl | omega) (by unfold chE; (repeat (first | rw [if_pos (by omega)] | rw [if_neg (by omega)])) <;> first | rfl | omega))
                    · rw [show (ieq p (2)) = false from off (ieq_iff _ _) h61]
                      refine Ends.segF okE mixed (s98 w h p) ?_
                      by_cases h79 : (p = (1 : Int))
                      · rw [show (ieq p (1)) = true from (ieq_iff _ _).2 h79]
                        refine Ends.segF okE mixed (s99 w h p) ?_
                        have h80 : (¬ (w ≤ (64 : Int))) := by omega
                        rw [show (ile w (64)) = false from off (ile_iff _ _) h80]
                        refine Ends.segF okE mixed (s100 w h p) ?_
                        have h81 : (p = (1 : Int)) := by omega
                        rw [show (ieq p (1)) = true from (ieq_iff _ _).2 h81]
                        refine Ends.segF okE mixed (s101 w h p) ?_
                        have h82 : (¬ (w ≤ (64 : Int))) := by omega
                        rw [show (ile w (64)) = false from off (ile_iff _ _) h82]
                        refine Ends.segF okE mixed (s102 w h p) ?_
                        have h83 : (p = (1 : Int)) := by omega
                        rw [show (ieq p (1)) = true from (ieq_iff _ _).2 h83]
                        refine Ends.segF okE mixed (s103 w h p) ?_
                        have h84 : (w ≤ (96 : Int)) := by omega
                        rw [show (ile w (96)) = true from (ile_iff _ _).2 h84]
                        refine Ends.segF okE mixed (s104 w h p) ?_
                        have h85 : (h ≤ (128 : Int)) := by omega
                        rw [show (ile h (128)) = true from (ile_iff _ _).2 h85]
                        refine Ends.segF okE mixed (s105 w h p) ?_
                        have h86 : (p = (1 : Int)) := by omega
                        rw [show (ieq p (1)) = true from (ieq_iff _ _).2 h86]
                        refine Ends.segF okE mixed (s106 w h p) ?_
                        have h87 : (w ≤ (128 : Int)) := by omega
                        rw [show (ile w (128)) = true from (ile_iff _ _).2 h87]
                        refine Ends.segF okE mixed (s107 w h p) ?_
                        have h88 : (h ≤ (128 : Int)) := by omega
                        rw [show (ile h (128)) = true from (ile_iff _ _).2 h88]
                        exact Ends.lastF okE mixed (l108 w h p) (by exact tup3 (by unfold chW; (repeat (first | rw [if_pos (by omega)] | rw [if_neg (by omega)])) <;> first | rfl | omega) (by unfold chH; (repeat (first | rw [if_pos (by omega)] | rw [if_neg (by omega)])) <;> first | rfl | omega) (by unfold chE; (repeat (first | rw [if_pos (by omega)] | rw [if_neg (by omega)])) <;> first | rfl | omega))
                      · rw [show (ieq p (1)) = false from off (ieq_iff _ _) h79]
                        refine Ends.segF okE mixed (s109 w h p) ?_
                        have h89 : (¬ (p = (1 : Int))) := by omega
                        rw [show (ieq p (1)) = false from off (ieq_iff _ _) h89]
                        refine Ends.segF okE mixed (s110 w h p) ?_
                        have h90 : (¬ (p = (1 : Int))) := by omega
                        rw [show (ieq p (1)) = false from off (ieq_iff _ _) h90]
                        refine Ends.segF okE mixed (s111 w h p) ?_
                        have h91 : (¬ (p = (1 : Int))) := by omega
                        rw [show (ieq p (1)) = false from off (ieq_iff _ _) h91]
                        exact Ends.lastF okE mixed (l112 w h p) (by exact tup3 (by unfold chW; (repeat (first | rw [if_pos (by omega)] | rw [if_neg (by omega)])) <;> first | rfl | omega) (by unfold chH; (repeat (first | rw [if_pos (by omega)] | rw [if_neg (by omega)])) <;> first | rfl | omega) (by unfold chE; (repeat (first | rw [if_pos (by omega)] | rw [if_neg (by omega)])) <;> first | rfl | omega))
                · rw [show (ieq (96) w) = false from off (ieq_iff _ _) h58]
                  refine Ends.segF okE mixed (s113 w h p) ?_
                  by_cases h92 : ((128 : Int) = w)
                  · rw [show (ieq (128) w) = true from (ieq_iff _ _).2 h92]
                    refine Ends.segF okE mixed (s114 w h p) ?_
                    by_cases h93 : ((128 : Int) = h)
                    · rw [show (ieq (128) h) = true from (ieq_iff _ _).2 h93]
                      exact Ends.lastF okE mixed (l115 w h p) (by exact tup3 (by unfold chW; (repeat (first | rw [if_pos (by omega)] | rw [if_neg (by omega)])) <;> first | rfl | omega) (by unfold chH; (repeat (first | rw [if_pos (by omega)] | rw [if_neg (by omega)])) <;> first | rfl | omega) (by unfold chE; (repeat (first | rw [if_pos (by omega)] | rw [if_neg (by omega)])) <;> first | rfl | omega))
                    · rw [show (ieq (128) h) = false from off (ieq_iff _ _) h93]
                      refine Ends.segF okE mixed (s116 w h p) ?_
                      by_cases h94 : (p = (2 : Int))
                      · rw [show (ieq p (2)) = true from (ieq_iff _ _).2 h94]
                        refine Ends.segF okE mixed (s117 w h p) ?_
                        by_cases h95 : ((64 : Int) = h)
                        · rw [show (ieq (64) h) = true from (ieq_iff _ _).2 h95]
                          refine Ends.segF okE mixed (s118 w h p) ?_
                          have h96 : (¬ ((64 : Int) = w)) := by omega
                          rw [show (ieq (64) w) = false from off (ieq_iff _ _) h96]
                          refine Ends.segF okE mixed (s119 w h p) ?_
                          have h97 : ((64 : Int) = h) := by omega
                          rw [show (ieq (64) h) = true from (ieq_iff _ _).2 h97]
                          refine Ends.segF okE mixed (s120 w h p) ?_
                          have h98 : (¬ ((96 : Int) = w)) := by omega
                          rw [show (ieq (96) w) = false from off (ieq_iff _ _) h98]
                          refine Ends.segF okE mixed (s121 w h p) ?_
                          have h99 : (¬ ((96 : Int) = h)) := by omega
                          rw [show (ieq (96) h) = false from off (ieq_iff _ _) h99]
                          refine Ends.segF okE mixed (s122 w h p) ?_
                          have h100 : (¬ ((128 : Int) = h)) := by omega
                          rw [show (ieq (128) h) = false from off (ieq_iff _ _) h100]
                          refine Ends.segF okE mixed (s123 w h p) ?_
                          have h101 : (¬ (p = (1 : Int))) := by omega
                          rw [show (ieq p (1)) = false from off (ieq_iff _ _) h101]
                          refine Ends.segF okE mixed (s124 w h p) ?_
                          have h102 : (¬ (p = (1 : Int))) := by omega
                          rw [show (ieq p (1)) = false from off (ieq_iff _ _) h102]
                          refine Ends.segF okE mixed (s125 w h p) ?_
                          have h103 : (¬ (p = (1 : Int))) := by omega
                          rw [show (ieq p (1)) = false from off (ieq_iff _ _) h103]
                          refine Ends.segF okE mixed (s126 w h p) ?_
                          have h104 : (¬ (p = (1 : Int))) := by omega
                          rw [show (ieq p (1)) = false from off (ieq_iff _ _) h104]
                          exact Ends.lastF okE mixed (l127 w h p) (by exact tup3 (by unfold chW; (repeat (first | rw [if_pos (by omega)] | rw [if_neg (by omega)])) <;> first | rfl | omega) (by unfold chH; (repeat (first | rw [if_pos (by omega)] | rw [if_neg (by omega)])) <;> first | rfl | omega) (by unfold chE; (repeat (first | rw [if_pos (by omega)] | rw [if_neg (by omega)])) <;> first | rfl | omega))
                        · rw [show (ieq (64) h) = false from off (ieq_iff _ _) h95]
                          refine Ends.segF okE mixed (s128 w h p) ?_
                          have h105 : (¬ ((64 : Int) = h)) := by omega
                          rw [show (ieq (64) h) = false from off (ieq_iff _ _) h105]
                          refine Ends.segF okE mixed (s129 w h p) ?_
                          by_cases h106 : ((96 : Int) = h)
                          · rw [show (ieq (96) h) = true from (ieq_iff _ _).2 h106]
                            refine Ends.segF okE mixed (s130 w h p) ?_
                            have h107 : ((128 : Int) = w) := by omega
                            rw [show (ieq (128) w) = true from (ieq_iff _ _).2 h107]
                            exact Ends.lastF okE mixed (l131 w h p) (by exact tup3 (by unfold chW; (repeat (first | rw [if_pos (by omega)] | rw [if_neg (by omega)])) <;> first | rfl | omega) (by unfold chH; (repeat (first | rw [if_pos (by omega)] | rw [if_neg (by omega)])) <;> first | rfl | omega) (by unfold chE; (repeat (first | rw [if_pos (by omega)] | rw [if_neg (by omega)])) <;> first | rfl | omega))
                          · rw [show (ieq (96) h) = false from off (ieq_iff _ _) h106]
                            refine Ends.segF okE mixed (s132 w h p) ?_
                            have h108 : (¬ ((128 : Int) = h)) := by omega
                            rw [show (ieq (128) h) = false from off (ieq_iff _ _) h108]
                            refine Ends.segF okE mixed (s133 w h p) ?_
                            have h109 : (¬ (p = (1 : Int))) := by omega
                            rw [show (ieq p (1)) = false from off (ieq_iff _ _) h109]
                            refine Ends.segF okE mixed (s134 w h p) ?_
                            have h110 : (¬ (p = (1 : Int))) := by omega
                            rw [show (ieq p (1)) = false from off (ieq_iff _ _) h110]
                            refine Ends.segF okE mixed (s135 w h p) ?_
                            have h111 : (¬ (p = (1 : Int))) := by omega
                            rw [show (ieq p (1)) = false from off (ieq_iff _ _) h111]
                            refine Ends.segF okE mixed (s136 w h p) ?_
                            have h112 : (¬ (p = (1 : Int))) := by omega
                            rw [show (ieq p (1)) = false from off (ieq_iff _ _) h112]
                            exact Ends.lastF okE mixed (l137 w h p) (by exact tup3 (by unfold chW; (repeat (first | rw [if_pos (by omega)] | rw [if_neg (by omega)])) <;> first | rfl | omega) (by unfold chH; (repeat (first | rw [if_pos (by omega)] | rw [if_neg (by omega)])) <;> first | rfl | omega) (by unfold chE; (repeat (first | rw [if_pos (by omega)] | rw [if_neg (by omega)])) <;> first | rfl | omega))
                      · rw [show (ieq p (2)) = false from off (ieq_iff _ _) h94]
                        refine Ends.segF okE mixed (s138 w h p) ?_
                        by_cases h113 : (p = (1 : Int))
                        · rw [show (ieq p (1)) = true from (ieq_iff _ _).2 h113]
                          refine Ends.segF okE mixed (s139 w h p) ?_
                          have h114 : (¬ (w ≤ (64 : Int))) := by omega
                          rw [show (ile w (64)) = false from off (ile_iff _ _) h114]
                          refine Ends.segF okE mixed (s140 w h p) ?_
                          have h115 : (p = (1 : Int)) := by omega
                          rw [show (ieq p (1)) = true from (ieq_iff _ _).2 h115]
                          refine Ends.segF okE mixed (s141 w h p) ?_
                          have h116 : (¬ (w ≤ (64 : Int))) := by omega
                          rw [show (ile w (64)) = false from off (ile_iff _ _) h116]
                          refine Ends.segF okE mixed (s142 w h p) ?_
                          have h117 : (p = (1 : Int)) := by omega
                          rw [show (ieq p (1)) = true from (ieq_iff _ _).2 h117]
                          refine Ends.segF okE mixed (s143 w h p) ?_
                          have h118 : (¬ (w ≤ (96 : Int))) := by omega
                          rw [show (ile w (96)) = false from off (ile_iff _ _) h118]
                          refine Ends.segF okE mixed (s144 w h p) ?_
                          have h119 : (p = (1 : Int)) := by omega
                          rw [show (ieq p (1)) = true from (ieq_iff _ _).2 h119]
                          refine Ends.segF okE mixed (s145 w h p) ?_
                          have h120 : (w ≤ (128 : Int)) := by omega
                          rw [show (ile w (128)) = true from (ile_iff _ _).2 h120]
                          refine Ends.segF okE mixed (s146 w h p) ?_
                          have h121 : (h ≤ (128 : Int)) := by omega
                          rw [show (ile h (128)) = true from (ile_iff _ _).2 h121]
                          exact Ends.lastF okE mixed (l147 w h p) (by exact tup3 (by unfold chW; (repeat (first | rw [if_pos (by omega)] | rw [if_neg (by omega)])) <;> first | rfl | omega) (by unfold chH; (repeat (first | rw [if_pos (by omega)] | rw [if_neg (by omega)])) <;> first | rfl | omega) (by unfold chE; (repeat (first | rw [if_pos (by omega)] | rw [if_neg (by omega)])) <;> first | rfl | omega))
                        · rw [show (ieq p (1)) = false from off (ieq_iff _ _) h113]
                          refine Ends.segF okE mixed (s148 w h p) ?_
                          have h122 : (¬ (p = (1 : Int))) := by omega
                          rw [show (ieq p (1)) = false from off (ieq_iff _ _) h122]
                          refine Ends.segF okE mixed (s149 w h p) ?_
                          have h123 : (¬ (p = (1 : Int))) := by omega
                          rw [show (ieq p (1)) = false from off (ieq_iff _ _) h123]
                          refine Ends.segF okE mixed (s150 w h p) ?_
                          have h124 : (¬ (p = (1 : Int))) := by omega
                          rw [show (ieq p (1)) = false from off (ieq_iff _ _) h124]
                          exact Ends.lastF okE mixed (l151 w h p) (by exact tup3 (by unfold chW; (repeat (first | rw [if_pos (by omega)] | rw [if_neg (by omega)])) <;> first | rfl | omega) (by unfold chH; (repeat (first | rw [if_pos (by omega)] | rw [if_neg (by omega)])) <;> first | rfl | omega) (by unfold chE; (repeat (first | rw [if_pos (by omega)] | rw [if_neg (by omega)])) <;> first | rfl | omega))
                  · rw [show (ieq (128) w) = false from off (ieq_iff _ _) h92]
                    refine Ends.segF okE mixed (s152 w h p) ?_
                    by_cases h125 : (p = (2 : Int))
                    · rw [show (ieq p (2)) = true from (ieq_iff _ _).2 h125]
                      refine Ends.segF okE mixed (s153 w h p) ?_
                      by_cases h126 : ((64 : Int) = h)
                      · rw [show (ieq (64) h) = true from (ieq_iff _ _).2 h126]
                        refine Ends.segF okE mixed (s154 w h p) ?_
                        have h127 : (¬ ((64 : Int) = w)) := by omega
                        rw [show (ieq (64) w) = false from off (ieq_iff _ _) h127]
                        refine Ends.segF okE mixed (s155 w h p) ?_
                        have h128 : ((64 : Int) = h) := by omega
                        rw [show (ieq (64) h) = true from (ieq_iff _ _).2 h128]
                        refine Ends.segF okE mixed (s156 w h p) ?_
                        have h129 : (¬ ((96 : Int) = w)) := by omega
                        rw [show (ieq (96) w) = false from off (ieq_iff _ _) h129]
                        refine Ends.segF okE mixed (s157 w h p) ?_
                        have h130 : (¬ ((96 : Int) = h)) := by omega
                        rw [show (ieq (96) h) = false from off (ieq_iff _ _) h130]
                        refine Ends.segF okE mixed (s158 w h p) ?_
                        have h131 : (¬ ((128 : Int) = h)) := by omega
                        rw [show (ieq (128) h) = false from off (ieq_iff _ _) h131]
                        refine Ends.segF okE mixed (s159 w h p) ?_
                        have h132 : (¬ (p = (1 : Int))) := by omega
                        rw [show (ieq p (1)) = false from off (ieq_iff _ _) h132]
                        refine Ends.segF okE mixed (s160 w h p) ?_
                        have h133 : (¬ (p = (1 : Int))) := by omega
                        rw [show (ieq p (1)) = false from off (ieq_iff _ _) h133]
                        refine Ends.segF okE mixed (s161 w h p) ?_
                        have h134 : (¬ (p = (1 : Int))) := by omega
                        rw [show (ieq p (1)) = false from off (ieq_iff _ _) h134]
                        refine Ends.segF okE mixed (s162 w h p) ?_
                        have h135 : (¬ (p = (1 : Int))) := by omega
                        rw [show (ieq p (1)) = false from off (ieq_iff _ _) h135]
                        exact Ends.lastF okE mixed (l163 w h p) (by exact tup3 (by unfold chW; (repeat (first | rw [if_pos (by omega)] | rw [if_neg (by omega)])) <;> first | rfl | omega) (by unfold chH; (repeat (first | rw [if_pos (by omega)] | rw [if_neg (by omega)])) <;> first | rfl | omega) (by unfold chE; (repeat (first | rw [if_pos (by omega)] | rw [if_neg (by omega)])) <;> first | rfl | omega))
                      · rw [show (ieq (64) h) = false from off (ieq_iff _ _) h126]
                        refine Ends.segF okE mixed (s164 w h p) ?_
                        have h136 : (¬ ((64 : Int) = h)) := by omega
                        rw [show (ieq (64) h) = false from off (ieq_iff _ _) h136]
                        refine Ends.segF okE mixed (s165 w h p) ?_
                        by_cases h137 : ((96 : Int) = h)
                        · rw [show (ieq (96) h) = true from (ieq_iff _ _).2 h137]
                          refine Ends.segF okE mixed (s166 w h p) ?_
                          have h138 : (¬ ((128 : Int) = w)) := by omega
                          rw [show (ieq (128) w) = false from off (ieq_iff _ _) h138]
                          refine Ends.segF okE mixed (s167 w h p) ?_
                          have h139 : (¬ ((128 : Int) = h)) := by omega
                          rw [show (ieq (128) h) = false from off (ieq_iff _ _) h139]
                          refine Ends.segF okE mixed (s168 w h p) ?_
                          have h140 : (¬ (p = (1 : Int))) := by omega
                          rw [show (ieq p (1)) = false from off (ieq_iff _ _) h140]
                          refine Ends.segF okE mixed (s169 w h p) ?_
                          have h141 : (¬ (p = (1 : Int))) := by omega
                          rw [show (ieq p (1)) = false from off (ieq_iff _ _) h141]
                          refine Ends.segF okE mixed (s170 w h p) ?_
                          have h142 : (¬ (p = (1 : Int))) := by omega
                          rw [show (ieq p (1)) = false from off (ieq_iff _ _) h142]
                          refine Ends.segF okE mixed (s171 w h p) ?_
                          have h143 : (¬ (p = (1 : Int))) := by omega
                          rw [show (ieq p (1)) = false from off (ieq_iff _ _) h143]
                          exact Ends.lastF okE mixed (l172 w h p) (by exact tup3 (by unfold chW; (repeat (first | rw [if_pos (by omega)] | rw [if_neg (by omega)])) <;> first | rfl | omega) (by unfold chH; (repeat (first | rw [if_pos (by omega)] | rw [if_neg (by omega)])) <;> first | rfl | omega) (by unfold chE; (repeat (first | rw [if_pos (by omega)] | rw [if_neg (by omega)])) <;> first | rfl | omega))
                        · rw [show (ieq (96) h) = false from off (ieq_iff _ _) h137]
                          refine Ends.segF okE mixed (s173 w h p) ?_
                          by_cases h144 : ((128 : Int) = h)
                          · rw [show (ieq (128) h) = true from (ieq_iff _ _).2 h144]
                            refine Ends.segF okE mixed (s174 w h p) ?_
                            have h145 : (¬ ((128 : Int) = w)) := by omega
                            rw [show (ieq (128) w) = false from off (ieq_iff _ _) h145]
                            refine Ends.segF okE mixed (s175 w h p) ?_
                            have h146 : (¬ (p = (1 : Int))) := by omega
                            rw [show (ieq p (1)) = false from off (ieq_iff _ _) h146]
                            refine Ends.segF okE mixed (s176 w h p) ?_
                            have h147 : (¬ (p = (1 : Int))) := by omega
                            rw [show (ieq p (1)) = false from off (ieq_iff _ _) h147]
                            refine Ends.segF okE mixed (s177 w h p) ?_
                            have h148 : (¬ (p = (1 : Int))) := by omega
                            rw [show (ieq p (1)) = false from off (ieq_iff _ _) h148]
                            refine Ends.segF okE mixed (s178 w h p) ?_
                            have h149 : (¬ (p = (1 : Int))) := by omega
                            rw [show (ieq p (1)) = false from off (ieq_iff _ _) h149]
                            exact Ends.lastF okE mixed (l179 w h p) (by exact tup3 (by unfold chW; (repeat (first | rw [if_pos (by omega)] | rw [if_neg (by omega)])) <;> first | rfl | omega) (by unfold chH; (repeat (first | rw [if_pos (by omega)] | rw [if_neg (by omega)])) <;> first | rfl | omega) (by unfold chE; (repeat (first | rw [if_pos (by omega)] | rw [if_neg (by omega)])) <;> first | rfl | omega))
                          · rw [show (ieq (128) h) = false from off (ieq_iff _ _) h144]
                            refine Ends.segF okE mixed (s180 w h p) ?_
                            have h150 : (¬ (p = (1 : Int))) := by omega
                            rw [show (ieq p (1)) = false from off (ieq_iff _ _) h150]
                            refine Ends.segF okE mixed (s181 w h p) ?_
                            have h151 : (¬ (p = (1 : Int))) := by omega
                            rw [show (ieq p (1)) = false from off (ieq_iff _ _) h151]
                            refine Ends.segF okE mixed (s182 w h p) ?_
                            have h152 : (¬ (p = (1 : Int))) := by omega
                            rw [show (ieq p (1)) = false from off (ieq_iff _ _) h152]
                            refine Ends.segF okE mixed (s183 w h p) ?_
                            have h153 : (¬ (p = (1 : Int))) := by omega
                            rw [show (ieq p (1)) = false from off (ieq_iff _ _) h153]
                            exact Ends.lastF okE mixed (l184 w h p) (by exact tup3 (by unfold chW; (repeat (first | rw [if_pos (by omega)] | rw [if_neg (by omega)])) <;> first | rfl | omega) (by unfold chH; (repeat (first | rw [if_pos (by omega)] | rw [if_neg (by omega)])) <;> first | rfl | omega) (by unfold chE; (repeat (first | rw [if_pos (by omega)] | rw [if_neg (by omega)])) <;> first | rfl | omega))
                    · rw [show (ieq p (2)) = false from off (ieq_iff _ _) h125]
                      refine Ends.segF okE mixed (s185 w h p) ?_
                      by_cases h154 : (p = (1 : Int))
                      · rw [show (ieq p (1)) = true from (ieq_iff _ _).2 h154]
                        refine Ends.segF okE mixed (s186 w h p) ?_
                        by_cases h155 : (w ≤ (64 : Int))
                        · rw [show (ile w (64)) = true from (ile_iff _ _).2 h155]
                          refine Ends.segF okE mixed (s187 w h p) ?_
                          by_cases h156 : (h ≤ (64 : Int))
                          · rw [show (ile h (64)) = true from (ile_iff _ _).2 h156]
                            refine Ends.segF okE mixed (s188 w h p) ?_
                            have h157 : (p = (1 : Int)) := by omega
                            rw [show (ieq p (1)) = true from (ieq_iff _ _).2 h157]
                            refine Ends.segF okE mixed (s189 w h p) ?_
                            have h158 : (w ≤ (64 : Int)) := by omega
                            rw [show (ile w (64)) = true from (ile_iff _ _).2 h158]
                            refine Ends.segF okE mixed (s190 w h p) ?_
                            have h159 : (h ≤ (96 : Int)) := by omega
                            rw [show (ile h (96)) = true from (ile_iff _ _).2 h159]
                            refine Ends.segF okE mixed (s191 w h p) ?_
                            have h160 : (p = (1 : Int)) := by omega
                            rw [show (ieq p (1)) = true from (ieq_iff _ _).2 h160]
                            refine Ends.segF okE mixed (s192 w h p) ?_
                            have h161 : (w ≤ (96 : Int)) := by omega
                            rw [show (ile w (96)) = true from (ile_iff _ _).2 h161]
                            refine Ends.segF okE mixed (s193 w h p) ?_
                            have h162 : (h ≤ (128 : Int)) := by omega
                            rw [show (ile h (128)) = true from (ile_iff _ _).2 h162]
                            refine Ends.segF okE mixed (s194 w h p) ?_
                            have h163 : (p = (1 : Int)) := by omega
                            rw [show (ieq p (1)) = true from (ieq_iff _ _).2 h163]
                            refine Ends.segF okE mixed (s195 w h p) ?_
                            have h164 : (w ≤ (128 : Int)) := by omega
                            rw [show (ile w (128)) = true from (ile_iff _ _).2 h164]
                            refine Ends.segF okE mixed (s196 w h p) ?_
                            have h165 : (h ≤ (128 : Int)) := by omega
                            rw [show (ile h (128)) = true from (ile_iff _ _).2 h165]
                            exact Ends.lastF okE mixed (l197 w h p) (by exact tup3 (by unfold chW; (repeat (first | rw [if_pos (by omega)] | rw [if_neg (by omega)])) <;> first | rfl | omega) (by unfold chH; (repeat (first | rw [if_pos (by omega)] | rw [if_neg (by omega)])) <;> first | rfl | omega) (by unfold chE; (repeat (first | rw [if_pos (by omega)] | rw [if_neg (by omega)])) <;> first | rfl | omega))
                          · rw [show (ile h (64)) = false from off (ile_iff _ _) h156]
                            refine Ends.segF okE mixed (s198 w h p) ?_
                            have h166 : (p = (1 : Int)) := by omega
                            rw [show (ieq p (1)) = true from (ieq_iff _ _).2 h166]
                            refine Ends.segF okE mixed (s199 w h p) ?_
                            have h167 : (w ≤ (64 : Int)) := by omega
                            rw [show (ile w (64)) = true from (ile_iff _ _).2 h167]
                            refine Ends.segF okE mixed (s200 w h p) ?_
                            by_cases h168 : (h ≤ (96 : Int))
                            · rw [show (ile h (96)) = true from (ile_iff _ _).2 h168]
                              refine Ends.segF okE mixed (s201 w h p) ?_
                              have h169 : (p = (1 : Int)) := by omega
                              rw [show (ieq p (1)) = true from (ieq_iff _ _).2 h169]
                              refine Ends.segF okE mixed (s202 w h p) ?_
                              have h170 : (w ≤ (96 : Int)) := by omega
                              rw [show (ile w (96)) = true from (ile_iff _ _).2 h170]
                              refine Ends.segF okE mixed (s203 w h p) ?_
                              have h171 : (h ≤ (128 : Int)) := by omega
                              rw [show (ile h (128)) = true from (ile_iff _ _).2 h171]
                              refine Ends.segF okE mixed (s204 w h p) ?_
                              have h172 : (p = (1 : Int)) := by omega
                              rw [show (ieq p (1)) = true from (ieq_iff _ _).2 h172]
                              refine Ends.segF okE mixed (s205 w h p) ?_
                              have h173 : (w ≤ (128 : Int)) := by omega
                              rw [show (ile w (128)) = true from (ile_iff _ _).2 h173]
                              refine Ends.segF okE mixed (s206 w h p) ?_
                              have h174 : (h ≤ (128 : Int)) := by omega
                              rw [show (ile h (128)) = true from (ile_iff _ _).2 h174]
                              exact Ends.lastF okE mixed (l207 w h p) (by exact tup3 (by unfold chW; (repeat (first | rw [if_pos (by omega)] | rw [if_neg (by omega)])) <;> first | rfl | omega) (by unfold chH; (repeat (first | rw [if_pos (by omega)] | rw [if_neg (by omega)])) <;> first | rfl | omega) (by unfold chE; (repeat (first | rw [if_pos (by omega)] | rw [if_neg (by omega)])) <;> first | rfl | omega))
                            · rw [show (ile h (96)) = false from off (ile_iff _ _) h168]
                              refine Ends.segF okE mixed (s208 w h p) ?_
                              have h175 : (p = (1 : Int)) := by omega
                              rw [show (ieq p (1)) = true from (ieq_iff _ _).2 h175]
                              refine Ends.segF okE mixed (s209 w h p) ?_
                              have h176 : (w ≤ (96 : Int)) := by omega
                              rw [show (ile w (96)) = true from (ile_iff _ _).2 h176]
                              refine Ends.segF okE mixed (s210 w h p) ?_
                              have h177 : (h ≤ (128 : Int)) := by omega
                              rw [show (ile h (128)) = true from (ile_iff _ _).2 h177]
                              refine Ends.segF okE mixed (s211 w h p) ?_
                              have h178 : (p = (1 : Int)) := by omega
                              rw [show (ieq p (1)) = true from (ieq_iff _ _).2 h178]
                              refine Ends.segF okE mixed (s212 w h p) ?_
                              have h179 : (w ≤ (128 : Int)) := by omega
                              rw [show (ile w (128)) = true from (ile_iff _ _).2 h179]
                              refine Ends.segF okE mixed (s213 w h p) ?_
                              have h180 : (h ≤ (128 : Int)) := by omega
                              rw [show (ile h (128)) = true from (ile_iff _ _).2 h180]
                              exact Ends.lastF okE mixed (l214 w h p) (by exact tup3 (by unfold chW; (repeat (first | rw [if_pos (by omega)] | rw [if_neg (by omega)])) <;> first | rfl | omega) (by unfold chH; (repeat (first | rw [if_pos (by omega)] | rw [if_neg (by omega)])) <;> first | rfl | omega) (by unfold chE; (repeat (first | rw [if_pos (by omega)] | rw [if_neg (by omega)])) <;> first | rfl | omega))
                        · rw [show (ile w (64)) = false from off (ile_iff _ _) h155]
                          refine Ends.segF okE mixed (s215 w h p) ?_
                          have h181 : (p = (1 : Int)) := by omega
                          rw [show (ieq p (1)) = true from (ieq_iff _ _).2 h181]
                          refine Ends.segF okE mixed (s216 w h p) ?_
                          have h182 : (¬ (w ≤ (64 : Int))) := by omega
                          rw [show (ile w (64)) = false from off (ile_iff _ _) h182]
                          refine Ends.segF okE mixed (s217 w h p) ?_
                          have h183 : (p = (1 : Int)) := by omega
                          rw [show (ieq p (1)) = true from (ieq_iff _ _).2 h183]
                          refine Ends.segF okE mixed (s218 w h p) ?_
                          by_cases h184 : (w ≤ (96 : Int))
                          · rw [show (ile w (96)) = true from (ile_iff _ _).2 h184]
                            refine Ends.segF okE mixed (s219 w h p) ?_
                            have h185 : (h ≤ (128 : Int)) := by omega
                            rw [show (ile h (128)) = true from (ile_iff _ _).2 h185]
                            refine Ends.segF okE mixed (s220 w h p) ?_
                            have h186 : (p = (1 : Int)) := by omega
                            rw [show (ieq p (1)) = true from (ieq_iff _ _).2 h186]
                            refine Ends.segF okE mixed (s221 w h p) ?_
                            have h187 : (w ≤ (128 : Int)) := by omega
                            rw [show (ile w (128)) = true from (ile_iff _ _).2 h187]
                            refine Ends.segF okE mixed (s222 w h p) ?_
                            have h188 : (h ≤ (128 : Int)) := by omega
                            rw [show (ile h (128)) = true from (ile_iff _ _).2 h188]
                            exact Ends.lastF okE mixed (l223 w h p) (by exact tup3 (by unfold chW; (repeat (first | rw [if_pos (by omega)] | rw [if_neg (by omega)])) <;> first | rfl | omega) (by unfold chH; (repeat (first | rw [if_pos (by omega)] | rw [if_neg (by omega)])) <;> first | rfl | omega) (by unfold chE; (repeat (first | rw [if_pos (by omega)] | rw [if_neg (by omega)])) <;> first | rfl | omega))
                          · rw [show (ile w (96)) = false from off (ile_iff _ _) h184]
                            refine Ends.segF okE mixed (s224 w h p) ?_
                            have h189 : (p = (1 : Int)) := by omega
                            rw [show (ieq p (1)) = true from (ieq_iff _ _).2 h189]
                            refine Ends.segF okE mixed (s225 w h p) ?_
                            have h190 : (w ≤ (128 : Int)) := by omega
                            rw [show (ile w (128)) = true from (ile_iff _ _).2 h190]
                            refine Ends.segF okE mixed (s226 w h p) ?_
                            have h191 : (h ≤ (128 : Int)) := by omega
                            rw [show (ile h (128)) = true from (ile_iff _ _).2 h191]
                            exact Ends.lastF okE mixed (l227 w h p) (by exact tup3 (by unfold chW; (repeat (first | rw [if_pos (by omega)] | rw [if_neg (by omega)])) <;> first | rfl | omega) (by unfold chH; (repeat (first | rw [if_pos (by omega)] | rw [if_neg (by omega)])) <;> first | rfl | omega) (by unfold chE; (repeat (first | rw [if_pos (by omega)] | rw [if_neg (by omega)])) <;> first | rfl | omega))
                      · rw [show (ieq p (1)) = false from off (ieq_iff _ _) h154]
                        refine Ends.segF okE mixed (s228 w h p) ?_
                        have h192 : (¬ (p = (1 : Int))) := by omega
                        rw [show (ieq p (1)) = false from off (ieq_iff _ _) h192]
                        refine Ends.segF okE mixed (s229 w h p) ?_
                        have h193 : (¬ (p = (1 : Int))) := by omega
                        rw [show (ieq p (1)) = false from off (ieq_iff _ _) h193]
                        refine Ends.segF okE mixed (s230 w h p) ?_
                        have h194 : (¬ (p = (1 : Int))) := by omega
                        rw [show (ieq p (1)) = false from off (ieq_iff _ _) h194]
                        exact Ends.lastF okE mixed (l231 w h p) (by exact tup3 (by unfold chW; (repeat (first | rw [if_pos (by omega)] | rw [if_neg (by omega)])) <;> first | rfl | omega) (by unfold chH; (repeat (first | rw [if_pos (by omega)] | rw [if_neg (by omega)])) <;> first | rfl | omega) (by unfold chE; (repeat (first | rw [if_pos (by omega)] | rw [if_neg (by omega)])) <;> first | rfl | omega))
theorem pure6 (w h p : Int) : PureF En (f1 w h p true) (chV w h p) := pure3 (en w h p) rfl (hp w h p) (ends w h p)
end Go.Proofs.YtoohcobdljmofaaGreatDoor.mediaChooses.c6
