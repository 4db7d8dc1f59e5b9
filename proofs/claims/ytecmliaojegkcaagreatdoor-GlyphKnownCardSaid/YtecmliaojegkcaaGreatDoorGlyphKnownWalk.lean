/-
  THE RUN of 'GlyphKnown', all pieces joined: for every world and tape the call answers true and leaves what lay there (conditions: none)
-/
import Derived.Test.YtecmliaojegkcaaGreatDoorGlyphKnownT1
import Derived.Test.YtecmliaojegkcaaGreatDoorGlyphKnownT2
import Derived.Test.YtecmliaojegkcaaGreatDoorGlyphKnownT3
import Derived.Test.YtecmliaojegkcaaGreatDoorGlyphKnownT4
import Derived.Test.YtecmliaojegkcaaGreatDoorGlyphKnownT5
import Derived.Test.YtecmliaojegkcaaGreatDoorGlyphKnownT6
import Derived.Test.YtecmliaojegkcaaGreatDoorGlyphKnownT7
import Derived.Test.YtecmliaojegkcaaGreatDoorGlyphKnownT8
import Derived.Test.YtecmliaojegkcaaGreatDoorGlyphKnownT9
import Derived.Test.YtecmliaojegkcaaGreatDoorGlyphKnownT10
import Derived.Test.YtecmliaojegkcaaGreatDoorGlyphKnownT11
import Derived.Test.YtecmliaojegkcaaGreatDoorGlyphKnownT12
import Derived.Test.YtecmliaojegkcaaGreatDoorGlyphKnownT13
import Derived.Test.YtecmliaojegkcaaGreatDoorGlyphKnownT14
import Derived.Test.YtecmliaojegkcaaGreatDoorGlyphKnownT15
import Derived.Test.YtecmliaojegkcaaGreatDoorGlyphKnownT16
import Derived.Test.YtecmliaojegkcaaGreatDoorGlyphKnownT17
import Derived.Test.YtecmliaojegkcaaGreatDoorGlyphKnownT18
namespace Go.Proofs.YtecmliaojegkcaaGreatDoor.glyphKnown
open Go Go.AM
theorem r1 : Go.AM.Reach En Hp0 3 f1 cs1 S1 := Go.AM.Reach.first (E := En) (mkEnv_ok Tryz.prog) mixed 37627 ks1 (noold ks1) c1
theorem r2 : Go.AM.Reach En Hp0 3 f2 cs2 S2 := Go.AM.Reach.next (E := En) (mkEnv_ok Tryz.prog) mixed r1 34041 ks2 (noold ks2) c2
theorem r3 : Go.AM.Reach En Hp0 3 f3 cs3 S3 := Go.AM.Reach.next (E := En) (mkEnv_ok Tryz.prog) mixed r2 34106 ks3 (noold ks3) c3
theorem r4 : Go.AM.Reach En Hp0 3 f4 cs4 S4 := Go.AM.Reach.next (E := En) (mkEnv_ok Tryz.prog) mixed r3 35336 ks4 (noold ks4) c4
theorem r5 : Go.AM.Reach En Hp0 3 f5 cs5 S5 := Go.AM.Reach.next (E := En) (mkEnv_ok Tryz.prog) mixed r4 36241 ks5 (noold ks5) c5
theorem r6 : Go.AM.Reach En Hp0 3 f6 cs6 S6 := Go.AM.Reach.next (E := En) (mkEnv_ok Tryz.prog) mixed r5 5217 ks6 (noold ks6) c6
theorem r7 : Go.AM.Reach En Hp0 3 f7 cs7 S7 := Go.AM.Reach.next (E := En) (mkEnv_ok Tryz.prog) mixed r6 752 ks7 (noold ks7) c7
theorem r8 : Go.AM.Reach En Hp0 3 f8 cs8 S8 := Go.AM.Reach.next (E := En) (mkEnv_ok Tryz.prog) mixed r7 752 ks8 (noold ks8) c8
theorem r9 : Go.AM.Reach En Hp0 3 f9 cs9 S9 := Go.AM.Reach.next (E := En) (mkEnv_ok Tryz.prog) mixed r8 736 ks9 (noold ks9) c9
theorem r10 : Go.AM.Reach En Hp0 3 f10 cs10 S10 := Go.AM.Reach.next (E := En) (mkEnv_ok Tryz.prog) mixed r9 736 ks10 (noold ks10) c10
theorem r11 : Go.AM.Reach En Hp0 3 f11 cs11 S11 := Go.AM.Reach.next (E := En) (mkEnv_ok Tryz.prog) mixed r10 752 ks11 (noold ks11) c11
theorem r12 : Go.AM.Reach En Hp0 3 f12 cs12 S12 := Go.AM.Reach.next (E := En) (mkEnv_ok Tryz.prog) mixed r11 752 ks12 (noold ks12) c12
theorem r13 : Go.AM.Reach En Hp0 3 f13 cs13 S13 := Go.AM.Reach.next (E := En) (mkEnv_ok Tryz.prog) mixed r12 752 ks13 (noold ks13) c13
theorem r14 : Go.AM.Reach En Hp0 3 f14 cs14 S14 := Go.AM.Reach.next (E := En) (mkEnv_ok Tryz.prog) mixed r13 752 ks14 (noold ks14) c14
theorem r15 : Go.AM.Reach En Hp0 3 f15 cs15 S15 := Go.AM.Reach.next (E := En) (mkEnv_ok Tryz.prog) mixed r14 752 ks15 (noold ks15) c15
theorem r16 : Go.AM.Reach En Hp0 3 f16 cs16 S16 := Go.AM.Reach.next (E := En) (mkEnv_ok Tryz.prog) mixed r15 752 ks16 (noold ks16) c16
theorem r17 : Go.AM.Reach En Hp0 3 f17 cs17 S17 := Go.AM.Reach.next (E := En) (mkEnv_ok Tryz.prog) mixed r16 33619 ks17 (noold ks17) c17
theorem start (w : World) : HR (fun a => if a.idx < En.ng then some ⟨a.idx, 0, 0⟩ else none) En.ng Hp0 w := by
  refine ⟨fun a o h => ?_, fun a a' o o' L L' h => ?_, fun a L h => ?_, fun g hg => ⟨0, ?_⟩⟩
  · rw [show Hp0.hp = .e from rfl, T.get_e] at h; cases h
  · rw [show Hp0.hp = .e from rfl, T.get_e] at h; cases h
  · show a.idx < (Ps.of En.ng).idx
    rw [Ps.idx_of]
    by_cases hlt : a.idx < En.ng
    · exact hlt
    · rw [if_neg hlt] at h; cases h
  · rw [Ps.idx_of, if_pos hg]
theorem walk (w : World) : Calls Tryz.prog 3 #[] w fun e w' => e = .returned (.bool true) ∧ RowKit.Below w.heap.size w w' :=
  Go.AM.Reach.true (E := En) (mkEnv_ok Tryz.prog) mixed r17 20000 last (by show (Ps.of En.ng).idx ≤ En.ng; rw [Ps.idx_of]; exact Nat.le_refl _) (start w)
end Go.Proofs.YtecmliaojegkcaaGreatDoor.glyphKnown
