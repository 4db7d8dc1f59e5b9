/- A part of the proof of GlyphMoves; no condition. -/
import Derived.Test.YtoahnefofelglaaGlyphMoves12
import Derived.Test.YtoahnefofelglaaGlyphMoves10
import Derived.Test.YtoahnefofelglaaGlyphMoves11
set_option linter.unusedVariables false
set_option linter.unusedSimpArgs false
set_option linter.unusedSectionVars false
section
namespace Go.Proofs.Ytoahnefofelglaa.gm
open Go Go.AM
noncomputable abbrev gl0 (v1:Int):Int:=(Int.add v1 (20))
noncomputable abbrev gl1 (v0:Int):Int:=(Int.add v0 (20))
noncomputable abbrev gl2 (T:Nat→Nat→Int):Int:=(Int.tmod (T 7 1) (100))
noncomputable abbrev gl3 (T:Nat→Nat→Int):Int:=(Int.tmod (T 6 1) (100))
noncomputable abbrev gl4 (T:Nat→Nat→Int):Int:=(Int.tmod (T 5 1) (100))
noncomputable abbrev gl5 (T:Nat→Nat→Int):Int:=(Int.tmod (T 4 1) (100))
noncomputable abbrev gl6 (T:Nat→Nat→Int):Int:=(Int.tmod (T 3 1) (100))
noncomputable abbrev gl7 (T:Nat→Nat→Int):Int:=(Int.tmod (T 2 1) (100))
noncomputable abbrev gl8 (T:Nat→Nat→Int):Int:=(Int.tmod (T 1 1) (100))
noncomputable abbrev gl9 (T:Nat→Nat→Int):Int:=(Int.tmod (T 0 1) (100))
noncomputable abbrev gl10 (nd:Nat):Bool:=(band (Nat.ble 1 nd) true)
noncomputable abbrev gl11 (i:Nat):Bool:=(Bool.not (Nat.beq (Nat.succ i) 0))
noncomputable abbrev gl12 (i:Nat):Int:=(Int.sub (.ofNat (Nat.succ i)) (1))
noncomputable abbrev gl13 (i nd:Nat):Bool:=(Nat.ble (Nat.succ (Nat.succ i)) nd)
noncomputable abbrev gl14 (i:Nat):Bool:=(Nat.ble (Nat.succ (Nat.succ i)) 20)
noncomputable abbrev gl15 (md:Nat):Bool:=(band (band (Nat.ble 8 md) true) true)
noncomputable abbrev gl16 (md:Nat):Bool:=(band (band (Nat.ble 7 md) true) true)
noncomputable abbrev gl17 (md:Nat):Bool:=(band (band (Nat.ble 6 md) true) true)
noncomputable abbrev gl18 (md:Nat):Bool:=(band (band (Nat.ble 5 md) true) true)
noncomputable abbrev gl19 (md:Nat):Bool:=(band (band (Nat.ble 4 md) true) true)
noncomputable abbrev gl20 (md:Nat):Bool:=(band (band (Nat.ble 3 md) true) true)
noncomputable abbrev gl21 (md:Nat):Bool:=(band (band (Nat.ble 2 md) true) true)
noncomputable abbrev gl22 (md:Nat):Bool:=(band (band (Nat.ble 1 md) true) true)
noncomputable abbrev gl23 (nd:Nat):Bool:=(band (gl10 nd) true)
noncomputable abbrev gl24 (md:Nat):Bool:=(band (band (Nat.beq md md) true) true)
noncomputable abbrev gl25 (nd:Nat):Bool:=(band (band (Nat.beq nd nd) true) true)
noncomputable abbrev gl26 (D:Nat→Nat→Int) (i:Nat):Nat:=(Int.toNat (Int.tmod (D (Nat.succ i) 0) (6)))
noncomputable abbrev gl27 (G:Nat→Nat→Int) (i:Nat):Int:=(G (Int.toNat (gl12 i)) 0)
noncomputable abbrev gl28 (i nd:Nat):Bool:=(band (band (gl13 i nd) true) true)
noncomputable abbrev gl29 (md:Nat) (v1:Int):Bool:=(band (gl24 md) (band (band (ieq v1 v1) true) true))
noncomputable abbrev gl30 (i:Nat):Bool:=(band (r64 (gl12 i)) (band (band (band (ile (0) (gl12 i)) (Nat.ble (Nat.succ (Int.toNat (gl12 i))) (Nat.succ i))) true) (band (band (band (Nat.ble (Nat.succ (Int.toNat (gl12 i))) (Nat.succ i)) true) true) true)))
noncomputable abbrev gl31 (T:Nat→Nat→Int) (md:Nat):Bool:=(band (band (band (r64 (gl9 T)) (ieq (gl9 T) (gl9 T))) true) (band (band (band (gl22 md) (ieq (T 0 1) (T 0 1))) true) (band (gl24 md) (band (band (ieq (Int.add (-280) (T 0 0)) (Int.add (-280) (T 0 0))) true) true))))
noncomputable abbrev gl32 (i:Nat):Bool:=(band (band (band (Nat.beq (Nat.succ i) (Nat.succ i)) (Bool.and (Nat.ble (Nat.mul (Nat.add (Nat.mul 2 (Nat.add (Nat.succ i) 1)) 768) 56) 1099511627776) (Nat.ble (Nat.add (Nat.succ i) 1) 1099511627776))) true) (band (band (ile (-9223372036854775808) (.ofNat (Nat.add (Nat.succ i) 1))) (Nat.ble (Nat.add (Nat.succ i) 1) 9223372036854775807)) true))
noncomputable abbrev gl33 (T:Nat→Nat→Int) (md:Nat) (v1:Int):Bool:=(band (band (band (r64 (gl2 T)) (ieq (gl2 T) (gl2 T))) true) (band (band (band (gl15 md) (ieq (T 7 1) (T 7 1))) true) (band (gl24 md) (band (band (ieq (Int.add (gl0 v1) (T 7 0)) (Int.add (gl0 v1) (T 7 0))) true) true))))
noncomputable abbrev gl34 (T:Nat→Nat→Int) (md:Nat) (v0:Int):Bool:=(band (band (band (r64 (gl3 T)) (ieq (gl3 T) (gl3 T))) true) (band (band (band (gl16 md) (ieq (T 6 1) (T 6 1))) true) (band (gl24 md) (band (band (ieq (Int.add (gl1 v0) (T 6 0)) (Int.add (gl1 v0) (T 6 0))) true) true))))
noncomputable abbrev gl35 (T:Nat→Nat→Int) (md:Nat) (v1:Int):Bool:=(band (band (band (r64 (gl4 T)) (ieq (gl4 T) (gl4 T))) true) (band (band (band (gl17 md) (ieq (T 5 1) (T 5 1))) true) (band (gl24 md) (band (band (ieq (Int.add (gl0 v1) (T 5 0)) (Int.add (gl0 v1) (T 5 0))) true) true))))
noncomputable abbrev gl36 (T:Nat→Nat→Int) (md:Nat) (v0:Int):Bool:=(band (band (band (r64 (gl5 T)) (ieq (gl5 T) (gl5 T))) true) (band (band (band (gl18 md) (ieq (T 4 1) (T 4 1))) true) (band (gl24 md) (band (band (ieq (Int.add (gl1 v0) (T 4 0)) (Int.add (gl1 v0) (T 4 0))) true) true))))
noncomputable abbrev gl37 (T:Nat→Nat→Int) (md:Nat) (v1:Int):Bool:=(band (band (band (r64 (gl6 T)) (ieq (gl6 T) (gl6 T))) true) (band (band (band (gl19 md) (ieq (T 3 1) (T 3 1))) true) (band (gl24 md) (band (band (ieq (Int.add (gl0 v1) (T 3 0)) (Int.add (gl0 v1) (T 3 0))) true) true))))
noncomputable abbrev gl38 (T:Nat→Nat→Int) (md:Nat) (v0:Int):Bool:=(band (band (band (r64 (gl7 T)) (ieq (gl7 T) (gl7 T))) true) (band (band (band (gl20 md) (ieq (T 2 1) (T 2 1))) true) (band (gl24 md) (band (band (ieq (Int.add (gl1 v0) (T 2 0)) (Int.add (gl1 v0) (T 2 0))) true) true))))
noncomputable abbrev gl39 (T:Nat→Nat→Int) (md:Nat) (v1:Int):Bool:=(band (band (band (r64 (gl8 T)) (ieq (gl8 T) (gl8 T))) true) (band (band (band (gl21 md) (ieq (T 1 1) (T 1 1))) true) (band (gl24 md) (band (band (ieq (Int.add (gl0 v1) (T 1 0)) (Int.add (gl0 v1) (T 1 0))) true) true))))
noncomputable abbrev gl40 (D:Nat→Nat→Int) (i:Nat):Int:=(iite (Nat.beq (gl26 D i) 0) (2) (iite (Nat.beq (gl26 D i) 1) (3) (iite (Nat.beq (gl26 D i) 2) (2) (iite (Nat.beq (gl26 D i) 3) (3) (iite (Nat.beq (gl26 D i) 4) (4) (iite (Nat.beq (gl26 D i) 5) (1) (0)))))))
noncomputable abbrev gl41 (md:Nat) (T:Nat→Nat→Int):Bool:=(band (Nat.ble 1 md) (band (band (band (band (Nat.ble 1 md) true) (band (gl22 md) (band (r64 (T 0 0)) (band (r64 (Int.add (-280) (T 0 0))) true)))) (band (band (band (r64 (T 0 0)) (ieq (T 0 0) (T 0 0))) true) (band (band (band (gl22 md) (ieq (T 0 0) (T 0 0))) true) (band (gl24 md) true)))) (band (band (band (band (Nat.ble 1 md) true) (band (gl22 md) (band (r64 (gl9 T)) (band (r64 (Int.add (10) (gl9 T))) true)))) (gl31 T md)) (band (band (band (r64 (Int.add (Int.add (-280) (T 0 0)) (10))) (band (band (Nat.ble 1 md) true) (band (gl22 md) (band (r64 (gl9 T)) (band (r64 (Int.add (Int.add (Int.add (-280) (T 0 0)) (10)) (gl9 T))) true))))) (gl31 T md)) true))))
noncomputable abbrev gl42 (md:Nat) (v1:Int) (T:Nat→Nat→Int):Bool:=(band (Nat.ble 8 md) (band (band (band (r64 (gl0 v1)) (band (band (Nat.ble 8 md) true) (band (gl15 md) (band (r64 (T 7 0)) (band (r64 (Int.add (gl0 v1) (T 7 0))) true))))) (band (band (band (r64 (T 7 0)) (ieq (T 7 0) (T 7 0))) true) (band (band (band (gl15 md) (ieq (T 7 0) (T 7 0))) true) (gl29 md v1)))) (band (band (band (band (Nat.ble 8 md) true) (band (gl15 md) (band (r64 (gl2 T)) (band (r64 (Int.add (10) (gl2 T))) true)))) (gl33 T md v1)) (band (band (band (r64 (Int.add (Int.add (gl0 v1) (T 7 0)) (10))) (band (band (Nat.ble 8 md) true) (band (gl15 md) (band (r64 (gl2 T)) (band (r64 (Int.add (Int.add (Int.add (gl0 v1) (T 7 0)) (10)) (gl2 T))) true))))) (gl33 T md v1)) true))))
noncomputable abbrev gl43 (md:Nat) (v0:Int) (T:Nat→Nat→Int):Bool:=(band (Nat.ble 7 md) (band (band (band (r64 (gl1 v0)) (band (band (Nat.ble 7 md) true) (band (gl16 md) (band (r64 (T 6 0)) (band (r64 (Int.add (gl1 v0) (T 6 0))) true))))) (band (band (band (r64 (T 6 0)) (ieq (T 6 0) (T 6 0))) true) (band (band (band (gl16 md) (ieq (T 6 0) (T 6 0))) true) (band (gl24 md) (band (band (ieq v0 v0) true) true))))) (band (band (band (band (Nat.ble 7 md) true) (band (gl16 md) (band (r64 (gl3 T)) (band (r64 (Int.add (10) (gl3 T))) true)))) (gl34 T md v0)) (band (band (band (r64 (Int.add (Int.add (gl1 v0) (T 6 0)) (10))) (band (band (Nat.ble 7 md) true) (band (gl16 md) (band (r64 (gl3 T)) (band (r64 (Int.add (Int.add (Int.add (gl1 v0) (T 6 0)) (10)) (gl3 T))) true))))) (gl34 T md v0)) true))))
noncomputable abbrev gl44 (md:Nat) (v1:Int) (T:Nat→Nat→Int):Bool:=(band (Nat.ble 6 md) (band (band (band (r64 (gl0 v1)) (band (band (Nat.ble 6 md) true) (band (gl17 md) (band (r64 (T 5 0)) (band (r64 (Int.add (gl0 v1) (T 5 0))) true))))) (band (band (band (r64 (T 5 0)) (ieq (T 5 0) (T 5 0))) true) (band (band (band (gl17 md) (ieq (T 5 0) (T 5 0))) true) (gl29 md v1)))) (band (band (band (band (Nat.ble 6 md) true) (band (gl17 md) (band (r64 (gl4 T)) (band (r64 (Int.add (10) (gl4 T))) true)))) (gl35 T md v1)) (band (band (band (r64 (Int.add (Int.add (gl0 v1) (T 5 0)) (10))) (band (band (Nat.ble 6 md) true) (band (gl17 md) (band (r64 (gl4 T)) (band (r64 (Int.add (Int.add (Int.add (gl0 v1) (T 5 0)) (10)) (gl4 T))) true))))) (gl35 T md v1)) true))))
noncomputable abbrev gl45 (md:Nat) (v0:Int) (T:Nat→Nat→Int):Bool:=(band (Nat.ble 5 md) (band (band (band (r64 (gl1 v0)) (band (band (Nat.ble 5 md) true) (band (gl18 md) (band (r64 (T 4 0)) (band (r64 (Int.add (gl1 v0) (T 4 0))) true))))) (band (band (band (r64 (T 4 0)) (ieq (T 4 0) (T 4 0))) true) (band (band (band (gl18 md) (ieq (T 4 0) (T 4 0))) true) (band (gl24 md) (band (band (ieq v0 v0) true) true))))) (band (band (band (band (Nat.ble 5 md) true) (band (gl18 md) (band (r64 (gl5 T)) (band (r64 (Int.add (10) (gl5 T))) true)))) (gl36 T md v0)) (band (band (band (r64 (Int.add (Int.add (gl1 v0) (T 4 0)) (10))) (band (band (Nat.ble 5 md) true) (band (gl18 md) (band (r64 (gl5 T)) (band (r64 (Int.add (Int.add (Int.add (gl1 v0) (T 4 0)) (10)) (gl5 T))) true))))) (gl36 T md v0)) true))))
noncomputable abbrev gl46 (md:Nat) (v1:Int) (T:Nat→Nat→Int):Bool:=(band (Nat.ble 4 md) (band (band (band (r64 (gl0 v1)) (band (band (Nat.ble 4 md) true) (band (gl19 md) (band (r64 (T 3 0)) (band (r64 (Int.add (gl0 v1) (T 3 0))) true))))) (band (band (band (r64 (T 3 0)) (ieq (T 3 0) (T 3 0))) true) (band (band (band (gl19 md) (ieq (T 3 0) (T 3 0))) true) (gl29 md v1)))) (band (band (band (band (Nat.ble 4 md) true) (band (gl19 md) (band (r64 (gl6 T)) (band (r64 (Int.add (10) (gl6 T))) true)))) (gl37 T md v1)) (band (band (band (r64 (Int.add (Int.add (gl0 v1) (T 3 0)) (10))) (band (band (Nat.ble 4 md) true) (band (gl19 md) (band (r64 (gl6 T)) (band (r64 (Int.add (Int.add (Int.add (gl0 v1) (T 3 0)) (10)) (gl6 T))) true))))) (gl37 T md v1)) true))))
noncomputable abbrev gl47 (md:Nat) (v0:Int) (T:Nat→Nat→Int):Bool:=(band (Nat.ble 3 md) (band (band (band (r64 (gl1 v0)) (band (band (Nat.ble 3 md) true) (band (gl20 md) (band (r64 (T 2 0)) (band (r64 (Int.add (gl1 v0) (T 2 0))) true))))) (band (band (band (r64 (T 2 0)) (ieq (T 2 0) (T 2 0))) true) (band (band (band (gl20 md) (ieq (T 2 0) (T 2 0))) true) (band (gl24 md) (band (band (ieq v0 v0) true) true))))) (band (band (band (band (Nat.ble 3 md) true) (band (gl20 md) (band (r64 (gl7 T)) (band (r64 (Int.add (10) (gl7 T))) true)))) (gl38 T md v0)) (band (band (band (r64 (Int.add (Int.add (gl1 v0) (T 2 0)) (10))) (band (band (Nat.ble 3 md) true) (band (gl20 md) (band (r64 (gl7 T)) (band (r64 (Int.add (Int.add (Int.add (gl1 v0) (T 2 0)) (10)) (gl7 T))) true))))) (gl38 T md v0)) true))))
noncomputable abbrev gl48 (md:Nat) (v1:Int) (T:Nat→Nat→Int):Bool:=(band (Nat.ble 2 md) (band (band (band (r64 (gl0 v1)) (band (band (Nat.ble 2 md) true) (band (gl21 md) (band (r64 (T 1 0)) (band (r64 (Int.add (gl0 v1) (T 1 0))) true))))) (band (band (band (r64 (T 1 0)) (ieq (T 1 0) (T 1 0))) true) (band (band (band (gl21 md) (ieq (T 1 0) (T 1 0))) true) (gl29 md v1)))) (band (band (band (band (Nat.ble 2 md) true) (band (gl21 md) (band (r64 (gl8 T)) (band (r64 (Int.add (10) (gl8 T))) true)))) (gl39 T md v1)) (band (band (band (r64 (Int.add (Int.add (gl0 v1) (T 1 0)) (10))) (band (band (Nat.ble 2 md) true) (band (gl21 md) (band (r64 (gl8 T)) (band (r64 (Int.add (Int.add (Int.add (gl0 v1) (T 1 0)) (10)) (gl8 T))) true))))) (gl39 T md v1)) true))))
noncomputable abbrev gl49 (nd:Nat) (D:Nat→Nat→Int):Bool:=(band (Nat.ble 1 nd) (band (band (band (gl10 nd) (band (gl23 nd) (band (r64 (D 0 1)) (band (gl10 nd) (band (gl23 nd) (band (r64 (D 0 2)) true)))))) (band (band (band (r64 (D 0 2)) (ieq (D 0 2) (D 0 2))) true) (band (band (band (gl23 nd) (ieq (D 0 2) (D 0 2))) true) (band (gl25 nd) (band (band (band (r64 (D 0 1)) (ieq (D 0 1) (D 0 1))) true) (band (band (band (gl23 nd) (ieq (D 0 1) (D 0 1))) true) (band (gl25 nd) true))))))) (band (band (band (gl10 nd) (band (gl23 nd) (band (r64 (D 0 3)) (band (gl10 nd) (band (gl23 nd) (band (r64 (D 0 4)) true)))))) (band (band (band (r64 (D 0 4)) (ieq (D 0 4) (D 0 4))) true) (band (band (band (gl23 nd) (ieq (D 0 4) (D 0 4))) true) (band (gl25 nd) (band (band (band (r64 (D 0 3)) (ieq (D 0 3) (D 0 3))) true) (band (band (band (gl23 nd) (ieq (D 0 3) (D 0 3))) true) (band (gl25 nd) true))))))) (band (band (band (gl10 nd) (band (gl23 nd) (band (r64 (D 0 5)) (band (gl10 nd) (band (gl23 nd) (band (r64 (D 0 6)) true)))))) (band (band (band (r64 (D 0 6)) (ieq (D 0 6) (D 0 6))) true) (band (band (band (gl23 nd) (ieq (D 0 6) (D 0 6))) true) (band (gl25 nd) (band (band (band (r64 (D 0 5)) (ieq (D 0 5) (D 0 5))) true) (band (band (band (gl23 nd) (ieq (D 0 5) (D 0 5))) true) (band (gl25 nd) true))))))) (band (gl10 nd) (band (gl23 nd) (band (band (band (ile (0) (Int.tmod (D 0 0) (6))) (Nat.ble (Nat.succ (Int.toNat (Int.tmod (D 0 0) (6)))) 6)) true) (band (band (Nat.ble (Nat.succ (Int.toNat (Int.tmod (D 0 0) (6)))) 6) true) true))))))))
noncomputable abbrev gl50 (i nd:Nat) (D:Nat→Nat→Int):Bool:=(band (band (band (band (gl13 i nd) true) (band (gl28 i nd) (band (r64 (D (Nat.succ i) 1)) (band (band (gl13 i nd) true) (band (gl28 i nd) (band (r64 (D (Nat.succ i) 2)) true)))))) (band (band (band (r64 (D (Nat.succ i) 2)) (ieq (D (Nat.succ i) 2) (D (Nat.succ i) 2))) true) (band (band (band (gl28 i nd) (ieq (D (Nat.succ i) 2) (D (Nat.succ i) 2))) true) (band (gl25 nd) (band (band (band (r64 (D (Nat.succ i) 1)) (ieq (D (Nat.succ i) 1) (D (Nat.succ i) 1))) true) (band (band (band (gl28 i nd) (ieq (D (Nat.succ i) 1) (D (Nat.succ i) 1))) true) (band (gl25 nd) true))))))) (band (band (band (band (gl13 i nd) true) (band (gl28 i nd) (band (r64 (D (Nat.succ i) 3)) (band (band (gl13 i nd) true) (band (gl28 i nd) (band (r64 (D (Nat.succ i) 4)) true)))))) (band (band (band (r64 (D (Nat.succ i) 4)) (ieq (D (Nat.succ i) 4) (D (Nat.succ i) 4))) true) (band (band (band (gl28 i nd) (ieq (D (Nat.succ i) 4) (D (Nat.succ i) 4))) true) (band (gl25 nd) (band (band (band (r64 (D (Nat.succ i) 3)) (ieq (D (Nat.succ i) 3) (D (Nat.succ i) 3))) true) (band (band (band (gl28 i nd) (ieq (D (Nat.succ i) 3) (D (Nat.succ i) 3))) true) (band (gl25 nd) true))))))) (band (band (band (band (gl13 i nd) true) (band (gl28 i nd) (band (r64 (D (Nat.succ i) 5)) (band (band (gl13 i nd) true) (band (gl28 i nd) (band (r64 (D (Nat.succ i) 6)) true)))))) (band (band (band (r64 (D (Nat.succ i) 6)) (ieq (D (Nat.succ i) 6) (D (Nat.succ i) 6))) true) (band (band (band (gl28 i nd) (ieq (D (Nat.succ i) 6) (D (Nat.succ i) 6))) true) (band (gl25 nd) (band (band (band (r64 (D (Nat.succ i) 5)) (ieq (D (Nat.succ i) 5) (D (Nat.succ i) 5))) true) (band (band (band (gl28 i nd) (ieq (D (Nat.succ i) 5) (D (Nat.succ i) 5))) true) (band (gl25 nd) true))))))) (band (band (gl13 i nd) true) (band (gl28 i nd) (band (band (band (ile (0) (Int.tmod (D (Nat.succ i) 0) (6))) (Nat.ble (Nat.succ (gl26 D i)) 6)) true) (band (band (Nat.ble (Nat.succ (gl26 D i)) 6) true) true)))))))
noncomputable abbrev gl51 (i nd:Nat) (D G:Nat→Nat→Int):Bool:=(band (gl13 i nd) (band (gl14 i) (band (gl50 i nd D) (band (gl11 i) (band (gl30 i) (band (Bool.not (ieq (gl27 G i) (4))) (band (ieq (gl40 D i) (1)) (band (gl30 i) (band (ieq (gl27 G i) (1)) (gl32 i))))))))))
noncomputable abbrev gl52 (i nd:Nat) (D G:Nat→Nat→Int):Bool:=(band (gl13 i nd) (band (gl14 i) (band (gl50 i nd D) (band (gl11 i) (band (gl30 i) (band (Bool.not (ieq (gl27 G i) (4))) (band (Bool.not (ieq (gl40 D i) (1))) (band (ieq (gl40 D i) (4)) (gl32 i)))))))))
noncomputable abbrev gl53 (i nd:Nat) (D G:Nat→Nat→Int):Bool:=(band (gl13 i nd) (band (gl14 i) (band (gl50 i nd D) (band (gl11 i) (band (gl30 i) (band (Bool.not (ieq (gl27 G i) (4))) (band (Bool.not (ieq (gl40 D i) (1))) (band (Bool.not (ieq (gl40 D i) (4))) (band (ieq (gl40 D i) (3)) (gl32 i))))))))))
noncomputable abbrev gl54 (i nd:Nat) (D G:Nat→Nat→Int):Bool:=(band (gl13 i nd) (band (gl14 i) (band (gl50 i nd D) (band (gl11 i) (band (gl30 i) (band (Bool.not (ieq (gl27 G i) (4))) (band (Bool.not (ieq (gl40 D i) (1))) (band (Bool.not (ieq (gl40 D i) (4))) (band (Bool.not (ieq (gl40 D i) (3))) (gl32 i))))))))))
noncomputable abbrev gl55 (i nd:Nat) (D G:Nat→Nat→Int):Bool:=(band (gl13 i nd) (band (gl14 i) (band (gl50 i nd D) (band (gl11 i) (band (gl30 i) (band (Bool.not (ieq (gl27 G i) (4))) (band (ieq (gl40 D i) (1)) (band (gl30 i) (band (Bool.not (ieq (gl27 G i) (1))) (band (Bool.not (ieq (gl40 D i) (4))) (band (Bool.not (ieq (gl40 D i) (3))) (gl32 i))))))))))))
theorem tmod_nn (x:Int) {k:Int} (h:0≤x):0≤Int.tmod x k:=Int.tmod_nonneg k h
theorem tm1001 (x:Int) : -32000≤Int.tmod x 1001∧Int.tmod x 1001≤32000:=by have:=tmodb x (k:=1001) (by decide);omega
theorem tm100 (x:Int) (h:0≤x∧x≤255):0≤Int.tmod x 100∧Int.tmod x 100≤99:=by have:=tmodb x (k:=100) (by decide);have:=tmod_nn x (k:=100) h.1;omega
theorem iite_bd {T:Bool} {x y A:Int} (hx : -A≤x∧x≤A) (hy : -A≤y∧y≤A) : -A≤iite T x y∧iite T x y≤A:=by cases T <;> assumption
theorem bd7 {a b c d e f g:Int} (ha : -32000≤a∧a≤32000) (hb : -32000≤b∧b≤32000) (hc : -32000≤c∧c≤32000) (hd : -32000≤d∧d≤32000) (he : -32000≤e∧e≤32000) (hf : -32000≤f∧f≤32000) (hg : -32000≤g∧g≤32000):∀ z ∈ [a,b,c,d,e,f,g],-32000≤z∧z≤32000:=by
  intro z hz
  simp only [List.mem_cons,List.not_mem_nil,or_false] at hz
  rcases hz with rfl|rfl|rfl|rfl|rfl|rfl|rfl <;> assumption
theorem getD_bd {l:List Int} {A:Int} (hA:0≤A) (h:∀ z ∈ l,-A≤z∧z≤A) (j k:Nat) : -A≤(fun (_:Nat) kk=>List.getD l kk 0) j k∧(fun (_:Nat) kk=>List.getD l kk 0) j k≤A:=by
  show -A≤List.getD l k 0∧List.getD l k 0≤A
  rw [List.getD_eq_getElem?_getD]
  cases hk:l[k]? with
  | none=>show -A≤(0:Int)∧(0:Int)≤A;omega
  | some x=>exact h x (List.mem_of_getElem? hk)
structure StInv (i:Nat) (V:Nat→Bool) (S:Nat→Nat→Int) (v0 v1:Int):Prop where
  sorted:Sorted i V S
  end0:∀ j,j < i→V j=false→S j 1+S j 2≤v0
  end1:∀ j,j < i→V j=true→S j 1+S j 2≤v1
  first:V 0=false
  b0 : -300≤v0∧v0≤400 * (i:Int)
  b1 : -300≤v1∧v1≤400 * (i:Int)
  bd:∀ j k,-32000≤S j k∧S j k≤32000
def StOK (m:Nat) (V:Nat→Bool) (S:Nat→Nat→Int):Prop:=0 < m∧m≤8∧Sorted m V S∧V 0=false∧∀ j k,-32000≤S j k∧S j k≤32000
theorem stok {i:Nat} {V:Nat→Bool} {S:Nat→Nat→Int} {v0 v1:Int} (h:StInv i V S v0 v1) (h1:0 < i) (h8:i≤8):StOK i V S:=⟨h1,h8,h.sorted,h.first,h.bd⟩
theorem updV_at (V:Nat→Bool) (i:Nat) (b:Bool):updV V i b i=b:=by unfold updV;rw [if_pos rfl]
theorem updV_ne (V:Nat→Bool) {i j:Nat} (b:Bool) (h:j≠i):updV V i b j=V j:=by unfold updV;rw [if_neg h]
section
variable {i:Nat} {V:Nat→Bool} {S:Nat→Nat→Int}
theorem StInv.push {v0 v1 a l w0 w1:Int} {b:Bool} (h:StInv i V S v0 v1) (hi:0 < i) (hi8:i < 8) (hl:10≤l∧l≤109) (ha:(b=false→v0+20≤a∧a≤v0+275∧w0=a+l∧w1=v1)∧(b=true→v1+20≤a∧a≤v1+275∧w1=a+l∧w0=v0)):StInv (i+1) (updV V i b) (updR S i (0::[a,l])) w0 w1:=by
  have hne:∀ j,j < i→updV V i b j=V j∧∀ k,updR S i (0::[a,l]) j k=S j k:=fun j hj=>⟨updV_ne _ _ (by omega),fun k=>updR_ne _ _ _ (by omega)⟩
  have h0:=h.b0
  have h1:=h.b1
  have hw:v0≤w0∧v1≤w1∧w0≤400 * ((i:Int)+1)∧w1≤400 * ((i:Int)+1)∧-32000≤a∧a≤32000:=by
    cases b with
    | false=>have:=ha.1 rfl;omega
    | true=>have:=ha.2 rfl;omega
  refine ⟨fun j k hj hk e=>?_,fun j hj e=>?_,fun j hj e=>?_,?_,?_,?_,?_⟩
  · rw [(hne j (by omega)).1] at e
    rw [(hne j (by omega)).2,(hne j (by omega)).2]
    by_cases ek:k=i
    · subst ek
      rw [updV_at] at e
      rw [updR_at]
      show S j 1+S j 2 < a
      cases b with
      | false=>have:=h.end0 j hj e;have:=ha.1 rfl;omega
      | true=>have:=h.end1 j hj e;have:=ha.2 rfl;omega
    rw [(hne k (by omega)).1] at e
    rw [(hne k (by omega)).2]
    exact h.sorted j k hj (by omega) e
  · by_cases ej:j=i
    · subst ej
      rw [updV_at] at e
      rw [updR_at,updR_at]
      show a+l≤w0
      have:=ha.1 e;omega
    rw [(hne j (by omega)).1] at e
    rw [(hne j (by omega)).2,(hne j (by omega)).2]
    have:=h.end0 j (by omega) e;omega
  · by_cases ej:j=i
    · subst ej
      rw [updV_at] at e
      rw [updR_at,updR_at]
      show a+l≤w1
      have:=ha.2 e;omega
    rw [(hne j (by omega)).1] at e
    rw [(hne j (by omega)).2,(hne j (by omega)).2]
    have:=h.end1 j (by omega) e;omega
  · rw [(hne 0 hi).1];exact h.first
  · omega
  · omega
  exact updR_bd3 (by decide) h.bd i (by omega) (by omega)
theorem StInv.push0 {v0 v1 x y:Int} (h:StInv i V S v0 v1) (hi:0 < i∧i < 8) (hx:0≤x∧x≤255) (hy:0≤y∧y≤99) :
    StInv (i+1) (updV V i false) (updR S i (0::[(Int.add (Int.add v0 (20)) x),(Int.add (10) y)])) (Int.add (Int.add (Int.add (Int.add v0 (20)) x) (10)) y) v1:=
  h.push (a:=v0+20+x) (l:=10+y) (w0:=v0+20+x+10+y) (w1:=v1) hi.1 hi.2 (by omega) ⟨fun _=>(by omega),fun e=>(by cases e)⟩
theorem StInv.push1 {v0 v1 x y:Int} (h:StInv i V S v0 v1) (hi:0 < i∧i < 8) (hx:0≤x∧x≤255) (hy:0≤y∧y≤99) :
    StInv (i+1) (updV V i true) (updR S i (0::[(Int.add (Int.add v1 (20)) x),(Int.add (10) y)])) v0 (Int.add (Int.add (Int.add (Int.add v1 (20)) x) (10)) y):=
  h.push (a:=v1+20+x) (l:=10+y) (w0:=v0) (w1:=v1+20+x+10+y) hi.1 hi.2 (by omega) ⟨fun e=>(by cases e),fun _=>(by omega)⟩
end
theorem st1 {x y:Int} (hx:0≤x∧x≤255) (hy:0≤y∧y≤99):StInv 1 (fun _=>false) (fun _ kk=>List.getD [0,(Int.add (-280) x),(Int.add (10) y)] kk 0) (Int.add (Int.add (Int.add (-280) x) (10)) y) (-300):=
  ⟨fun i j h1 h2=>(by omega),fun j _ _=>(by show Int.add (-280) x+Int.add 10 y≤_;simp only [iAdd];omega),fun j _ e=>(by cases e),rfl,(by simp only [iAdd];omega),(by omega),getD_bd (by decide) (fun z hz=>(by
    simp only [List.mem_cons,List.not_mem_nil,or_false,iAdd] at hz
    rcases hz with rfl|rfl|rfl <;> omega))⟩
def QGl (a b:Bool):AV→Hp→Prop:=fun v H =>
  (v=.agg [.int .i64 0,.int .i64 500,.nils,.nils]∧H.nx=.i .h) ∨
  (∃ (n:Nat) (G:Nat→Nat→Int),v=.agg [.int .i64 0,.int .i64 500,.sa J2 0 n 7,.nils]∧H.nx=.o J1∧H.hp.get J2=some (o7 n G false false)∧1≤n∧n≤1000∧(∀ j k,-32000≤G j k∧G j k≤32000)∧a=true) ∨
  (∃ (m:Nat) (V:Nat→Bool) (S:Nat→Nat→Int),v=.agg [.int .i64 0,.int .i64 500,.nils,.sa J2 0 m 3]∧H.nx=.o J1∧H.hp.get J2=some (o3 m V S false false)∧StOK m V S∧b=true) ∨
  (∃ (n:Nat) (G:Nat→Nat→Int) (m:Nat) (V:Nat→Bool) (S:Nat→Nat→Int),v=.agg [.int .i64 0,.int .i64 500,.sa J2 0 n 7,.sa J3 0 m 3]∧H.nx=.i J1∧H.hp.get J2=some (o7 n G false false) ∧
    H.hp.get J3=some (o3 m V S false false)∧1≤n∧n≤1000∧(∀ j k,-32000≤G j k∧G j k≤32000)∧StOK m V S∧a=true∧b=true)
section
variable {nd:Nat} {D:Nat→Nat→Int} {dx dy:Bool} {de:Nat} {md:Nat} {T:Nat→Nat→Int} {tx ty:Bool} {te:Nat}
theorem gln8_ok {a:Bool} {V:Nat→Bool} {S:Nat→Nat→Int} {v0 v1:Int} (hT:∀ j k,0≤T j k∧T j k≤255) (hmd:8≤md) (hinv:StInv 8 V S v0 v1):EndsX En 2 (gln8X md T tx ty te V S v0 v1) (QGl a true):=by
  have hv0:=hinv.b0;have hv1:=hinv.b1;have hS:=hinv.bd
  rcases ce_ 9 md with ⟨b1,b1p⟩|⟨b1,b1p⟩
  · refine fi 2 [(9,120,false)] 13 (band (Bool.not (Nat.ble 9 md)) true) [.h,J1,J6] (.agg [(zi (0)),(zi (500)),.nils,(.sa J2 0 8 3)]) [(J2,(o3 8 V S false false))] J3 (by (try simp only [b1,gS]);(try simp only [gT] at *);try omega) ?_
    exact .inr (.inr (.inl ⟨8,_,_,rfl,rfl,rfl,(stok hinv (by decide) (by decide)),rfl⟩))
  refine fi 2 [(9,120,true)] 13 (band (Nat.ble 9 md) true) [.h,J1,J6] (.agg [(zi (0)),(zi (500)),.nils,(.sa J2 0 8 3)]) [(J2,(o3 8 V S false false))] J3 (by (try simp only [b1,gS]);(try simp only [gT] at *);try omega) ?_
  exact .inr (.inr (.inl ⟨8,_,_,rfl,rfl,rfl,(stok hinv (by decide) (by decide)),rfl⟩))
theorem gln7_ok {a:Bool} {V:Nat→Bool} {S:Nat→Nat→Int} {v0 v1:Int} (hT:∀ j k,0≤T j k∧T j k≤255) (hmd:7≤md) (hinv:StInv 7 V S v0 v1):EndsX En 2 (gln7X md T tx ty te V S v0 v1) (QGl a true):=by
  have hv0:=hinv.b0;have hv1:=hinv.b1;have hS:=hinv.bd
  rcases ce_ 8 md with ⟨b1,b1p⟩|⟨b1,b1p⟩
  · refine fi 2 [(9,120,false)] 13 (band (Bool.not (Nat.ble 8 md)) true) [.h,J1,J6] (.agg [(zi (0)),(zi (500)),.nils,(.sa J2 0 7 3)]) [(J2,(o3 7 V S false false))] J3 (by (try simp only [b1,gS]);(try simp only [gT] at *);try omega) ?_
    exact .inr (.inr (.inl ⟨7,_,_,rfl,rfl,rfl,(stok hinv (by decide) (by decide)),rfl⟩))
  refine arF 5 2 [(9,120,true)] 26 ((gl42 md v1 T)) (gln8X md T tx ty te (updV V 7 true) (updR S 7 (0::[(Int.add (Int.add v1 (20)) (T 7 0)),(Int.add (10) (Int.tmod (T 7 1) (100)))])) v0 (Int.add (Int.add (Int.add (Int.add v1 (20)) (T 7 0)) (10)) (Int.tmod (T 7 1) (100)))) [.h,J1,J2,J3,J4,J5,J8] [1,2,3,9,10] [] ⟨oeFoldV (by kernel_rfl) rfl (by kernel_rfl),trivial⟩ (by have:=hh7 (hT 7);have:=tmodb (T 7 1) (k:=100) (by decide);(try simp only [b1,gS,gl0,gl2,gl15,gl24,gl29,gl33,gl42]);(try simp only [gT] at *);try omega) ?_
  exact gln8_ok hT  (by omega) (hinv.push1 (by decide) (hT 7 0) (tm100 _ (hT 7 1)))
theorem gln6_ok {a:Bool} {V:Nat→Bool} {S:Nat→Nat→Int} {v0 v1:Int} (hT:∀ j k,0≤T j k∧T j k≤255) (hmd:6≤md) (hinv:StInv 6 V S v0 v1):EndsX En 2 (gln6X md T tx ty te V S v0 v1) (QGl a true):=by
  have hv0:=hinv.b0;have hv1:=hinv.b1;have hS:=hinv.bd
  rcases ce_ 7 md with ⟨b1,b1p⟩|⟨b1,b1p⟩
  · refine fi 2 [(9,120,false)] 13 (band (Bool.not (Nat.ble 7 md)) true) [.h,J1,J6] (.agg [(zi (0)),(zi (500)),.nils,(.sa J2 0 6 3)]) [(J2,(o3 6 V S false false))] J3 (by (try simp only [b1,gS]);(try simp only [gT] at *);try omega) ?_
    exact .inr (.inr (.inl ⟨6,_,_,rfl,rfl,rfl,(stok hinv (by decide) (by decide)),rfl⟩))
  refine arF 5 2 [(9,120,true)] 26 ((gl43 md v0 T)) (gln7X md T tx ty te (updV V 6 false) (updR S 6 (0::[(Int.add (Int.add v0 (20)) (T 6 0)),(Int.add (10) (Int.tmod (T 6 1) (100)))])) (Int.add (Int.add (Int.add (Int.add v0 (20)) (T 6 0)) (10)) (Int.tmod (T 6 1) (100))) v1) [.h,J1,J2,J3,J4,J5,J8] [1,2,3,9,10] [] ⟨oeFoldV (by kernel_rfl) rfl (by kernel_rfl),trivial⟩ (by have:=hh7 (hT 6);have:=tmodb (T 6 1) (k:=100) (by decide);(try simp only [b1,gS,gl1,gl3,gl16,gl24,gl34,gl43]);(try simp only [gT] at *);try omega) ?_
  exact gln7_ok hT  (by omega) (hinv.push0 (by decide) (hT 6 0) (tm100 _ (hT 6 1)))
theorem gln5_ok {a:Bool} {V:Nat→Bool} {S:Nat→Nat→Int} {v0 v1:Int} (hT:∀ j k,0≤T j k∧T j k≤255) (hmd:5≤md) (hinv:StInv 5 V S v0 v1):EndsX En 2 (gln5X md T tx ty te V S v0 v1) (QGl a true):=by
  have hv0:=hinv.b0;have hv1:=hinv.b1;have hS:=hinv.bd
  rcases ce_ 6 md with ⟨b1,b1p⟩|⟨b1,b1p⟩
  · refine fi 2 [(9,120,false)] 13 (band (Bool.not (Nat.ble 6 md)) true) [.h,J1,J6] (.agg [(zi (0)),(zi (500)),.nils,(.sa J2 0 5 3)]) [(J2,(o3 5 V S false false))] J3 (by (try simp only [b1,gS]);(try simp only [gT] at *);try omega) ?_
    exact .inr (.inr (.inl ⟨5,_,_,rfl,rfl,rfl,(stok hinv (by decide) (by decide)),rfl⟩))
  refine arF 5 2 [(9,120,true)] 26 ((gl44 md v1 T)) (gln6X md T tx ty te (updV V 5 true) (updR S 5 (0::[(Int.add (Int.add v1 (20)) (T 5 0)),(Int.add (10) (Int.tmod (T 5 1) (100)))])) v0 (Int.add (Int.add (Int.add (Int.add v1 (20)) (T 5 0)) (10)) (Int.tmod (T 5 1) (100)))) [.h,J1,J2,J3,J4,J5,J8] [1,2,3,9,10] [] ⟨oeFoldV (by kernel_rfl) rfl (by kernel_rfl),trivial⟩ (by have:=hh7 (hT 5);have:=tmodb (T 5 1) (k:=100) (by decide);(try simp only [b1,gS,gl0,gl4,gl17,gl24,gl29,gl35,gl44]);(try simp only [gT] at *);try omega) ?_
  exact gln6_ok hT  (by omega) (hinv.push1 (by decide) (hT 5 0) (tm100 _ (hT 5 1)))
theorem gln4_ok {a:Bool} {V:Nat→Bool} {S:Nat→Nat→Int} {v0 v1:Int} (hT:∀ j k,0≤T j k∧T j k≤255) (hmd:4≤md) (hinv:StInv 4 V S v0 v1):EndsX En 2 (gln4X md T tx ty te V S v0 v1) (QGl a true):=by
  have hv0:=hinv.b0;have hv1:=hinv.b1;have hS:=hinv.bd
  rcases ce_ 5 md with ⟨b1,b1p⟩|⟨b1,b1p⟩
  · refine fi 2 [(9,120,false)] 13 (band (Bool.not (Nat.ble 5 md)) true) [.h,J1,J6] (.agg [(zi (0)),(zi (500)),.nils,(.sa J2 0 4 3)]) [(J2,(o3 4 V S false false))] J3 (by (try simp only [b1,gS]);(try simp only [gT] at *);try omega) ?_
    exact .inr (.inr (.inl ⟨4,_,_,rfl,rfl,rfl,(stok hinv (by decide) (by decide)),rfl⟩))
  refine arF 5 2 [(9,120,true)] 26 ((gl45 md v0 T)) (gln5X md T tx ty te (updV V 4 false) (updR S 4 (0::[(Int.add (Int.add v0 (20)) (T 4 0)),(Int.add (10) (Int.tmod (T 4 1) (100)))])) (Int.add (Int.add (Int.add (Int.add v0 (20)) (T 4 0)) (10)) (Int.tmod (T 4 1) (100))) v1) [.h,J1,J2,J3,J4,J5,J8] [1,2,3,9,10] [] ⟨oeFoldV (by kernel_rfl) rfl (by kernel_rfl),trivial⟩ (by have:=hh7 (hT 4);have:=tmodb (T 4 1) (k:=100) (by decide);(try simp only [b1,gS,gl1,gl5,gl18,gl24,gl36,gl45]);(try simp only [gT] at *);try omega) ?_
  exact gln5_ok hT  (by omega) (hinv.push0 (by decide) (hT 4 0) (tm100 _ (hT 4 1)))
theorem gln3_ok {a:Bool} {V:Nat→Bool} {S:Nat→Nat→Int} {v0 v1:Int} (hT:∀ j k,0≤T j k∧T j k≤255) (hmd:3≤md) (hinv:StInv 3 V S v0 v1):EndsX En 2 (gln3X md T tx ty te V S v0 v1) (QGl a true):=by
  have hv0:=hinv.b0;have hv1:=hinv.b1;have hS:=hinv.bd
  rcases ce_ 4 md with ⟨b1,b1p⟩|⟨b1,b1p⟩
  · refine fi 2 [(9,120,false)] 13 (band (Bool.not (Nat.ble 4 md)) true) [.h,J1,J6] (.agg [(zi (0)),(zi (500)),.nils,(.sa J2 0 3 3)]) [(J2,(o3 3 V S false false))] J3 (by (try simp only [b1,gS]);(try simp only [gT] at *);try omega) ?_
    exact .inr (.inr (.inl ⟨3,_,_,rfl,rfl,rfl,(stok hinv (by decide) (by decide)),rfl⟩))
  refine arF 5 2 [(9,120,true)] 26 ((gl46 md v1 T)) (gln4X md T tx ty te (updV V 3 true) (updR S 3 (0::[(Int.add (Int.add v1 (20)) (T 3 0)),(Int.add (10) (Int.tmod (T 3 1) (100)))])) v0 (Int.add (Int.add (Int.add (Int.add v1 (20)) (T 3 0)) (10)) (Int.tmod (T 3 1) (100)))) [.h,J1,J2,J3,J4,J5,J8] [1,2,3,9,10] [] ⟨oeFoldV (by kernel_rfl) rfl (by kernel_rfl),trivial⟩ (by have:=hh7 (hT 3);have:=tmodb (T 3 1) (k:=100) (by decide);(try simp only [b1,gS,gl0,gl6,gl19,gl24,gl29,gl37,gl46]);(try simp only [gT] at *);try omega) ?_
  exact gln4_ok hT  (by omega) (hinv.push1 (by decide) (hT 3 0) (tm100 _ (hT 3 1)))
theorem gln2_ok {a:Bool} {V:Nat→Bool} {S:Nat→Nat→Int} {v0 v1:Int} (hT:∀ j k,0≤T j k∧T j k≤255) (hmd:2≤md) (hinv:StInv 2 V S v0 v1):EndsX En 2 (gln2X md T tx ty te V S v0 v1) (QGl a true):=by
  have hv0:=hinv.b0;have hv1:=hinv.b1;have hS:=hinv.bd
  rcases ce_ 3 md with ⟨b1,b1p⟩|⟨b1,b1p⟩
  · refine fi 2 [(9,120,false)] 13 (band (Bool.not (Nat.ble 3 md)) true) [.h,J1,J6] (.agg [(zi (0)),(zi (500)),.nils,(.sa J2 0 2 3)]) [(J2,(o3 2 V S false false))] J3 (by (try simp only [b1,gS]);(try simp only [gT] at *);try omega) ?_
    exact .inr (.inr (.inl ⟨2,_,_,rfl,rfl,rfl,(stok hinv (by decide) (by decide)),rfl⟩))
  refine arF 5 2 [(9,120,true)] 26 ((gl47 md v0 T)) (gln3X md T tx ty te (updV V 2 false) (updR S 2 (0::[(Int.add (Int.add v0 (20)) (T 2 0)),(Int.add (10) (Int.tmod (T 2 1) (100)))])) (Int.add (Int.add (Int.add (Int.add v0 (20)) (T 2 0)) (10)) (Int.tmod (T 2 1) (100))) v1) [.h,J1,J2,J3,J4,J5,J8] [1,2,3,9,10] [] ⟨oeFoldV (by kernel_rfl) rfl (by kernel_rfl),trivial⟩ (by have:=hh7 (hT 2);have:=tmodb (T 2 1) (k:=100) (by decide);(try simp only [b1,gS,gl1,gl7,gl20,gl24,gl38,gl47]);(try simp only [gT] at *);try omega) ?_
  exact gln3_ok hT  (by omega) (hinv.push0 (by decide) (hT 2 0) (tm100 _ (hT 2 1)))
theorem gln1_ok {a:Bool} {V:Nat→Bool} {S:Nat→Nat→Int} {v0 v1:Int} (hT:∀ j k,0≤T j k∧T j k≤255) (hmd:1≤md) (hinv:StInv 1 V S v0 v1):EndsX En 2 (gln1X md T tx ty te V S v0 v1) (QGl a true):=by
  have hv0:=hinv.b0;have hv1:=hinv.b1;have hS:=hinv.bd
  rcases ce_ 2 md with ⟨b1,b1p⟩|⟨b1,b1p⟩
  · refine fi 2 [(9,120,false)] 13 (band (Bool.not (Nat.ble 2 md)) true) [.h,J1,J6] (.agg [(zi (0)),(zi (500)),.nils,(.sa J2 0 1 3)]) [(J2,(o3 1 V S false false))] J3 (by (try simp only [b1,gS]);(try simp only [gT] at *);try omega) ?_
    exact .inr (.inr (.inl ⟨1,_,_,rfl,rfl,rfl,(stok hinv (by decide) (by decide)),rfl⟩))
  refine arF 5 2 [(9,120,true)] 26 ((gl48 md v1 T)) (gln2X md T tx ty te (updV V 1 true) (updR S 1 (0::[(Int.add (Int.add v1 (20)) (T 1 0)),(Int.add (10) (Int.tmod (T 1 1) (100)))])) v0 (Int.add (Int.add (Int.add (Int.add v1 (20)) (T 1 0)) (10)) (Int.tmod (T 1 1) (100)))) [.h,J1,J2,J3,J4,J5,J8] [1,2,3,9,10] [] ⟨oeFoldV (by kernel_rfl) rfl (by kernel_rfl),trivial⟩ (by have:=hh7 (hT 1);have:=tmodb (T 1 1) (k:=100) (by decide);(try simp only [b1,gS,gl0,gl8,gl21,gl24,gl29,gl39,gl48]);(try simp only [gT] at *);try omega) ?_
  exact gln2_ok hT  (by omega) (hinv.push1 (by decide) (hT 1 0) (tm100 _ (hT 1 1)))
theorem gln0_ok {a:Bool} (hT:∀ j k,0≤T j k∧T j k≤255)   : EndsX En 2 (gln0X md T tx ty te ) (QGl a true):=by
  rcases ce_ 1 md with ⟨b1,b1p⟩|⟨b1,b1p⟩
  · refine fi 2 [(9,120,false)] 13 (band (Bool.not (Nat.ble 1 md)) true) [.h,J1] (.agg [(zi (0)),(zi (500)),.nils,.nils]) [] J2 (by (try simp only [b1,gS]);(try simp only [gT] at *);try omega) ?_
    exact .inl ⟨rfl,rfl⟩
  refine ar 2 [(9,120,true)] 26 ((gl41 md T)) (gln1X md T tx ty te (fun _=>false) (fun _ kk=>List.getD [0,(Int.add (-280) (T 0 0)),(Int.add (10) (Int.tmod (T 0 1) (100)))] kk 0) (Int.add (Int.add (Int.add (-280) (T 0 0)) (10)) (Int.tmod (T 0 1) (100))) (-300)) [.h,J1,J2,J3,J4,J5,J7] [1,2,3,9,10] [] (by have:=hh7 (hT 0);have:=tmodb (T 0 1) (k:=100) (by decide);(try simp only [b1,gS,gl9,gl22,gl24,gl31,gl41]);(try simp only [gT] at *);try omega) ?_
  exact gln1_ok hT  (by omega) (st1 (hT 0 0) (tm100 _ (hT 0 1)))
theorem glt8_ok {c:Nat} {G:Nat→Nat→Int} {V:Nat→Bool} {S:Nat→Nat→Int} {v0 v1:Int} (hT:∀ j k,0≤T j k∧T j k≤255) (hc:c≤100) (hG:∀ j k,-32000≤G j k∧G j k≤32000) (hmd:8≤md) (hinv:StInv 8 V S v0 v1):EndsX En 2 (glt8X md T tx ty te c G V S v0 v1) (QGl true true):=by
  have hv0:=hinv.b0;have hv1:=hinv.b1;have hS:=hinv.bd
  rcases ce_ 9 md with ⟨b1,b1p⟩|⟨b1,b1p⟩
  · refine fi 2 [(9,120,false)] 13 (band (Bool.not (Nat.ble 9 md)) true) [.h,J1,J6,J7] (.agg [(zi (0)),(zi (500)),(.sa J2 0 (Nat.succ c) 7),(.sa J3 0 8 3)]) [(J2,(o7 (Nat.succ c) G false false)),(J3,(o3 8 V S false false))] J4 (by (try simp only [b1,gS]);(try simp only [gT] at *);try omega) ?_
    exact .inr (.inr (.inr ⟨Nat.succ c,G,8,_,_,rfl,rfl,rfl,rfl,by omega,by omega,hG,(stok hinv (by decide) (by decide)),rfl,rfl⟩))
  refine fi 2 [(9,120,true)] 13 (band (Nat.ble 9 md) true) [.h,J1,J6,J7] (.agg [(zi (0)),(zi (500)),(.sa J2 0 (Nat.succ c) 7),(.sa J3 0 8 3)]) [(J2,(o7 (Nat.succ c) G false false)),(J3,(o3 8 V S false false))] J4 (by (try simp only [b1,gS]);(try simp only [gT] at *);try omega) ?_
  exact .inr (.inr (.inr ⟨Nat.succ c,G,8,_,_,rfl,rfl,rfl,rfl,by omega,by omega,hG,(stok hinv (by decide) (by decide)),rfl,rfl⟩))
theorem glt7_ok {c:Nat} {G:Nat→Nat→Int} {V:Nat→Bool} {S:Nat→Nat→Int} {v0 v1:Int} (hT:∀ j k,0≤T j k∧T j k≤255) (hc:c≤100) (hG:∀ j k,-32000≤G j k∧G j k≤32000) (hmd:7≤md) (hinv:StInv 7 V S v0 v1):EndsX En 2 (glt7X md T tx ty te c G V S v0 v1) (QGl true true):=by
  have hv0:=hinv.b0;have hv1:=hinv.b1;have hS:=hinv.bd
  rcases ce_ 8 md with ⟨b1,b1p⟩|⟨b1,b1p⟩
  · refine fi 2 [(9,120,false)] 13 (band (Bool.not (Nat.ble 8 md)) true) [.h,J1,J6,J7] (.agg [(zi (0)),(zi (500)),(.sa J2 0 (Nat.succ c) 7),(.sa J3 0 7 3)]) [(J2,(o7 (Nat.succ c) G false false)),(J3,(o3 7 V S false false))] J4 (by (try simp only [b1,gS]);(try simp only [gT] at *);try omega) ?_
    exact .inr (.inr (.inr ⟨Nat.succ c,G,7,_,_,rfl,rfl,rfl,rfl,by omega,by omega,hG,(stok hinv (by decide) (by decide)),rfl,rfl⟩))
  refine arF 6 2 [(9,120,true)] 26 ((gl42 md v1 T)) (glt8X md T tx ty te c G (updV V 7 true) (updR S 7 (0::[(Int.add (Int.add v1 (20)) (T 7 0)),(Int.add (10) (Int.tmod (T 7 1) (100)))])) v0 (Int.add (Int.add (Int.add (Int.add v1 (20)) (T 7 0)) (10)) (Int.tmod (T 7 1) (100)))) [.h,J1,J2,J3,J4,J5,J6,J9] [1,2,3,9,10] [] ⟨oeFoldV (by kernel_rfl) rfl (by kernel_rfl),trivial⟩ (by have:=hh7 (hT 7);have:=tmodb (T 7 1) (k:=100) (by decide);(try simp only [b1,gS,gl0,gl2,gl15,gl24,gl29,gl33,gl42]);(try simp only [gT] at *);try omega) ?_
  exact glt8_ok hT hc hG (by omega) (hinv.push1 (by decide) (hT 7 0) (tm100 _ (hT 7 1)))
theorem glt6_ok {c:Nat} {G:Nat→Nat→Int} {V:Nat→Bool} {S:Nat→Nat→Int} {v0 v1:Int} (hT:∀ j k,0≤T j k∧T j k≤255) (hc:c≤100) (hG:∀ j k,-32000≤G j k∧G j k≤32000) (hmd:6≤md) (hinv:StInv 6 V S v0 v1):EndsX En 2 (glt6X md T tx ty te c G V S v0 v1) (QGl true true):=by
  have hv0:=hinv.b0;have hv1:=hinv.b1;have hS:=hinv.bd
  rcases ce_ 7 md with ⟨b1,b1p⟩|⟨b1,b1p⟩
  · refine fi 2 [(9,120,false)] 13 (band (Bool.not (Nat.ble 7 md)) true) [.h,J1,J6,J7] (.agg [(zi (0)),(zi (500)),(.sa J2 0 (Nat.succ c) 7),(.sa J3 0 6 3)]) [(J2,(o7 (Nat.succ c) G false false)),(J3,(o3 6 V S false false))] J4 (by (try simp only [b1,gS]);(try simp only [gT] at *);try omega) ?_
    exact .inr (.inr (.inr ⟨Nat.succ c,G,6,_,_,rfl,rfl,rfl,rfl,by omega,by omega,hG,(stok hinv (by decide) (by decide)),rfl,rfl⟩))
  refine arF 6 2 [(9,120,true)] 26 ((gl43 md v0 T)) (glt7X md T tx ty te c G (updV V 6 false) (updR S 6 (0::[(Int.add (Int.add v0 (20)) (T 6 0)),(Int.add (10) (Int.tmod (T 6 1) (100)))])) (Int.add (Int.add (Int.add (Int.add v0 (20)) (T 6 0)) (10)) (Int.tmod (T 6 1) (100))) v1) [.h,J1,J2,J3,J4,J5,J6,J9] [1,2,3,9,10] [] ⟨oeFoldV (by kernel_rfl) rfl (by kernel_rfl),trivial⟩ (by have:=hh7 (hT 6);have:=tmodb (T 6 1) (k:=100) (by decide);(try simp only [b1,gS,gl1,gl3,gl16,gl24,gl34,gl43]);(try simp only [gT] at *);try omega) ?_
  exact glt7_ok hT hc hG (by omega) (hinv.push0 (by decide) (hT 6 0) (tm100 _ (hT 6 1)))
theorem glt5_ok {c:Nat} {G:Nat→Nat→Int} {V:Nat→Bool} {S:Nat→Nat→Int} {v0 v1:Int} (hT:∀ j k,0≤T j k∧T j k≤255) (hc:c≤100) (hG:∀ j k,-32000≤G j k∧G j k≤32000) (hmd:5≤md) (hinv:StInv 5 V S v0 v1):EndsX En 2 (glt5X md T tx ty te c G V S v0 v1) (QGl true true):=by
  have hv0:=hinv.b0;have hv1:=hinv.b1;have hS:=hinv.bd
  rcases ce_ 6 md with ⟨b1,b1p⟩|⟨b1,b1p⟩
  · refine fi 2 [(9,120,false)] 13 (band (Bool.not (Nat.ble 6 md)) true) [.h,J1,J6,J7] (.agg [(zi (0)),(zi (500)),(.sa J2 0 (Nat.succ c) 7),(.sa J3 0 5 3)]) [(J2,(o7 (Nat.succ c) G false false)),(J3,(o3 5 V S false false))] J4 (by (try simp only [b1,gS]);(try simp only [gT] at *);try omega) ?_
    exact .inr (.inr (.inr ⟨Nat.succ c,G,5,_,_,rfl,rfl,rfl,rfl,by omega,by omega,hG,(stok hinv (by decide) (by decide)),rfl,rfl⟩))
  refine arF 6 2 [(9,120,true)] 26 ((gl44 md v1 T)) (glt6X md T tx ty te c G (updV V 5 true) (updR S 5 (0::[(Int.add (Int.add v1 (20)) (T 5 0)),(Int.add (10) (Int.tmod (T 5 1) (100)))])) v0 (Int.add (Int.add (Int.add (Int.add v1 (20)) (T 5 0)) (10)) (Int.tmod (T 5 1) (100)))) [.h,J1,J2,J3,J4,J5,J6,J9] [1,2,3,9,10] [] ⟨oeFoldV (by kernel_rfl) rfl (by kernel_rfl),trivial⟩ (by have:=hh7 (hT 5);have:=tmodb (T 5 1) (k:=100) (by decide);(try simp only [b1,gS,gl0,gl4,gl17,gl24,gl29,gl35,gl44]);(try simp only [gT] at *);try omega) ?_
  exact glt6_ok hT hc hG (by omega) (hinv.push1 (by decide) (hT 5 0) (tm100 _ (hT 5 1)))
theorem glt4_ok {c:Nat} {G:Nat→Nat→Int} {V:Nat→Bool} {S:Nat→Nat→Int} {v0 v1:Int} (hT:∀ j k,0≤T j k∧T j k≤255) (hc:c≤100) (hG:∀ j k,-32000≤G j k∧G j k≤32000) (hmd:4≤md) (hinv:StInv 4 V S v0 v1):EndsX En 2 (glt4X md T tx ty te c G V S v0 v1) (QGl true true):=by
  have hv0:=hinv.b0;have hv1:=hinv.b1;have hS:=hinv.bd
  rcases ce_ 5 md with ⟨b1,b1p⟩|⟨b1,b1p⟩
  · refine fi 2 [(9,120,false)] 13 (band (Bool.not (Nat.ble 5 md)) true) [.h,J1,J6,J7] (.agg [(zi (0)),(zi (500)),(.sa J2 0 (Nat.succ c) 7),(.sa J3 0 4 3)]) [(J2,(o7 (Nat.succ c) G false false)),(J3,(o3 4 V S false false))] J4 (by (try simp only [b1,gS]);(try simp only [gT] at *);try omega) ?_
    exact .inr (.inr (.inr ⟨Nat.succ c,G,4,_,_,rfl,rfl,rfl,rfl,by omega,by omega,hG,(stok hinv (by decide) (by decide)),rfl,rfl⟩))
  refine arF 6 2 [(9,120,true)] 26 ((gl45 md v0 T)) (glt5X md T tx ty te c G (updV V 4 false) (updR S 4 (0::[(Int.add (Int.add v0 (20)) (T 4 0)),(Int.add (10) (Int.tmod (T 4 1) (100)))])) (Int.add (Int.add (Int.add (Int.add v0 (20)) (T 4 0)) (10)) (Int.tmod (T 4 1) (100))) v1) [.h,J1,J2,J3,J4,J5,J6,J9] [1,2,3,9,10] [] ⟨oeFoldV (by kernel_rfl) rfl (by kernel_rfl),trivial⟩ (by have:=hh7 (hT 4);have:=tmodb (T 4 1) (k:=100) (by decide);(try simp only [b1,gS,gl1,gl5,gl18,gl24,gl36,gl45]);(try simp only [gT] at *);try omega) ?_
  exact glt5_ok hT hc hG (by omega) (hinv.push0 (by decide) (hT 4 0) (tm100 _ (hT 4 1)))
theorem glt3_ok {c:Nat} {G:Nat→Nat→Int} {V:Nat→Bool} {S:Nat→Nat→Int} {v0 v1:Int} (hT:∀ j k,0≤T j k∧T j k≤255) (hc:c≤100) (hG:∀ j k,-32000≤G j k∧G j k≤32000) (hmd:3≤md) (hinv:StInv 3 V S v0 v1):EndsX En 2 (glt3X md T tx ty te c G V S v0 v1) (QGl true true):=by
  have hv0:=hinv.b0;have hv1:=hinv.b1;have hS:=hinv.bd
  rcases ce_ 4 md with ⟨b1,b1p⟩|⟨b1,b1p⟩
  · refine fi 2 [(9,120,false)] 13 (band (Bool.not (Nat.ble 4 md)) true) [.h,J1,J6,J7] (.agg [(zi (0)),(zi (500)),(.sa J2 0 (Nat.succ c) 7),(.sa J3 0 3 3)]) [(J2,(o7 (Nat.succ c) G false false)),(J3,(o3 3 V S false false))] J4 (by (try simp only [b1,gS]);(try simp only [gT] at *);try omega) ?_
    exact .inr (.inr (.inr ⟨Nat.succ c,G,3,_,_,rfl,rfl,rfl,rfl,by omega,by omega,hG,(stok hinv (by decide) (by decide)),rfl,rfl⟩))
  refine arF 6 2 [(9,120,true)] 26 ((gl46 md v1 T)) (glt4X md T tx ty te c G (updV V 3 true) (updR S 3 (0::[(Int.add (Int.add v1 (20)) (T 3 0)),(Int.add (10) (Int.tmod (T 3 1) (100)))])) v0 (Int.add (Int.add (Int.add (Int.add v1 (20)) (T 3 0)) (10)) (Int.tmod (T 3 1) (100)))) [.h,J1,J2,J3,J4,J5,J6,J9] [1,2,3,9,10] [] ⟨oeFoldV (by kernel_rfl) rfl (by kernel_rfl),trivial⟩ (by have:=hh7 (hT 3);have:=tmodb (T 3 1) (k:=100) (by decide);(try simp only [b1,gS,gl0,gl6,gl19,gl24,gl29,gl37,gl46]);(try simp only [gT] at *);try omega) ?_
  exact glt4_ok hT hc hG (by omega) (hinv.push1 (by decide) (hT 3 0) (tm100 _ (hT 3 1)))
theorem glt2_ok {c:Nat} {G:Nat→Nat→Int} {V:Nat→Bool} {S:Nat→Nat→Int} {v0 v1:Int} (hT:∀ j k,0≤T j k∧T j k≤255) (hc:c≤100) (hG:∀ j k,-32000≤G j k∧G j k≤32000) (hmd:2≤md) (hinv:StInv 2 V S v0 v1):EndsX En 2 (glt2X md T tx ty te c G V S v0 v1) (QGl true true):=by
  have hv0:=hinv.b0;have hv1:=hinv.b1;have hS:=hinv.bd
  rcases ce_ 3 md with ⟨b1,b1p⟩|⟨b1,b1p⟩
  · refine fi 2 [(9,120,false)] 13 (band (Bool.not (Nat.ble 3 md)) true) [.h,J1,J6,J7] (.agg [(zi (0)),(zi (500)),(.sa J2 0 (Nat.succ c) 7),(.sa J3 0 2 3)]) [(J2,(o7 (Nat.succ c) G false false)),(J3,(o3 2 V S false false))] J4 (by (try simp only [b1,gS]);(try simp only [gT] at *);try omega) ?_
    exact .inr (.inr (.inr ⟨Nat.succ c,G,2,_,_,rfl,rfl,rfl,rfl,by omega,by omega,hG,(stok hinv (by decide) (by decide)),rfl,rfl⟩))
  refine arF 6 2 [(9,120,true)] 26 ((gl47 md v0 T)) (glt3X md T tx ty te c G (updV V 2 false) (updR S 2 (0::[(Int.add (Int.add v0 (20)) (T 2 0)),(Int.add (10) (Int.tmod (T 2 1) (100)))])) (Int.add (Int.add (Int.add (Int.add v0 (20)) (T 2 0)) (10)) (Int.tmod (T 2 1) (100))) v1) [.h,J1,J2,J3,J4,J5,J6,J9] [1,2,3,9,10] [] ⟨oeFoldV (by kernel_rfl) rfl (by kernel_rfl),trivial⟩ (by have:=hh7 (hT 2);have:=tmodb (T 2 1) (k:=100) (by decide);(try simp only [b1,gS,gl1,gl7,gl20,gl24,gl38,gl47]);(try simp only [gT] at *);try omega) ?_
  exact glt3_ok hT hc hG (by omega) (hinv.push0 (by decide) (hT 2 0) (tm100 _ (hT 2 1)))
theorem glt1_ok {c:Nat} {G:Nat→Nat→Int} {V:Nat→Bool} {S:Nat→Nat→Int} {v0 v1:Int} (hT:∀ j k,0≤T j k∧T j k≤255) (hc:c≤100) (hG:∀ j k,-32000≤G j k∧G j k≤32000) (hmd:1≤md) (hinv:StInv 1 V S v0 v1):EndsX En 2 (glt1X md T tx ty te c G V S v0 v1) (QGl true true):=by
  have hv0:=hinv.b0;have hv1:=hinv.b1;have hS:=hinv.bd
  rcases ce_ 2 md with ⟨b1,b1p⟩|⟨b1,b1p⟩
  · refine fi 2 [(9,120,false)] 13 (band (Bool.not (Nat.ble 2 md)) true) [.h,J1,J6,J7] (.agg [(zi (0)),(zi (500)),(.sa J2 0 (Nat.succ c) 7),(.sa J3 0 1 3)]) [(J2,(o7 (Nat.succ c) G false false)),(J3,(o3 1 V S false false))] J4 (by (try simp only [b1,gS]);(try simp only [gT] at *);try omega) ?_
    exact .inr (.inr (.inr ⟨Nat.succ c,G,1,_,_,rfl,rfl,rfl,rfl,by omega,by omega,hG,(stok hinv (by decide) (by decide)),rfl,rfl⟩))
  refine arF 6 2 [(9,120,true)] 26 ((gl48 md v1 T)) (glt2X md T tx ty te c G (updV V 1 true) (updR S 1 (0::[(Int.add (Int.add v1 (20)) (T 1 0)),(Int.add (10) (Int.tmod (T 1 1) (100)))])) v0 (Int.add (Int.add (Int.add (Int.add v1 (20)) (T 1 0)) (10)) (Int.tmod (T 1 1) (100)))) [.h,J1,J2,J3,J4,J5,J6,J9] [1,2,3,9,10] [] ⟨oeFoldV (by kernel_rfl) rfl (by kernel_rfl),trivial⟩ (by have:=hh7 (hT 1);have:=tmodb (T 1 1) (k:=100) (by decide);(try simp only [b1,gS,gl0,gl8,gl21,gl24,gl29,gl39,gl48]);(try simp only [gT] at *);try omega) ?_
  exact glt2_ok hT hc hG (by omega) (hinv.push1 (by decide) (hT 1 0) (tm100 _ (hT 1 1)))
theorem glt0_ok {c:Nat} {G:Nat→Nat→Int} (hT:∀ j k,0≤T j k∧T j k≤255) (hc:c≤100) (hG:∀ j k,-32000≤G j k∧G j k≤32000)  : EndsX En 2 (glt0X md T tx ty te c G ) (QGl true true):=by
  rcases ce_ 1 md with ⟨b1,b1p⟩|⟨b1,b1p⟩
  · refine fi 2 [(9,120,false)] 13 (band (Bool.not (Nat.ble 1 md)) true) [.h,J1,J6] (.agg [(zi (0)),(zi (500)),(.sa J2 0 (Nat.succ c) 7),.nils]) [(J2,(o7 (Nat.succ c) G false false))] J3 (by (try simp only [b1,gS]);(try simp only [gT] at *);try omega) ?_
    exact .inr (.inl ⟨Nat.succ c,G,rfl,rfl,rfl,by omega,by omega,hG,rfl⟩)
  refine ar 2 [(9,120,true)] 26 ((gl41 md T)) (glt1X md T tx ty te c G (fun _=>false) (fun _ kk=>List.getD [0,(Int.add (-280) (T 0 0)),(Int.add (10) (Int.tmod (T 0 1) (100)))] kk 0) (Int.add (Int.add (Int.add (-280) (T 0 0)) (10)) (Int.tmod (T 0 1) (100))) (-300)) [.h,J1,J2,J3,J4,J5,J6,J8] [1,2,3,9,10] [] (by have:=hh7 (hT 0);have:=tmodb (T 0 1) (k:=100) (by decide);(try simp only [b1,gS,gl9,gl22,gl24,gl31,gl41]);(try simp only [gT] at *);try omega) ?_
  exact glt1_ok hT hc hG (by omega) (st1 (hT 0 0) (tm100 _ (hT 0 1)))
theorem glsa_ok (hD:∀ j k,-32768≤D j k∧D j k≤32767) (hD0:∀ j,0≤D j 0) (hT:∀ j k,0≤T j k∧T j k≤255) (d:Nat):∀ (i:Nat) (G:Nat→Nat→Int),20 - i=d→i+1≤nd→i+1≤20→(∀ j k,-32000≤G j k∧G j k≤32000)→EndsX En 2 (glsaX nd D dx dy de md T tx ty te i G) (QGl true true):=by
  induction d using Nat.strongRecOn with
  | ind d IH =>
    intro i G hd hi hi20 hG
    have ih:∀ (l:List Int),i+2≤nd→i+2≤20→(∀ z ∈ l,-32000≤z∧z≤32000)→EndsX En 2 (glsaX nd D dx dy de md T tx ty te (Nat.succ i) (updR G (Nat.succ i) l)) (QGl true true):=fun l h1 h2 h3 =>
      IH (20 - (i+1)) (by omega) (i+1) _ rfl (by omega) (by omega) (updR_bd (by decide) hG (Nat.succ i) h3)
    clear IH
    rcases ce_ (Nat.succ (Nat.succ i)) nd with ⟨b1,b1p⟩|⟨b1,b1p⟩
    · refine arF 1 2 [(9,18,false)] 19 ((band (Bool.not (gl13 i nd)) true)) (glt0X md T tx ty te i G) [.h,J1,J2,J3,J4,J6,J5] [1,2,3,9,10] [] ⟨oeAny (.sa .h 0 nd 7) (by kernel_rfl),.inl (by kernel_rfl),.inl (by kernel_rfl),.inl (by kernel_rfl),.inl (by kernel_rfl),trivial⟩ (by have hk0:=tmod_nn (D (Nat.succ i) 0) (k:=6) (hD0 (Nat.succ i));(try simp only [b1,gS,gl13]);(try simp only [gT] at *);try omega) ?_
      exact glt0_ok hT (by omega) hG
    rcases ce_ (Nat.succ (Nat.succ i)) 20 with ⟨b2,b2p⟩|⟨b2,b2p⟩
    · refine arF 1 2 [(9,18,true),(4,21,false)] 15 ((band (gl13 i nd) (band (Bool.not (gl14 i)) true))) (glt0X md T tx ty te i G) [.h,J1,J2,J3,J4,J6,J5] [1,2,3,9,10] [] ⟨oeAny (.sa .h 0 nd 7) (by kernel_rfl),.inl (by kernel_rfl),.inl (by kernel_rfl),.inl (by kernel_rfl),.inl (by kernel_rfl),trivial⟩ (by have hk0:=tmod_nn (D (Nat.succ i) 0) (k:=6) (hD0 (Nat.succ i));(try simp only [b1,b2,gS,gl13,gl14]);(try simp only [gT] at *);try omega) ?_
      exact glt0_ok hT (by omega) hG
    rcases ci (G (Int.toNat (Int.sub (.ofNat (Nat.succ i)) (1))) 0) (4) with ⟨b3,b3p⟩|⟨b3,b3p⟩
    · rcases ci (iite (Nat.beq (Int.toNat (Int.tmod (D (Nat.succ i) 0) (6))) 0) (2) (iite (Nat.beq (Int.toNat (Int.tmod (D (Nat.succ i) 0) (6))) 1) (3) (iite (Nat.beq (Int.toNat (Int.tmod (D (Nat.succ i) 0) (6))) 2) (2) (iite (Nat.beq (Int.toNat (Int.tmod (D (Nat.succ i) 0) (6))) 3) (3) (iite (Nat.beq (Int.toNat (Int.tmod (D (Nat.succ i) 0) (6))) 4) (4) (iite (Nat.beq (Int.toNat (Int.tmod (D (Nat.succ i) 0) (6))) 5) (1) (0))))))) (1) with ⟨b4,b4p⟩|⟨b4,b4p⟩
      · rcases ci (iite (Nat.beq (Int.toNat (Int.tmod (D (Nat.succ i) 0) (6))) 0) (2) (iite (Nat.beq (Int.toNat (Int.tmod (D (Nat.succ i) 0) (6))) 1) (3) (iite (Nat.beq (Int.toNat (Int.tmod (D (Nat.succ i) 0) (6))) 2) (2) (iite (Nat.beq (Int.toNat (Int.tmod (D (Nat.succ i) 0) (6))) 3) (3) (iite (Nat.beq (Int.toNat (Int.tmod (D (Nat.succ i) 0) (6))) 4) (4) (iite (Nat.beq (Int.toNat (Int.tmod (D (Nat.succ i) 0) (6))) 5) (1) (0))))))) (4) with ⟨b5,b5p⟩|⟨b5,b5p⟩
        · rcases ci (iite (Nat.beq (Int.toNat (Int.tmod (D (Nat.succ i) 0) (6))) 0) (2) (iite (Nat.beq (Int.toNat (Int.tmod (D (Nat.succ i) 0) (6))) 1) (3) (iite (Nat.beq (Int.toNat (Int.tmod (D (Nat.succ i) 0) (6))) 2) (2) (iite (Nat.beq (Int.toNat (Int.tmod (D (Nat.succ i) 0) (6))) 3) (3) (iite (Nat.beq (Int.toNat (Int.tmod (D (Nat.succ i) 0) (6))) 4) (4) (iite (Nat.beq (Int.toNat (Int.tmod (D (Nat.succ i) 0) (6))) 5) (1) (0))))))) (3) with ⟨b6,b6p⟩|⟨b6,b6p⟩
          · refine arF 5 2 [(9,18,true),(4,21,true),(106,72,false),(11,69,false),(7,87,false),(36,5,false),(6,7,false)] 85 ((gl54 i nd D G)) (glsaX nd D dx dy de md T tx ty te (Nat.succ i) (updR G (Nat.succ i) [(iite (Nat.beq (Int.toNat (Int.tmod (D (Nat.succ i) 0) (6))) 0) (2) (iite (Nat.beq (Int.toNat (Int.tmod (D (Nat.succ i) 0) (6))) 1) (3) (iite (Nat.beq (Int.toNat (Int.tmod (D (Nat.succ i) 0) (6))) 2) (2) (iite (Nat.beq (Int.toNat (Int.tmod (D (Nat.succ i) 0) (6))) 3) (3) (iite (Nat.beq (Int.toNat (Int.tmod (D (Nat.succ i) 0) (6))) 4) (4) (iite (Nat.beq (Int.toNat (Int.tmod (D (Nat.succ i) 0) (6))) 5) (1) (0))))))),(Int.tmod (D (Nat.succ i) 1) (1001)),(Int.tmod (D (Nat.succ i) 2) (1001)),(0),(0),(0),(0)])) [.h,J1,J2,J3,J4,J10] [1,2,3,4] [] ⟨oeFold (by kernel_rfl) rfl (by kernel_rfl),trivial⟩ (by have:=hh7 (hD (Nat.succ i));have:=hG (Int.toNat (Int.sub (.ofNat (Nat.succ i)) (1))) 0;have:=tmodb (D (Nat.succ i) 0) (k:=6) (by decide);have hk0:=tmod_nn (D (Nat.succ i) 0) (k:=6) (hD0 (Nat.succ i));(try simp only [b1,b2,b3,b4,b5,b6,gS,gl11,gl12,gl13,gl14,gl25,gl26,gl27,gl28,gl30,gl32,gl40,gl50,gl54]);(try simp only [gT] at *);try omega) ?_
            exact ih _ (by omega) (by omega) (bd7 (by first|exact tm1001 _|decide|(repeat' (first|decide|apply iite_bd))) (by first|exact tm1001 _|decide|(repeat' (first|decide|apply iite_bd))) (by first|exact tm1001 _|decide|(repeat' (first|decide|apply iite_bd))) (by first|exact tm1001 _|decide|(repeat' (first|decide|apply iite_bd))) (by first|exact tm1001 _|decide|(repeat' (first|decide|apply iite_bd))) (by first|exact tm1001 _|decide|(repeat' (first|decide|apply iite_bd))) (by first|exact tm1001 _|decide|(repeat' (first|decide|apply iite_bd))))
          refine arF 5 2 [(9,18,true),(4,21,true),(106,72,false),(11,69,false),(7,87,false),(36,5,false),(6,7,true)] 35 ((gl53 i nd D G)) (glsaX nd D dx dy de md T tx ty te (Nat.succ i) (updR G (Nat.succ i) [(iite (Nat.beq (Int.toNat (Int.tmod (D (Nat.succ i) 0) (6))) 0) (2) (iite (Nat.beq (Int.toNat (Int.tmod (D (Nat.succ i) 0) (6))) 1) (3) (iite (Nat.beq (Int.toNat (Int.tmod (D (Nat.succ i) 0) (6))) 2) (2) (iite (Nat.beq (Int.toNat (Int.tmod (D (Nat.succ i) 0) (6))) 3) (3) (iite (Nat.beq (Int.toNat (Int.tmod (D (Nat.succ i) 0) (6))) 4) (4) (iite (Nat.beq (Int.toNat (Int.tmod (D (Nat.succ i) 0) (6))) 5) (1) (0))))))),(Int.tmod (D (Nat.succ i) 1) (1001)),(Int.tmod (D (Nat.succ i) 2) (1001)),(Int.tmod (D (Nat.succ i) 3) (1001)),(Int.tmod (D (Nat.succ i) 4) (1001)),(Int.tmod (D (Nat.succ i) 5) (1001)),(Int.tmod (D (Nat.succ i) 6) (1001))])) [.h,J1,J2,J3,J4,J10] [1,2,3,4] [] ⟨oeFold (by kernel_rfl) rfl (by kernel_rfl),trivial⟩ (by have:=hh7 (hD (Nat.succ i));have:=hG (Int.toNat (Int.sub (.ofNat (Nat.succ i)) (1))) 0;have:=tmodb (D (Nat.succ i) 0) (k:=6) (by decide);have hk0:=tmod_nn (D (Nat.succ i) 0) (k:=6) (hD0 (Nat.succ i));(try simp only [b1,b2,b3,b4,b5,b6,gS,gl11,gl12,gl13,gl14,gl25,gl26,gl27,gl28,gl30,gl32,gl40,gl50,gl53]);(try simp only [gT] at *);try omega) ?_
          exact ih _ (by omega) (by omega) (bd7 (by first|exact tm1001 _|decide|(repeat' (first|decide|apply iite_bd))) (by first|exact tm1001 _|decide|(repeat' (first|decide|apply iite_bd))) (by first|exact tm1001 _|decide|(repeat' (first|decide|apply iite_bd))) (by first|exact tm1001 _|decide|(repeat' (first|decide|apply iite_bd))) (by first|exact tm1001 _|decide|(repeat' (first|decide|apply iite_bd))) (by first|exact tm1001 _|decide|(repeat' (first|decide|apply iite_bd))) (by first|exact tm1001 _|decide|(repeat' (first|decide|apply iite_bd))))
        refine arF 5 2 [(9,18,true),(4,21,true),(106,72,false),(11,69,false),(7,87,false),(36,5,true)] 107 ((gl52 i nd D G)) (glsaX nd D dx dy de md T tx ty te (Nat.succ i) (updR G (Nat.succ i) [(iite (Nat.beq (Int.toNat (Int.tmod (D (Nat.succ i) 0) (6))) 0) (2) (iite (Nat.beq (Int.toNat (Int.tmod (D (Nat.succ i) 0) (6))) 1) (3) (iite (Nat.beq (Int.toNat (Int.tmod (D (Nat.succ i) 0) (6))) 2) (2) (iite (Nat.beq (Int.toNat (Int.tmod (D (Nat.succ i) 0) (6))) 3) (3) (iite (Nat.beq (Int.toNat (Int.tmod (D (Nat.succ i) 0) (6))) 4) (4) (iite (Nat.beq (Int.toNat (Int.tmod (D (Nat.succ i) 0) (6))) 5) (1) (0))))))),(0),(0),(0),(0),(0),(0)])) [.h,J1,J2,J3,J4,J10] [1,2,3,4] [] ⟨oeFold (by kernel_rfl) rfl (by kernel_rfl),trivial⟩ (by have:=hh7 (hD (Nat.succ i));have:=hG (Int.toNat (Int.sub (.ofNat (Nat.succ i)) (1))) 0;have:=tmodb (D (Nat.succ i) 0) (k:=6) (by decide);have hk0:=tmod_nn (D (Nat.succ i) 0) (k:=6) (hD0 (Nat.succ i));(try simp only [b1,b2,b3,b4,b5,gS,gl11,gl12,gl13,gl14,gl25,gl26,gl27,gl28,gl30,gl32,gl40,gl50,gl52]);(try simp only [gT] at *);try omega) ?_
        exact ih _ (by omega) (by omega) (bd7 (by first|exact tm1001 _|decide|(repeat' (first|decide|apply iite_bd))) (by first|exact tm1001 _|decide|(repeat' (first|decide|apply iite_bd))) (by first|exact tm1001 _|decide|(repeat' (first|decide|apply iite_bd))) (by first|exact tm1001 _|decide|(repeat' (first|decide|apply iite_bd))) (by first|exact tm1001 _|decide|(repeat' (first|decide|apply iite_bd))) (by first|exact tm1001 _|decide|(repeat' (first|decide|apply iite_bd))) (by first|exact tm1001 _|decide|(repeat' (first|decide|apply iite_bd))))
      rcases ci (G (Int.toNat (Int.sub (.ofNat (Nat.succ i)) (1))) 0) (1) with ⟨b7,b7p⟩|⟨b7,b7p⟩
      · refine arF 5 2 [(9,18,true),(4,21,true),(106,72,false),(11,69,false),(7,87,true),(11,83,false),(25,5,false),(6,7,false)] 85 ((gl55 i nd D G)) (glsaX nd D dx dy de md T tx ty te (Nat.succ i) (updR G (Nat.succ i) [(iite (Nat.beq (Int.toNat (Int.tmod (D (Nat.succ i) 0) (6))) 0) (2) (iite (Nat.beq (Int.toNat (Int.tmod (D (Nat.succ i) 0) (6))) 1) (3) (iite (Nat.beq (Int.toNat (Int.tmod (D (Nat.succ i) 0) (6))) 2) (2) (iite (Nat.beq (Int.toNat (Int.tmod (D (Nat.succ i) 0) (6))) 3) (3) (iite (Nat.beq (Int.toNat (Int.tmod (D (Nat.succ i) 0) (6))) 4) (4) (iite (Nat.beq (Int.toNat (Int.tmod (D (Nat.succ i) 0) (6))) 5) (1) (0))))))),(Int.tmod (D (Nat.succ i) 1) (1001)),(Int.tmod (D (Nat.succ i) 2) (1001)),(0),(0),(0),(0)])) [.h,J1,J2,J3,J4,J10] [1,2,3,4] [] ⟨oeFold (by kernel_rfl) rfl (by kernel_rfl),trivial⟩ (by have:=hh7 (hD (Nat.succ i));have:=hG (Int.toNat (Int.sub (.ofNat (Nat.succ i)) (1))) 0;have:=tmodb (D (Nat.succ i) 0) (k:=6) (by decide);have hk0:=tmod_nn (D (Nat.succ i) 0) (k:=6) (hD0 (Nat.succ i));(try simp only [b1,b2,b3,b4,b7,gS,gl11,gl12,gl13,gl14,gl25,gl26,gl27,gl28,gl30,gl32,gl40,gl50,gl55]);(try simp only [gT] at *);try omega) ?_
        exact ih _ (by omega) (by omega) (bd7 (by first|exact tm1001 _|decide|(repeat' (first|decide|apply iite_bd))) (by first|exact tm1001 _|decide|(repeat' (first|decide|apply iite_bd))) (by first|exact tm1001 _|decide|(repeat' (first|decide|apply iite_bd))) (by first|exact tm1001 _|decide|(repeat' (first|decide|apply iite_bd))) (by first|exact tm1001 _|decide|(repeat' (first|decide|apply iite_bd))) (by first|exact tm1001 _|decide|(repeat' (first|decide|apply iite_bd))) (by first|exact tm1001 _|decide|(repeat' (first|decide|apply iite_bd))))
      refine arF 5 2 [(9,18,true),(4,21,true),(106,72,false),(11,69,false),(7,87,true),(11,83,true)] 119 ((gl51 i nd D G)) (glsaX nd D dx dy de md T tx ty te (Nat.succ i) (updR G (Nat.succ i) [(2),(Int.tmod (D (Nat.succ i) 1) (1001)),(Int.tmod (D (Nat.succ i) 2) (1001)),(0),(0),(0),(0)])) [.h,J1,J2,J3,J4,J10] [1,2,3,4] [] ⟨oeFold (by kernel_rfl) rfl (by kernel_rfl),trivial⟩ (by have:=hG (Int.toNat (Int.sub (.ofNat (Nat.succ i)) (1))) 0;have:=hh7 (hD (Nat.succ i));have:=tmodb (D (Nat.succ i) 0) (k:=6) (by decide);have hk0:=tmod_nn (D (Nat.succ i) 0) (k:=6) (hD0 (Nat.succ i));(try simp only [b1,b2,b3,b4,b7,gS,gl11,gl12,gl13,gl14,gl25,gl26,gl27,gl28,gl30,gl32,gl40,gl50,gl51]);(try simp only [gT] at *);try omega) ?_
      exact ih _ (by omega) (by omega) (bd7 (by first|exact tm1001 _|decide|(repeat' (first|decide|apply iite_bd))) (by first|exact tm1001 _|decide|(repeat' (first|decide|apply iite_bd))) (by first|exact tm1001 _|decide|(repeat' (first|decide|apply iite_bd))) (by first|exact tm1001 _|decide|(repeat' (first|decide|apply iite_bd))) (by first|exact tm1001 _|decide|(repeat' (first|decide|apply iite_bd))) (by first|exact tm1001 _|decide|(repeat' (first|decide|apply iite_bd))) (by first|exact tm1001 _|decide|(repeat' (first|decide|apply iite_bd))))
    refine arF 5 2 [(9,18,true),(4,21,true),(106,72,false),(11,69,true)] 119 ((band (gl13 i nd) (band (gl14 i) (band (gl50 i nd D) (band (gl11 i) (band (gl30 i) (band (ieq (gl27 G i) (4)) (gl32 i)))))))) (glsaX nd D dx dy de md T tx ty te (Nat.succ i) (updR G (Nat.succ i) [(1),(Int.tmod (D (Nat.succ i) 1) (1001)),(Int.tmod (D (Nat.succ i) 2) (1001)),(0),(0),(0),(0)])) [.h,J1,J2,J3,J4,J10] [1,2,3,4] [] ⟨oeFold (by kernel_rfl) rfl (by kernel_rfl),trivial⟩ (by have:=hG (Int.toNat (Int.sub (.ofNat (Nat.succ i)) (1))) 0;have:=hh7 (hD (Nat.succ i));have:=tmodb (D (Nat.succ i) 0) (k:=6) (by decide);have hk0:=tmod_nn (D (Nat.succ i) 0) (k:=6) (hD0 (Nat.succ i));(try simp only [b1,b2,b3,gS,gl11,gl12,gl13,gl14,gl25,gl26,gl27,gl28,gl30,gl32,gl50]);(try simp only [gT] at *);try omega) ?_
    exact ih _ (by omega) (by omega) (bd7 (by first|exact tm1001 _|decide|(repeat' (first|decide|apply iite_bd))) (by first|exact tm1001 _|decide|(repeat' (first|decide|apply iite_bd))) (by first|exact tm1001 _|decide|(repeat' (first|decide|apply iite_bd))) (by first|exact tm1001 _|decide|(repeat' (first|decide|apply iite_bd))) (by first|exact tm1001 _|decide|(repeat' (first|decide|apply iite_bd))) (by first|exact tm1001 _|decide|(repeat' (first|decide|apply iite_bd))) (by first|exact tm1001 _|decide|(repeat' (first|decide|apply iite_bd))))
theorem glsn_ok (hD:∀ j k,-32768≤D j k∧D j k≤32767) (hD0:∀ j,0≤D j 0) (d:Nat):∀ (i:Nat) (G:Nat→Nat→Int),20 - i=d→i+1≤nd→i+1≤20→(∀ j k,-32000≤G j k∧G j k≤32000)→EndsX En 2 (glsnX nd D dx dy de i G) (QGl true false):=by
  induction d using Nat.strongRecOn with
  | ind d IH =>
    intro i G hd hi hi20 hG
    have ih:∀ (l:List Int),i+2≤nd→i+2≤20→(∀ z ∈ l,-32000≤z∧z≤32000)→EndsX En 2 (glsnX nd D dx dy de (Nat.succ i) (updR G (Nat.succ i) l)) (QGl true false):=fun l h1 h2 h3 =>
      IH (20 - (i+1)) (by omega) (i+1) _ rfl (by omega) (by omega) (updR_bd (by decide) hG (Nat.succ i) h3)
    clear IH
    rcases ce_ (Nat.succ (Nat.succ i)) nd with ⟨b1,b1p⟩|⟨b1,b1p⟩
    · refine fi 2 [(9,18,false)] 41 ((band (Bool.not (gl13 i nd)) true)) [.h,J1,J5] (.agg [(zi (0)),(zi (500)),(.sa J2 0 (Nat.succ i) 7),.nils]) [(J2,(o7 (Nat.succ i) G false false))] J3 (by have hk0:=tmod_nn (D (Nat.succ i) 0) (k:=6) (hD0 (Nat.succ i));(try simp only [b1,gS,gl13]);(try simp only [gT] at *);try omega) ?_
      exact .inr (.inl ⟨Nat.succ i,G,rfl,rfl,rfl,by omega,by omega,hG,rfl⟩)
    rcases ce_ (Nat.succ (Nat.succ i)) 20 with ⟨b2,b2p⟩|⟨b2,b2p⟩
    · refine fi 2 [(9,18,true),(4,21,false)] 37 ((band (gl13 i nd) (band (Bool.not (gl14 i)) true))) [.h,J1,J5] (.agg [(zi (0)),(zi (500)),(.sa J2 0 (Nat.succ i) 7),.nils]) [(J2,(o7 (Nat.succ i) G false false))] J3 (by have hk0:=tmod_nn (D (Nat.succ i) 0) (k:=6) (hD0 (Nat.succ i));(try simp only [b1,b2,gS,gl13,gl14]);(try simp only [gT] at *);try omega) ?_
      exact .inr (.inl ⟨Nat.succ i,G,rfl,rfl,rfl,by omega,by omega,hG,rfl⟩)
    rcases ci (G (Int.toNat (Int.sub (.ofNat (Nat.succ i)) (1))) 0) (4) with ⟨b3,b3p⟩|⟨b3,b3p⟩
    · rcases ci (iite (Nat.beq (Int.toNat (Int.tmod (D (Nat.succ i) 0) (6))) 0) (2) (iite (Nat.beq (Int.toNat (Int.tmod (D (Nat.succ i) 0) (6))) 1) (3) (iite (Nat.beq (Int.toNat (Int.tmod (D (Nat.succ i) 0) (6))) 2) (2) (iite (Nat.beq (Int.toNat (Int.tmod (D (Nat.succ i) 0) (6))) 3) (3) (iite (Nat.beq (Int.toNat (Int.tmod (D (Nat.succ i) 0) (6))) 4) (4) (iite (Nat.beq (Int.toNat (Int.tmod (D (Nat.succ i) 0) (6))) 5) (1) (0))))))) (1) with ⟨b4,b4p⟩|⟨b4,b4p⟩
      · rcases ci (iite (Nat.beq (Int.toNat (Int.tmod (D (Nat.succ i) 0) (6))) 0) (2) (iite (Nat.beq (Int.toNat (Int.tmod (D (Nat.succ i) 0) (6))) 1) (3) (iite (Nat.beq (Int.toNat (Int.tmod (D (Nat.succ i) 0) (6))) 2) (2) (iite (Nat.beq (Int.toNat (Int.tmod (D (Nat.succ i) 0) (6))) 3) (3) (iite (Nat.beq (Int.toNat (Int.tmod (D (Nat.succ i) 0) (6))) 4) (4) (iite (Nat.beq (Int.toNat (Int.tmod (D (Nat.succ i) 0) (6))) 5) (1) (0))))))) (4) with ⟨b5,b5p⟩|⟨b5,b5p⟩
        · rcases ci (iite (Nat.beq (Int.toNat (Int.tmod (D (Nat.succ i) 0) (6))) 0) (2) (iite (Nat.beq (Int.toNat (Int.tmod (D (Nat.succ i) 0) (6))) 1) (3) (iite (Nat.beq (Int.toNat (Int.tmod (D (Nat.succ i) 0) (6))) 2) (2) (iite (Nat.beq (Int.toNat (Int.tmod (D (Nat.succ i) 0) (6))) 3) (3) (iite (Nat.beq (Int.toNat (Int.tmod (D (Nat.succ i) 0) (6))) 4) (4) (iite (Nat.beq (Int.toNat (Int.tmod (D (Nat.succ i) 0) (6))) 5) (1) (0))))))) (3) with ⟨b6,b6p⟩|⟨b6,b6p⟩
          · refine arF 4 2 [(9,18,true),(4,21,true),(106,72,false),(11,69,false),(7,87,false),(36,5,false),(6,7,false)] 85 ((gl54 i nd D G)) (glsnX nd D dx dy de (Nat.succ i) (updR G (Nat.succ i) [(iite (Nat.beq (Int.toNat (Int.tmod (D (Nat.succ i) 0) (6))) 0) (2) (iite (Nat.beq (Int.toNat (Int.tmod (D (Nat.succ i) 0) (6))) 1) (3) (iite (Nat.beq (Int.toNat (Int.tmod (D (Nat.succ i) 0) (6))) 2) (2) (iite (Nat.beq (Int.toNat (Int.tmod (D (Nat.succ i) 0) (6))) 3) (3) (iite (Nat.beq (Int.toNat (Int.tmod (D (Nat.succ i) 0) (6))) 4) (4) (iite (Nat.beq (Int.toNat (Int.tmod (D (Nat.succ i) 0) (6))) 5) (1) (0))))))),(Int.tmod (D (Nat.succ i) 1) (1001)),(Int.tmod (D (Nat.succ i) 2) (1001)),(0),(0),(0),(0)])) [.h,J1,J2,J3,J4,J10] [1,2,3,4] [] ⟨oeFold (by kernel_rfl) rfl (by kernel_rfl),trivial⟩ (by have:=hh7 (hD (Nat.succ i));have:=hG (Int.toNat (Int.sub (.ofNat (Nat.succ i)) (1))) 0;have:=tmodb (D (Nat.succ i) 0) (k:=6) (by decide);have hk0:=tmod_nn (D (Nat.succ i) 0) (k:=6) (hD0 (Nat.succ i));(try simp only [b1,b2,b3,b4,b5,b6,gS,gl11,gl12,gl13,gl14,gl25,gl26,gl27,gl28,gl30,gl32,gl40,gl50,gl54]);(try simp only [gT] at *);try omega) ?_
            exact ih _ (by omega) (by omega) (bd7 (by first|exact tm1001 _|decide|(repeat' (first|decide|apply iite_bd))) (by first|exact tm1001 _|decide|(repeat' (first|decide|apply iite_bd))) (by first|exact tm1001 _|decide|(repeat' (first|decide|apply iite_bd))) (by first|exact tm1001 _|decide|(repeat' (first|decide|apply iite_bd))) (by first|exact tm1001 _|decide|(repeat' (first|decide|apply iite_bd))) (by first|exact tm1001 _|decide|(repeat' (first|decide|apply iite_bd))) (by first|exact tm1001 _|decide|(repeat' (first|decide|apply iite_bd))))
          refine arF 4 2 [(9,18,true),(4,21,true),(106,72,false),(11,69,false),(7,87,false),(36,5,false),(6,7,true)] 35 ((gl53 i nd D G)) (glsnX nd D dx dy de (Nat.succ i) (updR G (Nat.succ i) [(iite (Nat.beq (Int.toNat (Int.tmod (D (Nat.succ i) 0) (6))) 0) (2) (iite (Nat.beq (Int.toNat (Int.tmod (D (Nat.succ i) 0) (6))) 1) (3) (iite (Nat.beq (Int.toNat (Int.tmod (D (Nat.succ i) 0) (6))) 2) (2) (iite (Nat.beq (Int.toNat (Int.tmod (D (Nat.succ i) 0) (6))) 3) (3) (iite (Nat.beq (Int.toNat (Int.tmod (D (Nat.succ i) 0) (6))) 4) (4) (iite (Nat.beq (Int.toNat (Int.tmod (D (Nat.succ i) 0) (6))) 5) (1) (0))))))),(Int.tmod (D (Nat.succ i) 1) (1001)),(Int.tmod (D (Nat.succ i) 2) (1001)),(Int.tmod (D (Nat.succ i) 3) (1001)),(Int.tmod (D (Nat.succ i) 4) (1001)),(Int.tmod (D (Nat.succ i) 5) (1001)),(Int.tmod (D (Nat.succ i) 6) (1001))])) [.h,J1,J2,J3,J4,J10] [1,2,3,4] [] ⟨oeFold (by kernel_rfl) rfl (by kernel_rfl),trivial⟩ (by have:=hh7 (hD (Nat.succ i));have:=hG (Int.toNat (Int.sub (.ofNat (Nat.succ i)) (1))) 0;have:=tmodb (D (Nat.succ i) 0) (k:=6) (by decide);have hk0:=tmod_nn (D (Nat.succ i) 0) (k:=6) (hD0 (Nat.succ i));(try simp only [b1,b2,b3,b4,b5,b6,gS,gl11,gl12,gl13,gl14,gl25,gl26,gl27,gl28,gl30,gl32,gl40,gl50,gl53]);(try simp only [gT] at *);try omega) ?_
          exact ih _ (by omega) (by omega) (bd7 (by first|exact tm1001 _|decide|(repeat' (first|decide|apply iite_bd))) (by first|exact tm1001 _|decide|(repeat' (first|decide|apply iite_bd))) (by first|exact tm1001 _|decide|(repeat' (first|decide|apply iite_bd))) (by first|exact tm1001 _|decide|(repeat' (first|decide|apply iite_bd))) (by first|exact tm1001 _|decide|(repeat' (first|decide|apply iite_bd))) (by first|exact tm1001 _|decide|(repeat' (first|decide|apply iite_bd))) (by first|exact tm1001 _|decide|(repeat' (first|decide|apply iite_bd))))
        refine arF 4 2 [(9,18,true),(4,21,true),(106,72,false),(11,69,false),(7,87,false),(36,5,true)] 107 ((gl52 i nd D G)) (glsnX nd D dx dy de (Nat.succ i) (updR G (Nat.succ i) [(iite (Nat.beq (Int.toNat (Int.tmod (D (Nat.succ i) 0) (6))) 0) (2) (iite (Nat.beq (Int.toNat (Int.tmod (D (Nat.succ i) 0) (6))) 1) (3) (iite (Nat.beq (Int.toNat (Int.tmod (D (Nat.succ i) 0) (6))) 2) (2) (iite (Nat.beq (Int.toNat (Int.tmod (D (Nat.succ i) 0) (6))) 3) (3) (iite (Nat.beq (Int.toNat (Int.tmod (D (Nat.succ i) 0) (6))) 4) (4) (iite (Nat.beq (Int.toNat (Int.tmod (D (Nat.succ i) 0) (6))) 5) (1) (0))))))),(0),(0),(0),(0),(0),(0)])) [.h,J1,J2,J3,J4,J10] [1,2,3,4] [] ⟨oeFold (by kernel_rfl) rfl (by kernel_rfl),trivial⟩ (by have:=hh7 (hD (Nat.succ i));have:=hG (Int.toNat (Int.sub (.ofNat (Nat.succ i)) (1))) 0;have:=tmodb (D (Nat.succ i) 0) (k:=6) (by decide);have hk0:=tmod_nn (D (Nat.succ i) 0) (k:=6) (hD0 (Nat.succ i));(try simp only [b1,b2,b3,b4,b5,gS,gl11,gl12,gl13,gl14,gl25,gl26,gl27,gl28,gl30,gl32,gl40,gl50,gl52]);(try simp only [gT] at *);try omega) ?_
        exact ih _ (by omega) (by omega) (bd7 (by first|exact tm1001 _|decide|(repeat' (first|decide|apply iite_bd))) (by first|exact tm1001 _|decide|(repeat' (first|decide|apply iite_bd))) (by first|exact tm1001 _|decide|(repeat' (first|decide|apply iite_bd))) (by first|exact tm1001 _|decide|(repeat' (first|decide|apply iite_bd))) (by first|exact tm1001 _|decide|(repeat' (first|decide|apply iite_bd))) (by first|exact tm1001 _|decide|(repeat' (first|decide|apply iite_bd))) (by first|exact tm1001 _|decide|(repeat' (first|decide|apply iite_bd))))
      rcases ci (G (Int.toNat (Int.sub (.ofNat (Nat.succ i)) (1))) 0) (1) with ⟨b7,b7p⟩|⟨b7,b7p⟩
      · refine arF 4 2 [(9,18,true),(4,21,true),(106,72,false),(11,69,false),(7,87,true),(11,83,false),(25,5,false),(6,7,false)] 85 ((gl55 i nd D G)) (glsnX nd D dx dy de (Nat.succ i) (updR G (Nat.succ i) [(iite (Nat.beq (Int.toNat (Int.tmod (D (Nat.succ i) 0) (6))) 0) (2) (iite (Nat.beq (Int.toNat (Int.tmod (D (Nat.succ i) 0) (6))) 1) (3) (iite (Nat.beq (Int.toNat (Int.tmod (D (Nat.succ i) 0) (6))) 2) (2) (iite (Nat.beq (Int.toNat (Int.tmod (D (Nat.succ i) 0) (6))) 3) (3) (iite (Nat.beq (Int.toNat (Int.tmod (D (Nat.succ i) 0) (6))) 4) (4) (iite (Nat.beq (Int.toNat (Int.tmod (D (Nat.succ i) 0) (6))) 5) (1) (0))))))),(Int.tmod (D (Nat.succ i) 1) (1001)),(Int.tmod (D (Nat.succ i) 2) (1001)),(0),(0),(0),(0)])) [.h,J1,J2,J3,J4,J10] [1,2,3,4] [] ⟨oeFold (by kernel_rfl) rfl (by kernel_rfl),trivial⟩ (by have:=hh7 (hD (Nat.succ i));have:=hG (Int.toNat (Int.sub (.ofNat (Nat.succ i)) (1))) 0;have:=tmodb (D (Nat.succ i) 0) (k:=6) (by decide);have hk0:=tmod_nn (D (Nat.succ i) 0) (k:=6) (hD0 (Nat.succ i));(try simp only [b1,b2,b3,b4,b7,gS,gl11,gl12,gl13,gl14,gl25,gl26,gl27,gl28,gl30,gl32,gl40,gl50,gl55]);(try simp only [gT] at *);try omega) ?_
        exact ih _ (by omega) (by omega) (bd7 (by first|exact tm1001 _|decide|(repeat' (first|decide|apply iite_bd))) (by first|exact tm1001 _|decide|(repeat' (first|decide|apply iite_bd))) (by first|exact tm1001 _|decide|(repeat' (first|decide|apply iite_bd))) (by first|exact tm1001 _|decide|(repeat' (first|decide|apply iite_bd))) (by first|exact tm1001 _|decide|(repeat' (first|decide|apply iite_bd))) (by first|exact tm1001 _|decide|(repeat' (first|decide|apply iite_bd))) (by first|exact tm1001 _|decide|(repeat' (first|decide|apply iite_bd))))
      refine arF 4 2 [(9,18,true),(4,21,true),(106,72,false),(11,69,false),(7,87,true),(11,83,true)] 119 ((gl51 i nd D G)) (glsnX nd D dx dy de (Nat.succ i) (updR G (Nat.succ i) [(2),(Int.tmod (D (Nat.succ i) 1) (1001)),(Int.tmod (D (Nat.succ i) 2) (1001)),(0),(0),(0),(0)])) [.h,J1,J2,J3,J4,J10] [1,2,3,4] [] ⟨oeFold (by kernel_rfl) rfl (by kernel_rfl),trivial⟩ (by have:=hG (Int.toNat (Int.sub (.ofNat (Nat.succ i)) (1))) 0;have:=hh7 (hD (Nat.succ i));have:=tmodb (D (Nat.succ i) 0) (k:=6) (by decide);have hk0:=tmod_nn (D (Nat.succ i) 0) (k:=6) (hD0 (Nat.succ i));(try simp only [b1,b2,b3,b4,b7,gS,gl11,gl12,gl13,gl14,gl25,gl26,gl27,gl28,gl30,gl32,gl40,gl50,gl51]);(try simp only [gT] at *);try omega) ?_
      exact ih _ (by omega) (by omega) (bd7 (by first|exact tm1001 _|decide|(repeat' (first|decide|apply iite_bd))) (by first|exact tm1001 _|decide|(repeat' (first|decide|apply iite_bd))) (by first|exact tm1001 _|decide|(repeat' (first|decide|apply iite_bd))) (by first|exact tm1001 _|decide|(repeat' (first|decide|apply iite_bd))) (by first|exact tm1001 _|decide|(repeat' (first|decide|apply iite_bd))) (by first|exact tm1001 _|decide|(repeat' (first|decide|apply iite_bd))) (by first|exact tm1001 _|decide|(repeat' (first|decide|apply iite_bd))))
    refine arF 4 2 [(9,18,true),(4,21,true),(106,72,false),(11,69,true)] 119 ((band (gl13 i nd) (band (gl14 i) (band (gl50 i nd D) (band (gl11 i) (band (gl30 i) (band (ieq (gl27 G i) (4)) (gl32 i)))))))) (glsnX nd D dx dy de (Nat.succ i) (updR G (Nat.succ i) [(1),(Int.tmod (D (Nat.succ i) 1) (1001)),(Int.tmod (D (Nat.succ i) 2) (1001)),(0),(0),(0),(0)])) [.h,J1,J2,J3,J4,J10] [1,2,3,4] [] ⟨oeFold (by kernel_rfl) rfl (by kernel_rfl),trivial⟩ (by have:=hG (Int.toNat (Int.sub (.ofNat (Nat.succ i)) (1))) 0;have:=hh7 (hD (Nat.succ i));have:=tmodb (D (Nat.succ i) 0) (k:=6) (by decide);have hk0:=tmod_nn (D (Nat.succ i) 0) (k:=6) (hD0 (Nat.succ i));(try simp only [b1,b2,b3,gS,gl11,gl12,gl13,gl14,gl25,gl26,gl27,gl28,gl30,gl32,gl50]);(try simp only [gT] at *);try omega) ?_
    exact ih _ (by omega) (by omega) (bd7 (by first|exact tm1001 _|decide|(repeat' (first|decide|apply iite_bd))) (by first|exact tm1001 _|decide|(repeat' (first|decide|apply iite_bd))) (by first|exact tm1001 _|decide|(repeat' (first|decide|apply iite_bd))) (by first|exact tm1001 _|decide|(repeat' (first|decide|apply iite_bd))) (by first|exact tm1001 _|decide|(repeat' (first|decide|apply iite_bd))) (by first|exact tm1001 _|decide|(repeat' (first|decide|apply iite_bd))) (by first|exact tm1001 _|decide|(repeat' (first|decide|apply iite_bd))))
theorem glaa_ok (hD:∀ j k,-32768≤D j k∧D j k≤32767) (hD0:∀ j,0≤D j 0) (hT:∀ j k,0≤T j k∧T j k≤255):EndsX En 2 (glaaX nd D dx dy de md T tx ty te) (QGl true true):=by
  rcases ce_ 1 nd with ⟨b1,b1p⟩|⟨b1,b1p⟩
  · refine arF 1 2 [(27,18,false)] 19 (band (Bool.not (Nat.ble 1 nd)) true) (gln0X md T tx ty te) [.h,J1,J2,J3,J4,J5] [1,2,3,9,10] [] ⟨oeAny (.sa .h 0 nd 7) (by kernel_rfl),.inl (by kernel_rfl),.inl (by kernel_rfl),.inl (by kernel_rfl),trivial⟩ (by have hk0:=tmod_nn (D 0 0) (k:=6) (hD0 0);(try simp only [b1,gS]);(try simp only [gT] at *);try omega) ?_
    exact gln0_ok hT
  refine ar 2 [(27,18,true)] 240 ((gl49 nd D)) (glsaX nd D dx dy de md T tx ty te 0 (fun _ kk=>List.getD [(1),(Int.tmod (D 0 1) (1001)),(Int.tmod (D 0 2) (1001)),(0),(0),(0),(0)] kk 0)) [.h,J1,J2,J3,J4,J9] [1,2,3,4] [] (by have:=hh7 (hD 0);have:=tmodb (D 0 0) (k:=6) (by decide);have hk0:=tmod_nn (D 0 0) (k:=6) (hD0 0);(try simp only [b1,gS,gl10,gl23,gl25,gl49]);(try simp only [gT] at *);try omega) ?_
  exact glsa_ok hD hD0 hT (20 - 0) 0 _ rfl (by omega) (by omega) (getD_bd (by decide) (bd7 (by first|exact tm1001 _|decide|(repeat' (first|decide|apply iite_bd))) (by first|exact tm1001 _|decide|(repeat' (first|decide|apply iite_bd))) (by first|exact tm1001 _|decide|(repeat' (first|decide|apply iite_bd))) (by first|exact tm1001 _|decide|(repeat' (first|decide|apply iite_bd))) (by first|exact tm1001 _|decide|(repeat' (first|decide|apply iite_bd))) (by first|exact tm1001 _|decide|(repeat' (first|decide|apply iite_bd))) (by first|exact tm1001 _|decide|(repeat' (first|decide|apply iite_bd)))))
theorem glan_ok (hD:∀ j k,-32768≤D j k∧D j k≤32767) (hD0:∀ j,0≤D j 0)  : EndsX En 2 (glanX nd D dx dy de) (QGl true false):=by
  rcases ce_ 1 nd with ⟨b1,b1p⟩|⟨b1,b1p⟩
  · refine fi 2 [(27,18,false)] 41 (band (Bool.not (Nat.ble 1 nd)) true) [.h,J1] (.agg [(zi (0)),(zi (500)),.nils,.nils]) [] J2 (by have hk0:=tmod_nn (D 0 0) (k:=6) (hD0 0);(try simp only [b1,gS]);(try simp only [gT] at *);try omega) ?_
    exact .inl ⟨rfl,rfl⟩
  refine ar 2 [(27,18,true)] 240 ((gl49 nd D)) (glsnX nd D dx dy de 0 (fun _ kk=>List.getD [(1),(Int.tmod (D 0 1) (1001)),(Int.tmod (D 0 2) (1001)),(0),(0),(0),(0)] kk 0)) [.h,J1,J2,J3,J4,J9] [1,2,3,4] [] (by have:=hh7 (hD 0);have:=tmodb (D 0 0) (k:=6) (by decide);have hk0:=tmod_nn (D 0 0) (k:=6) (hD0 0);(try simp only [b1,gS,gl10,gl23,gl25,gl49]);(try simp only [gT] at *);try omega) ?_
  exact glsn_ok hD hD0  (20 - 0) 0 _ rfl (by omega) (by omega) (getD_bd (by decide) (bd7 (by first|exact tm1001 _|decide|(repeat' (first|decide|apply iite_bd))) (by first|exact tm1001 _|decide|(repeat' (first|decide|apply iite_bd))) (by first|exact tm1001 _|decide|(repeat' (first|decide|apply iite_bd))) (by first|exact tm1001 _|decide|(repeat' (first|decide|apply iite_bd))) (by first|exact tm1001 _|decide|(repeat' (first|decide|apply iite_bd))) (by first|exact tm1001 _|decide|(repeat' (first|decide|apply iite_bd))) (by first|exact tm1001 _|decide|(repeat' (first|decide|apply iite_bd)))))
theorem glna_ok (hT:∀ j k,0≤T j k∧T j k≤255):EndsX En 2 (glnaX md T tx ty te) (QGl false true):=by
  refine arF 1 2 [] 46 true (gln0X md T tx ty te) [.h,J1,J2,J3,J4,J5] [1,2,3,9,10] [] ⟨oeAny .nils (by kernel_rfl),.inl (by kernel_rfl),.inl (by kernel_rfl),.inl (by kernel_rfl),trivial⟩ rfl ?_
  exact gln0_ok hT
theorem glnn_ok   : EndsX En 2 (glnnX) (QGl false false):=by
  refine fi 2 [] 68 true [.h,J1] (.agg [(zi (0)),(zi (500)),.nils,.nils]) [] J2 rfl ?_
  exact .inl ⟨rfl,rfl⟩
end
theorem EndsN.redress {E:Env} {n:Nat} {f:AF} {cs:List AF} {S:Hp} {Q Q':AV→Hp→Prop} (h:EndsN E n f cs S Q)
    (hq:∀ v H,Q v H→∃ H',Q' v H'∧H'.nx=H.nx∧H'.fl=H.fl∧∀ a x,AM.T.get a H'.hp=some x→∃ y,AM.T.get a H.hp=some y∧∀ γ L ob,OR γ L y ob→OR γ L x ob):EndsN E n f cs S Q':=by
  obtain ⟨v,S',q,h⟩:=h
  obtain ⟨S2,q2,n2,f2,d2⟩:=hq v S' q
  have hr:∀ {γ:Gm} {w:World},HR γ E.ng S' w→HR γ E.ng S2 w:=fun {γ w} hH=>by
    refine ⟨fun a o ho=>?_,fun a a' o o' L L' ho ho'=>?_,fun a L e=>by rw [n2];exact hH.fresh a L e,hH.glob⟩
    · obtain ⟨y,hy,hOR⟩:=d2 a o ho
      obtain ⟨L,ob,k1,k2,k3⟩:=hH.obj a y hy
      exact ⟨L,ob,k1,k2,hOR γ L ob k3⟩
    · obtain ⟨y,hy,_⟩:=d2 a o ho
      obtain ⟨y',hy',_⟩:=d2 a' o' ho'
      rw [f2];exact hH.inj a a' y y' L L' hy hy'
  have kn:∀ {γ:Gm} {w:World} {γ':Gm} {w':World},Kn n S γ w S' γ' w'→Kn n S γ w S2 γ' w':=fun {γ w γ' w'} k =>
    ⟨k.same,k.size,k.keep,k.os,k.out,fun a o L h1 h2 h3=>by
      obtain ⟨y,hy,_⟩:=d2 a o h1
      exact k.desc a y L hy h2 h3,by rw [f2];exact k.fl⟩
  refine ⟨v,S2,q2,fun γ fr frs w a b c=>?_⟩
  obtain ⟨h1,h2⟩:=h γ fr frs w a b c
  refine ⟨fun hl bot=>?_,fun c bot=>?_⟩
  · obtain ⟨γ',v',fr',w',fn,k1,k2,k3,k4,k5,k6,k7,k8,k9,k10⟩:=h1 hl bot
    exact ⟨γ',v',fr',w',fn,k1,k2,k3,k4,k5,k6,k7,k8,hr k9,kn k10⟩
  · obtain ⟨γ',v',w',k1,k2,k3,k4⟩:=h2 c bot
    exact ⟨γ',v',w',k1,k2,hr k3,kn k4⟩
theorem EndsX.split {E:Env} {m:Nat} {x:St} {Q:AV→Hp→Prop} (h:EndsX E m x Q):∃ v H,Q v H∧∀ Q':AV→Hp→Prop,Q' v H→EndsX E m x Q':=by
  obtain ⟨v,H,q,r⟩:=h
  exact ⟨v,H,q,fun Q' h'=>⟨v,H,h',r⟩⟩
theorem mv_choose {A:Int→Int→St} {k:Nat} {nx:Ps} (h:∀ px py,(-32000≤px∧px≤32000)→(-32000≤py∧py≤32000)→EndsX En k (A px py) (fun v H=>∃ a b e:Int,v=.tup [.agg [.int .i64 a,.int .i64 b],.int .i64 e]∧H.nx=nx∧(-1000000000000000000≤a∧a≤1000000000000000000)∧(-1000000000000000000≤b∧b≤1000000000000000000))) :
    ∃ oX oY oE:Int→Int→Int,(∀ j k,-1000000000000000000≤oX j k∧oX j k≤1000000000000000000)∧(∀ j k,-1000000000000000000≤oY j k∧oY j k≤1000000000000000000) ∧
      ∀ (px py:Int),(-32000≤px∧px≤32000)→(-32000≤py∧py≤32000)→EndsX En k (A px py) (fun v H=>v=.tup [.agg [.int .i64 (oX px py),.int .i64 (oY px py)],.int .i64 (oE px py)]∧H.nx=nx):=by
  have key:∀ p:Int × Int,∃ r:Int × Int × Int,((-1000000000000000000≤r.1∧r.1≤1000000000000000000)∧(-1000000000000000000≤r.2.1∧r.2.1≤1000000000000000000)) ∧
      ((-32000≤p.1∧p.1≤32000)→(-32000≤p.2∧p.2≤32000)→EndsX En k (A p.1 p.2) (fun v H=>v=.tup [.agg [.int .i64 r.1,.int .i64 r.2.1],.int .i64 r.2.2]∧H.nx=nx)):=fun p=>by
    by_cases hp:(-32000≤p.1∧p.1≤32000)∧(-32000≤p.2∧p.2≤32000)
    · obtain ⟨v,H,⟨a,b,e,h1,h2,h3,h4⟩,hr⟩:=EndsX.split (h p.1 p.2 hp.1 hp.2)
      exact ⟨(a,b,e),⟨h3,h4⟩,fun _ _=>hr _ ⟨h1,h2⟩⟩
    · exact ⟨(0,0,0),by decide,fun h1 h2=>absurd ⟨h1,h2⟩ hp⟩
  obtain ⟨f,hf⟩:=Classical.skolem.1 key
  exact ⟨fun a b=>(f (a,b)).1,fun a b=>(f (a,b)).2.1,fun a b=>(f (a,b)).2.2,fun j k=>(hf (j,k)).1.1,fun j k=>(hf (j,k)).1.2,fun px py h1 h2=>(hf (px,py)).2 h1 h2⟩
theorem path_of {n:Nat} {Y P:Nat→Nat→Int} {oX oY:Int→Int→Int} {x y:Int} (hs:StepsOK n Y) (hr:∀ j,j < n→PRow Y oX oY x y P j) (hn:∀ j,j < n→Near Y P j) :
    PathOK n P∧∀ j,j < n→∀ c,c < 7→-8192≤P j c∧P j c≤8192:=by
  have hp:∀ j,j < n→prevK P j=prevK Y j:=fun j hj=>by
    unfold prevK
    by_cases e:j=0
    · rw [if_pos e,if_pos e]
    · rw [if_neg e,if_neg e];exact (hr (j - 1) (by omega)).1
  have key:∀ j,j < n→StepOK (P j)∧∀ c,c < 7→-8192≤P j c∧P j c≤8192:=fun j hj=>by
    obtain ⟨⟨_,_,_,_,_,_,g1,g2⟩,k1,_,_⟩:=hs.2 j hj
    obtain ⟨r0,r1,r2,r3,r4⟩:=hr j hj
    obtain ⟨n1,n2⟩:=hn j hj
    unfold at8 at n1 n2
    have c0:∀ {a:Int},a=0→-8192≤a∧a≤8192:=fun h=>by omega
    have c12:(-8192≤P j 1∧P j 1≤8192)∧(-8192≤P j 2∧P j 2≤8192):=by
      by_cases e:Y j 0=4
      · have a:=r1 e;have b:=g1 e;omega
      · exact n1 e
    have c36:(-8192≤P j 3∧P j 3≤8192)∧(-8192≤P j 4∧P j 4≤8192)∧(-8192≤P j 5∧P j 5≤8192)∧(-8192≤P j 6∧P j 6≤8192):=by
      by_cases e:Y j 0=3
      · exact n2 e
      · have a:=r4 e;have b:=g2 e;omega
    refine ⟨?_,fun c hc=>?_⟩
    · unfold StepOK
      rw [r0]
      refine ⟨k1,fun e=>?_,fun e=>?_,fun e=>?_,fun e=>?_⟩
      · have a:=r1 e;have b:=g1 e;omega
      · omega
      · have a:=r4 e;have b:=g2 e;omega
      · omega
    · match c,hc with
      | 0,_=>rw [r0];omega
      | 1,_=>exact c12.1
      | 2,_=>exact c12.2
      | 3,_=>exact c36.1
      | 4,_=>exact c36.2.1
      | 5,_=>exact c36.2.2.1
      | 6,_=>exact c36.2.2.2
  refine ⟨⟨hs.1,fun j hj=>?_⟩,fun j hj=>(key j hj).2⟩
  obtain ⟨_,_,k2,k3⟩:=hs.2 j hj
  unfold GoodAt
  rw [hp j hj,(hr j hj).1]
  exact ⟨(key j hj).1,k2,k3⟩
def cutP (n:Nat) (P:Nat→Nat→Int):Nat→Nat→Int:=fun j c=>if j < n∧c < 7 then P j c else 0
theorem cutP_eq {n:Nat} {P:Nat→Nat→Int} {j c:Nat} (hj:j < n) (hc:c < 7):cutP n P j c=P j c:=if_pos ⟨hj,hc⟩
def QR (n:Nat) (Y:Nat→Nat→Int) (oX oY:Int→Int→Int) (x y:Int) (k k1:Ps):AV→Hp→Prop:=fun v H =>
  (∃ e:Int,v=.tup [.nils,.int .i64 e]∧H.nx=k∧ieq e 0=false) ∨
  (∃ P,v=.tup [.sa k 0 n 7,.int .i64 0]∧H.nx=k1∧H.hp.get k=some (.arr n 7 (rowK [.i64,.i64,.i64,.i64,.i64,.i64,.i64] P) none 63 true false)∧(∀ j c,-8192≤P j c∧P j c≤8192)∧PathOK n P∧∀ j,j < n→PRow Y oX oY x y P j)
theorem qp_qr {n:Nat} {Y:Nat→Nat→Int} {oX oY:Int→Int→Int} {x y:Int} {k k1:Ps} (v:AV) (H:Hp) (q:QP n Y oX oY x y k k1 v H) :
    ∃ H',QR n Y oX oY x y k k1 v H'∧H'.nx=H.nx∧H'.fl=H.fl∧∀ a x,AM.T.get a H'.hp=some x→∃ y,AM.T.get a H.hp=some y∧∀ γ L ob,OR γ L y ob→OR γ L x ob:=by
  rcases q with ⟨e,h1,h2,h3⟩|⟨P,h1,h2,h3,h4,h5,h6⟩
  · exact ⟨H,.inl ⟨e,h1,h2,off (ieq_iff _ _) h3⟩,rfl,rfl,fun a x h=>⟨x,h,fun _ _ _ k=>k⟩⟩
  · obtain ⟨p1,p2⟩:=path_of h6 h4 h5
    refine ⟨⟨AM.T.set k (.arr n 7 (rowK [.i64,.i64,.i64,.i64,.i64,.i64,.i64] (cutP n P)) none 63 true false) .e,H.nx,H.fl⟩,.inr ⟨cutP n P,h1,h2,AM.T.get_set_same _ _ _,fun j c=>?_,?_,fun j hj=>?_⟩,rfl,rfl,fun a o ho=>?_⟩
    · unfold cutP
      by_cases e:j < n∧c < 7
      · rw [if_pos e];exact p2 j e.1 c e.2
      · rw [if_neg e];decide
    · refine ⟨p1.1,fun j hj=>?_⟩
      have hk:prevK (cutP n P) j=prevK P j:=by
        unfold prevK
        by_cases e:j=0
        · rw [if_pos e,if_pos e]
        · rw [if_neg e,if_neg e];exact cutP_eq (by omega) (by omega)
      have:=p1.2 j hj
      unfold GoodAt StepOK at *
      rw [hk]
      simp only [cutP_eq hj (show 0 < 7 by decide),cutP_eq hj (show 1 < 7 by decide),cutP_eq hj (show 2 < 7 by decide),cutP_eq hj (show 3 < 7 by decide),cutP_eq hj (show 4 < 7 by decide),cutP_eq hj (show 5 < 7 by decide),cutP_eq hj (show 6 < 7 by decide)]
      exact this
    · have:=h4 j hj
      unfold PRow at *
      simp only [cutP_eq hj (show 0 < 7 by decide),cutP_eq hj (show 1 < 7 by decide),cutP_eq hj (show 2 < 7 by decide),cutP_eq hj (show 3 < 7 by decide),cutP_eq hj (show 4 < 7 by decide),cutP_eq hj (show 5 < 7 by decide),cutP_eq hj (show 6 < 7 by decide)]
      exact this
    · have ho:AM.T.get a (AM.T.set k (AO.arr n 7 (rowK [.i64,.i64,.i64,.i64,.i64,.i64,.i64] (cutP n P)) none 63 true false) AM.T.e)=some o:=ho
      by_cases e:k=a
      · subst e
        rw [AM.T.get_set_same] at ho
        cases ho
        refine ⟨_,h3,arr_same (fun j hj=>?_)⟩
        show [AV.int .i64 (P j 0),.int .i64 (P j 1),.int .i64 (P j 2),.int .i64 (P j 3),.int .i64 (P j 4),.int .i64 (P j 5),.int .i64 (P j 6)] = [AV.int .i64 (cutP n P j 0),.int .i64 (cutP n P j 1),.int .i64 (cutP n P j 2),.int .i64 (cutP n P j 3),.int .i64 (cutP n P j 4),.int .i64 (cutP n P j 5),.int .i64 (cutP n P j 6)]
        simp only [cutP_eq hj (show 0 < 7 by decide),cutP_eq hj (show 1 < 7 by decide),cutP_eq hj (show 2 < 7 by decide),cutP_eq hj (show 3 < 7 by decide),cutP_eq hj (show 4 < 7 by decide),cutP_eq hj (show 5 < 7 by decide),cutP_eq hj (show 6 < 7 by decide)]
      · rw [AM.T.get_set_ne e,AM.T.get_e] at ho
        cases ho
noncomputable def psAmX (n:Nat) (Y:Nat→Nat→Int) (ex:Bool) (sty:Bool) (sd:Int) (wd:Int) (m:Nat) (V:Nat→Bool) (S:Nat→Nat→Int) (sex:Bool) (ssty:Bool) (mA:Int) (mB:Int) (mC:Int) (mD:Int) (mE:Int) (mF:Int) (x:Int) (y:Int):St:=psemX n Y ex sty sd wd m V S sex ssty mA mB mC mD mE mF x y
theorem psA_ok {n:Nat} {Y:Nat→Nat→Int} {ex:Bool} {sty:Bool} {sd:Int} {wd:Int} {m:Nat} {V:Nat→Bool} {S:Nat→Nat→Int} {sex:Bool} {ssty:Bool} {mA:Int} {mB:Int} {mC:Int} {mD:Int} {mE:Int} {mF:Int} (hn:n≤1000) (hY:∀ j k,-32000≤Y j k∧Y j k≤32000) (hm8:m≤8) (hS:∀ j k,-32000≤S j k∧S j k≤32000) (hsort:Sorted m V S) (hm1:0 < m) (hV0:V 0=false) (hmA : -2000000≤mA∧mA≤2000000) (hmB : -2000000≤mB∧mB≤2000000) (hmC : -2000000≤mC∧mC≤2000000) (hmD : -2000000≤mD∧mD≤2000000) (hmE : -40000≤mE∧mE≤40000) (hmF : -40000≤mF∧mF≤40000):∃ oX oY:Int→Int→Int,∀ (x y:Int),(-128≤x∧x≤127)→(-128≤y∧y≤127)→EndsX En 2 (psAmX n Y ex sty sd wd m V S sex ssty mA mB mC mD mE mF x y) (QR n Y oX oY x y (.i .h) (.o (.o .h))):=by
  obtain ⟨v,H,hq,hr⟩:=EndsX.split (ofsm_ok (n:=n) (Y:=Y) (ex:=ex) (sty:=sty) (sd:=sd) (wd:=wd) (m:=m) (V:=V) (S:=S) (sex:=sex) (ssty:=ssty) (mA:=mA) (mB:=mB) (mC:=mC) (mD:=mD) (mE:=mE) (mF:=mF) (hY:=hY) (hm8:=hm8) (hS:=hS) (hsort:=hsort) (hm1:=hm1) (hV0:=hV0) (hmA:=hmA) (hmB:=hmB) (hmC:=hmC) (hmD:=hmD) (hmE:=hmE) (hmF:=hmF))
  rcases hq with h|h|h|h
  · have hf:=h
    exact ⟨fun _ _=>0,fun _ _=>0,fun x y hx hy=>EndsN.redress (psem_ok (hn:=hn) (hY:=hY) (hm8:=hm8) (hS:=hS) (hsort:=hsort) (hmA:=hmA) (hmB:=hmB) (hmC:=hmC) (hmD:=hmD) (hmE:=hmE) (hmF:=hmF) (hx:=hx) (hy:=hy) (hof:=(hr _ hf))) qp_qr⟩
  · have hf:=h
    obtain ⟨oX,oY,oE,hoX,hoY,hmv⟩:=mv_choose (fun px py h1 h2=>plm_ok (mE:=mE) (mF:=mF) hmA hmB hmC hmD h1 h2)
    exact ⟨oX,oY,fun x y hx hy=>EndsN.redress (pspm_ok (oX:=oX) (oY:=oY) (oE:=oE) (hn:=hn) (hY:=hY) (hm8:=hm8) (hS:=hS) (hsort:=hsort) (hmA:=hmA) (hmB:=hmB) (hmC:=hmC) (hmD:=hmD) (hmE:=hmE) (hmF:=hmF) (hx:=hx) (hy:=hy) (hoX:=hoX) (hoY:=hoY) (hof:=(hr _ hf)) (hmv:=hmv)) qp_qr⟩
  · obtain ⟨q2,K2,hf,hsx,hsy,hq2,hK2⟩:=h
    obtain ⟨oX,oY,oE,hoX,hoY,hmv⟩:=mv_choose (fun px py h1 h2=>hoim_ok (mA:=mA) (mB:=mB) (mC:=mC) (mD:=mD) (mE:=mE) (mF:=mF) (xb:=false) (yb:=false) hsx hsy hq2 hK2 h1 h2)
    exact ⟨oX,oY,fun x y hx hy=>EndsN.redress (psbm_ok (sx:=(Int.tdiv (Int.mul (16) mA) (1000))) (sy:=(Int.tdiv (Int.mul (-16) mD) (1000))) (oX:=oX) (oY:=oY) (oE:=oE) (hn:=hn) (hY:=hY) (hm8:=hm8) (hS:=hS) (hsort:=hsort) (hmA:=hmA) (hmB:=hmB) (hmC:=hmC) (hmD:=hmD) (hmE:=hmE) (hmF:=hmF) (hx:=hx) (hy:=hy) (hsx:=hsx) (hsy:=hsy) (hq2:=hq2) (hoX:=hoX) (hoY:=hoY) (hof:=(hr _ hf)) (hmv:=hmv)) qp_qr⟩
  · obtain ⟨q,K,q2,K2,hf,hsx,hsy,hq,hK,hq2,hK2⟩:=h
    obtain ⟨oX,oY,oE,hoX,hoY,hmv⟩:=mv_choose (fun px py h1 h2=>hiim_ok (mA:=mA) (mB:=mB) (mC:=mC) (mD:=mD) (mE:=mE) (mF:=mF) (xa:=false) (ya:=false) (xb:=false) (yb:=false) hsx hsy hq hK hq2 hK2 h1 h2)
    exact ⟨oX,oY,fun x y hx hy=>EndsN.redress (psdm_ok (sx:=(Int.tdiv (Int.mul (16) mA) (1000))) (sy:=(Int.tdiv (Int.mul (-16) mD) (1000))) (oX:=oX) (oY:=oY) (oE:=oE) (hn:=hn) (hY:=hY) (hm8:=hm8) (hS:=hS) (hsort:=hsort) (hmA:=hmA) (hmB:=hmB) (hmC:=hmC) (hmD:=hmD) (hmE:=hmE) (hmF:=hmF) (hx:=hx) (hy:=hy) (hsx:=hsx) (hsy:=hsy) (hq:=hq) (hq2:=hq2) (hoX:=hoX) (hoY:=hoY) (hof:=(hr _ hf)) (hmv:=hmv)) qp_qr⟩
noncomputable def pzAmX (n:Nat) (Y:Nat→Nat→Int) (ex:Bool) (sty:Bool) (sd:Int) (wd:Int) (mA:Int) (mB:Int) (mC:Int) (mD:Int) (mE:Int) (mF:Int) (x:Int) (y:Int):St:=pzpmX n Y ex sty sd wd mA mB mC mD mE mF x y
theorem pzA_ok {n:Nat} {Y:Nat→Nat→Int} {ex:Bool} {sty:Bool} {sd:Int} {wd:Int} {mA:Int} {mB:Int} {mC:Int} {mD:Int} {mE:Int} {mF:Int} (hn:n≤1000) (hY:∀ j k,-32000≤Y j k∧Y j k≤32000) (hmA : -2000000≤mA∧mA≤2000000) (hmB : -2000000≤mB∧mB≤2000000) (hmC : -2000000≤mC∧mC≤2000000) (hmD : -2000000≤mD∧mD≤2000000) (hmE : -40000≤mE∧mE≤40000) (hmF : -40000≤mF∧mF≤40000):∃ oX oY:Int→Int→Int,∀ (x y:Int),(-128≤x∧x≤127)→(-128≤y∧y≤127)→EndsX En 1 (pzAmX n Y ex sty sd wd mA mB mC mD mE mF x y) (QR n Y oX oY x y (.o .h) (.i .h)):=by
  obtain ⟨v,H,hq,hr⟩:=EndsX.split (ofzm_ok (n:=n) (Y:=Y) (ex:=ex) (sty:=sty) (sd:=sd) (wd:=wd) (mA:=mA) (mB:=mB) (mC:=mC) (mD:=mD) (mE:=mE) (mF:=mF) (hY:=hY) (hmA:=hmA) (hmB:=hmB) (hmC:=hmC) (hmD:=hmD) (hmE:=hmE) (hmF:=hmF))
  rcases hq with h|h
  · have hf:=h
    obtain ⟨oX,oY,oE,hoX,hoY,hmv⟩:=mv_choose (fun px py h1 h2=>plm_ok (mE:=mE) (mF:=mF) hmA hmB hmC hmD h1 h2)
    exact ⟨oX,oY,fun x y hx hy=>EndsN.redress (pzpm_ok (oX:=oX) (oY:=oY) (oE:=oE) (hn:=hn) (hY:=hY) (hmA:=hmA) (hmB:=hmB) (hmC:=hmC) (hmD:=hmD) (hmE:=hmE) (hmF:=hmF) (hx:=hx) (hy:=hy) (hoX:=hoX) (hoY:=hoY) (hof:=(hr _ hf)) (hmv:=hmv)) qp_qr⟩
  · obtain ⟨hf,hsx,hsy⟩:=h
    obtain ⟨oX,oY,oE,hoX,hoY,hmv⟩:=mv_choose (fun px py h1 h2=>hoom_ok (mA:=mA) (mB:=mB) (mC:=mC) (mD:=mD) (mE:=mE) (mF:=mF) hsx hsy h1 h2)
    exact ⟨oX,oY,fun x y hx hy=>EndsN.redress (pzam_ok (sx:=(Int.tdiv (Int.mul (16) mA) (1000))) (sy:=(Int.tdiv (Int.mul (-16) mD) (1000))) (oX:=oX) (oY:=oY) (oE:=oE) (hn:=hn) (hY:=hY) (hmA:=hmA) (hmB:=hmB) (hmC:=hmC) (hmD:=hmD) (hmE:=hmE) (hmF:=hmF) (hx:=hx) (hy:=hy) (hsx:=hsx) (hsy:=hsy) (hoX:=hoX) (hoY:=hoY) (hof:=(hr _ hf)) (hmv:=hmv)) qp_qr⟩
noncomputable def pnsAmX (sd:Int) (wd:Int) (m:Nat) (V:Nat→Bool) (S:Nat→Nat→Int) (sex:Bool) (ssty:Bool) (mA:Int) (mB:Int) (mC:Int) (mD:Int) (mE:Int) (mF:Int) (x:Int) (y:Int):St:=pnsemX sd wd m V S sex ssty mA mB mC mD mE mF x y
theorem pnsA_ok {sd:Int} {wd:Int} {m:Nat} {V:Nat→Bool} {S:Nat→Nat→Int} {sex:Bool} {ssty:Bool} {mA:Int} {mB:Int} {mC:Int} {mD:Int} {mE:Int} {mF:Int} (hm8:m≤8) (hS:∀ j k,-32000≤S j k∧S j k≤32000) (hsort:Sorted m V S) (hm1:0 < m) (hV0:V 0=false) (hmA : -2000000≤mA∧mA≤2000000) (hmB : -2000000≤mB∧mB≤2000000) (hmC : -2000000≤mC∧mC≤2000000) (hmD : -2000000≤mD∧mD≤2000000) (hmE : -40000≤mE∧mE≤40000) (hmF : -40000≤mF∧mF≤40000):∃ oX oY:Int→Int→Int,∀ (x y:Int),(-128≤x∧x≤127)→(-128≤y∧y≤127)→EndsX En 1 (pnsAmX sd wd m V S sex ssty mA mB mC mD mE mF x y) (QR 0 (fun _ _=>0) oX oY x y (.o .h) (.i .h)):=by
  obtain ⟨v,H,hq,hr⟩:=EndsX.split (ofnsm_ok (sd:=sd) (wd:=wd) (m:=m) (V:=V) (S:=S) (sex:=sex) (ssty:=ssty) (mA:=mA) (mB:=mB) (mC:=mC) (mD:=mD) (mE:=mE) (mF:=mF) (hm8:=hm8) (hS:=hS) (hsort:=hsort) (hm1:=hm1) (hV0:=hV0) (hmA:=hmA) (hmB:=hmB) (hmC:=hmC) (hmD:=hmD) (hmE:=hmE) (hmF:=hmF))
  rcases hq with h|h|h|h
  · have hf:=h
    exact ⟨fun _ _=>0,fun _ _=>0,fun x y hx hy=>EndsN.redress (pnsem_ok (hm8:=hm8) (hS:=hS) (hsort:=hsort) (hmA:=hmA) (hmB:=hmB) (hmC:=hmC) (hmD:=hmD) (hmE:=hmE) (hmF:=hmF) (hx:=hx) (hy:=hy) (hof:=(hr _ hf))) qp_qr⟩
  · have hf:=h
    obtain ⟨oX,oY,oE,hoX,hoY,hmv⟩:=mv_choose (fun px py h1 h2=>plm_ok (mE:=mE) (mF:=mF) hmA hmB hmC hmD h1 h2)
    exact ⟨oX,oY,fun x y hx hy=>EndsN.redress (pnspm_ok (oX:=oX) (oY:=oY) (oE:=oE) (hm8:=hm8) (hS:=hS) (hsort:=hsort) (hmA:=hmA) (hmB:=hmB) (hmC:=hmC) (hmD:=hmD) (hmE:=hmE) (hmF:=hmF) (hx:=hx) (hy:=hy) (hoX:=hoX) (hoY:=hoY) (hof:=(hr _ hf))) qp_qr⟩
  · obtain ⟨q2,K2,hf,hsx,hsy,hq2,hK2⟩:=h
    obtain ⟨oX,oY,oE,hoX,hoY,hmv⟩:=mv_choose (fun px py h1 h2=>hoim_ok (mA:=mA) (mB:=mB) (mC:=mC) (mD:=mD) (mE:=mE) (mF:=mF) (xb:=false) (yb:=false) hsx hsy hq2 hK2 h1 h2)
    exact ⟨oX,oY,fun x y hx hy=>EndsN.redress (pnsbm_ok (sx:=(Int.tdiv (Int.mul (16) mA) (1000))) (sy:=(Int.tdiv (Int.mul (-16) mD) (1000))) (oX:=oX) (oY:=oY) (oE:=oE) (hm8:=hm8) (hS:=hS) (hsort:=hsort) (hmA:=hmA) (hmB:=hmB) (hmC:=hmC) (hmD:=hmD) (hmE:=hmE) (hmF:=hmF) (hx:=hx) (hy:=hy) (hsx:=hsx) (hsy:=hsy) (hq2:=hq2) (hoX:=hoX) (hoY:=hoY) (hof:=(hr _ hf))) qp_qr⟩
  · obtain ⟨q,K,q2,K2,hf,hsx,hsy,hq,hK,hq2,hK2⟩:=h
    obtain ⟨oX,oY,oE,hoX,hoY,hmv⟩:=mv_choose (fun px py h1 h2=>hiim_ok (mA:=mA) (mB:=mB) (mC:=mC) (mD:=mD) (mE:=mE) (mF:=mF) (xa:=false) (ya:=false) (xb:=false) (yb:=false) hsx hsy hq hK hq2 hK2 h1 h2)
    exact ⟨oX,oY,fun x y hx hy=>EndsN.redress (pnsdm_ok (sx:=(Int.tdiv (Int.mul (16) mA) (1000))) (sy:=(Int.tdiv (Int.mul (-16) mD) (1000))) (oX:=oX) (oY:=oY) (oE:=oE) (hm8:=hm8) (hS:=hS) (hsort:=hsort) (hmA:=hmA) (hmB:=hmB) (hmC:=hmC) (hmD:=hmD) (hmE:=hmE) (hmF:=hmF) (hx:=hx) (hy:=hy) (hsx:=hsx) (hsy:=hsy) (hq:=hq) (hq2:=hq2) (hoX:=hoX) (hoY:=hoY) (hof:=(hr _ hf))) qp_qr⟩
noncomputable def pnzAmX (sd:Int) (wd:Int) (mA:Int) (mB:Int) (mC:Int) (mD:Int) (mE:Int) (mF:Int) (x:Int) (y:Int):St:=pnzpmX sd wd mA mB mC mD mE mF x y
theorem pnzA_ok {sd:Int} {wd:Int} {mA:Int} {mB:Int} {mC:Int} {mD:Int} {mE:Int} {mF:Int} (hmA : -2000000≤mA∧mA≤2000000) (hmB : -2000000≤mB∧mB≤2000000) (hmC : -2000000≤mC∧mC≤2000000) (hmD : -2000000≤mD∧mD≤2000000) (hmE : -40000≤mE∧mE≤40000) (hmF : -40000≤mF∧mF≤40000):∃ oX oY:Int→Int→Int,∀ (x y:Int),(-128≤x∧x≤127)→(-128≤y∧y≤127)→EndsX En 0 (pnzAmX sd wd mA mB mC mD mE mF x y) (QR 0 (fun _ _=>0) oX oY x y (.h) (.o .h)):=by
  obtain ⟨v,H,hq,hr⟩:=EndsX.split (ofnzm_ok (sd:=sd) (wd:=wd) (mA:=mA) (mB:=mB) (mC:=mC) (mD:=mD) (mE:=mE) (mF:=mF) (hmA:=hmA) (hmB:=hmB) (hmC:=hmC) (hmD:=hmD) (hmE:=hmE) (hmF:=hmF))
  rcases hq with h|h
  · have hf:=h
    obtain ⟨oX,oY,oE,hoX,hoY,hmv⟩:=mv_choose (fun px py h1 h2=>plm_ok (mE:=mE) (mF:=mF) hmA hmB hmC hmD h1 h2)
    exact ⟨oX,oY,fun x y hx hy=>EndsN.redress (pnzpm_ok (oX:=oX) (oY:=oY) (oE:=oE) (hmA:=hmA) (hmB:=hmB) (hmC:=hmC) (hmD:=hmD) (hmE:=hmE) (hmF:=hmF) (hx:=hx) (hy:=hy) (hoX:=hoX) (hoY:=hoY) (hof:=(hr _ hf))) qp_qr⟩
  · obtain ⟨hf,hsx,hsy⟩:=h
    obtain ⟨oX,oY,oE,hoX,hoY,hmv⟩:=mv_choose (fun px py h1 h2=>hoom_ok (mA:=mA) (mB:=mB) (mC:=mC) (mD:=mD) (mE:=mE) (mF:=mF) hsx hsy h1 h2)
    exact ⟨oX,oY,fun x y hx hy=>EndsN.redress (pnzam_ok (sx:=(Int.tdiv (Int.mul (16) mA) (1000))) (sy:=(Int.tdiv (Int.mul (-16) mD) (1000))) (oX:=oX) (oY:=oY) (oE:=oE) (hmA:=hmA) (hmB:=hmB) (hmC:=hmC) (hmD:=hmD) (hmE:=hmE) (hmF:=hmF) (hx:=hx) (hy:=hy) (hsx:=hsx) (hsy:=hsy) (hoX:=hoX) (hoY:=hoY) (hof:=(hr _ hf))) qp_qr⟩
theorem EndsN.redressV {E:Env} {n:Nat} {f:AF} {cs:List AF} {S:Hp} {Q Q':AV→Hp→Prop} (h:EndsN E n f cs S Q)
    (hq:∀ v H,Q v H→∃ v' H',Q' v' H'∧(∀ γ u,VR γ v u→VR γ v' u)∧H'.nx=H.nx∧H'.fl=H.fl∧∀ a x,AM.T.get a H'.hp=some x→∃ y,AM.T.get a H.hp=some y∧∀ γ L ob,OR γ L y ob→OR γ L x ob):EndsN E n f cs S Q':=by
  obtain ⟨v,S',q,h⟩:=h
  obtain ⟨v2,S2,q2,hv,n2,f2,d2⟩:=hq v S' q
  obtain ⟨v3,S3,⟨e1,e2⟩,h3⟩:=EndsN.redress (Q:=fun a b=>a=v∧b=S') (Q':=fun a b=>a=v∧b=S2) ⟨v,S',⟨rfl,rfl⟩,h⟩ (fun a b q=>⟨S2,⟨q.1,rfl⟩,by rw [q.2];exact n2,by rw [q.2];exact f2,by rw [q.2];exact d2⟩)
  subst e1 e2
  refine ⟨v2,S3,q2,fun γ fr frs w a b c=>?_⟩
  obtain ⟨h1,h2⟩:=h3 γ fr frs w a b c
  refine ⟨fun hl bot=>?_,fun c bot=>?_⟩
  · obtain ⟨γ',v',fr',w',fn,k1,k2,k3,k4,k5,k6,k7,k8,k9,k10⟩:=h1 hl bot
    exact ⟨γ',v',fr',w',fn,k1,k2,k3,k4,k5,k6,k7,hv _ _ k8,k9,k10⟩
  · obtain ⟨γ',v',w',k1,k2,k3,k4⟩:=h2 c bot
    exact ⟨γ',v',w',k1,hv _ _ k2,k3,k4⟩
def QR0 (k k1:Ps):AV→Hp→Prop:=fun v H=>(∃ e:Int,v=.tup [.nils,.int .i64 e]∧H.nx=k∧ieq e 0=false)∨(v=.tup [.su k 0 0 7,.int .i64 0]∧H.nx=k1∧H.hp.get k=some (.cells [] 63 true false 0 0))
theorem qr_qr0 {Y:Nat→Nat→Int} {oX oY:Int→Int→Int} {x y:Int} {k k1:Ps} (v:AV) (H:Hp) (q:QR 0 Y oX oY x y k k1 v H) :
    ∃ v' H',QR0 k k1 v' H'∧(∀ γ u,VR γ v u→VR γ v' u)∧H'.nx=H.nx∧H'.fl=H.fl∧∀ a x,AM.T.get a H'.hp=some x→∃ y,AM.T.get a H.hp=some y∧∀ γ L ob,OR γ L y ob→OR γ L x ob:=by
  rcases q with h|⟨P,h1,h2,h3,_⟩
  · exact ⟨v,H,.inl h,fun _ _ k=>k,rfl,rfl,fun a x h=>⟨x,h,fun _ _ _ k=>k⟩⟩
  · refine ⟨.tup [.su k 0 0 7,.int .i64 0],⟨AM.T.set k (.cells [] 63 true false 0 0) .e,H.nx,H.fl⟩,.inr ⟨rfl,h2,AM.T.get_set_same _ _ _⟩,fun γ u hu=>?_,rfl,rfl,fun a o ho=>?_⟩
    · rw [h1] at hu
      cases hu with
      | tup hl =>
        cases hl with
        | cons ha hb=>exact .tup (.cons (by have:=ha.sa_su;rw [Nat.zero_mul] at this;exact this) hb)
    · have ho:AM.T.get a (AM.T.set k (AO.cells [] 63 true false 0 0) AM.T.e)=some o:=ho
      by_cases e:k=a
      · subst e
        rw [AM.T.get_set_same] at ho
        cases ho
        exact ⟨_,h3,fun γ L ob hh=>hh.cells_of⟩
      · rw [AM.T.get_set_ne e,AM.T.get_e] at ho
        cases ho
noncomputable def cEqL (a b:List AV):Bool:=@decide (a=b) (Classical.propDecidable _)
noncomputable def cEqO (a b:Option AO):Bool:=@decide (a=b) (Classical.propDecidable _)
theorem cEqL_rfl (a:List AV):cEqL a a=true:=cdec.2 rfl
theorem cEqO_rfl (a:Option AO):cEqO a a=true:=cdec.2 rfl
noncomputable def allocs (os:List AO):Hp→Hp:=List.rec (motive:=fun _=>Hp→Hp) (fun H=>H) (fun o _ ih H=>ih (H.alloc o)) os
noncomputable def tbL (ar mar:List AV) (o0 o1:Option AO) (gf:Ps→AV × List AO) (mr:AV):Tab:=fun f args H=>Bool.rec (Bool.rec (tb f args H) (some (cEqL args mar,mr,H)) (Nat.beq f 7))
    (some (band (cEqL args ar) (band (cEqO (AM.T.get .h H.hp) o0) (band (cEqO (AM.T.get (.o .h) H.hp) o1) (keysB En.ng 2 H.nx.idx 2 2 H.fl [.h,.o .h]))),(gf H.nx).1,allocs (gf H.nx).2 H)) (Nat.beq f 6)
noncomputable def stO (n:Nat) (G:Nat→Nat→Int):AO:=.arr n 7 (rowK [.i64,.i64,.i64,.i64,.i64,.i64,.i64] G) none 63 false false
noncomputable def smO (m:Nat) (V:Nat→Bool) (S:Nat→Nat→Int):AO:=.arr m 3 (rowV [.i64,.i64] V S) none 72 false false
section
variable (ar mar:List AV) (o0 o1:Option AO) (mr:AV)
include ar mar o0 o1 mr
noncomputable def tbLnn:Tab:=tbL ar mar o0 o1 (fun _=>(.agg [.int .i64 0,.int .i64 500,.nils,.nils],[])) mr
noncomputable def tbLan (n:Nat) (G:Nat→Nat→Int):Tab:=tbL ar mar o0 o1 (fun a=>(.agg [.int .i64 0,.int .i64 500,.sa a 0 n 7,.nils],[stO n G])) mr
noncomputable def tbLna (m:Nat) (V:Nat→Bool) (S:Nat→Nat→Int):Tab:=tbL ar mar o0 o1 (fun a=>(.agg [.int .i64 0,.int .i64 500,.nils,.sa a 0 m 3],[smO m V S])) mr
noncomputable def tbLaa (n:Nat) (G:Nat→Nat→Int) (m:Nat) (V:Nat→Bool) (S:Nat→Nat→Int):Tab:=tbL ar mar o0 o1 (fun a=>(.agg [.int .i64 0,.int .i64 500,.sa a 0 n 7,.sa (Ps.succ a) 0 m 3],[stO n G,smO m V S])) mr
end
theorem allocs_nx:∀ (os:List AO) (H:Hp),(allocs os H).nx.idx=H.nx.idx+os.length∧(allocs os H).fl=H.fl
  | [],H=>⟨rfl,rfl⟩
  | o::os,H=>by
    obtain ⟨h1,h2⟩:=allocs_nx os (H.alloc o)
    refine ⟨?_,h2⟩
    show (allocs os (H.alloc o)).nx.idx=_
    rw [h1]
    show (Ps.succ H.nx).idx+os.length=H.nx.idx+(os.length+1)
    rw [Ps.idx_succ];omega
theorem allocs_get:∀ {os:List AO} {H:Hp} {a:Ps} {o:AO},(allocs os H).hp.get a=some o→(∃ i,os[i]? = some o∧a.idx=H.nx.idx+i)∨H.hp.get a=some o
  | [],_,_,_,h=>.inr h
  | x :: os,H,a,o,h=>by
    rcases allocs_get (os:=os) (H:=H.alloc x) h with ⟨i,h1,h2⟩|h1
    · refine .inl ⟨i+1,h1,?_⟩
      rw [h2]
      show (Ps.succ H.nx).idx+i=_
      rw [Ps.idx_succ];omega
    · rcases alloc_get h1 with ⟨h2,h3⟩|⟨_,h2⟩
      · exact .inl ⟨0,by rw [h3];rfl,by rw [h2];rfl⟩
      · exact .inr h2
theorem allocs_old:∀ {os:List AO} {H:Hp} {a:Ps} {o:AO},a.idx < H.nx.idx→H.hp.get a=some o→(allocs os H).hp.get a=some o
  | [],_,_,_,_,h=>h
  | x :: os,H,a,o,ha,h=>by
    refine allocs_old (os:=os) (H:=H.alloc x) ?_ ?_
    · show a.idx < (Ps.succ H.nx).idx
      rw [Ps.idx_succ];omega
    · rw [get_alloc_ne (fun e=>by rw [e] at ha;omega)];exact h
def Ent6 (ar:List AV) (o0 o1:Option AO) (gf:Ps→AV × List AO):Prop:=∀ (H:Hp) (γ:Gm) (w:World) (s:Sem Next),AM.T.get .h H.hp=o0→AM.T.get (.o .h) H.hp=o1→keysB En.ng 2 H.nx.idx 2 2 H.fl [.h,.o .h]=true→HR γ En.ng H w→OpR En γ H w s (.call 6 ar) →
  ∃ fr',Enters En.P s w fr'∧∀ c bot,∃ γ' v' w',Steps En.P (lone fr' (c::bot) w) (lone (c.finish v') bot w')∧VR γ' (gf H.nx).1 v'∧HR γ' En.ng (allocs (gf H.nx).2 H) w'∧Pres H γ w (allocs (gf H.nx).2 H) γ' w'
def Ent7 (mar:List AV) (mr:AV):Prop:=∀ (H:Hp) (γ:Gm) (w:World) (s:Sem Next),HR γ En.ng H w→OpR En γ H w s (.call 7 mar) →
  ∃ fr',Enters En.P s w fr'∧∀ c bot,∃ γ' v' w',Steps En.P (lone fr' (c::bot) w) (lone (c.finish v') bot w')∧VR γ' mr v'∧HR γ' En.ng H w'∧Pres H γ w H γ' w'
theorem tbL_ok {ar mar:List AV} {o0 o1:Option AO} {gf:Ps→AV × List AO} {mr:AV} (h6:Ent6 ar o0 o1 gf) (h7:Ent7 mar mr):TabOk (tbL ar mar o0 o1 gf mr) En:=fun f args v H S' h γ w s hH ho=>by
  unfold tbL at h
  cases hf:Nat.beq f 6 with
  | true =>
    rw [hf] at h
    have ef:=Nat.eq_of_beq_eq_true hf
    subst ef
    injection h with h
    injection h with h1 h2
    injection h2 with h2 h3
    subst h2 h3
    obtain ⟨g1,h1⟩:=band_eq.1 h1
    obtain ⟨g2,h1⟩:=band_eq.1 h1
    obtain ⟨g3,g4⟩:=band_eq.1 h1
    have e1:=cdec.1 g1
    subst e1
    exact h6 H γ w s (cdec.1 g2) (cdec.1 g3) g4 hH ho
  | false =>
    rw [hf] at h
    dsimp only at h
    cases hf2:Nat.beq f 7 with
    | true =>
      rw [hf2] at h
      have ef:=Nat.eq_of_beq_eq_true hf2
      subst ef
      injection h with h
      injection h with h1 h2
      injection h2 with h2 h3
      subst h2 h3
      have e1:=cdec.1 h1
      subst e1
      exact h7 H γ w s hH ho
    | false=>rw [hf2] at h;exact tbOk f args v H S' h γ w s hH ho
theorem ent7_of {n0 n1 n2 n3:Int} {up:Bool} {mr:AV} (hk:kbA En.ng mr=true) (h:EndsX En 0 (momX n0 n1 n2 n3 up) (fun v H=>v=mr)) :
    Ent7 [.agg [.int .i16 n0,.int .i16 n1,.int .i16 n2,.int .i16 n3],.bool up] mr:=fun H γ w s hH ho=>by
  have hm:EndsN En 0 (momX n0 n1 n2 n3 up).f [] (momX n0 n1 n2 n3 up).S _:=h
  rw [show (0:Nat)=En.ng from ng0.symm,show (momX n0 n1 n2 n3 up).S=H0 En from by kernel_rfl] at hm
  exact tab_of okE (moen n0 n1 n2 n3 up) (PureF.of_endsN (plain_of_enter (moen n0 n1 n2 n3 up) (by intro x hx;cases hx with|head=>rfl|tail _ hx=>cases hx with|head=>rfl|tail _ hx=>cases hx)) hk hm) H γ w s hH ho
theorem psofidx (a:Ps):Ps.of a.idx=a:=Ps.idx_inj (Ps.idx_of _)
theorem psofs (a:Ps):Ps.of (a.idx+1)=Ps.succ a:=Ps.idx_inj (by rw [Ps.idx_of,Ps.idx_succ])
theorem ent6_of {ar:List AV} {o0 o1:Option AO} {gf:Ps→AV × List AO} {x:St} {v0:AV} {news:List AO} {os:List (Ps × AO)} (hxn:x.nx=.i .h) (hxf:x.fl=2) (hxo:x.os=os) (hxl:∀ p ∈ os,p.1.idx < 2) (hxc:x.cs = []) (hen:enterA En 6 ar false=some x.f)
    (ef:∀ m,x.f=renF (rho En.ng 2 m [.h,.o .h]) x.f) (ho:∀ H:Hp,AM.T.get .h H.hp=o0→AM.T.get (.o .h) H.hp=o1→AllP (fun p=>AM.T.get (rho En.ng 2 H.nx.idx [.h,.o .h] p.1) H.hp=some (renO (rho En.ng 2 H.nx.idx [.h,.o .h]) p.2)) os)
    (hv:∀ a:Ps,renV (rho En.ng 2 a.idx [.h,.o .h]) v0=(gf a).1) (hn:∀ a,(gf a).2=news) (hr:∀ o ∈ news,∀ ρ,renO ρ o=o)
    (h:EndsX En 2 x (fun v H=>v=v0∧H.nx.idx=2+news.length∧∀ i o,news[i]? = some o→H.hp.get (Ps.of (2+i))=some o)):Ent6 ar o0 o1 gf:=fun H γ w s g0 g1 hk hH hop=>by
  obtain ⟨_,fr',he,hf⟩:=startA_ok okE (H:=H) (ro:=.call 6 ar) hen hH hop
  obtain ⟨xf,xcs,xos,xnx,xfl⟩:=x
  dsimp only at *
  subst hxn hxf hxo hxc
  have h':EndsN En ((⟨xf,[],xos,.i .h,2⟩:St).S).nx.idx xf [] ((⟨xf,[],xos,.i .h,2⟩:St).S) _:=h
  obtain ⟨v1,H',⟨e1,e2,e3⟩,k2⟩:=EndsN.alone (S:=H) (emb_of (os:=xos) hk rfl (ho H g0 g1)) (ef H.nx.idx) h'
  refine ⟨fr',he,fun c bot=>?_⟩
  have hS2:Mg En (rho En.ng 2 H.nx.idx [.h,.o .h]) H ((⟨xf,[],xos,.i .h,2⟩:St).S) H' (allocs (gf H.nx).2 H):=by
    rw [hn]
    obtain ⟨a1,a2⟩:=allocs_nx news H
    refine ⟨fun a o ha=>?_,?_,a2⟩
    · rcases allocs_get ha with ⟨i,b1,b2⟩|b1
      · refine .inl ⟨Ps.of (2+i),o,?_,?_,e3 i o b1,(hr o (List.mem_of_getElem? b1) _).symm⟩
        · show 2≤(Ps.of (2+i)).idx
          rw [Ps.idx_of];omega
        · rw [rho_new (by rw [ng0];omega) (by rw [Ps.idx_of];omega)]
          refine Ps.idx_inj ?_
          rw [Ps.idx_of,Ps.idx_of,b2];omega
      · refine .inr ⟨b1,fun k o' c1 c2=>?_⟩
        have hlow:=hxl
        have:=hlow (k,o') (tOf_mem c1)
        exact absurd c2 (by show ¬ 2≤k.idx;dsimp only at this;omega)
    · show (allocs news H).nx.idx=H.nx.idx+(H'.nx.idx - 2)
      rw [a1,e2];omega
  obtain ⟨γ1,v',w1,q1,q2,q3,q4⟩:=k2 _ hS2 γ fr' w hf hH c bot
  have q2:VR γ1 (renV (rho En.ng 2 H.nx.idx [.h,.o .h]) v1) v':=q2
  rw [e1,hv] at q2
  have hfl:H.fl≤H.nx.idx:=(keysB_ok hk).2.2.1
  refine ⟨γ1,v',w1,q1,q2,q3,q4.pres (fun a o h1 h2=>allocs_old (by omega) h1) (fun a o h1 h2 h3=>?_)⟩
  rcases allocs_get h1 with ⟨i,b1,b2⟩|b1
  · omega
  · exact b1
section
variable {nd:Nat} {D:Nat→Nat→Int} {dx dy:Bool} {de:Nat} {md:Nat} {T:Nat→Nat→Int} {tx ty:Bool} {te:Nat}
theorem tlaann {mar:List AV} {mr:AV} (h7:Ent7 mar mr) (h:EndsX En 2 (glaaX nd D dx dy de md T tx ty te) (fun v H=>v=.agg [.int .i64 0,.int .i64 500,.nils,.nils]∧H.nx=.i .h)) :
    TabOk (tbLnn [.agg [.sa .h 0 nd 7,.sa (.o .h) 0 md 2]] mar (some (.arr nd 7 (rowK [.u8,.i16,.i16,.i16,.i16,.i16,.i16] D) none de dx dy)) (some (.arr md 2 (rowK [.u8,.u8] T) none te tx ty)) mr ) En:=by
  obtain ⟨v,H,⟨e1,e2⟩,hr⟩:=EndsX.split h
  refine tbL_ok (ent6_of (x:=glaaX nd D dx dy de md T tx ty te) (v0:=.agg [.int .i64 0,.int .i64 500,.nils,.nils]) (news:=[]) (os:=[(.h,(.arr nd 7 (rowK [.u8,.i16,.i16,.i16,.i16,.i16,.i16] D) none de dx dy)),(.o .h,(.arr md 2 (rowK [.u8,.u8] T) none te tx ty))]) rfl rfl rfl (fun p hp=>?_) rfl (by kernel_rfl) (fun m=>by kernel_rfl) (fun H h0 h1=>⟨(Eq.trans (show AM.T.get (rho En.ng 2 H.nx.idx [.h,.o .h] .h) H.hp=AM.T.get .h H.hp from by kernel_rfl) (h0.trans (by kernel_rfl))),(Eq.trans (show AM.T.get (rho En.ng 2 H.nx.idx [.h,.o .h] (.o .h)) H.hp=AM.T.get (.o .h) H.hp from by kernel_rfl) (h1.trans (by kernel_rfl))),trivial⟩) (fun a=>?_) (fun _=>rfl) (fun o ho ρ=>?_) (hr _ ⟨e1,by rw [e2];rfl,fun i o hi=>by
      simp at hi⟩)) h7
  · simp only [List.mem_cons,List.not_mem_nil,or_false] at hp
    rcases hp with rfl|rfl <;> first|exact (show (Ps.h).idx < 2 by decide)|exact (show (Ps.o .h).idx < 2 by decide)
  · rfl
  · cases ho
theorem tlaaan {n:Nat} {G:Nat→Nat→Int} {mar:List AV} {mr:AV} (h7:Ent7 mar mr) (h:EndsX En 2 (glaaX nd D dx dy de md T tx ty te) (fun v H=>v=.agg [.int .i64 0,.int .i64 500,.sa (.i .h) 0 n 7,.nils]∧H.nx=.o (.o .h)∧H.hp.get (.i .h)=some (stO n G))) :
    TabOk (tbLan [.agg [.sa .h 0 nd 7,.sa (.o .h) 0 md 2]] mar (some (.arr nd 7 (rowK [.u8,.i16,.i16,.i16,.i16,.i16,.i16] D) none de dx dy)) (some (.arr md 2 (rowK [.u8,.u8] T) none te tx ty)) mr n G) En:=by
  obtain ⟨v,H,⟨e1,e2,g1⟩,hr⟩:=EndsX.split h
  refine tbL_ok (ent6_of (x:=glaaX nd D dx dy de md T tx ty te) (v0:=.agg [.int .i64 0,.int .i64 500,.sa (.i .h) 0 n 7,.nils]) (news:=[stO n G]) (os:=[(.h,(.arr nd 7 (rowK [.u8,.i16,.i16,.i16,.i16,.i16,.i16] D) none de dx dy)),(.o .h,(.arr md 2 (rowK [.u8,.u8] T) none te tx ty))]) rfl rfl rfl (fun p hp=>?_) rfl (by kernel_rfl) (fun m=>by kernel_rfl) (fun H h0 h1=>⟨(Eq.trans (show AM.T.get (rho En.ng 2 H.nx.idx [.h,.o .h] .h) H.hp=AM.T.get .h H.hp from by kernel_rfl) (h0.trans (by kernel_rfl))),(Eq.trans (show AM.T.get (rho En.ng 2 H.nx.idx [.h,.o .h] (.o .h)) H.hp=AM.T.get (.o .h) H.hp from by kernel_rfl) (h1.trans (by kernel_rfl))),trivial⟩) (fun a=>?_) (fun _=>rfl) (fun o ho ρ=>?_) (hr _ ⟨e1,by rw [e2];rfl,fun i o hi=>by
      match i,hi with
      | 0,hi=>cases hi;exact g1
      | i+1,hi=>simp at hi⟩)) h7
  · simp only [List.mem_cons,List.not_mem_nil,or_false] at hp
    rcases hp with rfl|rfl <;> first|exact (show (Ps.h).idx < 2 by decide)|exact (show (Ps.o .h).idx < 2 by decide)
  · show AV.agg [.int .i64 0,.int .i64 500,.sa (Ps.of (a.idx+0)) 0 n 7,.nils]=_
    rw [Nat.add_zero,psofidx]
  · simp only [List.mem_cons,List.not_mem_nil,or_false] at ho
    subst ho;rfl
theorem tlaana {m:Nat} {V:Nat→Bool} {S:Nat→Nat→Int} {mar:List AV} {mr:AV} (h7:Ent7 mar mr) (h:EndsX En 2 (glaaX nd D dx dy de md T tx ty te) (fun v H=>v=.agg [.int .i64 0,.int .i64 500,.nils,.sa (.i .h) 0 m 3]∧H.nx=.o (.o .h)∧H.hp.get (.i .h)=some (smO m V S))) :
    TabOk (tbLna [.agg [.sa .h 0 nd 7,.sa (.o .h) 0 md 2]] mar (some (.arr nd 7 (rowK [.u8,.i16,.i16,.i16,.i16,.i16,.i16] D) none de dx dy)) (some (.arr md 2 (rowK [.u8,.u8] T) none te tx ty)) mr m V S) En:=by
  obtain ⟨v,H,⟨e1,e2,g1⟩,hr⟩:=EndsX.split h
  refine tbL_ok (ent6_of (x:=glaaX nd D dx dy de md T tx ty te) (v0:=.agg [.int .i64 0,.int .i64 500,.nils,.sa (.i .h) 0 m 3]) (news:=[smO m V S]) (os:=[(.h,(.arr nd 7 (rowK [.u8,.i16,.i16,.i16,.i16,.i16,.i16] D) none de dx dy)),(.o .h,(.arr md 2 (rowK [.u8,.u8] T) none te tx ty))]) rfl rfl rfl (fun p hp=>?_) rfl (by kernel_rfl) (fun m=>by kernel_rfl) (fun H h0 h1=>⟨(Eq.trans (show AM.T.get (rho En.ng 2 H.nx.idx [.h,.o .h] .h) H.hp=AM.T.get .h H.hp from by kernel_rfl) (h0.trans (by kernel_rfl))),(Eq.trans (show AM.T.get (rho En.ng 2 H.nx.idx [.h,.o .h] (.o .h)) H.hp=AM.T.get (.o .h) H.hp from by kernel_rfl) (h1.trans (by kernel_rfl))),trivial⟩) (fun a=>?_) (fun _=>rfl) (fun o ho ρ=>?_) (hr _ ⟨e1,by rw [e2];rfl,fun i o hi=>by
      match i,hi with
      | 0,hi=>cases hi;exact g1
      | i+1,hi=>simp at hi⟩)) h7
  · simp only [List.mem_cons,List.not_mem_nil,or_false] at hp
    rcases hp with rfl|rfl <;> first|exact (show (Ps.h).idx < 2 by decide)|exact (show (Ps.o .h).idx < 2 by decide)
  · show AV.agg [.int .i64 0,.int .i64 500,.nils,.sa (Ps.of (a.idx+0)) 0 m 3]=_
    rw [Nat.add_zero,psofidx]
  · simp only [List.mem_cons,List.not_mem_nil,or_false] at ho
    subst ho;rfl
theorem tlaaaa {n:Nat} {G:Nat→Nat→Int} {m:Nat} {V:Nat→Bool} {S:Nat→Nat→Int} {mar:List AV} {mr:AV} (h7:Ent7 mar mr) (h:EndsX En 2 (glaaX nd D dx dy de md T tx ty te) (fun v H=>v=.agg [.int .i64 0,.int .i64 500,.sa (.i .h) 0 n 7,.sa (.o (.o .h)) 0 m 3]∧H.nx=.i (.o .h)∧H.hp.get (.i .h)=some (stO n G)∧H.hp.get (.o (.o .h))=some (smO m V S))) :
    TabOk (tbLaa [.agg [.sa .h 0 nd 7,.sa (.o .h) 0 md 2]] mar (some (.arr nd 7 (rowK [.u8,.i16,.i16,.i16,.i16,.i16,.i16] D) none de dx dy)) (some (.arr md 2 (rowK [.u8,.u8] T) none te tx ty)) mr n G m V S) En:=by
  obtain ⟨v,H,⟨e1,e2,g1,g2⟩,hr⟩:=EndsX.split h
  refine tbL_ok (ent6_of (x:=glaaX nd D dx dy de md T tx ty te) (v0:=.agg [.int .i64 0,.int .i64 500,.sa (.i .h) 0 n 7,.sa (.o (.o .h)) 0 m 3]) (news:=[stO n G,smO m V S]) (os:=[(.h,(.arr nd 7 (rowK [.u8,.i16,.i16,.i16,.i16,.i16,.i16] D) none de dx dy)),(.o .h,(.arr md 2 (rowK [.u8,.u8] T) none te tx ty))]) rfl rfl rfl (fun p hp=>?_) rfl (by kernel_rfl) (fun m=>by kernel_rfl) (fun H h0 h1=>⟨(Eq.trans (show AM.T.get (rho En.ng 2 H.nx.idx [.h,.o .h] .h) H.hp=AM.T.get .h H.hp from by kernel_rfl) (h0.trans (by kernel_rfl))),(Eq.trans (show AM.T.get (rho En.ng 2 H.nx.idx [.h,.o .h] (.o .h)) H.hp=AM.T.get (.o .h) H.hp from by kernel_rfl) (h1.trans (by kernel_rfl))),trivial⟩) (fun a=>?_) (fun _=>rfl) (fun o ho ρ=>?_) (hr _ ⟨e1,by rw [e2];rfl,fun i o hi=>by
      match i,hi with
      | 0,hi=>cases hi;exact g1
      | 1,hi=>cases hi;exact g2
      | i+2,hi=>simp at hi⟩)) h7
  · simp only [List.mem_cons,List.not_mem_nil,or_false] at hp
    rcases hp with rfl|rfl <;> first|exact (show (Ps.h).idx < 2 by decide)|exact (show (Ps.o .h).idx < 2 by decide)
  · show AV.agg [.int .i64 0,.int .i64 500,.sa (Ps.of (a.idx+0)) 0 n 7,.sa (Ps.of (a.idx+1)) 0 m 3]=_
    rw [Nat.add_zero,psofidx,psofs]
  · simp only [List.mem_cons,List.not_mem_nil,or_false] at ho
    rcases ho with rfl|rfl <;> rfl
theorem tlannn {mar:List AV} {mr:AV} (h7:Ent7 mar mr) (h:EndsX En 2 (glanX nd D dx dy de) (fun v H=>v=.agg [.int .i64 0,.int .i64 500,.nils,.nils]∧H.nx=.i .h)) :
    TabOk (tbLnn [.agg [.sa .h 0 nd 7,.nils]] mar (some (.arr nd 7 (rowK [.u8,.i16,.i16,.i16,.i16,.i16,.i16] D) none de dx dy)) none mr ) En:=by
  obtain ⟨v,H,⟨e1,e2⟩,hr⟩:=EndsX.split h
  refine tbL_ok (ent6_of (x:=glanX nd D dx dy de) (v0:=.agg [.int .i64 0,.int .i64 500,.nils,.nils]) (news:=[]) (os:=[(.h,(.arr nd 7 (rowK [.u8,.i16,.i16,.i16,.i16,.i16,.i16] D) none de dx dy))]) rfl rfl rfl (fun p hp=>?_) rfl (by kernel_rfl) (fun m=>by kernel_rfl) (fun H h0 h1=>⟨(Eq.trans (show AM.T.get (rho En.ng 2 H.nx.idx [.h,.o .h] .h) H.hp=AM.T.get .h H.hp from by kernel_rfl) (h0.trans (by kernel_rfl))),trivial⟩) (fun a=>?_) (fun _=>rfl) (fun o ho ρ=>?_) (hr _ ⟨e1,by rw [e2];rfl,fun i o hi=>by
      simp at hi⟩)) h7
  · simp only [List.mem_cons,List.not_mem_nil,or_false] at hp
    subst hp;first|exact (show (Ps.h).idx < 2 by decide)|exact (show (Ps.o .h).idx < 2 by decide)
  · rfl
  · cases ho
theorem tlanan {n:Nat} {G:Nat→Nat→Int} {mar:List AV} {mr:AV} (h7:Ent7 mar mr) (h:EndsX En 2 (glanX nd D dx dy de) (fun v H=>v=.agg [.int .i64 0,.int .i64 500,.sa (.i .h) 0 n 7,.nils]∧H.nx=.o (.o .h)∧H.hp.get (.i .h)=some (stO n G))) :
    TabOk (tbLan [.agg [.sa .h 0 nd 7,.nils]] mar (some (.arr nd 7 (rowK [.u8,.i16,.i16,.i16,.i16,.i16,.i16] D) none de dx dy)) none mr n G) En:=by
  obtain ⟨v,H,⟨e1,e2,g1⟩,hr⟩:=EndsX.split h
  refine tbL_ok (ent6_of (x:=glanX nd D dx dy de) (v0:=.agg [.int .i64 0,.int .i64 500,.sa (.i .h) 0 n 7,.nils]) (news:=[stO n G]) (os:=[(.h,(.arr nd 7 (rowK [.u8,.i16,.i16,.i16,.i16,.i16,.i16] D) none de dx dy))]) rfl rfl rfl (fun p hp=>?_) rfl (by kernel_rfl) (fun m=>by kernel_rfl) (fun H h0 h1=>⟨(Eq.trans (show AM.T.get (rho En.ng 2 H.nx.idx [.h,.o .h] .h) H.hp=AM.T.get .h H.hp from by kernel_rfl) (h0.trans (by kernel_rfl))),trivial⟩) (fun a=>?_) (fun _=>rfl) (fun o ho ρ=>?_) (hr _ ⟨e1,by rw [e2];rfl,fun i o hi=>by
      match i,hi with
      | 0,hi=>cases hi;exact g1
      | i+1,hi=>simp at hi⟩)) h7
  · simp only [List.mem_cons,List.not_mem_nil,or_false] at hp
    subst hp;first|exact (show (Ps.h).idx < 2 by decide)|exact (show (Ps.o .h).idx < 2 by decide)
  · show AV.agg [.int .i64 0,.int .i64 500,.sa (Ps.of (a.idx+0)) 0 n 7,.nils]=_
    rw [Nat.add_zero,psofidx]
  · simp only [List.mem_cons,List.not_mem_nil,or_false] at ho
    subst ho;rfl
theorem tlnann {mar:List AV} {mr:AV} (h7:Ent7 mar mr) (h:EndsX En 2 (glnaX md T tx ty te) (fun v H=>v=.agg [.int .i64 0,.int .i64 500,.nils,.nils]∧H.nx=.i .h)) :
    TabOk (tbLnn [.agg [.nils,.sa (.o .h) 0 md 2]] mar none (some (.arr md 2 (rowK [.u8,.u8] T) none te tx ty)) mr ) En:=by
  obtain ⟨v,H,⟨e1,e2⟩,hr⟩:=EndsX.split h
  refine tbL_ok (ent6_of (x:=glnaX md T tx ty te) (v0:=.agg [.int .i64 0,.int .i64 500,.nils,.nils]) (news:=[]) (os:=[(.o .h,(.arr md 2 (rowK [.u8,.u8] T) none te tx ty))]) rfl rfl rfl (fun p hp=>?_) rfl (by kernel_rfl) (fun m=>by kernel_rfl) (fun H h0 h1=>⟨(Eq.trans (show AM.T.get (rho En.ng 2 H.nx.idx [.h,.o .h] (.o .h)) H.hp=AM.T.get (.o .h) H.hp from by kernel_rfl) (h1.trans (by kernel_rfl))),trivial⟩) (fun a=>?_) (fun _=>rfl) (fun o ho ρ=>?_) (hr _ ⟨e1,by rw [e2];rfl,fun i o hi=>by
      simp at hi⟩)) h7
  · simp only [List.mem_cons,List.not_mem_nil,or_false] at hp
    subst hp;first|exact (show (Ps.h).idx < 2 by decide)|exact (show (Ps.o .h).idx < 2 by decide)
  · rfl
  · cases ho
theorem tlnana {m:Nat} {V:Nat→Bool} {S:Nat→Nat→Int} {mar:List AV} {mr:AV} (h7:Ent7 mar mr) (h:EndsX En 2 (glnaX md T tx ty te) (fun v H=>v=.agg [.int .i64 0,.int .i64 500,.nils,.sa (.i .h) 0 m 3]∧H.nx=.o (.o .h)∧H.hp.get (.i .h)=some (smO m V S))) :
    TabOk (tbLna [.agg [.nils,.sa (.o .h) 0 md 2]] mar none (some (.arr md 2 (rowK [.u8,.u8] T) none te tx ty)) mr m V S) En:=by
  obtain ⟨v,H,⟨e1,e2,g1⟩,hr⟩:=EndsX.split h
  refine tbL_ok (ent6_of (x:=glnaX md T tx ty te) (v0:=.agg [.int .i64 0,.int .i64 500,.nils,.sa (.i .h) 0 m 3]) (news:=[smO m V S]) (os:=[(.o .h,(.arr md 2 (rowK [.u8,.u8] T) none te tx ty))]) rfl rfl rfl (fun p hp=>?_) rfl (by kernel_rfl) (fun m=>by kernel_rfl) (fun H h0 h1=>⟨(Eq.trans (show AM.T.get (rho En.ng 2 H.nx.idx [.h,.o .h] (.o .h)) H.hp=AM.T.get (.o .h) H.hp from by kernel_rfl) (h1.trans (by kernel_rfl))),trivial⟩) (fun a=>?_) (fun _=>rfl) (fun o ho ρ=>?_) (hr _ ⟨e1,by rw [e2];rfl,fun i o hi=>by
      match i,hi with
      | 0,hi=>cases hi;exact g1
      | i+1,hi=>simp at hi⟩)) h7
  · simp only [List.mem_cons,List.not_mem_nil,or_false] at hp
    subst hp;first|exact (show (Ps.h).idx < 2 by decide)|exact (show (Ps.o .h).idx < 2 by decide)
  · show AV.agg [.int .i64 0,.int .i64 500,.nils,.sa (Ps.of (a.idx+0)) 0 m 3]=_
    rw [Nat.add_zero,psofidx]
  · simp only [List.mem_cons,List.not_mem_nil,or_false] at ho
    subst ho;rfl
theorem tlnnnn {mar:List AV} {mr:AV} (h7:Ent7 mar mr) (h:EndsX En 2 (glnnX) (fun v H=>v=.agg [.int .i64 0,.int .i64 500,.nils,.nils]∧H.nx=.i .h)) :
    TabOk (tbLnn [.agg [.nils,.nils]] mar none none mr ) En:=by
  obtain ⟨v,H,⟨e1,e2⟩,hr⟩:=EndsX.split h
  refine tbL_ok (ent6_of (x:=glnnX) (v0:=.agg [.int .i64 0,.int .i64 500,.nils,.nils]) (news:=[]) (os:=[]) rfl rfl rfl (fun p hp=>?_) rfl (by kernel_rfl) (fun m=>by kernel_rfl) (fun H h0 h1=>trivial) (fun a=>?_) (fun _=>rfl) (fun o ho ρ=>?_) (hr _ ⟨e1,by rw [e2];rfl,fun i o hi=>by
      simp at hi⟩)) h7
  · cases hp
  · rfl
  · cases ho
end
end Go.Proofs.Ytoahnefofelglaa.gm
end
