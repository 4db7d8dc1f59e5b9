/- A part of the proof of GlyphCovers; no condition. -/
import Derived.Test.YtoahnefofelglaaGlyphCovers11
import Derived.Test.YtoahnefofelglaaGlyphCovers08
set_option linter.unusedVariables false
set_option linter.unusedSimpArgs false
set_option linter.unusedSectionVars false
noncomputable section
section
namespace Go.Proofs.Ytoahnefofelglaa.gm
open Go Go.AM
abbrev dC (v1:Int):Int:=(Int.add v1 (20))
abbrev kR (v0:Int):Int:=(Int.add v0 (20))
abbrev Zj (T:Nat→Nat→Int):Int:=(Int.tmod (T 7 1) (100))
abbrev Zk (T:Nat→Nat→Int):Int:=(Int.tmod (T 6 1) (100))
abbrev Zl (T:Nat→Nat→Int):Int:=(Int.tmod (T 5 1) (100))
abbrev Zm (T:Nat→Nat→Int):Int:=(Int.tmod (T 4 1) (100))
abbrev Zn (T:Nat→Nat→Int):Int:=(Int.tmod (T 3 1) (100))
abbrev Zo (T:Nat→Nat→Int):Int:=(Int.tmod (T 2 1) (100))
abbrev Zp (T:Nat→Nat→Int):Int:=(Int.tmod (T 1 1) (100))
abbrev Zq (T:Nat→Nat→Int):Int:=(Int.tmod (T 0 1) (100))
abbrev pD (nd:Nat):Bool:=(a6 (Nat.ble 1 nd) true)
abbrev Y4 (i:Nat):Bool:=(Bool.not (Nat.beq (Nat.succ i) 0))
abbrev bN (i:Nat):Int:=(Int.sub (.ofNat (Nat.succ i)) (1))
abbrev F3 (i nd:Nat):Bool:=(Nat.ble (Nat.succ (Nat.succ i)) nd)
abbrev R9 (i:Nat):Bool:=(Nat.ble (Nat.succ (Nat.succ i)) 20)
abbrev Bn (md:Nat):Bool:=(a6 (a6 (Nat.ble 8 md) true) true)
abbrev Bo (md:Nat):Bool:=(a6 (a6 (Nat.ble 7 md) true) true)
abbrev Bp (md:Nat):Bool:=(a6 (a6 (Nat.ble 6 md) true) true)
abbrev Bq (md:Nat):Bool:=(a6 (a6 (Nat.ble 5 md) true) true)
abbrev Br (md:Nat):Bool:=(a6 (a6 (Nat.ble 4 md) true) true)
abbrev Bs (md:Nat):Bool:=(a6 (a6 (Nat.ble 3 md) true) true)
abbrev Bt (md:Nat):Bool:=(a6 (a6 (Nat.ble 2 md) true) true)
abbrev Bu (md:Nat):Bool:=(a6 (a6 (Nat.ble 1 md) true) true)
abbrev dX (nd:Nat):Bool:=(a6 (pD nd) true)
abbrev I6 (md:Nat):Bool:=(a6 (a6 (Nat.beq md md) true) true)
abbrev N7 (nd:Nat):Bool:=(a6 (a6 (Nat.beq nd nd) true) true)
abbrev W4 (D:Nat→Nat→Int) (i:Nat):Nat:=(Int.toNat (Int.tmod (D (Nat.succ i) 0) (6)))
abbrev U4 (G:Nat→Nat→Int) (i:Nat):Int:=(G (Int.toNat (bN i)) 0)
abbrev O3 (i nd:Nat):Bool:=(a6 (a6 (F3 i nd) true) true)
abbrev jW (md:Nat) (v1:Int):Bool:=(a6 (I6 md) (a6 (a6 (c9 v1 v1) true) true))
abbrev U5 (i:Nat):Bool:=(a6 (f8 (bN i)) (a6 (a6 (a6 (f9 (0) (bN i)) (Nat.ble (Nat.succ (Int.toNat (bN i))) (Nat.succ i))) true) (a6 (a6 (a6 (Nat.ble (Nat.succ (Int.toNat (bN i))) (Nat.succ i)) true) true) true)))
abbrev Zr (T:Nat→Nat→Int) (md:Nat):Bool:=(a6 (a6 (a6 (f8 (Zq T)) (c9 (Zq T) (Zq T))) true) (a6 (a6 (a6 (Bu md) (c9 (T 0 1) (T 0 1))) true) (a6 (I6 md) (a6 (a6 (c9 (Int.add (-280) (T 0 0)) (Int.add (-280) (T 0 0))) true) true))))
abbrev Y5 (i:Nat):Bool:=(a6 (a6 (a6 (Nat.beq (Nat.succ i) (Nat.succ i)) (Bool.and (Nat.ble (Nat.mul (Nat.add (Nat.mul 2 (Nat.add (Nat.succ i) 1)) 768) 56) 1099511627776) (Nat.ble (Nat.add (Nat.succ i) 1) 1099511627776))) true) (a6 (a6 (f9 (-9223372036854775808) (.ofNat (Nat.add (Nat.succ i) 1))) (Nat.ble (Nat.add (Nat.succ i) 1) 9223372036854775807)) true))
abbrev Zs (T:Nat→Nat→Int) (md:Nat) (v1:Int):Bool:=(a6 (a6 (a6 (f8 (Zj T)) (c9 (Zj T) (Zj T))) true) (a6 (a6 (a6 (Bn md) (c9 (T 7 1) (T 7 1))) true) (a6 (I6 md) (a6 (a6 (c9 (Int.add (dC v1) (T 7 0)) (Int.add (dC v1) (T 7 0))) true) true))))
abbrev Zt (T:Nat→Nat→Int) (md:Nat) (v0:Int):Bool:=(a6 (a6 (a6 (f8 (Zk T)) (c9 (Zk T) (Zk T))) true) (a6 (a6 (a6 (Bo md) (c9 (T 6 1) (T 6 1))) true) (a6 (I6 md) (a6 (a6 (c9 (Int.add (kR v0) (T 6 0)) (Int.add (kR v0) (T 6 0))) true) true))))
abbrev Zu (T:Nat→Nat→Int) (md:Nat) (v1:Int):Bool:=(a6 (a6 (a6 (f8 (Zl T)) (c9 (Zl T) (Zl T))) true) (a6 (a6 (a6 (Bp md) (c9 (T 5 1) (T 5 1))) true) (a6 (I6 md) (a6 (a6 (c9 (Int.add (dC v1) (T 5 0)) (Int.add (dC v1) (T 5 0))) true) true))))
abbrev Zv (T:Nat→Nat→Int) (md:Nat) (v0:Int):Bool:=(a6 (a6 (a6 (f8 (Zm T)) (c9 (Zm T) (Zm T))) true) (a6 (a6 (a6 (Bq md) (c9 (T 4 1) (T 4 1))) true) (a6 (I6 md) (a6 (a6 (c9 (Int.add (kR v0) (T 4 0)) (Int.add (kR v0) (T 4 0))) true) true))))
abbrev Zw (T:Nat→Nat→Int) (md:Nat) (v1:Int):Bool:=(a6 (a6 (a6 (f8 (Zn T)) (c9 (Zn T) (Zn T))) true) (a6 (a6 (a6 (Br md) (c9 (T 3 1) (T 3 1))) true) (a6 (I6 md) (a6 (a6 (c9 (Int.add (dC v1) (T 3 0)) (Int.add (dC v1) (T 3 0))) true) true))))
abbrev Zx (T:Nat→Nat→Int) (md:Nat) (v0:Int):Bool:=(a6 (a6 (a6 (f8 (Zo T)) (c9 (Zo T) (Zo T))) true) (a6 (a6 (a6 (Bs md) (c9 (T 2 1) (T 2 1))) true) (a6 (I6 md) (a6 (a6 (c9 (Int.add (kR v0) (T 2 0)) (Int.add (kR v0) (T 2 0))) true) true))))
abbrev Zy (T:Nat→Nat→Int) (md:Nat) (v1:Int):Bool:=(a6 (a6 (a6 (f8 (Zp T)) (c9 (Zp T) (Zp T))) true) (a6 (a6 (a6 (Bt md) (c9 (T 1 1) (T 1 1))) true) (a6 (I6 md) (a6 (a6 (c9 (Int.add (dC v1) (T 1 0)) (Int.add (dC v1) (T 1 0))) true) true))))
abbrev T0 (D:Nat→Nat→Int) (i:Nat):Int:=(d7 (Nat.beq (W4 D i) 0) (2) (d7 (Nat.beq (W4 D i) 1) (3) (d7 (Nat.beq (W4 D i) 2) (2) (d7 (Nat.beq (W4 D i) 3) (3) (d7 (Nat.beq (W4 D i) 4) (4) (d7 (Nat.beq (W4 D i) 5) (1) (0)))))))
abbrev Zz (md:Nat) (T:Nat→Nat→Int):Bool:=(a6 (Nat.ble 1 md) (a6 (a6 (a6 (a6 (Nat.ble 1 md) true) (a6 (Bu md) (a6 (f8 (T 0 0)) (a6 (f8 (Int.add (-280) (T 0 0))) true)))) (a6 (a6 (a6 (f8 (T 0 0)) (c9 (T 0 0) (T 0 0))) true) (a6 (a6 (a6 (Bu md) (c9 (T 0 0) (T 0 0))) true) (a6 (I6 md) true)))) (a6 (a6 (a6 (a6 (Nat.ble 1 md) true) (a6 (Bu md) (a6 (f8 (Zq T)) (a6 (f8 (Int.add (10) (Zq T))) true)))) (Zr T md)) (a6 (a6 (a6 (f8 (Int.add (Int.add (-280) (T 0 0)) (10))) (a6 (a6 (Nat.ble 1 md) true) (a6 (Bu md) (a6 (f8 (Zq T)) (a6 (f8 (Int.add (Int.add (Int.add (-280) (T 0 0)) (10)) (Zq T))) true))))) (Zr T md)) true))))
abbrev AA (md:Nat) (v1:Int) (T:Nat→Nat→Int):Bool:=(a6 (Nat.ble 8 md) (a6 (a6 (a6 (f8 (dC v1)) (a6 (a6 (Nat.ble 8 md) true) (a6 (Bn md) (a6 (f8 (T 7 0)) (a6 (f8 (Int.add (dC v1) (T 7 0))) true))))) (a6 (a6 (a6 (f8 (T 7 0)) (c9 (T 7 0) (T 7 0))) true) (a6 (a6 (a6 (Bn md) (c9 (T 7 0) (T 7 0))) true) (jW md v1)))) (a6 (a6 (a6 (a6 (Nat.ble 8 md) true) (a6 (Bn md) (a6 (f8 (Zj T)) (a6 (f8 (Int.add (10) (Zj T))) true)))) (Zs T md v1)) (a6 (a6 (a6 (f8 (Int.add (Int.add (dC v1) (T 7 0)) (10))) (a6 (a6 (Nat.ble 8 md) true) (a6 (Bn md) (a6 (f8 (Zj T)) (a6 (f8 (Int.add (Int.add (Int.add (dC v1) (T 7 0)) (10)) (Zj T))) true))))) (Zs T md v1)) true))))
abbrev AC (md:Nat) (v0:Int) (T:Nat→Nat→Int):Bool:=(a6 (Nat.ble 7 md) (a6 (a6 (a6 (f8 (kR v0)) (a6 (a6 (Nat.ble 7 md) true) (a6 (Bo md) (a6 (f8 (T 6 0)) (a6 (f8 (Int.add (kR v0) (T 6 0))) true))))) (a6 (a6 (a6 (f8 (T 6 0)) (c9 (T 6 0) (T 6 0))) true) (a6 (a6 (a6 (Bo md) (c9 (T 6 0) (T 6 0))) true) (a6 (I6 md) (a6 (a6 (c9 v0 v0) true) true))))) (a6 (a6 (a6 (a6 (Nat.ble 7 md) true) (a6 (Bo md) (a6 (f8 (Zk T)) (a6 (f8 (Int.add (10) (Zk T))) true)))) (Zt T md v0)) (a6 (a6 (a6 (f8 (Int.add (Int.add (kR v0) (T 6 0)) (10))) (a6 (a6 (Nat.ble 7 md) true) (a6 (Bo md) (a6 (f8 (Zk T)) (a6 (f8 (Int.add (Int.add (Int.add (kR v0) (T 6 0)) (10)) (Zk T))) true))))) (Zt T md v0)) true))))
abbrev AE (md:Nat) (v1:Int) (T:Nat→Nat→Int):Bool:=(a6 (Nat.ble 6 md) (a6 (a6 (a6 (f8 (dC v1)) (a6 (a6 (Nat.ble 6 md) true) (a6 (Bp md) (a6 (f8 (T 5 0)) (a6 (f8 (Int.add (dC v1) (T 5 0))) true))))) (a6 (a6 (a6 (f8 (T 5 0)) (c9 (T 5 0) (T 5 0))) true) (a6 (a6 (a6 (Bp md) (c9 (T 5 0) (T 5 0))) true) (jW md v1)))) (a6 (a6 (a6 (a6 (Nat.ble 6 md) true) (a6 (Bp md) (a6 (f8 (Zl T)) (a6 (f8 (Int.add (10) (Zl T))) true)))) (Zu T md v1)) (a6 (a6 (a6 (f8 (Int.add (Int.add (dC v1) (T 5 0)) (10))) (a6 (a6 (Nat.ble 6 md) true) (a6 (Bp md) (a6 (f8 (Zl T)) (a6 (f8 (Int.add (Int.add (Int.add (dC v1) (T 5 0)) (10)) (Zl T))) true))))) (Zu T md v1)) true))))
abbrev AG (md:Nat) (v0:Int) (T:Nat→Nat→Int):Bool:=(a6 (Nat.ble 5 md) (a6 (a6 (a6 (f8 (kR v0)) (a6 (a6 (Nat.ble 5 md) true) (a6 (Bq md) (a6 (f8 (T 4 0)) (a6 (f8 (Int.add (kR v0) (T 4 0))) true))))) (a6 (a6 (a6 (f8 (T 4 0)) (c9 (T 4 0) (T 4 0))) true) (a6 (a6 (a6 (Bq md) (c9 (T 4 0) (T 4 0))) true) (a6 (I6 md) (a6 (a6 (c9 v0 v0) true) true))))) (a6 (a6 (a6 (a6 (Nat.ble 5 md) true) (a6 (Bq md) (a6 (f8 (Zm T)) (a6 (f8 (Int.add (10) (Zm T))) true)))) (Zv T md v0)) (a6 (a6 (a6 (f8 (Int.add (Int.add (kR v0) (T 4 0)) (10))) (a6 (a6 (Nat.ble 5 md) true) (a6 (Bq md) (a6 (f8 (Zm T)) (a6 (f8 (Int.add (Int.add (Int.add (kR v0) (T 4 0)) (10)) (Zm T))) true))))) (Zv T md v0)) true))))
abbrev AH (md:Nat) (v1:Int) (T:Nat→Nat→Int):Bool:=(a6 (Nat.ble 4 md) (a6 (a6 (a6 (f8 (dC v1)) (a6 (a6 (Nat.ble 4 md) true) (a6 (Br md) (a6 (f8 (T 3 0)) (a6 (f8 (Int.add (dC v1) (T 3 0))) true))))) (a6 (a6 (a6 (f8 (T 3 0)) (c9 (T 3 0) (T 3 0))) true) (a6 (a6 (a6 (Br md) (c9 (T 3 0) (T 3 0))) true) (jW md v1)))) (a6 (a6 (a6 (a6 (Nat.ble 4 md) true) (a6 (Br md) (a6 (f8 (Zn T)) (a6 (f8 (Int.add (10) (Zn T))) true)))) (Zw T md v1)) (a6 (a6 (a6 (f8 (Int.add (Int.add (dC v1) (T 3 0)) (10))) (a6 (a6 (Nat.ble 4 md) true) (a6 (Br md) (a6 (f8 (Zn T)) (a6 (f8 (Int.add (Int.add (Int.add (dC v1) (T 3 0)) (10)) (Zn T))) true))))) (Zw T md v1)) true))))
abbrev AJ (md:Nat) (v0:Int) (T:Nat→Nat→Int):Bool:=(a6 (Nat.ble 3 md) (a6 (a6 (a6 (f8 (kR v0)) (a6 (a6 (Nat.ble 3 md) true) (a6 (Bs md) (a6 (f8 (T 2 0)) (a6 (f8 (Int.add (kR v0) (T 2 0))) true))))) (a6 (a6 (a6 (f8 (T 2 0)) (c9 (T 2 0) (T 2 0))) true) (a6 (a6 (a6 (Bs md) (c9 (T 2 0) (T 2 0))) true) (a6 (I6 md) (a6 (a6 (c9 v0 v0) true) true))))) (a6 (a6 (a6 (a6 (Nat.ble 3 md) true) (a6 (Bs md) (a6 (f8 (Zo T)) (a6 (f8 (Int.add (10) (Zo T))) true)))) (Zx T md v0)) (a6 (a6 (a6 (f8 (Int.add (Int.add (kR v0) (T 2 0)) (10))) (a6 (a6 (Nat.ble 3 md) true) (a6 (Bs md) (a6 (f8 (Zo T)) (a6 (f8 (Int.add (Int.add (Int.add (kR v0) (T 2 0)) (10)) (Zo T))) true))))) (Zx T md v0)) true))))
abbrev AK (md:Nat) (v1:Int) (T:Nat→Nat→Int):Bool:=(a6 (Nat.ble 2 md) (a6 (a6 (a6 (f8 (dC v1)) (a6 (a6 (Nat.ble 2 md) true) (a6 (Bt md) (a6 (f8 (T 1 0)) (a6 (f8 (Int.add (dC v1) (T 1 0))) true))))) (a6 (a6 (a6 (f8 (T 1 0)) (c9 (T 1 0) (T 1 0))) true) (a6 (a6 (a6 (Bt md) (c9 (T 1 0) (T 1 0))) true) (jW md v1)))) (a6 (a6 (a6 (a6 (Nat.ble 2 md) true) (a6 (Bt md) (a6 (f8 (Zp T)) (a6 (f8 (Int.add (10) (Zp T))) true)))) (Zy T md v1)) (a6 (a6 (a6 (f8 (Int.add (Int.add (dC v1) (T 1 0)) (10))) (a6 (a6 (Nat.ble 2 md) true) (a6 (Bt md) (a6 (f8 (Zp T)) (a6 (f8 (Int.add (Int.add (Int.add (dC v1) (T 1 0)) (10)) (Zp T))) true))))) (Zy T md v1)) true))))
abbrev AL (nd:Nat) (D:Nat→Nat→Int):Bool:=(a6 (Nat.ble 1 nd) (a6 (a6 (a6 (pD nd) (a6 (dX nd) (a6 (f8 (D 0 1)) (a6 (pD nd) (a6 (dX nd) (a6 (f8 (D 0 2)) true)))))) (a6 (a6 (a6 (f8 (D 0 2)) (c9 (D 0 2) (D 0 2))) true) (a6 (a6 (a6 (dX nd) (c9 (D 0 2) (D 0 2))) true) (a6 (N7 nd) (a6 (a6 (a6 (f8 (D 0 1)) (c9 (D 0 1) (D 0 1))) true) (a6 (a6 (a6 (dX nd) (c9 (D 0 1) (D 0 1))) true) (a6 (N7 nd) true))))))) (a6 (a6 (a6 (pD nd) (a6 (dX nd) (a6 (f8 (D 0 3)) (a6 (pD nd) (a6 (dX nd) (a6 (f8 (D 0 4)) true)))))) (a6 (a6 (a6 (f8 (D 0 4)) (c9 (D 0 4) (D 0 4))) true) (a6 (a6 (a6 (dX nd) (c9 (D 0 4) (D 0 4))) true) (a6 (N7 nd) (a6 (a6 (a6 (f8 (D 0 3)) (c9 (D 0 3) (D 0 3))) true) (a6 (a6 (a6 (dX nd) (c9 (D 0 3) (D 0 3))) true) (a6 (N7 nd) true))))))) (a6 (a6 (a6 (pD nd) (a6 (dX nd) (a6 (f8 (D 0 5)) (a6 (pD nd) (a6 (dX nd) (a6 (f8 (D 0 6)) true)))))) (a6 (a6 (a6 (f8 (D 0 6)) (c9 (D 0 6) (D 0 6))) true) (a6 (a6 (a6 (dX nd) (c9 (D 0 6) (D 0 6))) true) (a6 (N7 nd) (a6 (a6 (a6 (f8 (D 0 5)) (c9 (D 0 5) (D 0 5))) true) (a6 (a6 (a6 (dX nd) (c9 (D 0 5) (D 0 5))) true) (a6 (N7 nd) true))))))) (a6 (pD nd) (a6 (dX nd) (a6 (a6 (a6 (f9 (0) (Int.tmod (D 0 0) (6))) (Nat.ble (Nat.succ (Int.toNat (Int.tmod (D 0 0) (6)))) 6)) true) (a6 (a6 (Nat.ble (Nat.succ (Int.toNat (Int.tmod (D 0 0) (6)))) 6) true) true))))))))
abbrev Y6 (i nd:Nat) (D:Nat→Nat→Int):Bool:=(a6 (a6 (a6 (a6 (F3 i nd) true) (a6 (O3 i nd) (a6 (f8 (D (Nat.succ i) 1)) (a6 (a6 (F3 i nd) true) (a6 (O3 i nd) (a6 (f8 (D (Nat.succ i) 2)) true)))))) (a6 (a6 (a6 (f8 (D (Nat.succ i) 2)) (c9 (D (Nat.succ i) 2) (D (Nat.succ i) 2))) true) (a6 (a6 (a6 (O3 i nd) (c9 (D (Nat.succ i) 2) (D (Nat.succ i) 2))) true) (a6 (N7 nd) (a6 (a6 (a6 (f8 (D (Nat.succ i) 1)) (c9 (D (Nat.succ i) 1) (D (Nat.succ i) 1))) true) (a6 (a6 (a6 (O3 i nd) (c9 (D (Nat.succ i) 1) (D (Nat.succ i) 1))) true) (a6 (N7 nd) true))))))) (a6 (a6 (a6 (a6 (F3 i nd) true) (a6 (O3 i nd) (a6 (f8 (D (Nat.succ i) 3)) (a6 (a6 (F3 i nd) true) (a6 (O3 i nd) (a6 (f8 (D (Nat.succ i) 4)) true)))))) (a6 (a6 (a6 (f8 (D (Nat.succ i) 4)) (c9 (D (Nat.succ i) 4) (D (Nat.succ i) 4))) true) (a6 (a6 (a6 (O3 i nd) (c9 (D (Nat.succ i) 4) (D (Nat.succ i) 4))) true) (a6 (N7 nd) (a6 (a6 (a6 (f8 (D (Nat.succ i) 3)) (c9 (D (Nat.succ i) 3) (D (Nat.succ i) 3))) true) (a6 (a6 (a6 (O3 i nd) (c9 (D (Nat.succ i) 3) (D (Nat.succ i) 3))) true) (a6 (N7 nd) true))))))) (a6 (a6 (a6 (a6 (F3 i nd) true) (a6 (O3 i nd) (a6 (f8 (D (Nat.succ i) 5)) (a6 (a6 (F3 i nd) true) (a6 (O3 i nd) (a6 (f8 (D (Nat.succ i) 6)) true)))))) (a6 (a6 (a6 (f8 (D (Nat.succ i) 6)) (c9 (D (Nat.succ i) 6) (D (Nat.succ i) 6))) true) (a6 (a6 (a6 (O3 i nd) (c9 (D (Nat.succ i) 6) (D (Nat.succ i) 6))) true) (a6 (N7 nd) (a6 (a6 (a6 (f8 (D (Nat.succ i) 5)) (c9 (D (Nat.succ i) 5) (D (Nat.succ i) 5))) true) (a6 (a6 (a6 (O3 i nd) (c9 (D (Nat.succ i) 5) (D (Nat.succ i) 5))) true) (a6 (N7 nd) true))))))) (a6 (a6 (F3 i nd) true) (a6 (O3 i nd) (a6 (a6 (a6 (f9 (0) (Int.tmod (D (Nat.succ i) 0) (6))) (Nat.ble (Nat.succ (W4 D i)) 6)) true) (a6 (a6 (Nat.ble (Nat.succ (W4 D i)) 6) true) true)))))))
abbrev AN (i nd:Nat) (D G:Nat→Nat→Int):Bool:=(a6 (F3 i nd) (a6 (R9 i) (a6 (Y6 i nd D) (a6 (Y4 i) (a6 (U5 i) (a6 (Bool.not (c9 (U4 G i) (4))) (a6 (c9 (T0 D i) (1)) (a6 (U5 i) (a6 (c9 (U4 G i) (1)) (Y5 i))))))))))
abbrev AP (i nd:Nat) (D G:Nat→Nat→Int):Bool:=(a6 (F3 i nd) (a6 (R9 i) (a6 (Y6 i nd D) (a6 (Y4 i) (a6 (U5 i) (a6 (Bool.not (c9 (U4 G i) (4))) (a6 (Bool.not (c9 (T0 D i) (1))) (a6 (c9 (T0 D i) (4)) (Y5 i)))))))))
abbrev AQ (i nd:Nat) (D G:Nat→Nat→Int):Bool:=(a6 (F3 i nd) (a6 (R9 i) (a6 (Y6 i nd D) (a6 (Y4 i) (a6 (U5 i) (a6 (Bool.not (c9 (U4 G i) (4))) (a6 (Bool.not (c9 (T0 D i) (1))) (a6 (Bool.not (c9 (T0 D i) (4))) (a6 (c9 (T0 D i) (3)) (Y5 i))))))))))
abbrev AR (i nd:Nat) (D G:Nat→Nat→Int):Bool:=(a6 (F3 i nd) (a6 (R9 i) (a6 (Y6 i nd D) (a6 (Y4 i) (a6 (U5 i) (a6 (Bool.not (c9 (U4 G i) (4))) (a6 (Bool.not (c9 (T0 D i) (1))) (a6 (Bool.not (c9 (T0 D i) (4))) (a6 (Bool.not (c9 (T0 D i) (3))) (Y5 i))))))))))
abbrev AS (i nd:Nat) (D G:Nat→Nat→Int):Bool:=(a6 (F3 i nd) (a6 (R9 i) (a6 (Y6 i nd D) (a6 (Y4 i) (a6 (U5 i) (a6 (Bool.not (c9 (U4 G i) (4))) (a6 (c9 (T0 D i) (1)) (a6 (U5 i) (a6 (Bool.not (c9 (U4 G i) (1))) (a6 (Bool.not (c9 (T0 D i) (4))) (a6 (Bool.not (c9 (T0 D i) (3))) (Y5 i))))))))))))
theorem w6 (x:Int) {k:Int} (h:0≤x):0≤Int.tmod x k:=Int.tmod_nonneg k h
theorem i1 (x:Int) : -32000≤Int.tmod x 1001∧Int.tmod x 1001≤32000:=by have:=o8 x (k:=1001) (by decide);omega
theorem P4 (x:Int) (h:0≤x∧x≤255):0≤Int.tmod x 100∧Int.tmod x 100≤99:=by have:=o8 x (k:=100) (by decide);have:=w6 x (k:=100) h.1;omega
theorem d6 {T:Bool} {x y A:Int} (hx : -A≤x∧x≤A) (hy : -A≤y∧y≤A) : -A≤d7 T x y∧d7 T x y≤A:=by cases T <;> assumption
theorem Fr {a b c d e f g:Int} (ha : -32000≤a∧a≤32000) (hb : -32000≤b∧b≤32000) (hc : -32000≤c∧c≤32000) (hd : -32000≤d∧d≤32000) (he : -32000≤e∧e≤32000) (hf : -32000≤f∧f≤32000) (hg : -32000≤g∧g≤32000):∀ z ∈ [a,b,c,d,e,f,g],-32000≤z∧z≤32000:=by
 intro z hz
 simp only [List.mem_cons,List.not_mem_nil,or_false] at hz
 rcases hz with rfl|rfl|rfl|rfl|rfl|rfl|rfl <;> assumption
theorem tQ {l:List Int} {A:Int} (hA:0≤A) (h:∀ z ∈ l,-A≤z∧z≤A) (j k:Nat) : -A≤(fun (_:Nat) kk=>List.getD l kk 0) j k∧(fun (_:Nat) kk=>List.getD l kk 0) j k≤A:=by
 show -A≤List.getD l k 0∧List.getD l k 0≤A
 rw [List.getD_eq_getElem?_getD]
 cases hk:l[k]? with
 | none=>show -A≤(0:Int)∧(0:Int)≤A;omega
 | some x=>exact h x (List.mem_of_getElem? hk)
structure B8 (i:Nat) (V:Nat→Bool) (S:Nat→Nat→Int) (v0 v1:Int):Prop where
 sorted:G0 i V S
 end0:∀ j,j < i→V j=false→S j 1+S j 2≤v0
 end1:∀ j,j < i→V j=true→S j 1+S j 2≤v1
 first:V 0=false
 b0 : -300≤v0∧v0≤400 * (i:Int)
 b1 : -300≤v1∧v1≤400 * (i:Int)
 bd:∀ j k,-32000≤S j k∧S j k≤32000
def KV (m:Nat) (V:Nat→Bool) (S:Nat→Nat→Int):Prop:=0 < m∧m≤8∧G0 m V S∧V 0=false∧∀ j k,-32000≤S j k∧S j k≤32000
theorem aK {i:Nat} {V:Nat→Bool} {S:Nat→Nat→Int} {v0 v1:Int} (h:B8 i V S v0 v1) (h1:0 < i) (h8:i≤8):KV i V S:=⟨h1,h8,h.sorted,h.first,h.bd⟩
theorem tR (V:Nat→Bool) (i:Nat) (b:Bool):G6 V i b i=b:=by unfold G6;rw [if_pos rfl]
theorem AT (V:Nat→Bool) {i j:Nat} (b:Bool) (h:j≠i):G6 V i b j=V j:=by unfold G6;rw [if_neg h]
section
variable {i:Nat} {V:Nat→Bool} {S:Nat→Nat→Int}
theorem B8.push {v0 v1 a l w0 w1:Int} {b:Bool} (h:B8 i V S v0 v1) (hi:0 < i) (hi8:i < 8) (hl:10≤l∧l≤109) (ha:(b=false→v0+20≤a∧a≤v0+275∧w0=a+l∧w1=v1)∧(b=true→v1+20≤a∧a≤v1+275∧w1=a+l∧w0=v0)):B8 (i+1) (G6 V i b) (i2 S i (0::[a,l])) w0 w1:=by
 have hne:∀ j,j < i→G6 V i b j=V j∧∀ k,i2 S i (0::[a,l]) j k=S j k:=fun j hj=>⟨AT _ _ (by omega),fun k=>N1 _ _ _ (by omega)⟩
 have h0:=h.b0
 have h1:=h.b1
 have hw:v0≤w0∧v1≤w1∧w0≤400 * ((i:Int)+1)∧w1≤400 * ((i:Int)+1)∧-32000≤a∧a≤32000:=by
  cases b with
  | false=>have:=ha.1 rfl;omega
  | true=>have:=ha.2 rfl;omega
 refine ⟨fun j k hj hk e=>?_,fun j hj e=>?_,fun j hj e=>?_,?_,?_,?_,?_⟩
 ·rw [(hne j (by omega)).1] at e
  rw [(hne j (by omega)).2,(hne j (by omega)).2]
  by_cases ek:k=i
  ·subst ek
   rw [tR] at e
   rw [x9]
   show S j 1+S j 2 < a
   cases b with
   | false=>have:=h.end0 j hj e;have:=ha.1 rfl;omega
   | true=>have:=h.end1 j hj e;have:=ha.2 rfl;omega
  rw [(hne k (by omega)).1] at e
  rw [(hne k (by omega)).2]
  exact h.sorted j k hj (by omega) e
 ·by_cases ej:j=i
  ·subst ej
   rw [tR] at e
   rw [x9,x9]
   show a+l≤w0
   have:=ha.1 e;omega
  rw [(hne j (by omega)).1] at e
  rw [(hne j (by omega)).2,(hne j (by omega)).2]
  have:=h.end0 j (by omega) e;omega
 ·by_cases ej:j=i
  ·subst ej
   rw [tR] at e
   rw [x9,x9]
   show a+l≤w1
   have:=ha.2 e;omega
  rw [(hne j (by omega)).1] at e
  rw [(hne j (by omega)).2,(hne j (by omega)).2]
  have:=h.end1 j (by omega) e;omega
 ·rw [(hne 0 hi).1];exact h.first
 ·omega
 ·omega
 exact wW (by decide) h.bd i (by omega) (by omega)
theorem B8.push0 {v0 v1 x y:Int} (h:B8 i V S v0 v1) (hi:0 < i∧i < 8) (hx:0≤x∧x≤255) (hy:0≤y∧y≤99) :
 B8 (i+1) (G6 V i false) (i2 S i (0::[(Int.add (Int.add v0 (20)) x),(Int.add (10) y)])) (Int.add (Int.add (Int.add (Int.add v0 (20)) x) (10)) y) v1:=
 h.push (a:=v0+20+x) (l:=10+y) (w0:=v0+20+x+10+y) (w1:=v1) hi.1 hi.2 (by omega) ⟨fun _=>(by omega),fun e=>(by cases e)⟩
theorem B8.push1 {v0 v1 x y:Int} (h:B8 i V S v0 v1) (hi:0 < i∧i < 8) (hx:0≤x∧x≤255) (hy:0≤y∧y≤99) :
 B8 (i+1) (G6 V i true) (i2 S i (0::[(Int.add (Int.add v1 (20)) x),(Int.add (10) y)])) v0 (Int.add (Int.add (Int.add (Int.add v1 (20)) x) (10)) y):=
 h.push (a:=v1+20+x) (l:=10+y) (w0:=v0) (w1:=v1+20+x+10+y) hi.1 hi.2 (by omega) ⟨fun e=>(by cases e),fun _=>(by omega)⟩
end
theorem YZ {x y:Int} (hx:0≤x∧x≤255) (hy:0≤y∧y≤99):B8 1 (fun _=>false) (fun _ kk=>List.getD [0,(Int.add (-280) x),(Int.add (10) y)] kk 0) (Int.add (Int.add (Int.add (-280) x) (10)) y) (-300):=
 ⟨fun i j h1 h2=>(by omega),fun j _ _=>(by show Int.add (-280) x+Int.add 10 y≤_;simp only [j8];omega),fun j _ e=>(by cases e),rfl,(by simp only [j8];omega),(by omega),tQ (by decide) (fun z hz=>(by
  simp only [List.mem_cons,List.not_mem_nil,or_false,j8] at hz
  rcases hz with rfl|rfl|rfl <;> omega))⟩
def jI (a b:Bool):AV→Hp→Prop:=fun v H =>
 (v=.agg [.int .i64 0,.int .i64 500,.nils,.nils]∧H.nx=.i .h) ∨
 (∃ (n:Nat) (G:Nat→Nat→Int),v=.agg [.int .i64 0,.int .i64 500,.sa J2 0 n 7,.nils]∧H.nx=.o J1∧H.hp.get J2=some (o7 n G false false)∧1≤n∧n≤1000∧(∀ j k,-32000≤G j k∧G j k≤32000)∧a=true) ∨
 (∃ (m:Nat) (V:Nat→Bool) (S:Nat→Nat→Int),v=.agg [.int .i64 0,.int .i64 500,.nils,.sa J2 0 m 3]∧H.nx=.o J1∧H.hp.get J2=some (o3 m V S false false)∧KV m V S∧b=true) ∨
 (∃ (n:Nat) (G:Nat→Nat→Int) (m:Nat) (V:Nat→Bool) (S:Nat→Nat→Int),v=.agg [.int .i64 0,.int .i64 500,.sa J2 0 n 7,.sa J3 0 m 3]∧H.nx=.i J1∧H.hp.get J2=some (o7 n G false false) ∧
  H.hp.get J3=some (o3 m V S false false)∧1≤n∧n≤1000∧(∀ j k,-32000≤G j k∧G j k≤32000)∧KV m V S∧a=true∧b=true)
section
variable {nd:Nat} {D:Nat→Nat→Int} {dx dy:Bool} {de:Nat} {md:Nat} {T:Nat→Nat→Int} {tx ty:Bool} {te:Nat}
theorem AU {a:Bool} {V:Nat→Bool} {S:Nat→Nat→Int} {v0 v1:Int} (hT:∀ j k,0≤T j k∧T j k≤255) (hmd:8≤md) (hinv:B8 8 V S v0 v1):a7 En 2 (FA md T tx ty te V S v0 v1) (jI a true):=by
 have hv0:=hinv.b0;have hv1:=hinv.b1;have hS:=hinv.bd
 rcases T6 9 md with ⟨b1,b1p⟩|⟨b1,b1p⟩
 ·refine fi 2 [(9,120,false)] 13 (a6 (Bool.not (Nat.ble 9 md)) true) [.h,J1,J6] (.agg [(zi (0)),(zi (500)),.nils,(.sa J2 0 8 3)]) [(J2,(o3 8 V S false false))] J3 (by (try simp only [b1,gS]);(try simp only [gT] at *);try omega) ?_
  exact .inr (.inr (.inl ⟨8,_,_,rfl,rfl,rfl,(aK hinv (by decide) (by decide)),rfl⟩))
 refine fi 2 [(9,120,true)] 13 (a6 (Nat.ble 9 md) true) [.h,J1,J6] (.agg [(zi (0)),(zi (500)),.nils,(.sa J2 0 8 3)]) [(J2,(o3 8 V S false false))] J3 (by (try simp only [b1,gS]);(try simp only [gT] at *);try omega) ?_
 exact .inr (.inr (.inl ⟨8,_,_,rfl,rfl,rfl,(aK hinv (by decide) (by decide)),rfl⟩))
theorem AW {a:Bool} {V:Nat→Bool} {S:Nat→Nat→Int} {v0 v1:Int} (hT:∀ j k,0≤T j k∧T j k≤255) (hmd:7≤md) (hinv:B8 7 V S v0 v1):a7 En 2 (EY md T tx ty te V S v0 v1) (jI a true):=by
 have hv0:=hinv.b0;have hv1:=hinv.b1;have hS:=hinv.bd
 rcases T6 8 md with ⟨b1,b1p⟩|⟨b1,b1p⟩
 ·refine fi 2 [(9,120,false)] 13 (a6 (Bool.not (Nat.ble 8 md)) true) [.h,J1,J6] (.agg [(zi (0)),(zi (500)),.nils,(.sa J2 0 7 3)]) [(J2,(o3 7 V S false false))] J3 (by (try simp only [b1,gS]);(try simp only [gT] at *);try omega) ?_
  exact .inr (.inr (.inl ⟨7,_,_,rfl,rfl,rfl,(aK hinv (by decide) (by decide)),rfl⟩))
 refine t8 5 2 [(9,120,true)] 26 ((AA md v1 T)) (FA md T tx ty te (G6 V 7 true) (i2 S 7 (0::[(Int.add (Int.add v1 (20)) (T 7 0)),(Int.add (10) (Int.tmod (T 7 1) (100)))])) v0 (Int.add (Int.add (Int.add (Int.add v1 (20)) (T 7 0)) (10)) (Int.tmod (T 7 1) (100)))) [.h,J1,J2,J3,J4,J5,J8] [1,2,3,9,10] [] ⟨C2 (by kernel_rfl) rfl (by kernel_rfl),trivial⟩ (by have:=n7 (hT 7);have:=o8 (T 7 1) (k:=100) (by decide);(try simp only [b1,gS,dC,Zj,Bn,I6,jW,Zs,AA]);(try simp only [gT] at *);try omega) ?_
 exact AU hT  (by omega) (hinv.push1 (by decide) (hT 7 0) (P4 _ (hT 7 1)))
theorem AX {a:Bool} {V:Nat→Bool} {S:Nat→Nat→Int} {v0 v1:Int} (hT:∀ j k,0≤T j k∧T j k≤255) (hmd:6≤md) (hinv:B8 6 V S v0 v1):a7 En 2 (EW md T tx ty te V S v0 v1) (jI a true):=by
 have hv0:=hinv.b0;have hv1:=hinv.b1;have hS:=hinv.bd
 rcases T6 7 md with ⟨b1,b1p⟩|⟨b1,b1p⟩
 ·refine fi 2 [(9,120,false)] 13 (a6 (Bool.not (Nat.ble 7 md)) true) [.h,J1,J6] (.agg [(zi (0)),(zi (500)),.nils,(.sa J2 0 6 3)]) [(J2,(o3 6 V S false false))] J3 (by (try simp only [b1,gS]);(try simp only [gT] at *);try omega) ?_
  exact .inr (.inr (.inl ⟨6,_,_,rfl,rfl,rfl,(aK hinv (by decide) (by decide)),rfl⟩))
 refine t8 5 2 [(9,120,true)] 26 ((AC md v0 T)) (EY md T tx ty te (G6 V 6 false) (i2 S 6 (0::[(Int.add (Int.add v0 (20)) (T 6 0)),(Int.add (10) (Int.tmod (T 6 1) (100)))])) (Int.add (Int.add (Int.add (Int.add v0 (20)) (T 6 0)) (10)) (Int.tmod (T 6 1) (100))) v1) [.h,J1,J2,J3,J4,J5,J8] [1,2,3,9,10] [] ⟨C2 (by kernel_rfl) rfl (by kernel_rfl),trivial⟩ (by have:=n7 (hT 6);have:=o8 (T 6 1) (k:=100) (by decide);(try simp only [b1,gS,kR,Zk,Bo,I6,Zt,AC]);(try simp only [gT] at *);try omega) ?_
 exact AW hT  (by omega) (hinv.push0 (by decide) (hT 6 0) (P4 _ (hT 6 1)))
theorem AY {a:Bool} {V:Nat→Bool} {S:Nat→Nat→Int} {v0 v1:Int} (hT:∀ j k,0≤T j k∧T j k≤255) (hmd:5≤md) (hinv:B8 5 V S v0 v1):a7 En 2 (EU md T tx ty te V S v0 v1) (jI a true):=by
 have hv0:=hinv.b0;have hv1:=hinv.b1;have hS:=hinv.bd
 rcases T6 6 md with ⟨b1,b1p⟩|⟨b1,b1p⟩
 ·refine fi 2 [(9,120,false)] 13 (a6 (Bool.not (Nat.ble 6 md)) true) [.h,J1,J6] (.agg [(zi (0)),(zi (500)),.nils,(.sa J2 0 5 3)]) [(J2,(o3 5 V S false false))] J3 (by (try simp only [b1,gS]);(try simp only [gT] at *);try omega) ?_
  exact .inr (.inr (.inl ⟨5,_,_,rfl,rfl,rfl,(aK hinv (by decide) (by decide)),rfl⟩))
 refine t8 5 2 [(9,120,true)] 26 ((AE md v1 T)) (EW md T tx ty te (G6 V 5 true) (i2 S 5 (0::[(Int.add (Int.add v1 (20)) (T 5 0)),(Int.add (10) (Int.tmod (T 5 1) (100)))])) v0 (Int.add (Int.add (Int.add (Int.add v1 (20)) (T 5 0)) (10)) (Int.tmod (T 5 1) (100)))) [.h,J1,J2,J3,J4,J5,J8] [1,2,3,9,10] [] ⟨C2 (by kernel_rfl) rfl (by kernel_rfl),trivial⟩ (by have:=n7 (hT 5);have:=o8 (T 5 1) (k:=100) (by decide);(try simp only [b1,gS,dC,Zl,Bp,I6,jW,Zu,AE]);(try simp only [gT] at *);try omega) ?_
 exact AX hT  (by omega) (hinv.push1 (by decide) (hT 5 0) (P4 _ (hT 5 1)))
theorem AZ {a:Bool} {V:Nat→Bool} {S:Nat→Nat→Int} {v0 v1:Int} (hT:∀ j k,0≤T j k∧T j k≤255) (hmd:4≤md) (hinv:B8 4 V S v0 v1):a7 En 2 (ES md T tx ty te V S v0 v1) (jI a true):=by
 have hv0:=hinv.b0;have hv1:=hinv.b1;have hS:=hinv.bd
 rcases T6 5 md with ⟨b1,b1p⟩|⟨b1,b1p⟩
 ·refine fi 2 [(9,120,false)] 13 (a6 (Bool.not (Nat.ble 5 md)) true) [.h,J1,J6] (.agg [(zi (0)),(zi (500)),.nils,(.sa J2 0 4 3)]) [(J2,(o3 4 V S false false))] J3 (by (try simp only [b1,gS]);(try simp only [gT] at *);try omega) ?_
  exact .inr (.inr (.inl ⟨4,_,_,rfl,rfl,rfl,(aK hinv (by decide) (by decide)),rfl⟩))
 refine t8 5 2 [(9,120,true)] 26 ((AG md v0 T)) (EU md T tx ty te (G6 V 4 false) (i2 S 4 (0::[(Int.add (Int.add v0 (20)) (T 4 0)),(Int.add (10) (Int.tmod (T 4 1) (100)))])) (Int.add (Int.add (Int.add (Int.add v0 (20)) (T 4 0)) (10)) (Int.tmod (T 4 1) (100))) v1) [.h,J1,J2,J3,J4,J5,J8] [1,2,3,9,10] [] ⟨C2 (by kernel_rfl) rfl (by kernel_rfl),trivial⟩ (by have:=n7 (hT 4);have:=o8 (T 4 1) (k:=100) (by decide);(try simp only [b1,gS,kR,Zm,Bq,I6,Zv,AG]);(try simp only [gT] at *);try omega) ?_
 exact AY hT  (by omega) (hinv.push0 (by decide) (hT 4 0) (P4 _ (hT 4 1)))
theorem BA {a:Bool} {V:Nat→Bool} {S:Nat→Nat→Int} {v0 v1:Int} (hT:∀ j k,0≤T j k∧T j k≤255) (hmd:3≤md) (hinv:B8 3 V S v0 v1):a7 En 2 (EP md T tx ty te V S v0 v1) (jI a true):=by
 have hv0:=hinv.b0;have hv1:=hinv.b1;have hS:=hinv.bd
 rcases T6 4 md with ⟨b1,b1p⟩|⟨b1,b1p⟩
 ·refine fi 2 [(9,120,false)] 13 (a6 (Bool.not (Nat.ble 4 md)) true) [.h,J1,J6] (.agg [(zi (0)),(zi (500)),.nils,(.sa J2 0 3 3)]) [(J2,(o3 3 V S false false))] J3 (by (try simp only [b1,gS]);(try simp only [gT] at *);try omega) ?_
  exact .inr (.inr (.inl ⟨3,_,_,rfl,rfl,rfl,(aK hinv (by decide) (by decide)),rfl⟩))
 refine t8 5 2 [(9,120,true)] 26 ((AH md v1 T)) (ES md T tx ty te (G6 V 3 true) (i2 S 3 (0::[(Int.add (Int.add v1 (20)) (T 3 0)),(Int.add (10) (Int.tmod (T 3 1) (100)))])) v0 (Int.add (Int.add (Int.add (Int.add v1 (20)) (T 3 0)) (10)) (Int.tmod (T 3 1) (100)))) [.h,J1,J2,J3,J4,J5,J8] [1,2,3,9,10] [] ⟨C2 (by kernel_rfl) rfl (by kernel_rfl),trivial⟩ (by have:=n7 (hT 3);have:=o8 (T 3 1) (k:=100) (by decide);(try simp only [b1,gS,dC,Zn,Br,I6,jW,Zw,AH]);(try simp only [gT] at *);try omega) ?_
 exact AZ hT  (by omega) (hinv.push1 (by decide) (hT 3 0) (P4 _ (hT 3 1)))
theorem BB {a:Bool} {V:Nat→Bool} {S:Nat→Nat→Int} {v0 v1:Int} (hT:∀ j k,0≤T j k∧T j k≤255) (hmd:2≤md) (hinv:B8 2 V S v0 v1):a7 En 2 (EN md T tx ty te V S v0 v1) (jI a true):=by
 have hv0:=hinv.b0;have hv1:=hinv.b1;have hS:=hinv.bd
 rcases T6 3 md with ⟨b1,b1p⟩|⟨b1,b1p⟩
 ·refine fi 2 [(9,120,false)] 13 (a6 (Bool.not (Nat.ble 3 md)) true) [.h,J1,J6] (.agg [(zi (0)),(zi (500)),.nils,(.sa J2 0 2 3)]) [(J2,(o3 2 V S false false))] J3 (by (try simp only [b1,gS]);(try simp only [gT] at *);try omega) ?_
  exact .inr (.inr (.inl ⟨2,_,_,rfl,rfl,rfl,(aK hinv (by decide) (by decide)),rfl⟩))
 refine t8 5 2 [(9,120,true)] 26 ((AJ md v0 T)) (EP md T tx ty te (G6 V 2 false) (i2 S 2 (0::[(Int.add (Int.add v0 (20)) (T 2 0)),(Int.add (10) (Int.tmod (T 2 1) (100)))])) (Int.add (Int.add (Int.add (Int.add v0 (20)) (T 2 0)) (10)) (Int.tmod (T 2 1) (100))) v1) [.h,J1,J2,J3,J4,J5,J8] [1,2,3,9,10] [] ⟨C2 (by kernel_rfl) rfl (by kernel_rfl),trivial⟩ (by have:=n7 (hT 2);have:=o8 (T 2 1) (k:=100) (by decide);(try simp only [b1,gS,kR,Zo,Bs,I6,Zx,AJ]);(try simp only [gT] at *);try omega) ?_
 exact BA hT  (by omega) (hinv.push0 (by decide) (hT 2 0) (P4 _ (hT 2 1)))
theorem BC {a:Bool} {V:Nat→Bool} {S:Nat→Nat→Int} {v0 v1:Int} (hT:∀ j k,0≤T j k∧T j k≤255) (hmd:1≤md) (hinv:B8 1 V S v0 v1):a7 En 2 (EM md T tx ty te V S v0 v1) (jI a true):=by
 have hv0:=hinv.b0;have hv1:=hinv.b1;have hS:=hinv.bd
 rcases T6 2 md with ⟨b1,b1p⟩|⟨b1,b1p⟩
 ·refine fi 2 [(9,120,false)] 13 (a6 (Bool.not (Nat.ble 2 md)) true) [.h,J1,J6] (.agg [(zi (0)),(zi (500)),.nils,(.sa J2 0 1 3)]) [(J2,(o3 1 V S false false))] J3 (by (try simp only [b1,gS]);(try simp only [gT] at *);try omega) ?_
  exact .inr (.inr (.inl ⟨1,_,_,rfl,rfl,rfl,(aK hinv (by decide) (by decide)),rfl⟩))
 refine t8 5 2 [(9,120,true)] 26 ((AK md v1 T)) (EN md T tx ty te (G6 V 1 true) (i2 S 1 (0::[(Int.add (Int.add v1 (20)) (T 1 0)),(Int.add (10) (Int.tmod (T 1 1) (100)))])) v0 (Int.add (Int.add (Int.add (Int.add v1 (20)) (T 1 0)) (10)) (Int.tmod (T 1 1) (100)))) [.h,J1,J2,J3,J4,J5,J8] [1,2,3,9,10] [] ⟨C2 (by kernel_rfl) rfl (by kernel_rfl),trivial⟩ (by have:=n7 (hT 1);have:=o8 (T 1 1) (k:=100) (by decide);(try simp only [b1,gS,dC,Zp,Bt,I6,jW,Zy,AK]);(try simp only [gT] at *);try omega) ?_
 exact BB hT  (by omega) (hinv.push1 (by decide) (hT 1 0) (P4 _ (hT 1 1)))
theorem Fs {a:Bool} (hT:∀ j k,0≤T j k∧T j k≤255)   : a7 En 2 (Sc md T tx ty te ) (jI a true):=by
 rcases T6 1 md with ⟨b1,b1p⟩|⟨b1,b1p⟩
 ·refine fi 2 [(9,120,false)] 13 (a6 (Bool.not (Nat.ble 1 md)) true) [.h,J1] (.agg [(zi (0)),(zi (500)),.nils,.nils]) [] J2 (by (try simp only [b1,gS]);(try simp only [gT] at *);try omega) ?_
  exact .inl ⟨rfl,rfl⟩
 refine ar 2 [(9,120,true)] 26 ((Zz md T)) (EM md T tx ty te (fun _=>false) (fun _ kk=>List.getD [0,(Int.add (-280) (T 0 0)),(Int.add (10) (Int.tmod (T 0 1) (100)))] kk 0) (Int.add (Int.add (Int.add (-280) (T 0 0)) (10)) (Int.tmod (T 0 1) (100))) (-300)) [.h,J1,J2,J3,J4,J5,J7] [1,2,3,9,10] [] (by have:=n7 (hT 0);have:=o8 (T 0 1) (k:=100) (by decide);(try simp only [b1,gS,Zq,Bu,I6,Zr,Zz]);(try simp only [gT] at *);try omega) ?_
 exact BC hT  (by omega) (YZ (hT 0 0) (P4 _ (hT 0 1)))
theorem BD {c:Nat} {G:Nat→Nat→Int} {V:Nat→Bool} {S:Nat→Nat→Int} {v0 v1:Int} (hT:∀ j k,0≤T j k∧T j k≤255) (hc:c≤100) (hG:∀ j k,-32000≤G j k∧G j k≤32000) (hmd:8≤md) (hinv:B8 8 V S v0 v1):a7 En 2 (FC md T tx ty te c G V S v0 v1) (jI true true):=by
 have hv0:=hinv.b0;have hv1:=hinv.b1;have hS:=hinv.bd
 rcases T6 9 md with ⟨b1,b1p⟩|⟨b1,b1p⟩
 ·refine fi 2 [(9,120,false)] 13 (a6 (Bool.not (Nat.ble 9 md)) true) [.h,J1,J6,J7] (.agg [(zi (0)),(zi (500)),(.sa J2 0 (Nat.succ c) 7),(.sa J3 0 8 3)]) [(J2,(o7 (Nat.succ c) G false false)),(J3,(o3 8 V S false false))] J4 (by (try simp only [b1,gS]);(try simp only [gT] at *);try omega) ?_
  exact .inr (.inr (.inr ⟨Nat.succ c,G,8,_,_,rfl,rfl,rfl,rfl,by omega,by omega,hG,(aK hinv (by decide) (by decide)),rfl,rfl⟩))
 refine fi 2 [(9,120,true)] 13 (a6 (Nat.ble 9 md) true) [.h,J1,J6,J7] (.agg [(zi (0)),(zi (500)),(.sa J2 0 (Nat.succ c) 7),(.sa J3 0 8 3)]) [(J2,(o7 (Nat.succ c) G false false)),(J3,(o3 8 V S false false))] J4 (by (try simp only [b1,gS]);(try simp only [gT] at *);try omega) ?_
 exact .inr (.inr (.inr ⟨Nat.succ c,G,8,_,_,rfl,rfl,rfl,rfl,by omega,by omega,hG,(aK hinv (by decide) (by decide)),rfl,rfl⟩))
theorem BE {c:Nat} {G:Nat→Nat→Int} {V:Nat→Bool} {S:Nat→Nat→Int} {v0 v1:Int} (hT:∀ j k,0≤T j k∧T j k≤255) (hc:c≤100) (hG:∀ j k,-32000≤G j k∧G j k≤32000) (hmd:7≤md) (hinv:B8 7 V S v0 v1):a7 En 2 (FB md T tx ty te c G V S v0 v1) (jI true true):=by
 have hv0:=hinv.b0;have hv1:=hinv.b1;have hS:=hinv.bd
 rcases T6 8 md with ⟨b1,b1p⟩|⟨b1,b1p⟩
 ·refine fi 2 [(9,120,false)] 13 (a6 (Bool.not (Nat.ble 8 md)) true) [.h,J1,J6,J7] (.agg [(zi (0)),(zi (500)),(.sa J2 0 (Nat.succ c) 7),(.sa J3 0 7 3)]) [(J2,(o7 (Nat.succ c) G false false)),(J3,(o3 7 V S false false))] J4 (by (try simp only [b1,gS]);(try simp only [gT] at *);try omega) ?_
  exact .inr (.inr (.inr ⟨Nat.succ c,G,7,_,_,rfl,rfl,rfl,rfl,by omega,by omega,hG,(aK hinv (by decide) (by decide)),rfl,rfl⟩))
 refine t8 6 2 [(9,120,true)] 26 ((AA md v1 T)) (FC md T tx ty te c G (G6 V 7 true) (i2 S 7 (0::[(Int.add (Int.add v1 (20)) (T 7 0)),(Int.add (10) (Int.tmod (T 7 1) (100)))])) v0 (Int.add (Int.add (Int.add (Int.add v1 (20)) (T 7 0)) (10)) (Int.tmod (T 7 1) (100)))) [.h,J1,J2,J3,J4,J5,J6,J9] [1,2,3,9,10] [] ⟨C2 (by kernel_rfl) rfl (by kernel_rfl),trivial⟩ (by have:=n7 (hT 7);have:=o8 (T 7 1) (k:=100) (by decide);(try simp only [b1,gS,dC,Zj,Bn,I6,jW,Zs,AA]);(try simp only [gT] at *);try omega) ?_
 exact BD hT hc hG (by omega) (hinv.push1 (by decide) (hT 7 0) (P4 _ (hT 7 1)))
theorem BF {c:Nat} {G:Nat→Nat→Int} {V:Nat→Bool} {S:Nat→Nat→Int} {v0 v1:Int} (hT:∀ j k,0≤T j k∧T j k≤255) (hc:c≤100) (hG:∀ j k,-32000≤G j k∧G j k≤32000) (hmd:6≤md) (hinv:B8 6 V S v0 v1):a7 En 2 (EZ md T tx ty te c G V S v0 v1) (jI true true):=by
 have hv0:=hinv.b0;have hv1:=hinv.b1;have hS:=hinv.bd
 rcases T6 7 md with ⟨b1,b1p⟩|⟨b1,b1p⟩
 ·refine fi 2 [(9,120,false)] 13 (a6 (Bool.not (Nat.ble 7 md)) true) [.h,J1,J6,J7] (.agg [(zi (0)),(zi (500)),(.sa J2 0 (Nat.succ c) 7),(.sa J3 0 6 3)]) [(J2,(o7 (Nat.succ c) G false false)),(J3,(o3 6 V S false false))] J4 (by (try simp only [b1,gS]);(try simp only [gT] at *);try omega) ?_
  exact .inr (.inr (.inr ⟨Nat.succ c,G,6,_,_,rfl,rfl,rfl,rfl,by omega,by omega,hG,(aK hinv (by decide) (by decide)),rfl,rfl⟩))
 refine t8 6 2 [(9,120,true)] 26 ((AC md v0 T)) (FB md T tx ty te c G (G6 V 6 false) (i2 S 6 (0::[(Int.add (Int.add v0 (20)) (T 6 0)),(Int.add (10) (Int.tmod (T 6 1) (100)))])) (Int.add (Int.add (Int.add (Int.add v0 (20)) (T 6 0)) (10)) (Int.tmod (T 6 1) (100))) v1) [.h,J1,J2,J3,J4,J5,J6,J9] [1,2,3,9,10] [] ⟨C2 (by kernel_rfl) rfl (by kernel_rfl),trivial⟩ (by have:=n7 (hT 6);have:=o8 (T 6 1) (k:=100) (by decide);(try simp only [b1,gS,kR,Zk,Bo,I6,Zt,AC]);(try simp only [gT] at *);try omega) ?_
 exact BE hT hc hG (by omega) (hinv.push0 (by decide) (hT 6 0) (P4 _ (hT 6 1)))
theorem BG {c:Nat} {G:Nat→Nat→Int} {V:Nat→Bool} {S:Nat→Nat→Int} {v0 v1:Int} (hT:∀ j k,0≤T j k∧T j k≤255) (hc:c≤100) (hG:∀ j k,-32000≤G j k∧G j k≤32000) (hmd:5≤md) (hinv:B8 5 V S v0 v1):a7 En 2 (EX md T tx ty te c G V S v0 v1) (jI true true):=by
 have hv0:=hinv.b0;have hv1:=hinv.b1;have hS:=hinv.bd
 rcases T6 6 md with ⟨b1,b1p⟩|⟨b1,b1p⟩
 ·refine fi 2 [(9,120,false)] 13 (a6 (Bool.not (Nat.ble 6 md)) true) [.h,J1,J6,J7] (.agg [(zi (0)),(zi (500)),(.sa J2 0 (Nat.succ c) 7),(.sa J3 0 5 3)]) [(J2,(o7 (Nat.succ c) G false false)),(J3,(o3 5 V S false false))] J4 (by (try simp only [b1,gS]);(try simp only [gT] at *);try omega) ?_
  exact .inr (.inr (.inr ⟨Nat.succ c,G,5,_,_,rfl,rfl,rfl,rfl,by omega,by omega,hG,(aK hinv (by decide) (by decide)),rfl,rfl⟩))
 refine t8 6 2 [(9,120,true)] 26 ((AE md v1 T)) (EZ md T tx ty te c G (G6 V 5 true) (i2 S 5 (0::[(Int.add (Int.add v1 (20)) (T 5 0)),(Int.add (10) (Int.tmod (T 5 1) (100)))])) v0 (Int.add (Int.add (Int.add (Int.add v1 (20)) (T 5 0)) (10)) (Int.tmod (T 5 1) (100)))) [.h,J1,J2,J3,J4,J5,J6,J9] [1,2,3,9,10] [] ⟨C2 (by kernel_rfl) rfl (by kernel_rfl),trivial⟩ (by have:=n7 (hT 5);have:=o8 (T 5 1) (k:=100) (by decide);(try simp only [b1,gS,dC,Zl,Bp,I6,jW,Zu,AE]);(try simp only [gT] at *);try omega) ?_
 exact BF hT hc hG (by omega) (hinv.push1 (by decide) (hT 5 0) (P4 _ (hT 5 1)))
theorem BH {c:Nat} {G:Nat→Nat→Int} {V:Nat→Bool} {S:Nat→Nat→Int} {v0 v1:Int} (hT:∀ j k,0≤T j k∧T j k≤255) (hc:c≤100) (hG:∀ j k,-32000≤G j k∧G j k≤32000) (hmd:4≤md) (hinv:B8 4 V S v0 v1):a7 En 2 (EV md T tx ty te c G V S v0 v1) (jI true true):=by
 have hv0:=hinv.b0;have hv1:=hinv.b1;have hS:=hinv.bd
 rcases T6 5 md with ⟨b1,b1p⟩|⟨b1,b1p⟩
 ·refine fi 2 [(9,120,false)] 13 (a6 (Bool.not (Nat.ble 5 md)) true) [.h,J1,J6,J7] (.agg [(zi (0)),(zi (500)),(.sa J2 0 (Nat.succ c) 7),(.sa J3 0 4 3)]) [(J2,(o7 (Nat.succ c) G false false)),(J3,(o3 4 V S false false))] J4 (by (try simp only [b1,gS]);(try simp only [gT] at *);try omega) ?_
  exact .inr (.inr (.inr ⟨Nat.succ c,G,4,_,_,rfl,rfl,rfl,rfl,by omega,by omega,hG,(aK hinv (by decide) (by decide)),rfl,rfl⟩))
 refine t8 6 2 [(9,120,true)] 26 ((AG md v0 T)) (EX md T tx ty te c G (G6 V 4 false) (i2 S 4 (0::[(Int.add (Int.add v0 (20)) (T 4 0)),(Int.add (10) (Int.tmod (T 4 1) (100)))])) (Int.add (Int.add (Int.add (Int.add v0 (20)) (T 4 0)) (10)) (Int.tmod (T 4 1) (100))) v1) [.h,J1,J2,J3,J4,J5,J6,J9] [1,2,3,9,10] [] ⟨C2 (by kernel_rfl) rfl (by kernel_rfl),trivial⟩ (by have:=n7 (hT 4);have:=o8 (T 4 1) (k:=100) (by decide);(try simp only [b1,gS,kR,Zm,Bq,I6,Zv,AG]);(try simp only [gT] at *);try omega) ?_
 exact BG hT hc hG (by omega) (hinv.push0 (by decide) (hT 4 0) (P4 _ (hT 4 1)))
theorem BI {c:Nat} {G:Nat→Nat→Int} {V:Nat→Bool} {S:Nat→Nat→Int} {v0 v1:Int} (hT:∀ j k,0≤T j k∧T j k≤255) (hc:c≤100) (hG:∀ j k,-32000≤G j k∧G j k≤32000) (hmd:3≤md) (hinv:B8 3 V S v0 v1):a7 En 2 (ET md T tx ty te c G V S v0 v1) (jI true true):=by
 have hv0:=hinv.b0;have hv1:=hinv.b1;have hS:=hinv.bd
 rcases T6 4 md with ⟨b1,b1p⟩|⟨b1,b1p⟩
 ·refine fi 2 [(9,120,false)] 13 (a6 (Bool.not (Nat.ble 4 md)) true) [.h,J1,J6,J7] (.agg [(zi (0)),(zi (500)),(.sa J2 0 (Nat.succ c) 7),(.sa J3 0 3 3)]) [(J2,(o7 (Nat.succ c) G false false)),(J3,(o3 3 V S false false))] J4 (by (try simp only [b1,gS]);(try simp only [gT] at *);try omega) ?_
  exact .inr (.inr (.inr ⟨Nat.succ c,G,3,_,_,rfl,rfl,rfl,rfl,by omega,by omega,hG,(aK hinv (by decide) (by decide)),rfl,rfl⟩))
 refine t8 6 2 [(9,120,true)] 26 ((AH md v1 T)) (EV md T tx ty te c G (G6 V 3 true) (i2 S 3 (0::[(Int.add (Int.add v1 (20)) (T 3 0)),(Int.add (10) (Int.tmod (T 3 1) (100)))])) v0 (Int.add (Int.add (Int.add (Int.add v1 (20)) (T 3 0)) (10)) (Int.tmod (T 3 1) (100)))) [.h,J1,J2,J3,J4,J5,J6,J9] [1,2,3,9,10] [] ⟨C2 (by kernel_rfl) rfl (by kernel_rfl),trivial⟩ (by have:=n7 (hT 3);have:=o8 (T 3 1) (k:=100) (by decide);(try simp only [b1,gS,dC,Zn,Br,I6,jW,Zw,AH]);(try simp only [gT] at *);try omega) ?_
 exact BH hT hc hG (by omega) (hinv.push1 (by decide) (hT 3 0) (P4 _ (hT 3 1)))
theorem BJ {c:Nat} {G:Nat→Nat→Int} {V:Nat→Bool} {S:Nat→Nat→Int} {v0 v1:Int} (hT:∀ j k,0≤T j k∧T j k≤255) (hc:c≤100) (hG:∀ j k,-32000≤G j k∧G j k≤32000) (hmd:2≤md) (hinv:B8 2 V S v0 v1):a7 En 2 (EQ md T tx ty te c G V S v0 v1) (jI true true):=by
 have hv0:=hinv.b0;have hv1:=hinv.b1;have hS:=hinv.bd
 rcases T6 3 md with ⟨b1,b1p⟩|⟨b1,b1p⟩
 ·refine fi 2 [(9,120,false)] 13 (a6 (Bool.not (Nat.ble 3 md)) true) [.h,J1,J6,J7] (.agg [(zi (0)),(zi (500)),(.sa J2 0 (Nat.succ c) 7),(.sa J3 0 2 3)]) [(J2,(o7 (Nat.succ c) G false false)),(J3,(o3 2 V S false false))] J4 (by (try simp only [b1,gS]);(try simp only [gT] at *);try omega) ?_
  exact .inr (.inr (.inr ⟨Nat.succ c,G,2,_,_,rfl,rfl,rfl,rfl,by omega,by omega,hG,(aK hinv (by decide) (by decide)),rfl,rfl⟩))
 refine t8 6 2 [(9,120,true)] 26 ((AJ md v0 T)) (ET md T tx ty te c G (G6 V 2 false) (i2 S 2 (0::[(Int.add (Int.add v0 (20)) (T 2 0)),(Int.add (10) (Int.tmod (T 2 1) (100)))])) (Int.add (Int.add (Int.add (Int.add v0 (20)) (T 2 0)) (10)) (Int.tmod (T 2 1) (100))) v1) [.h,J1,J2,J3,J4,J5,J6,J9] [1,2,3,9,10] [] ⟨C2 (by kernel_rfl) rfl (by kernel_rfl),trivial⟩ (by have:=n7 (hT 2);have:=o8 (T 2 1) (k:=100) (by decide);(try simp only [b1,gS,kR,Zo,Bs,I6,Zx,AJ]);(try simp only [gT] at *);try omega) ?_
 exact BI hT hc hG (by omega) (hinv.push0 (by decide) (hT 2 0) (P4 _ (hT 2 1)))
theorem BK {c:Nat} {G:Nat→Nat→Int} {V:Nat→Bool} {S:Nat→Nat→Int} {v0 v1:Int} (hT:∀ j k,0≤T j k∧T j k≤255) (hc:c≤100) (hG:∀ j k,-32000≤G j k∧G j k≤32000) (hmd:1≤md) (hinv:B8 1 V S v0 v1):a7 En 2 (EO md T tx ty te c G V S v0 v1) (jI true true):=by
 have hv0:=hinv.b0;have hv1:=hinv.b1;have hS:=hinv.bd
 rcases T6 2 md with ⟨b1,b1p⟩|⟨b1,b1p⟩
 ·refine fi 2 [(9,120,false)] 13 (a6 (Bool.not (Nat.ble 2 md)) true) [.h,J1,J6,J7] (.agg [(zi (0)),(zi (500)),(.sa J2 0 (Nat.succ c) 7),(.sa J3 0 1 3)]) [(J2,(o7 (Nat.succ c) G false false)),(J3,(o3 1 V S false false))] J4 (by (try simp only [b1,gS]);(try simp only [gT] at *);try omega) ?_
  exact .inr (.inr (.inr ⟨Nat.succ c,G,1,_,_,rfl,rfl,rfl,rfl,by omega,by omega,hG,(aK hinv (by decide) (by decide)),rfl,rfl⟩))
 refine t8 6 2 [(9,120,true)] 26 ((AK md v1 T)) (EQ md T tx ty te c G (G6 V 1 true) (i2 S 1 (0::[(Int.add (Int.add v1 (20)) (T 1 0)),(Int.add (10) (Int.tmod (T 1 1) (100)))])) v0 (Int.add (Int.add (Int.add (Int.add v1 (20)) (T 1 0)) (10)) (Int.tmod (T 1 1) (100)))) [.h,J1,J2,J3,J4,J5,J6,J9] [1,2,3,9,10] [] ⟨C2 (by kernel_rfl) rfl (by kernel_rfl),trivial⟩ (by have:=n7 (hT 1);have:=o8 (T 1 1) (k:=100) (by decide);(try simp only [b1,gS,dC,Zp,Bt,I6,jW,Zy,AK]);(try simp only [gT] at *);try omega) ?_
 exact BJ hT hc hG (by omega) (hinv.push1 (by decide) (hT 1 0) (P4 _ (hT 1 1)))
theorem Ft {c:Nat} {G:Nat→Nat→Int} (hT:∀ j k,0≤T j k∧T j k≤255) (hc:c≤100) (hG:∀ j k,-32000≤G j k∧G j k≤32000)  : a7 En 2 (Sd md T tx ty te c G ) (jI true true):=by
 rcases T6 1 md with ⟨b1,b1p⟩|⟨b1,b1p⟩
 ·refine fi 2 [(9,120,false)] 13 (a6 (Bool.not (Nat.ble 1 md)) true) [.h,J1,J6] (.agg [(zi (0)),(zi (500)),(.sa J2 0 (Nat.succ c) 7),.nils]) [(J2,(o7 (Nat.succ c) G false false))] J3 (by (try simp only [b1,gS]);(try simp only [gT] at *);try omega) ?_
  exact .inr (.inl ⟨Nat.succ c,G,rfl,rfl,rfl,by omega,by omega,hG,rfl⟩)
 refine ar 2 [(9,120,true)] 26 ((Zz md T)) (EO md T tx ty te c G (fun _=>false) (fun _ kk=>List.getD [0,(Int.add (-280) (T 0 0)),(Int.add (10) (Int.tmod (T 0 1) (100)))] kk 0) (Int.add (Int.add (Int.add (-280) (T 0 0)) (10)) (Int.tmod (T 0 1) (100))) (-300)) [.h,J1,J2,J3,J4,J5,J6,J8] [1,2,3,9,10] [] (by have:=n7 (hT 0);have:=o8 (T 0 1) (k:=100) (by decide);(try simp only [b1,gS,Zq,Bu,I6,Zr,Zz]);(try simp only [gT] at *);try omega) ?_
 exact BK hT hc hG (by omega) (YZ (hT 0 0) (P4 _ (hT 0 1)))
theorem BL (hD:∀ j k,-32768≤D j k∧D j k≤32767) (hD0:∀ j,0≤D j 0) (hT:∀ j k,0≤T j k∧T j k≤255) (d:Nat):∀ (i:Nat) (G:Nat→Nat→Int),20 - i=d→i+1≤nd→i+1≤20→(∀ j k,-32000≤G j k∧G j k≤32000)→a7 En 2 (fU nd D dx dy de md T tx ty te i G) (jI true true):=by
 induction d using Nat.strongRecOn with
 | ind d IH =>
   intro i G hd hi hi20 hG
   have ih:∀ (l:List Int),i+2≤nd→i+2≤20→(∀ z ∈ l,-32000≤z∧z≤32000)→a7 En 2 (fU nd D dx dy de md T tx ty te (Nat.succ i) (i2 G (Nat.succ i) l)) (jI true true):=fun l h1 h2 h3 =>
    IH (20 - (i+1)) (by omega) (i+1) _ rfl (by omega) (by omega) (M9 (by decide) hG (Nat.succ i) h3)
   clear IH
   rcases T6 (Nat.succ (Nat.succ i)) nd with ⟨b1,b1p⟩|⟨b1,b1p⟩
   ·refine t8 1 2 [(9,18,false)] 19 ((a6 (Bool.not (F3 i nd)) true)) (Sd md T tx ty te i G) [.h,J1,J2,J3,J4,J6,J5] [1,2,3,9,10] [] ⟨Fq (.sa .h 0 nd 7) (by kernel_rfl),.inl (by kernel_rfl),.inl (by kernel_rfl),.inl (by kernel_rfl),.inl (by kernel_rfl),trivial⟩ (by have hk0:=w6 (D (Nat.succ i) 0) (k:=6) (hD0 (Nat.succ i));(try simp only [b1,gS,F3]);(try simp only [gT] at *);try omega) ?_
    exact Ft hT (by omega) hG
   rcases T6 (Nat.succ (Nat.succ i)) 20 with ⟨b2,b2p⟩|⟨b2,b2p⟩
   ·refine t8 1 2 [(9,18,true),(4,21,false)] 15 ((a6 (F3 i nd) (a6 (Bool.not (R9 i)) true))) (Sd md T tx ty te i G) [.h,J1,J2,J3,J4,J6,J5] [1,2,3,9,10] [] ⟨Fq (.sa .h 0 nd 7) (by kernel_rfl),.inl (by kernel_rfl),.inl (by kernel_rfl),.inl (by kernel_rfl),.inl (by kernel_rfl),trivial⟩ (by have hk0:=w6 (D (Nat.succ i) 0) (k:=6) (hD0 (Nat.succ i));(try simp only [b1,b2,gS,F3,R9]);(try simp only [gT] at *);try omega) ?_
    exact Ft hT (by omega) hG
   rcases ci (G (Int.toNat (Int.sub (.ofNat (Nat.succ i)) (1))) 0) (4) with ⟨b3,b3p⟩|⟨b3,b3p⟩
   ·rcases ci (d7 (Nat.beq (Int.toNat (Int.tmod (D (Nat.succ i) 0) (6))) 0) (2) (d7 (Nat.beq (Int.toNat (Int.tmod (D (Nat.succ i) 0) (6))) 1) (3) (d7 (Nat.beq (Int.toNat (Int.tmod (D (Nat.succ i) 0) (6))) 2) (2) (d7 (Nat.beq (Int.toNat (Int.tmod (D (Nat.succ i) 0) (6))) 3) (3) (d7 (Nat.beq (Int.toNat (Int.tmod (D (Nat.succ i) 0) (6))) 4) (4) (d7 (Nat.beq (Int.toNat (Int.tmod (D (Nat.succ i) 0) (6))) 5) (1) (0))))))) (1) with ⟨b4,b4p⟩|⟨b4,b4p⟩
    ·rcases ci (d7 (Nat.beq (Int.toNat (Int.tmod (D (Nat.succ i) 0) (6))) 0) (2) (d7 (Nat.beq (Int.toNat (Int.tmod (D (Nat.succ i) 0) (6))) 1) (3) (d7 (Nat.beq (Int.toNat (Int.tmod (D (Nat.succ i) 0) (6))) 2) (2) (d7 (Nat.beq (Int.toNat (Int.tmod (D (Nat.succ i) 0) (6))) 3) (3) (d7 (Nat.beq (Int.toNat (Int.tmod (D (Nat.succ i) 0) (6))) 4) (4) (d7 (Nat.beq (Int.toNat (Int.tmod (D (Nat.succ i) 0) (6))) 5) (1) (0))))))) (4) with ⟨b5,b5p⟩|⟨b5,b5p⟩
     ·rcases ci (d7 (Nat.beq (Int.toNat (Int.tmod (D (Nat.succ i) 0) (6))) 0) (2) (d7 (Nat.beq (Int.toNat (Int.tmod (D (Nat.succ i) 0) (6))) 1) (3) (d7 (Nat.beq (Int.toNat (Int.tmod (D (Nat.succ i) 0) (6))) 2) (2) (d7 (Nat.beq (Int.toNat (Int.tmod (D (Nat.succ i) 0) (6))) 3) (3) (d7 (Nat.beq (Int.toNat (Int.tmod (D (Nat.succ i) 0) (6))) 4) (4) (d7 (Nat.beq (Int.toNat (Int.tmod (D (Nat.succ i) 0) (6))) 5) (1) (0))))))) (3) with ⟨b6,b6p⟩|⟨b6,b6p⟩
      ·refine t8 5 2 [(9,18,true),(4,21,true),(106,72,false),(11,69,false),(7,87,false),(36,5,false),(6,7,false)] 85 ((AR i nd D G)) (fU nd D dx dy de md T tx ty te (Nat.succ i) (i2 G (Nat.succ i) [(d7 (Nat.beq (Int.toNat (Int.tmod (D (Nat.succ i) 0) (6))) 0) (2) (d7 (Nat.beq (Int.toNat (Int.tmod (D (Nat.succ i) 0) (6))) 1) (3) (d7 (Nat.beq (Int.toNat (Int.tmod (D (Nat.succ i) 0) (6))) 2) (2) (d7 (Nat.beq (Int.toNat (Int.tmod (D (Nat.succ i) 0) (6))) 3) (3) (d7 (Nat.beq (Int.toNat (Int.tmod (D (Nat.succ i) 0) (6))) 4) (4) (d7 (Nat.beq (Int.toNat (Int.tmod (D (Nat.succ i) 0) (6))) 5) (1) (0))))))),(Int.tmod (D (Nat.succ i) 1) (1001)),(Int.tmod (D (Nat.succ i) 2) (1001)),(0),(0),(0),(0)])) [.h,J1,J2,J3,J4,nQ] [1,2,3,4] [] ⟨f7 (by kernel_rfl) rfl (by kernel_rfl),trivial⟩ (by have:=n7 (hD (Nat.succ i));have:=hG (Int.toNat (Int.sub (.ofNat (Nat.succ i)) (1))) 0;have:=o8 (D (Nat.succ i) 0) (k:=6) (by decide);have hk0:=w6 (D (Nat.succ i) 0) (k:=6) (hD0 (Nat.succ i));(try simp only [b1,b2,b3,b4,b5,b6,gS,Y4,bN,F3,R9,N7,W4,U4,O3,U5,Y5,T0,Y6,AR]);(try simp only [gT] at *);try omega) ?_
       exact ih _ (by omega) (by omega) (Fr (by first|exact i1 _|decide|(repeat' (first|decide|apply d6))) (by first|exact i1 _|decide|(repeat' (first|decide|apply d6))) (by first|exact i1 _|decide|(repeat' (first|decide|apply d6))) (by first|exact i1 _|decide|(repeat' (first|decide|apply d6))) (by first|exact i1 _|decide|(repeat' (first|decide|apply d6))) (by first|exact i1 _|decide|(repeat' (first|decide|apply d6))) (by first|exact i1 _|decide|(repeat' (first|decide|apply d6))))
      refine t8 5 2 [(9,18,true),(4,21,true),(106,72,false),(11,69,false),(7,87,false),(36,5,false),(6,7,true)] 35 ((AQ i nd D G)) (fU nd D dx dy de md T tx ty te (Nat.succ i) (i2 G (Nat.succ i) [(d7 (Nat.beq (Int.toNat (Int.tmod (D (Nat.succ i) 0) (6))) 0) (2) (d7 (Nat.beq (Int.toNat (Int.tmod (D (Nat.succ i) 0) (6))) 1) (3) (d7 (Nat.beq (Int.toNat (Int.tmod (D (Nat.succ i) 0) (6))) 2) (2) (d7 (Nat.beq (Int.toNat (Int.tmod (D (Nat.succ i) 0) (6))) 3) (3) (d7 (Nat.beq (Int.toNat (Int.tmod (D (Nat.succ i) 0) (6))) 4) (4) (d7 (Nat.beq (Int.toNat (Int.tmod (D (Nat.succ i) 0) (6))) 5) (1) (0))))))),(Int.tmod (D (Nat.succ i) 1) (1001)),(Int.tmod (D (Nat.succ i) 2) (1001)),(Int.tmod (D (Nat.succ i) 3) (1001)),(Int.tmod (D (Nat.succ i) 4) (1001)),(Int.tmod (D (Nat.succ i) 5) (1001)),(Int.tmod (D (Nat.succ i) 6) (1001))])) [.h,J1,J2,J3,J4,nQ] [1,2,3,4] [] ⟨f7 (by kernel_rfl) rfl (by kernel_rfl),trivial⟩ (by have:=n7 (hD (Nat.succ i));have:=hG (Int.toNat (Int.sub (.ofNat (Nat.succ i)) (1))) 0;have:=o8 (D (Nat.succ i) 0) (k:=6) (by decide);have hk0:=w6 (D (Nat.succ i) 0) (k:=6) (hD0 (Nat.succ i));(try simp only [b1,b2,b3,b4,b5,b6,gS,Y4,bN,F3,R9,N7,W4,U4,O3,U5,Y5,T0,Y6,AQ]);(try simp only [gT] at *);try omega) ?_
      exact ih _ (by omega) (by omega) (Fr (by first|exact i1 _|decide|(repeat' (first|decide|apply d6))) (by first|exact i1 _|decide|(repeat' (first|decide|apply d6))) (by first|exact i1 _|decide|(repeat' (first|decide|apply d6))) (by first|exact i1 _|decide|(repeat' (first|decide|apply d6))) (by first|exact i1 _|decide|(repeat' (first|decide|apply d6))) (by first|exact i1 _|decide|(repeat' (first|decide|apply d6))) (by first|exact i1 _|decide|(repeat' (first|decide|apply d6))))
     refine t8 5 2 [(9,18,true),(4,21,true),(106,72,false),(11,69,false),(7,87,false),(36,5,true)] 107 ((AP i nd D G)) (fU nd D dx dy de md T tx ty te (Nat.succ i) (i2 G (Nat.succ i) [(d7 (Nat.beq (Int.toNat (Int.tmod (D (Nat.succ i) 0) (6))) 0) (2) (d7 (Nat.beq (Int.toNat (Int.tmod (D (Nat.succ i) 0) (6))) 1) (3) (d7 (Nat.beq (Int.toNat (Int.tmod (D (Nat.succ i) 0) (6))) 2) (2) (d7 (Nat.beq (Int.toNat (Int.tmod (D (Nat.succ i) 0) (6))) 3) (3) (d7 (Nat.beq (Int.toNat (Int.tmod (D (Nat.succ i) 0) (6))) 4) (4) (d7 (Nat.beq (Int.toNat (Int.tmod (D (Nat.succ i) 0) (6))) 5) (1) (0))))))),(0),(0),(0),(0),(0),(0)])) [.h,J1,J2,J3,J4,nQ] [1,2,3,4] [] ⟨f7 (by kernel_rfl) rfl (by kernel_rfl),trivial⟩ (by have:=n7 (hD (Nat.succ i));have:=hG (Int.toNat (Int.sub (.ofNat (Nat.succ i)) (1))) 0;have:=o8 (D (Nat.succ i) 0) (k:=6) (by decide);have hk0:=w6 (D (Nat.succ i) 0) (k:=6) (hD0 (Nat.succ i));(try simp only [b1,b2,b3,b4,b5,gS,Y4,bN,F3,R9,N7,W4,U4,O3,U5,Y5,T0,Y6,AP]);(try simp only [gT] at *);try omega) ?_
     exact ih _ (by omega) (by omega) (Fr (by first|exact i1 _|decide|(repeat' (first|decide|apply d6))) (by first|exact i1 _|decide|(repeat' (first|decide|apply d6))) (by first|exact i1 _|decide|(repeat' (first|decide|apply d6))) (by first|exact i1 _|decide|(repeat' (first|decide|apply d6))) (by first|exact i1 _|decide|(repeat' (first|decide|apply d6))) (by first|exact i1 _|decide|(repeat' (first|decide|apply d6))) (by first|exact i1 _|decide|(repeat' (first|decide|apply d6))))
    rcases ci (G (Int.toNat (Int.sub (.ofNat (Nat.succ i)) (1))) 0) (1) with ⟨b7,b7p⟩|⟨b7,b7p⟩
    ·refine t8 5 2 [(9,18,true),(4,21,true),(106,72,false),(11,69,false),(7,87,true),(11,83,false),(25,5,false),(6,7,false)] 85 ((AS i nd D G)) (fU nd D dx dy de md T tx ty te (Nat.succ i) (i2 G (Nat.succ i) [(d7 (Nat.beq (Int.toNat (Int.tmod (D (Nat.succ i) 0) (6))) 0) (2) (d7 (Nat.beq (Int.toNat (Int.tmod (D (Nat.succ i) 0) (6))) 1) (3) (d7 (Nat.beq (Int.toNat (Int.tmod (D (Nat.succ i) 0) (6))) 2) (2) (d7 (Nat.beq (Int.toNat (Int.tmod (D (Nat.succ i) 0) (6))) 3) (3) (d7 (Nat.beq (Int.toNat (Int.tmod (D (Nat.succ i) 0) (6))) 4) (4) (d7 (Nat.beq (Int.toNat (Int.tmod (D (Nat.succ i) 0) (6))) 5) (1) (0))))))),(Int.tmod (D (Nat.succ i) 1) (1001)),(Int.tmod (D (Nat.succ i) 2) (1001)),(0),(0),(0),(0)])) [.h,J1,J2,J3,J4,nQ] [1,2,3,4] [] ⟨f7 (by kernel_rfl) rfl (by kernel_rfl),trivial⟩ (by have:=n7 (hD (Nat.succ i));have:=hG (Int.toNat (Int.sub (.ofNat (Nat.succ i)) (1))) 0;have:=o8 (D (Nat.succ i) 0) (k:=6) (by decide);have hk0:=w6 (D (Nat.succ i) 0) (k:=6) (hD0 (Nat.succ i));(try simp only [b1,b2,b3,b4,b7,gS,Y4,bN,F3,R9,N7,W4,U4,O3,U5,Y5,T0,Y6,AS]);(try simp only [gT] at *);try omega) ?_
     exact ih _ (by omega) (by omega) (Fr (by first|exact i1 _|decide|(repeat' (first|decide|apply d6))) (by first|exact i1 _|decide|(repeat' (first|decide|apply d6))) (by first|exact i1 _|decide|(repeat' (first|decide|apply d6))) (by first|exact i1 _|decide|(repeat' (first|decide|apply d6))) (by first|exact i1 _|decide|(repeat' (first|decide|apply d6))) (by first|exact i1 _|decide|(repeat' (first|decide|apply d6))) (by first|exact i1 _|decide|(repeat' (first|decide|apply d6))))
    refine t8 5 2 [(9,18,true),(4,21,true),(106,72,false),(11,69,false),(7,87,true),(11,83,true)] 119 ((AN i nd D G)) (fU nd D dx dy de md T tx ty te (Nat.succ i) (i2 G (Nat.succ i) [(2),(Int.tmod (D (Nat.succ i) 1) (1001)),(Int.tmod (D (Nat.succ i) 2) (1001)),(0),(0),(0),(0)])) [.h,J1,J2,J3,J4,nQ] [1,2,3,4] [] ⟨f7 (by kernel_rfl) rfl (by kernel_rfl),trivial⟩ (by have:=hG (Int.toNat (Int.sub (.ofNat (Nat.succ i)) (1))) 0;have:=n7 (hD (Nat.succ i));have:=o8 (D (Nat.succ i) 0) (k:=6) (by decide);have hk0:=w6 (D (Nat.succ i) 0) (k:=6) (hD0 (Nat.succ i));(try simp only [b1,b2,b3,b4,b7,gS,Y4,bN,F3,R9,N7,W4,U4,O3,U5,Y5,T0,Y6,AN]);(try simp only [gT] at *);try omega) ?_
    exact ih _ (by omega) (by omega) (Fr (by first|exact i1 _|decide|(repeat' (first|decide|apply d6))) (by first|exact i1 _|decide|(repeat' (first|decide|apply d6))) (by first|exact i1 _|decide|(repeat' (first|decide|apply d6))) (by first|exact i1 _|decide|(repeat' (first|decide|apply d6))) (by first|exact i1 _|decide|(repeat' (first|decide|apply d6))) (by first|exact i1 _|decide|(repeat' (first|decide|apply d6))) (by first|exact i1 _|decide|(repeat' (first|decide|apply d6))))
   refine t8 5 2 [(9,18,true),(4,21,true),(106,72,false),(11,69,true)] 119 ((a6 (F3 i nd) (a6 (R9 i) (a6 (Y6 i nd D) (a6 (Y4 i) (a6 (U5 i) (a6 (c9 (U4 G i) (4)) (Y5 i)))))))) (fU nd D dx dy de md T tx ty te (Nat.succ i) (i2 G (Nat.succ i) [(1),(Int.tmod (D (Nat.succ i) 1) (1001)),(Int.tmod (D (Nat.succ i) 2) (1001)),(0),(0),(0),(0)])) [.h,J1,J2,J3,J4,nQ] [1,2,3,4] [] ⟨f7 (by kernel_rfl) rfl (by kernel_rfl),trivial⟩ (by have:=hG (Int.toNat (Int.sub (.ofNat (Nat.succ i)) (1))) 0;have:=n7 (hD (Nat.succ i));have:=o8 (D (Nat.succ i) 0) (k:=6) (by decide);have hk0:=w6 (D (Nat.succ i) 0) (k:=6) (hD0 (Nat.succ i));(try simp only [b1,b2,b3,gS,Y4,bN,F3,R9,N7,W4,U4,O3,U5,Y5,Y6]);(try simp only [gT] at *);try omega) ?_
   exact ih _ (by omega) (by omega) (Fr (by first|exact i1 _|decide|(repeat' (first|decide|apply d6))) (by first|exact i1 _|decide|(repeat' (first|decide|apply d6))) (by first|exact i1 _|decide|(repeat' (first|decide|apply d6))) (by first|exact i1 _|decide|(repeat' (first|decide|apply d6))) (by first|exact i1 _|decide|(repeat' (first|decide|apply d6))) (by first|exact i1 _|decide|(repeat' (first|decide|apply d6))) (by first|exact i1 _|decide|(repeat' (first|decide|apply d6))))
theorem BM (hD:∀ j k,-32768≤D j k∧D j k≤32767) (hD0:∀ j,0≤D j 0) (d:Nat):∀ (i:Nat) (G:Nat→Nat→Int),20 - i=d→i+1≤nd→i+1≤20→(∀ j k,-32000≤G j k∧G j k≤32000)→a7 En 2 (fV nd D dx dy de i G) (jI true false):=by
 induction d using Nat.strongRecOn with
 | ind d IH =>
   intro i G hd hi hi20 hG
   have ih:∀ (l:List Int),i+2≤nd→i+2≤20→(∀ z ∈ l,-32000≤z∧z≤32000)→a7 En 2 (fV nd D dx dy de (Nat.succ i) (i2 G (Nat.succ i) l)) (jI true false):=fun l h1 h2 h3 =>
    IH (20 - (i+1)) (by omega) (i+1) _ rfl (by omega) (by omega) (M9 (by decide) hG (Nat.succ i) h3)
   clear IH
   rcases T6 (Nat.succ (Nat.succ i)) nd with ⟨b1,b1p⟩|⟨b1,b1p⟩
   ·refine fi 2 [(9,18,false)] 41 ((a6 (Bool.not (F3 i nd)) true)) [.h,J1,J5] (.agg [(zi (0)),(zi (500)),(.sa J2 0 (Nat.succ i) 7),.nils]) [(J2,(o7 (Nat.succ i) G false false))] J3 (by have hk0:=w6 (D (Nat.succ i) 0) (k:=6) (hD0 (Nat.succ i));(try simp only [b1,gS,F3]);(try simp only [gT] at *);try omega) ?_
    exact .inr (.inl ⟨Nat.succ i,G,rfl,rfl,rfl,by omega,by omega,hG,rfl⟩)
   rcases T6 (Nat.succ (Nat.succ i)) 20 with ⟨b2,b2p⟩|⟨b2,b2p⟩
   ·refine fi 2 [(9,18,true),(4,21,false)] 37 ((a6 (F3 i nd) (a6 (Bool.not (R9 i)) true))) [.h,J1,J5] (.agg [(zi (0)),(zi (500)),(.sa J2 0 (Nat.succ i) 7),.nils]) [(J2,(o7 (Nat.succ i) G false false))] J3 (by have hk0:=w6 (D (Nat.succ i) 0) (k:=6) (hD0 (Nat.succ i));(try simp only [b1,b2,gS,F3,R9]);(try simp only [gT] at *);try omega) ?_
    exact .inr (.inl ⟨Nat.succ i,G,rfl,rfl,rfl,by omega,by omega,hG,rfl⟩)
   rcases ci (G (Int.toNat (Int.sub (.ofNat (Nat.succ i)) (1))) 0) (4) with ⟨b3,b3p⟩|⟨b3,b3p⟩
   ·rcases ci (d7 (Nat.beq (Int.toNat (Int.tmod (D (Nat.succ i) 0) (6))) 0) (2) (d7 (Nat.beq (Int.toNat (Int.tmod (D (Nat.succ i) 0) (6))) 1) (3) (d7 (Nat.beq (Int.toNat (Int.tmod (D (Nat.succ i) 0) (6))) 2) (2) (d7 (Nat.beq (Int.toNat (Int.tmod (D (Nat.succ i) 0) (6))) 3) (3) (d7 (Nat.beq (Int.toNat (Int.tmod (D (Nat.succ i) 0) (6))) 4) (4) (d7 (Nat.beq (Int.toNat (Int.tmod (D (Nat.succ i) 0) (6))) 5) (1) (0))))))) (1) with ⟨b4,b4p⟩|⟨b4,b4p⟩
    ·rcases ci (d7 (Nat.beq (Int.toNat (Int.tmod (D (Nat.succ i) 0) (6))) 0) (2) (d7 (Nat.beq (Int.toNat (Int.tmod (D (Nat.succ i) 0) (6))) 1) (3) (d7 (Nat.beq (Int.toNat (Int.tmod (D (Nat.succ i) 0) (6))) 2) (2) (d7 (Nat.beq (Int.toNat (Int.tmod (D (Nat.succ i) 0) (6))) 3) (3) (d7 (Nat.beq (Int.toNat (Int.tmod (D (Nat.succ i) 0) (6))) 4) (4) (d7 (Nat.beq (Int.toNat (Int.tmod (D (Nat.succ i) 0) (6))) 5) (1) (0))))))) (4) with ⟨b5,b5p⟩|⟨b5,b5p⟩
     ·rcases ci (d7 (Nat.beq (Int.toNat (Int.tmod (D (Nat.succ i) 0) (6))) 0) (2) (d7 (Nat.beq (Int.toNat (Int.tmod (D (Nat.succ i) 0) (6))) 1) (3) (d7 (Nat.beq (Int.toNat (Int.tmod (D (Nat.succ i) 0) (6))) 2) (2) (d7 (Nat.beq (Int.toNat (Int.tmod (D (Nat.succ i) 0) (6))) 3) (3) (d7 (Nat.beq (Int.toNat (Int.tmod (D (Nat.succ i) 0) (6))) 4) (4) (d7 (Nat.beq (Int.toNat (Int.tmod (D (Nat.succ i) 0) (6))) 5) (1) (0))))))) (3) with ⟨b6,b6p⟩|⟨b6,b6p⟩
      ·refine t8 4 2 [(9,18,true),(4,21,true),(106,72,false),(11,69,false),(7,87,false),(36,5,false),(6,7,false)] 85 ((AR i nd D G)) (fV nd D dx dy de (Nat.succ i) (i2 G (Nat.succ i) [(d7 (Nat.beq (Int.toNat (Int.tmod (D (Nat.succ i) 0) (6))) 0) (2) (d7 (Nat.beq (Int.toNat (Int.tmod (D (Nat.succ i) 0) (6))) 1) (3) (d7 (Nat.beq (Int.toNat (Int.tmod (D (Nat.succ i) 0) (6))) 2) (2) (d7 (Nat.beq (Int.toNat (Int.tmod (D (Nat.succ i) 0) (6))) 3) (3) (d7 (Nat.beq (Int.toNat (Int.tmod (D (Nat.succ i) 0) (6))) 4) (4) (d7 (Nat.beq (Int.toNat (Int.tmod (D (Nat.succ i) 0) (6))) 5) (1) (0))))))),(Int.tmod (D (Nat.succ i) 1) (1001)),(Int.tmod (D (Nat.succ i) 2) (1001)),(0),(0),(0),(0)])) [.h,J1,J2,J3,J4,nQ] [1,2,3,4] [] ⟨f7 (by kernel_rfl) rfl (by kernel_rfl),trivial⟩ (by have:=n7 (hD (Nat.succ i));have:=hG (Int.toNat (Int.sub (.ofNat (Nat.succ i)) (1))) 0;have:=o8 (D (Nat.succ i) 0) (k:=6) (by decide);have hk0:=w6 (D (Nat.succ i) 0) (k:=6) (hD0 (Nat.succ i));(try simp only [b1,b2,b3,b4,b5,b6,gS,Y4,bN,F3,R9,N7,W4,U4,O3,U5,Y5,T0,Y6,AR]);(try simp only [gT] at *);try omega) ?_
       exact ih _ (by omega) (by omega) (Fr (by first|exact i1 _|decide|(repeat' (first|decide|apply d6))) (by first|exact i1 _|decide|(repeat' (first|decide|apply d6))) (by first|exact i1 _|decide|(repeat' (first|decide|apply d6))) (by first|exact i1 _|decide|(repeat' (first|decide|apply d6))) (by first|exact i1 _|decide|(repeat' (first|decide|apply d6))) (by first|exact i1 _|decide|(repeat' (first|decide|apply d6))) (by first|exact i1 _|decide|(repeat' (first|decide|apply d6))))
      refine t8 4 2 [(9,18,true),(4,21,true),(106,72,false),(11,69,false),(7,87,false),(36,5,false),(6,7,true)] 35 ((AQ i nd D G)) (fV nd D dx dy de (Nat.succ i) (i2 G (Nat.succ i) [(d7 (Nat.beq (Int.toNat (Int.tmod (D (Nat.succ i) 0) (6))) 0) (2) (d7 (Nat.beq (Int.toNat (Int.tmod (D (Nat.succ i) 0) (6))) 1) (3) (d7 (Nat.beq (Int.toNat (Int.tmod (D (Nat.succ i) 0) (6))) 2) (2) (d7 (Nat.beq (Int.toNat (Int.tmod (D (Nat.succ i) 0) (6))) 3) (3) (d7 (Nat.beq (Int.toNat (Int.tmod (D (Nat.succ i) 0) (6))) 4) (4) (d7 (Nat.beq (Int.toNat (Int.tmod (D (Nat.succ i) 0) (6))) 5) (1) (0))))))),(Int.tmod (D (Nat.succ i) 1) (1001)),(Int.tmod (D (Nat.succ i) 2) (1001)),(Int.tmod (D (Nat.succ i) 3) (1001)),(Int.tmod (D (Nat.succ i) 4) (1001)),(Int.tmod (D (Nat.succ i) 5) (1001)),(Int.tmod (D (Nat.succ i) 6) (1001))])) [.h,J1,J2,J3,J4,nQ] [1,2,3,4] [] ⟨f7 (by kernel_rfl) rfl (by kernel_rfl),trivial⟩ (by have:=n7 (hD (Nat.succ i));have:=hG (Int.toNat (Int.sub (.ofNat (Nat.succ i)) (1))) 0;have:=o8 (D (Nat.succ i) 0) (k:=6) (by decide);have hk0:=w6 (D (Nat.succ i) 0) (k:=6) (hD0 (Nat.succ i));(try simp only [b1,b2,b3,b4,b5,b6,gS,Y4,bN,F3,R9,N7,W4,U4,O3,U5,Y5,T0,Y6,AQ]);(try simp only [gT] at *);try omega) ?_
      exact ih _ (by omega) (by omega) (Fr (by first|exact i1 _|decide|(repeat' (first|decide|apply d6))) (by first|exact i1 _|decide|(repeat' (first|decide|apply d6))) (by first|exact i1 _|decide|(repeat' (first|decide|apply d6))) (by first|exact i1 _|decide|(repeat' (first|decide|apply d6))) (by first|exact i1 _|decide|(repeat' (first|decide|apply d6))) (by first|exact i1 _|decide|(repeat' (first|decide|apply d6))) (by first|exact i1 _|decide|(repeat' (first|decide|apply d6))))
     refine t8 4 2 [(9,18,true),(4,21,true),(106,72,false),(11,69,false),(7,87,false),(36,5,true)] 107 ((AP i nd D G)) (fV nd D dx dy de (Nat.succ i) (i2 G (Nat.succ i) [(d7 (Nat.beq (Int.toNat (Int.tmod (D (Nat.succ i) 0) (6))) 0) (2) (d7 (Nat.beq (Int.toNat (Int.tmod (D (Nat.succ i) 0) (6))) 1) (3) (d7 (Nat.beq (Int.toNat (Int.tmod (D (Nat.succ i) 0) (6))) 2) (2) (d7 (Nat.beq (Int.toNat (Int.tmod (D (Nat.succ i) 0) (6))) 3) (3) (d7 (Nat.beq (Int.toNat (Int.tmod (D (Nat.succ i) 0) (6))) 4) (4) (d7 (Nat.beq (Int.toNat (Int.tmod (D (Nat.succ i) 0) (6))) 5) (1) (0))))))),(0),(0),(0),(0),(0),(0)])) [.h,J1,J2,J3,J4,nQ] [1,2,3,4] [] ⟨f7 (by kernel_rfl) rfl (by kernel_rfl),trivial⟩ (by have:=n7 (hD (Nat.succ i));have:=hG (Int.toNat (Int.sub (.ofNat (Nat.succ i)) (1))) 0;have:=o8 (D (Nat.succ i) 0) (k:=6) (by decide);have hk0:=w6 (D (Nat.succ i) 0) (k:=6) (hD0 (Nat.succ i));(try simp only [b1,b2,b3,b4,b5,gS,Y4,bN,F3,R9,N7,W4,U4,O3,U5,Y5,T0,Y6,AP]);(try simp only [gT] at *);try omega) ?_
     exact ih _ (by omega) (by omega) (Fr (by first|exact i1 _|decide|(repeat' (first|decide|apply d6))) (by first|exact i1 _|decide|(repeat' (first|decide|apply d6))) (by first|exact i1 _|decide|(repeat' (first|decide|apply d6))) (by first|exact i1 _|decide|(repeat' (first|decide|apply d6))) (by first|exact i1 _|decide|(repeat' (first|decide|apply d6))) (by first|exact i1 _|decide|(repeat' (first|decide|apply d6))) (by first|exact i1 _|decide|(repeat' (first|decide|apply d6))))
    rcases ci (G (Int.toNat (Int.sub (.ofNat (Nat.succ i)) (1))) 0) (1) with ⟨b7,b7p⟩|⟨b7,b7p⟩
    ·refine t8 4 2 [(9,18,true),(4,21,true),(106,72,false),(11,69,false),(7,87,true),(11,83,false),(25,5,false),(6,7,false)] 85 ((AS i nd D G)) (fV nd D dx dy de (Nat.succ i) (i2 G (Nat.succ i) [(d7 (Nat.beq (Int.toNat (Int.tmod (D (Nat.succ i) 0) (6))) 0) (2) (d7 (Nat.beq (Int.toNat (Int.tmod (D (Nat.succ i) 0) (6))) 1) (3) (d7 (Nat.beq (Int.toNat (Int.tmod (D (Nat.succ i) 0) (6))) 2) (2) (d7 (Nat.beq (Int.toNat (Int.tmod (D (Nat.succ i) 0) (6))) 3) (3) (d7 (Nat.beq (Int.toNat (Int.tmod (D (Nat.succ i) 0) (6))) 4) (4) (d7 (Nat.beq (Int.toNat (Int.tmod (D (Nat.succ i) 0) (6))) 5) (1) (0))))))),(Int.tmod (D (Nat.succ i) 1) (1001)),(Int.tmod (D (Nat.succ i) 2) (1001)),(0),(0),(0),(0)])) [.h,J1,J2,J3,J4,nQ] [1,2,3,4] [] ⟨f7 (by kernel_rfl) rfl (by kernel_rfl),trivial⟩ (by have:=n7 (hD (Nat.succ i));have:=hG (Int.toNat (Int.sub (.ofNat (Nat.succ i)) (1))) 0;have:=o8 (D (Nat.succ i) 0) (k:=6) (by decide);have hk0:=w6 (D (Nat.succ i) 0) (k:=6) (hD0 (Nat.succ i));(try simp only [b1,b2,b3,b4,b7,gS,Y4,bN,F3,R9,N7,W4,U4,O3,U5,Y5,T0,Y6,AS]);(try simp only [gT] at *);try omega) ?_
     exact ih _ (by omega) (by omega) (Fr (by first|exact i1 _|decide|(repeat' (first|decide|apply d6))) (by first|exact i1 _|decide|(repeat' (first|decide|apply d6))) (by first|exact i1 _|decide|(repeat' (first|decide|apply d6))) (by first|exact i1 _|decide|(repeat' (first|decide|apply d6))) (by first|exact i1 _|decide|(repeat' (first|decide|apply d6))) (by first|exact i1 _|decide|(repeat' (first|decide|apply d6))) (by first|exact i1 _|decide|(repeat' (first|decide|apply d6))))
    refine t8 4 2 [(9,18,true),(4,21,true),(106,72,false),(11,69,false),(7,87,true),(11,83,true)] 119 ((AN i nd D G)) (fV nd D dx dy de (Nat.succ i) (i2 G (Nat.succ i) [(2),(Int.tmod (D (Nat.succ i) 1) (1001)),(Int.tmod (D (Nat.succ i) 2) (1001)),(0),(0),(0),(0)])) [.h,J1,J2,J3,J4,nQ] [1,2,3,4] [] ⟨f7 (by kernel_rfl) rfl (by kernel_rfl),trivial⟩ (by have:=hG (Int.toNat (Int.sub (.ofNat (Nat.succ i)) (1))) 0;have:=n7 (hD (Nat.succ i));have:=o8 (D (Nat.succ i) 0) (k:=6) (by decide);have hk0:=w6 (D (Nat.succ i) 0) (k:=6) (hD0 (Nat.succ i));(try simp only [b1,b2,b3,b4,b7,gS,Y4,bN,F3,R9,N7,W4,U4,O3,U5,Y5,T0,Y6,AN]);(try simp only [gT] at *);try omega) ?_
    exact ih _ (by omega) (by omega) (Fr (by first|exact i1 _|decide|(repeat' (first|decide|apply d6))) (by first|exact i1 _|decide|(repeat' (first|decide|apply d6))) (by first|exact i1 _|decide|(repeat' (first|decide|apply d6))) (by first|exact i1 _|decide|(repeat' (first|decide|apply d6))) (by first|exact i1 _|decide|(repeat' (first|decide|apply d6))) (by first|exact i1 _|decide|(repeat' (first|decide|apply d6))) (by first|exact i1 _|decide|(repeat' (first|decide|apply d6))))
   refine t8 4 2 [(9,18,true),(4,21,true),(106,72,false),(11,69,true)] 119 ((a6 (F3 i nd) (a6 (R9 i) (a6 (Y6 i nd D) (a6 (Y4 i) (a6 (U5 i) (a6 (c9 (U4 G i) (4)) (Y5 i)))))))) (fV nd D dx dy de (Nat.succ i) (i2 G (Nat.succ i) [(1),(Int.tmod (D (Nat.succ i) 1) (1001)),(Int.tmod (D (Nat.succ i) 2) (1001)),(0),(0),(0),(0)])) [.h,J1,J2,J3,J4,nQ] [1,2,3,4] [] ⟨f7 (by kernel_rfl) rfl (by kernel_rfl),trivial⟩ (by have:=hG (Int.toNat (Int.sub (.ofNat (Nat.succ i)) (1))) 0;have:=n7 (hD (Nat.succ i));have:=o8 (D (Nat.succ i) 0) (k:=6) (by decide);have hk0:=w6 (D (Nat.succ i) 0) (k:=6) (hD0 (Nat.succ i));(try simp only [b1,b2,b3,gS,Y4,bN,F3,R9,N7,W4,U4,O3,U5,Y5,Y6]);(try simp only [gT] at *);try omega) ?_
   exact ih _ (by omega) (by omega) (Fr (by first|exact i1 _|decide|(repeat' (first|decide|apply d6))) (by first|exact i1 _|decide|(repeat' (first|decide|apply d6))) (by first|exact i1 _|decide|(repeat' (first|decide|apply d6))) (by first|exact i1 _|decide|(repeat' (first|decide|apply d6))) (by first|exact i1 _|decide|(repeat' (first|decide|apply d6))) (by first|exact i1 _|decide|(repeat' (first|decide|apply d6))) (by first|exact i1 _|decide|(repeat' (first|decide|apply d6))))
theorem Fu (hD:∀ j k,-32768≤D j k∧D j k≤32767) (hD0:∀ j,0≤D j 0) (hT:∀ j k,0≤T j k∧T j k≤255):a7 En 2 (fT nd D dx dy de md T tx ty te) (jI true true):=by
 rcases T6 1 nd with ⟨b1,b1p⟩|⟨b1,b1p⟩
 ·refine t8 1 2 [(27,18,false)] 19 (a6 (Bool.not (Nat.ble 1 nd)) true) (Sc md T tx ty te) [.h,J1,J2,J3,J4,J5] [1,2,3,9,10] [] ⟨Fq (.sa .h 0 nd 7) (by kernel_rfl),.inl (by kernel_rfl),.inl (by kernel_rfl),.inl (by kernel_rfl),trivial⟩ (by have hk0:=w6 (D 0 0) (k:=6) (hD0 0);(try simp only [b1,gS]);(try simp only [gT] at *);try omega) ?_
  exact Fs hT
 refine ar 2 [(27,18,true)] 240 ((AL nd D)) (fU nd D dx dy de md T tx ty te 0 (fun _ kk=>List.getD [(1),(Int.tmod (D 0 1) (1001)),(Int.tmod (D 0 2) (1001)),(0),(0),(0),(0)] kk 0)) [.h,J1,J2,J3,J4,J9] [1,2,3,4] [] (by have:=n7 (hD 0);have:=o8 (D 0 0) (k:=6) (by decide);have hk0:=w6 (D 0 0) (k:=6) (hD0 0);(try simp only [b1,gS,pD,dX,N7,AL]);(try simp only [gT] at *);try omega) ?_
 exact BL hD hD0 hT (20 - 0) 0 _ rfl (by omega) (by omega) (tQ (by decide) (Fr (by first|exact i1 _|decide|(repeat' (first|decide|apply d6))) (by first|exact i1 _|decide|(repeat' (first|decide|apply d6))) (by first|exact i1 _|decide|(repeat' (first|decide|apply d6))) (by first|exact i1 _|decide|(repeat' (first|decide|apply d6))) (by first|exact i1 _|decide|(repeat' (first|decide|apply d6))) (by first|exact i1 _|decide|(repeat' (first|decide|apply d6))) (by first|exact i1 _|decide|(repeat' (first|decide|apply d6)))))
theorem Fv (hD:∀ j k,-32768≤D j k∧D j k≤32767) (hD0:∀ j,0≤D j 0)  : a7 En 2 (xC nd D dx dy de) (jI true false):=by
 rcases T6 1 nd with ⟨b1,b1p⟩|⟨b1,b1p⟩
 ·refine fi 2 [(27,18,false)] 41 (a6 (Bool.not (Nat.ble 1 nd)) true) [.h,J1] (.agg [(zi (0)),(zi (500)),.nils,.nils]) [] J2 (by have hk0:=w6 (D 0 0) (k:=6) (hD0 0);(try simp only [b1,gS]);(try simp only [gT] at *);try omega) ?_
  exact .inl ⟨rfl,rfl⟩
 refine ar 2 [(27,18,true)] 240 ((AL nd D)) (fV nd D dx dy de 0 (fun _ kk=>List.getD [(1),(Int.tmod (D 0 1) (1001)),(Int.tmod (D 0 2) (1001)),(0),(0),(0),(0)] kk 0)) [.h,J1,J2,J3,J4,J9] [1,2,3,4] [] (by have:=n7 (hD 0);have:=o8 (D 0 0) (k:=6) (by decide);have hk0:=w6 (D 0 0) (k:=6) (hD0 0);(try simp only [b1,gS,pD,dX,N7,AL]);(try simp only [gT] at *);try omega) ?_
 exact BM hD hD0  (20 - 0) 0 _ rfl (by omega) (by omega) (tQ (by decide) (Fr (by first|exact i1 _|decide|(repeat' (first|decide|apply d6))) (by first|exact i1 _|decide|(repeat' (first|decide|apply d6))) (by first|exact i1 _|decide|(repeat' (first|decide|apply d6))) (by first|exact i1 _|decide|(repeat' (first|decide|apply d6))) (by first|exact i1 _|decide|(repeat' (first|decide|apply d6))) (by first|exact i1 _|decide|(repeat' (first|decide|apply d6))) (by first|exact i1 _|decide|(repeat' (first|decide|apply d6)))))
theorem Fw (hT:∀ j k,0≤T j k∧T j k≤255):a7 En 2 (xD md T tx ty te) (jI false true):=by
 refine t8 1 2 [] 46 true (Sc md T tx ty te) [.h,J1,J2,J3,J4,J5] [1,2,3,9,10] [] ⟨Fq .nils (by kernel_rfl),.inl (by kernel_rfl),.inl (by kernel_rfl),.inl (by kernel_rfl),trivial⟩ rfl ?_
 exact Fs hT
theorem Fx   : a7 En 2 (Sb) (jI false false):=by
 refine fi 2 [] 68 true [.h,J1] (.agg [(zi (0)),(zi (500)),.nils,.nils]) [] J2 rfl ?_
 exact .inl ⟨rfl,rfl⟩
end
theorem i6.redress {E:i3} {n:Nat} {f:AF} {cs:List AF} {S:Hp} {Q Q':AV→Hp→Prop} (h:i6 E n f cs S Q)
 (hq:∀ v H,Q v H→∃ H',Q' v H'∧H'.nx=H.nx∧H'.fl=H.fl∧∀ a x,AM.T.get a H'.hp=some x→∃ y,AM.T.get a H.hp=some y∧∀ γ L ob,OR γ L y ob→OR γ L x ob):i6 E n f cs S Q':=by
 obtain ⟨v,S',q,h⟩:=h
 obtain ⟨S2,q2,n2,f2,d2⟩:=hq v S' q
 have hr:∀ {γ:Gm} {w:World},HR γ E.ng S' w→HR γ E.ng S2 w:=fun {γ w} hH=>by
  refine ⟨fun a o ho=>?_,fun a a' o o' L L' ho ho'=>?_,fun a L e=>by rw [n2];exact hH.fresh a L e,hH.glob⟩
  ·obtain ⟨y,hy,hOR⟩:=d2 a o ho
   obtain ⟨L,ob,k1,k2,k3⟩:=hH.obj a y hy
   exact ⟨L,ob,k1,k2,hOR γ L ob k3⟩
  ·obtain ⟨y,hy,_⟩:=d2 a o ho
   obtain ⟨y',hy',_⟩:=d2 a' o' ho'
   rw [f2];exact hH.inj a a' y y' L L' hy hy'
 have kn:∀ {γ:Gm} {w:World} {γ':Gm} {w':World},Kn n S γ w S' γ' w'→Kn n S γ w S2 γ' w':=fun {γ w γ' w'} k =>
  ⟨k.same,k.size,k.keep,k.os,k.out,fun a o L h1 h2 h3=>by
   obtain ⟨y,hy,_⟩:=d2 a o h1
   exact k.desc a y L hy h2 h3,by rw [f2];exact k.fl⟩
 refine ⟨v,S2,q2,fun γ fr frs w a b c=>?_⟩
 obtain ⟨h1,h2⟩:=h γ fr frs w a b c
 refine ⟨fun hl bot=>?_,fun c bot=>?_⟩
 ·obtain ⟨γ',v',fr',w',fn,k1,k2,k3,k4,k5,k6,k7,k8,k9,k10⟩:=h1 hl bot
  exact ⟨γ',v',fr',w',fn,k1,k2,k3,k4,k5,k6,k7,k8,hr k9,kn k10⟩
 ·obtain ⟨γ',v',w',k1,k2,k3,k4⟩:=h2 c bot
  exact ⟨γ',v',w',k1,k2,hr k3,kn k4⟩
theorem a7.split {E:i3} {m:Nat} {x:St} {Q:AV→Hp→Prop} (h:a7 E m x Q):∃ v H,Q v H∧∀ Q':AV→Hp→Prop,Q' v H→a7 E m x Q':=by
 obtain ⟨v,H,q,r⟩:=h
 exact ⟨v,H,q,fun Q' h'=>⟨v,H,h',r⟩⟩
theorem D4 {A:Int→Int→St} {k:Nat} {nx:Ps} (h:∀ px py,(-32000≤px∧px≤32000)→(-32000≤py∧py≤32000)→a7 En k (A px py) (fun v H=>∃ a b e:Int,v=.tup [.agg [.int .i64 a,.int .i64 b],.int .i64 e]∧H.nx=nx∧(-1000000000000000000≤a∧a≤1000000000000000000)∧(-1000000000000000000≤b∧b≤1000000000000000000))) :
 ∃ oX oY oE:Int→Int→Int,(∀ j k,-1000000000000000000≤oX j k∧oX j k≤1000000000000000000)∧(∀ j k,-1000000000000000000≤oY j k∧oY j k≤1000000000000000000) ∧
   ∀ (px py:Int),(-32000≤px∧px≤32000)→(-32000≤py∧py≤32000)→a7 En k (A px py) (fun v H=>v=.tup [.agg [.int .i64 (oX px py),.int .i64 (oY px py)],.int .i64 (oE px py)]∧H.nx=nx):=by
 have key:∀ p:Int × Int,∃ r:Int × Int × Int,((-1000000000000000000≤r.1∧r.1≤1000000000000000000)∧(-1000000000000000000≤r.2.1∧r.2.1≤1000000000000000000)) ∧
  ((-32000≤p.1∧p.1≤32000)→(-32000≤p.2∧p.2≤32000)→a7 En k (A p.1 p.2) (fun v H=>v=.tup [.agg [.int .i64 r.1,.int .i64 r.2.1],.int .i64 r.2.2]∧H.nx=nx)):=fun p=>by
  by_cases hp:(-32000≤p.1∧p.1≤32000)∧(-32000≤p.2∧p.2≤32000)
  ·obtain ⟨v,H,⟨a,b,e,h1,h2,h3,h4⟩,hr⟩:=a7.split (h p.1 p.2 hp.1 hp.2)
   exact ⟨(a,b,e),⟨h3,h4⟩,fun _ _=>hr _ ⟨h1,h2⟩⟩
  ·exact ⟨(0,0,0),by decide,fun h1 h2=>absurd ⟨h1,h2⟩ hp⟩
 obtain ⟨f,hf⟩:=Classical.skolem.1 key
 exact ⟨fun a b=>(f (a,b)).1,fun a b=>(f (a,b)).2.1,fun a b=>(f (a,b)).2.2,fun j k=>(hf (j,k)).1.1,fun j k=>(hf (j,k)).1.2,fun px py h1 h2=>(hf (px,py)).2 h1 h2⟩
theorem BN {n:Nat} {Y P:Nat→Nat→Int} {oX oY:Int→Int→Int} {x y:Int} (hs:Y2 n Y) (hr:∀ j,j < n→I5 Y oX oY x y P j) (hn:∀ j,j < n→fP Y P j) :
 u2 n P∧∀ j,j < n→∀ c,c < 7→-8192≤P j c∧P j c≤8192:=by
 have hp:∀ j,j < n→E3 P j=E3 Y j:=fun j hj=>by
  unfold E3
  by_cases e:j=0
  ·rw [if_pos e,if_pos e]
  ·rw [if_neg e,if_neg e];exact (hr (j - 1) (by omega)).1
 have key:∀ j,j < n→o9 (P j)∧∀ c,c < 7→-8192≤P j c∧P j c≤8192:=fun j hj=>by
  obtain ⟨⟨_,_,_,_,_,_,g1,g2⟩,k1,_,_⟩:=hs.2 j hj
  obtain ⟨r0,r1,r2,r3,r4⟩:=hr j hj
  obtain ⟨n1,n2⟩:=hn j hj
  unfold pA at n1 n2
  have c0:∀ {a:Int},a=0→-8192≤a∧a≤8192:=fun h=>by omega
  have c12:(-8192≤P j 1∧P j 1≤8192)∧(-8192≤P j 2∧P j 2≤8192):=by
   by_cases e:Y j 0=4
   ·have a:=r1 e;have b:=g1 e;omega
   ·exact n1 e
  have c36:(-8192≤P j 3∧P j 3≤8192)∧(-8192≤P j 4∧P j 4≤8192)∧(-8192≤P j 5∧P j 5≤8192)∧(-8192≤P j 6∧P j 6≤8192):=by
   by_cases e:Y j 0=3
   ·exact n2 e
   ·have a:=r4 e;have b:=g2 e;omega
  refine ⟨?_,fun c hc=>?_⟩
  ·unfold o9
   rw [r0]
   refine ⟨k1,fun e=>?_,fun e=>?_,fun e=>?_,fun e=>?_⟩
   ·have a:=r1 e;have b:=g1 e;omega
   ·omega
   ·have a:=r4 e;have b:=g2 e;omega
   ·omega
  ·match c,hc with
   | 0,_=>rw [r0];omega
   | 1,_=>exact c12.1
   | 2,_=>exact c12.2
   | 3,_=>exact c36.1
   | 4,_=>exact c36.2.1
   | 5,_=>exact c36.2.2.1
   | 6,_=>exact c36.2.2.2
 refine ⟨⟨hs.1,fun j hj=>?_⟩,fun j hj=>(key j hj).2⟩
 obtain ⟨_,_,k2,k3⟩:=hs.2 j hj
 unfold o6
 rw [hp j hj,(hr j hj).1]
 exact ⟨(key j hj).1,k2,k3⟩
def iQ (n:Nat) (P:Nat→Nat→Int):Nat→Nat→Int:=fun j c=>if j < n∧c < 7 then P j c else 0
theorem u6 {n:Nat} {P:Nat→Nat→Int} {j c:Nat} (hj:j < n) (hc:c < 7):iQ n P j c=P j c:=if_pos ⟨hj,hc⟩
def QR (n:Nat) (Y:Nat→Nat→Int) (oX oY:Int→Int→Int) (x y:Int) (k k1:Ps):AV→Hp→Prop:=fun v H =>
 (∃ e:Int,v=.tup [.nils,.int .i64 e]∧H.nx=k∧c9 e 0=false) ∨
 (∃ P,v=.tup [.sa k 0 n 7,.int .i64 0]∧H.nx=k1∧H.hp.get k=some (.arr n 7 (a8 [.i64,.i64,.i64,.i64,.i64,.i64,.i64] P) none 63 true false)∧(∀ j c,-8192≤P j c∧P j c≤8192)∧u2 n P∧∀ j,j < n→I5 Y oX oY x y P j)
theorem Z5 {n:Nat} {Y:Nat→Nat→Int} {oX oY:Int→Int→Int} {x y:Int} {k k1:Ps} (v:AV) (H:Hp) (q:QP n Y oX oY x y k k1 v H) :
 ∃ H',QR n Y oX oY x y k k1 v H'∧H'.nx=H.nx∧H'.fl=H.fl∧∀ a x,AM.T.get a H'.hp=some x→∃ y,AM.T.get a H.hp=some y∧∀ γ L ob,OR γ L y ob→OR γ L x ob:=by
 rcases q with ⟨e,h1,h2,h3⟩|⟨P,h1,h2,h3,h4,h5,h6⟩
 ·exact ⟨H,.inl ⟨e,h1,h2,off (E2 _ _) h3⟩,rfl,rfl,fun a x h=>⟨x,h,fun _ _ _ k=>k⟩⟩
 ·obtain ⟨p1,p2⟩:=BN h6 h4 h5
  refine ⟨⟨AM.T.set k (.arr n 7 (a8 [.i64,.i64,.i64,.i64,.i64,.i64,.i64] (iQ n P)) none 63 true false) .e,H.nx,H.fl⟩,.inr ⟨iQ n P,h1,h2,AM.T.get_set_same _ _ _,fun j c=>?_,?_,fun j hj=>?_⟩,rfl,rfl,fun a o ho=>?_⟩
  ·unfold iQ
   by_cases e:j < n∧c < 7
   ·rw [if_pos e];exact p2 j e.1 c e.2
   ·rw [if_neg e];decide
  ·refine ⟨p1.1,fun j hj=>?_⟩
   have hk:E3 (iQ n P) j=E3 P j:=by
    unfold E3
    by_cases e:j=0
    ·rw [if_pos e,if_pos e]
    ·rw [if_neg e,if_neg e];exact u6 (by omega) (by omega)
   have:=p1.2 j hj
   unfold o6 o9 at *
   rw [hk]
   simp only [u6 hj (show 0 < 7 by decide),u6 hj (show 1 < 7 by decide),u6 hj (show 2 < 7 by decide),u6 hj (show 3 < 7 by decide),u6 hj (show 4 < 7 by decide),u6 hj (show 5 < 7 by decide),u6 hj (show 6 < 7 by decide)]
   exact this
  ·have:=h4 j hj
   unfold I5 at *
   simp only [u6 hj (show 0 < 7 by decide),u6 hj (show 1 < 7 by decide),u6 hj (show 2 < 7 by decide),u6 hj (show 3 < 7 by decide),u6 hj (show 4 < 7 by decide),u6 hj (show 5 < 7 by decide),u6 hj (show 6 < 7 by decide)]
   exact this
  ·have ho:AM.T.get a (AM.T.set k (AO.arr n 7 (a8 [.i64,.i64,.i64,.i64,.i64,.i64,.i64] (iQ n P)) none 63 true false) AM.T.e)=some o:=ho
   by_cases e:k=a
   ·subst e
    rw [AM.T.get_set_same] at ho
    cases ho
    refine ⟨_,h3,Qx (fun j hj=>?_)⟩
    show [AV.int .i64 (P j 0),.int .i64 (P j 1),.int .i64 (P j 2),.int .i64 (P j 3),.int .i64 (P j 4),.int .i64 (P j 5),.int .i64 (P j 6)] = [AV.int .i64 (iQ n P j 0),.int .i64 (iQ n P j 1),.int .i64 (iQ n P j 2),.int .i64 (iQ n P j 3),.int .i64 (iQ n P j 4),.int .i64 (iQ n P j 5),.int .i64 (iQ n P j 6)]
    simp only [u6 hj (show 0 < 7 by decide),u6 hj (show 1 < 7 by decide),u6 hj (show 2 < 7 by decide),u6 hj (show 3 < 7 by decide),u6 hj (show 4 < 7 by decide),u6 hj (show 5 < 7 by decide),u6 hj (show 6 < 7 by decide)]
   ·rw [AM.T.get_set_ne e,AM.T.get_e] at ho
    cases ho
def P5 (n:Nat) (Y:Nat→Nat→Int) (ex:Bool) (sty:Bool) (sd:Int) (wd:Int) (m:Nat) (V:Nat→Bool) (S:Nat→Nat→Int) (sex:Bool) (ssty:Bool) (mA:Int) (mB:Int) (mC:Int) (mD:Int) (mE:Int) (mF:Int) (x:Int) (y:Int):St:=EL n Y ex sty sd wd m V S sex ssty mA mB mC mD mE mF x y
theorem Se {n:Nat} {Y:Nat→Nat→Int} {ex:Bool} {sty:Bool} {sd:Int} {wd:Int} {m:Nat} {V:Nat→Bool} {S:Nat→Nat→Int} {sex:Bool} {ssty:Bool} {mA:Int} {mB:Int} {mC:Int} {mD:Int} {mE:Int} {mF:Int} (hn:n≤1000) (hY:∀ j k,-32000≤Y j k∧Y j k≤32000) (hm8:m≤8) (hS:∀ j k,-32000≤S j k∧S j k≤32000) (hsort:G0 m V S) (hm1:0 < m) (hV0:V 0=false) (hmA : -2000000≤mA∧mA≤2000000) (hmB : -2000000≤mB∧mB≤2000000) (hmC : -2000000≤mC∧mC≤2000000) (hmD : -2000000≤mD∧mD≤2000000) (hmE : -40000≤mE∧mE≤40000) (hmF : -40000≤mF∧mF≤40000):∃ oX oY:Int→Int→Int,∀ (x y:Int),(-128≤x∧x≤127)→(-128≤y∧y≤127)→a7 En 2 (P5 n Y ex sty sd wd m V S sex ssty mA mB mC mD mE mF x y) (QR n Y oX oY x y (.i .h) (.o (.o .h))):=by
 obtain ⟨v,H,hq,hr⟩:=a7.split (Yr (n:=n) (Y:=Y) (ex:=ex) (sty:=sty) (sd:=sd) (wd:=wd) (m:=m) (V:=V) (S:=S) (sex:=sex) (ssty:=ssty) (mA:=mA) (mB:=mB) (mC:=mC) (mD:=mD) (mE:=mE) (mF:=mF) (hY:=hY) (hm8:=hm8) (hS:=hS) (hsort:=hsort) (hm1:=hm1) (hV0:=hV0) (hmA:=hmA) (hmB:=hmB) (hmC:=hmC) (hmD:=hmD) (hmE:=hmE) (hmF:=hmF))
 rcases hq with h|h|h|h
 ·have hf:=h
  exact ⟨fun _ _=>0,fun _ _=>0,fun x y hx hy=>i6.redress (Yw (hn:=hn) (hY:=hY) (hm8:=hm8) (hS:=hS) (hsort:=hsort) (hmA:=hmA) (hmB:=hmB) (hmC:=hmC) (hmD:=hmD) (hmE:=hmE) (hmF:=hmF) (hx:=hx) (hy:=hy) (hof:=(hr _ hf))) Z5⟩
 ·have hf:=h
  obtain ⟨oX,oY,oE,hoX,hoY,hmv⟩:=D4 (fun px py h1 h2=>tO (mE:=mE) (mF:=mF) hmA hmB hmC hmD h1 h2)
  exact ⟨oX,oY,fun x y hx hy=>i6.redress (nX (g:=.sp) (sx:=0) (sy:=0) (q:=0) (K:=fun _ _=>0) (q2:=0) (K2:=fun _ _=>0) (oX:=oX) (oY:=oY) (oE:=oE) (hn:=hn) (hY:=hY) (hmA:=hmA) (hmB:=hmB) (hmC:=hmC) (hmD:=hmD) (hmE:=hmE) (hmF:=hmF) (hx:=hx) (hy:=hy) (hoX:=hoX) (hoY:=hoY) (hck:=tP (fun j k=>by have:=hY j k;omega) hn hm8 hS hsort) (hof:=(hr _ hf)) (hmv:=hmv)) Z5⟩
 ·obtain ⟨q2,K2,hf,hsx,hsy,hq2,hK2⟩:=h
  obtain ⟨oX,oY,oE,hoX,hoY,hmv⟩:=D4 (fun px py h1 h2=>Fl (mA:=mA) (mB:=mB) (mC:=mC) (mD:=mD) (mE:=mE) (mF:=mF) (xb:=false) (yb:=false) hsx hsy hq2 hK2 h1 h2)
  exact ⟨oX,oY,fun x y hx hy=>i6.redress (nX (g:=.sb) (q:=0) (K:=fun _ _=>0) (q2:=q2) (K2:=K2) (sx:=(Int.tdiv (Int.mul (16) mA) (1000))) (sy:=(Int.tdiv (Int.mul (-16) mD) (1000))) (oX:=oX) (oY:=oY) (oE:=oE) (hn:=hn) (hY:=hY) (hmA:=hmA) (hmB:=hmB) (hmC:=hmC) (hmD:=hmD) (hmE:=hmE) (hmF:=hmF) (hx:=hx) (hy:=hy) (hoX:=hoX) (hoY:=hoY) (hck:=tP (fun j k=>by have:=hY j k;omega) hn hm8 hS hsort) (hof:=(hr _ hf)) (hmv:=hmv)) Z5⟩
 ·obtain ⟨q,K,q2,K2,hf,hsx,hsy,hq,hK,hq2,hK2⟩:=h
  obtain ⟨oX,oY,oE,hoX,hoY,hmv⟩:=D4 (fun px py h1 h2=>Fm (mA:=mA) (mB:=mB) (mC:=mC) (mD:=mD) (mE:=mE) (mF:=mF) (xa:=false) (ya:=false) (xb:=false) (yb:=false) hsx hsy hq hK hq2 hK2 h1 h2)
  exact ⟨oX,oY,fun x y hx hy=>i6.redress (nX (g:=.sd) (q:=q) (K:=K) (q2:=q2) (K2:=K2) (sx:=(Int.tdiv (Int.mul (16) mA) (1000))) (sy:=(Int.tdiv (Int.mul (-16) mD) (1000))) (oX:=oX) (oY:=oY) (oE:=oE) (hn:=hn) (hY:=hY) (hmA:=hmA) (hmB:=hmB) (hmC:=hmC) (hmD:=hmD) (hmE:=hmE) (hmF:=hmF) (hx:=hx) (hy:=hy) (hoX:=hoX) (hoY:=hoY) (hck:=tP (fun j k=>by have:=hY j k;omega) hn hm8 hS hsort) (hof:=(hr _ hf)) (hmv:=hmv)) Z5⟩
def K8 (n:Nat) (Y:Nat→Nat→Int) (ex:Bool) (sty:Bool) (sd:Int) (wd:Int) (mA:Int) (mB:Int) (mC:Int) (mD:Int) (mE:Int) (mF:Int) (x:Int) (y:Int):St:=SU .zp n Y ex sty 0 (fun _=>true) (fun _ _=>0) true true mA mB mC mD mE mF x y sd wd
theorem tS {n:Nat} {Y:Nat→Nat→Int} {ex:Bool} {sty:Bool} {sd:Int} {wd:Int} {mA:Int} {mB:Int} {mC:Int} {mD:Int} {mE:Int} {mF:Int} (hn:n≤1000) (hY:∀ j k,-32000≤Y j k∧Y j k≤32000) (hmA : -2000000≤mA∧mA≤2000000) (hmB : -2000000≤mB∧mB≤2000000) (hmC : -2000000≤mC∧mC≤2000000) (hmD : -2000000≤mD∧mD≤2000000) (hmE : -40000≤mE∧mE≤40000) (hmF : -40000≤mF∧mF≤40000):∃ oX oY:Int→Int→Int,∀ (x y:Int),(-128≤x∧x≤127)→(-128≤y∧y≤127)→a7 En 1 (K8 n Y ex sty sd wd mA mB mC mD mE mF x y) (QR n Y oX oY x y (.o .h) (.i .h)):=by
 obtain ⟨v,H,hq,hr⟩:=a7.split (Ys (n:=n) (Y:=Y) (ex:=ex) (sty:=sty) (sd:=sd) (wd:=wd) (mA:=mA) (mB:=mB) (mC:=mC) (mD:=mD) (mE:=mE) (mF:=mF) (hY:=hY) (hmA:=hmA) (hmB:=hmB) (hmC:=hmC) (hmD:=hmD) (hmE:=hmE) (hmF:=hmF))
 rcases hq with h|h
 ·have hf:=h
  obtain ⟨oX,oY,oE,hoX,hoY,hmv⟩:=D4 (fun px py h1 h2=>tO (mE:=mE) (mF:=mF) hmA hmB hmC hmD h1 h2)
  exact ⟨oX,oY,fun x y hx hy=>i6.redress (nX (g:=.zp) (sx:=0) (sy:=0) (q:=0) (K:=fun _ _=>0) (q2:=0) (K2:=fun _ _=>0) (m:=0) (V:=fun _=>true) (S:=fun _ _=>0) (sex:=true) (ssty:=true) (oX:=oX) (oY:=oY) (oE:=oE) (hn:=hn) (hY:=hY) (hmA:=hmA) (hmB:=hmB) (hmC:=hmC) (hmD:=hmD) (hmE:=hmE) (hmF:=hmF) (hx:=hx) (hy:=hy) (hoX:=hoX) (hoY:=hoY) (hck:=Rl (fun j k=>by have:=hY j k;omega) hn) (hof:=(hr _ hf)) (hmv:=hmv)) Z5⟩
 ·obtain ⟨hf,hsx,hsy⟩:=h
  obtain ⟨oX,oY,oE,hoX,hoY,hmv⟩:=D4 (fun px py h1 h2=>Fk (mA:=mA) (mB:=mB) (mC:=mC) (mD:=mD) (mE:=mE) (mF:=mF) hsx hsy h1 h2)
  exact ⟨oX,oY,fun x y hx hy=>i6.redress (nX (g:=.za) (q:=0) (K:=fun _ _=>0) (q2:=0) (K2:=fun _ _=>0) (m:=0) (V:=fun _=>true) (S:=fun _ _=>0) (sex:=true) (ssty:=true) (sx:=(Int.tdiv (Int.mul (16) mA) (1000))) (sy:=(Int.tdiv (Int.mul (-16) mD) (1000))) (oX:=oX) (oY:=oY) (oE:=oE) (hn:=hn) (hY:=hY) (hmA:=hmA) (hmB:=hmB) (hmC:=hmC) (hmD:=hmD) (hmE:=hmE) (hmF:=hmF) (hx:=hx) (hy:=hy) (hoX:=hoX) (hoY:=hoY) (hck:=Rl (fun j k=>by have:=hY j k;omega) hn) (hof:=(hr _ hf)) (hmv:=hmv)) Z5⟩
def D9 (sd:Int) (wd:Int) (m:Nat) (V:Nat→Bool) (S:Nat→Nat→Int) (sex:Bool) (ssty:Bool) (mA:Int) (mB:Int) (mC:Int) (mD:Int) (mE:Int) (mF:Int) (x:Int) (y:Int):St:=Rt sd wd m V S sex ssty mA mB mC mD mE mF x y
theorem kS {sd:Int} {wd:Int} {m:Nat} {V:Nat→Bool} {S:Nat→Nat→Int} {sex:Bool} {ssty:Bool} {mA:Int} {mB:Int} {mC:Int} {mD:Int} {mE:Int} {mF:Int} (hm8:m≤8) (hS:∀ j k,-32000≤S j k∧S j k≤32000) (hsort:G0 m V S) (hm1:0 < m) (hV0:V 0=false) (hmA : -2000000≤mA∧mA≤2000000) (hmB : -2000000≤mB∧mB≤2000000) (hmC : -2000000≤mC∧mC≤2000000) (hmD : -2000000≤mD∧mD≤2000000) (hmE : -40000≤mE∧mE≤40000) (hmF : -40000≤mF∧mF≤40000):∃ oX oY:Int→Int→Int,∀ (x y:Int),(-128≤x∧x≤127)→(-128≤y∧y≤127)→a7 En 1 (D9 sd wd m V S sex ssty mA mB mC mD mE mF x y) (QR 0 (fun _ _=>0) oX oY x y (.o .h) (.i .h)):=by
 obtain ⟨v,H,hq,hr⟩:=a7.split (Rq (sd:=sd) (wd:=wd) (m:=m) (V:=V) (S:=S) (sex:=sex) (ssty:=ssty) (mA:=mA) (mB:=mB) (mC:=mC) (mD:=mD) (mE:=mE) (mF:=mF) (hm8:=hm8) (hS:=hS) (hsort:=hsort) (hm1:=hm1) (hV0:=hV0) (hmA:=hmA) (hmB:=hmB) (hmC:=hmC) (hmD:=hmD) (hmE:=hmE) (hmF:=hmF))
 rcases hq with h|h|h|h
 ·have hf:=h
  exact ⟨fun _ _=>0,fun _ _=>0,fun x y hx hy=>i6.redress (Ru (hm8:=hm8) (hS:=hS) (hsort:=hsort) (hmA:=hmA) (hmB:=hmB) (hmC:=hmC) (hmD:=hmD) (hmE:=hmE) (hmF:=hmF) (hx:=hx) (hy:=hy) (hof:=(hr _ hf))) Z5⟩
 ·have hf:=h
  obtain ⟨oX,oY,oE,hoX,hoY,hmv⟩:=D4 (fun px py h1 h2=>tO (mE:=mE) (mF:=mF) hmA hmB hmC hmD h1 h2)
  exact ⟨oX,oY,fun x y hx hy=>i6.redress (Rv (oX:=oX) (oY:=oY) (oE:=oE) (hm8:=hm8) (hS:=hS) (hsort:=hsort) (hmA:=hmA) (hmB:=hmB) (hmC:=hmC) (hmD:=hmD) (hmE:=hmE) (hmF:=hmF) (hx:=hx) (hy:=hy) (hoX:=hoX) (hoY:=hoY) (hof:=(hr _ hf))) Z5⟩
 ·obtain ⟨q2,K2,hf,hsx,hsy,hq2,hK2⟩:=h
  obtain ⟨oX,oY,oE,hoX,hoY,hmv⟩:=D4 (fun px py h1 h2=>Fl (mA:=mA) (mB:=mB) (mC:=mC) (mD:=mD) (mE:=mE) (mF:=mF) (xb:=false) (yb:=false) hsx hsy hq2 hK2 h1 h2)
  exact ⟨oX,oY,fun x y hx hy=>i6.redress (Rw (sx:=(Int.tdiv (Int.mul (16) mA) (1000))) (sy:=(Int.tdiv (Int.mul (-16) mD) (1000))) (oX:=oX) (oY:=oY) (oE:=oE) (hm8:=hm8) (hS:=hS) (hsort:=hsort) (hmA:=hmA) (hmB:=hmB) (hmC:=hmC) (hmD:=hmD) (hmE:=hmE) (hmF:=hmF) (hx:=hx) (hy:=hy) (hsx:=hsx) (hsy:=hsy) (hq2:=hq2) (hoX:=hoX) (hoY:=hoY) (hof:=(hr _ hf))) Z5⟩
 ·obtain ⟨q,K,q2,K2,hf,hsx,hsy,hq,hK,hq2,hK2⟩:=h
  obtain ⟨oX,oY,oE,hoX,hoY,hmv⟩:=D4 (fun px py h1 h2=>Fm (mA:=mA) (mB:=mB) (mC:=mC) (mD:=mD) (mE:=mE) (mF:=mF) (xa:=false) (ya:=false) (xb:=false) (yb:=false) hsx hsy hq hK hq2 hK2 h1 h2)
  exact ⟨oX,oY,fun x y hx hy=>i6.redress (Rx (sx:=(Int.tdiv (Int.mul (16) mA) (1000))) (sy:=(Int.tdiv (Int.mul (-16) mD) (1000))) (oX:=oX) (oY:=oY) (oE:=oE) (hm8:=hm8) (hS:=hS) (hsort:=hsort) (hmA:=hmA) (hmB:=hmB) (hmC:=hmC) (hmD:=hmD) (hmE:=hmE) (hmF:=hmF) (hx:=hx) (hy:=hy) (hsx:=hsx) (hsy:=hsy) (hq:=hq) (hq2:=hq2) (hoX:=hoX) (hoY:=hoY) (hof:=(hr _ hf))) Z5⟩
def z6 (sd:Int) (wd:Int) (mA:Int) (mB:Int) (mC:Int) (mD:Int) (mE:Int) (mF:Int) (x:Int) (y:Int):St:=Ry sd wd mA mB mC mD mE mF x y
theorem T7 {sd:Int} {wd:Int} {mA:Int} {mB:Int} {mC:Int} {mD:Int} {mE:Int} {mF:Int} (hmA : -2000000≤mA∧mA≤2000000) (hmB : -2000000≤mB∧mB≤2000000) (hmC : -2000000≤mC∧mC≤2000000) (hmD : -2000000≤mD∧mD≤2000000) (hmE : -40000≤mE∧mE≤40000) (hmF : -40000≤mF∧mF≤40000):∃ oX oY:Int→Int→Int,∀ (x y:Int),(-128≤x∧x≤127)→(-128≤y∧y≤127)→a7 En 0 (z6 sd wd mA mB mC mD mE mF x y) (QR 0 (fun _ _=>0) oX oY x y (.h) (.o .h)):=by
 obtain ⟨v,H,hq,hr⟩:=a7.split (Rr (sd:=sd) (wd:=wd) (mA:=mA) (mB:=mB) (mC:=mC) (mD:=mD) (mE:=mE) (mF:=mF) (hmA:=hmA) (hmB:=hmB) (hmC:=hmC) (hmD:=hmD) (hmE:=hmE) (hmF:=hmF))
 rcases hq with h|h
 ·have hf:=h
  obtain ⟨oX,oY,oE,hoX,hoY,hmv⟩:=D4 (fun px py h1 h2=>tO (mE:=mE) (mF:=mF) hmA hmB hmC hmD h1 h2)
  exact ⟨oX,oY,fun x y hx hy=>i6.redress (Rz (oX:=oX) (oY:=oY) (oE:=oE) (hmA:=hmA) (hmB:=hmB) (hmC:=hmC) (hmD:=hmD) (hmE:=hmE) (hmF:=hmF) (hx:=hx) (hy:=hy) (hoX:=hoX) (hoY:=hoY) (hof:=(hr _ hf))) Z5⟩
 ·obtain ⟨hf,hsx,hsy⟩:=h
  obtain ⟨oX,oY,oE,hoX,hoY,hmv⟩:=D4 (fun px py h1 h2=>Fk (mA:=mA) (mB:=mB) (mC:=mC) (mD:=mD) (mE:=mE) (mF:=mF) hsx hsy h1 h2)
  exact ⟨oX,oY,fun x y hx hy=>i6.redress (Sa (sx:=(Int.tdiv (Int.mul (16) mA) (1000))) (sy:=(Int.tdiv (Int.mul (-16) mD) (1000))) (oX:=oX) (oY:=oY) (oE:=oE) (hmA:=hmA) (hmB:=hmB) (hmC:=hmC) (hmD:=hmD) (hmE:=hmE) (hmF:=hmF) (hx:=hx) (hy:=hy) (hsx:=hsx) (hsy:=hsy) (hoX:=hoX) (hoY:=hoY) (hof:=(hr _ hf))) Z5⟩
def C9 (a b:List AV):Bool:=@decide (a=b) (Classical.propDecidable _)
def D0 (a b:Option AO):Bool:=@decide (a=b) (Classical.propDecidable _)
theorem v5 (a:List AV):C9 a a=true:=jV.2 rfl
theorem v6 (a:Option AO):D0 a a=true:=jV.2 rfl
def U6 (os:List AO):Hp→Hp:=List.rec (motive:=fun _=>Hp→Hp) (fun H=>H) (fun o _ ih H=>ih (H.alloc o)) os
def OX (ar mar:List AV) (o0 o1:Option AO) (gf:Ps→AV × List AO) (mr:AV):M8:=fun f args H=>Bool.rec (Bool.rec (tb f args H) (some (C9 args mar,mr,H)) (Nat.beq f 7))
    (some (a6 (C9 args ar) (a6 (D0 (AM.T.get .h H.hp) o0) (a6 (D0 (AM.T.get (.o .h) H.hp) o1) (H6 En.ng 2 H.nx.idx 2 2 H.fl [.h,.o .h]))),(gf H.nx).1,U6 (gf H.nx).2 H)) (Nat.beq f 6)
def FD (n:Nat) (G:Nat→Nat→Int):AO:=.arr n 7 (a8 [.i64,.i64,.i64,.i64,.i64,.i64,.i64] G) none 63 false false
def FE (m:Nat) (V:Nat→Bool) (S:Nat→Nat→Int):AO:=.arr m 3 (dR [.i64,.i64] V S) none 72 false false
section
variable (ar mar:List AV) (o0 o1:Option AO) (mr:AV)
include ar mar o0 o1 mr
def Z6:M8:=OX ar mar o0 o1 (fun _=>(.agg [.int .i64 0,.int .i64 500,.nils,.nils],[])) mr
def qU (n:Nat) (G:Nat→Nat→Int):M8:=OX ar mar o0 o1 (fun a=>(.agg [.int .i64 0,.int .i64 500,.sa a 0 n 7,.nils],[FD n G])) mr
def qV (m:Nat) (V:Nat→Bool) (S:Nat→Nat→Int):M8:=OX ar mar o0 o1 (fun a=>(.agg [.int .i64 0,.int .i64 500,.nils,.sa a 0 m 3],[FE m V S])) mr
def Sf (n:Nat) (G:Nat→Nat→Int) (m:Nat) (V:Nat→Bool) (S:Nat→Nat→Int):M8:=OX ar mar o0 o1 (fun a=>(.agg [.int .i64 0,.int .i64 500,.sa a 0 n 7,.sa (Ps.succ a) 0 m 3],[FD n G,FE m V S])) mr
end
theorem qW:∀ (os:List AO) (H:Hp),(U6 os H).nx.idx=H.nx.idx+os.length∧(U6 os H).fl=H.fl
 | [],H=>⟨rfl,rfl⟩
 | o::os,H=>by
   obtain ⟨h1,h2⟩:=qW os (H.alloc o)
   refine ⟨?_,h2⟩
   show (U6 os (H.alloc o)).nx.idx=_
   rw [h1]
   show (Ps.succ H.nx).idx+os.length=H.nx.idx+(os.length+1)
   rw [Ps.idx_succ];omega
theorem dY:∀ {os:List AO} {H:Hp} {a:Ps} {o:AO},(U6 os H).hp.get a=some o→(∃ i,os[i]? = some o∧a.idx=H.nx.idx+i)∨H.hp.get a=some o
 | [],_,_,_,h=>.inr h
 | x :: os,H,a,o,h=>by
   rcases dY (os:=os) (H:=H.alloc x) h with ⟨i,h1,h2⟩|h1
   ·refine .inl ⟨i+1,h1,?_⟩
    rw [h2]
    show (Ps.succ H.nx).idx+i=_
    rw [Ps.idx_succ];omega
   ·rcases L8 h1 with ⟨h2,h3⟩|⟨_,h2⟩
    ·exact .inl ⟨0,by rw [h3];rfl,by rw [h2];rfl⟩
    ·exact .inr h2
theorem nY:∀ {os:List AO} {H:Hp} {a:Ps} {o:AO},a.idx < H.nx.idx→H.hp.get a=some o→(U6 os H).hp.get a=some o
 | [],_,_,_,_,h=>h
 | x :: os,H,a,o,ha,h=>by
   refine nY (os:=os) (H:=H.alloc x) ?_ ?_
   ·show a.idx < (Ps.succ H.nx).idx
    rw [Ps.idx_succ];omega
   ·rw [v9 (fun e=>by rw [e] at ha;omega)];exact h
def TC (ar:List AV) (o0 o1:Option AO) (gf:Ps→AV × List AO):Prop:=∀ (H:Hp) (γ:Gm) (w:World) (s:Sem Next),AM.T.get .h H.hp=o0→AM.T.get (.o .h) H.hp=o1→H6 En.ng 2 H.nx.idx 2 2 H.fl [.h,.o .h]=true→HR γ En.ng H w→O7 En γ H w s (.call 6 ar) →
 ∃ fr',F8 En.P s w fr'∧∀ c bot,∃ γ' v' w',Steps En.P (lone fr' (c::bot) w) (lone (c.finish v') bot w')∧VR γ' (gf H.nx).1 v'∧HR γ' En.ng (U6 (gf H.nx).2 H) w'∧j6 H γ w (U6 (gf H.nx).2 H) γ' w'
def nZ (mar:List AV) (mr:AV):Prop:=∀ (H:Hp) (γ:Gm) (w:World) (s:Sem Next),HR γ En.ng H w→O7 En γ H w s (.call 7 mar) →
 ∃ fr',F8 En.P s w fr'∧∀ c bot,∃ γ' v' w',Steps En.P (lone fr' (c::bot) w) (lone (c.finish v') bot w')∧VR γ' mr v'∧HR γ' En.ng H w'∧j6 H γ w H γ' w'
theorem Y7 {ar mar:List AV} {o0 o1:Option AO} {gf:Ps→AV × List AO} {mr:AV} (h6:TC ar o0 o1 gf) (h7:nZ mar mr):q9 (OX ar mar o0 o1 gf mr) En:=fun f args v H S' h γ w s hH ho=>by
 unfold OX at h
 cases hf:Nat.beq f 6 with
 | true =>
   rw [hf] at h
   have ef:=Nat.eq_of_beq_eq_true hf
   subst ef
   injection h with h
   injection h with h1 h2
   injection h2 with h2 h3
   subst h2 h3
   obtain ⟨g1,h1⟩:=a9.1 h1
   obtain ⟨g2,h1⟩:=a9.1 h1
   obtain ⟨g3,g4⟩:=a9.1 h1
   have e1:=jV.1 g1
   subst e1
   exact h6 H γ w s (jV.1 g2) (jV.1 g3) g4 hH ho
 | false =>
   rw [hf] at h
   dsimp only at h
   cases hf2:Nat.beq f 7 with
   | true =>
     rw [hf2] at h
     have ef:=Nat.eq_of_beq_eq_true hf2
     subst ef
     injection h with h
     injection h with h1 h2
     injection h2 with h2 h3
     subst h2 h3
     have e1:=jV.1 h1
     subst e1
     exact h7 H γ w s hH ho
   | false=>rw [hf2] at h;exact V9 f args v H S' h γ w s hH ho
theorem T8 {n0 n1 n2 n3:Int} {up:Bool} {mr:AV} (hk:vN En.ng mr=true) (h:a7 En 0 (Jq n0 n1 n2 n3 up) (fun v H=>v=mr)) :
 nZ [.agg [.int .i16 n0,.int .i16 n1,.int .i16 n2,.int .i16 n3],.bool up] mr:=fun H γ w s hH ho=>by
 have hm:i6 En 0 (Jq n0 n1 n2 n3 up).f [] (Jq n0 n1 n2 n3 up).S _:=h
 rw [show (0:Nat)=En.ng from Iy.symm,show (Jq n0 n1 n2 n3 up).S=H0 En from by kernel_rfl] at hm
 exact dQ cY (TB n0 n1 n2 n3 up) (cW.of_endsN (y7 (TB n0 n1 n2 n3 up) (by intro x hx;cases hx with|head=>rfl|tail _ hx=>cases hx with|head=>rfl|tail _ hx=>cases hx)) hk hm) H γ w s hH ho
theorem fW (a:Ps):Ps.of a.idx=a:=Ps.idx_inj (Ps.idx_of _)
theorem TD (a:Ps):Ps.of (a.idx+1)=Ps.succ a:=Ps.idx_inj (by rw [Ps.idx_of,Ps.idx_succ])
theorem Q5 {ar:List AV} {o0 o1:Option AO} {gf:Ps→AV × List AO} {x:St} {v0:AV} {news:List AO} {os:List (Ps × AO)} (hxn:x.nx=.i .h) (hxf:x.fl=2) (hxo:x.os=os) (hxl:∀ p ∈ os,p.1.idx < 2) (hxc:x.cs = []) (hen:d9 En 6 ar false=some x.f)
 (ef:∀ m,x.f=G4 (r7 En.ng 2 m [.h,.o .h]) x.f) (ho:∀ H:Hp,AM.T.get .h H.hp=o0→AM.T.get (.o .h) H.hp=o1→G5 (fun p=>AM.T.get (r7 En.ng 2 H.nx.idx [.h,.o .h] p.1) H.hp=some (w8 (r7 En.ng 2 H.nx.idx [.h,.o .h]) p.2)) os)
 (hv:∀ a:Ps,F1 (r7 En.ng 2 a.idx [.h,.o .h]) v0=(gf a).1) (hn:∀ a,(gf a).2=news) (hr:∀ o ∈ news,∀ ρ,w8 ρ o=o)
 (h:a7 En 2 x (fun v H=>v=v0∧H.nx.idx=2+news.length∧∀ i o,news[i]? = some o→H.hp.get (Ps.of (2+i))=some o)):TC ar o0 o1 gf:=fun H γ w s g0 g1 hk hH hop=>by
 obtain ⟨_,fr',he,hf⟩:=Q9 cY (H:=H) (ro:=.call 6 ar) hen hH hop
 obtain ⟨xf,xcs,xos,xnx,xfl⟩:=x
 dsimp only at *
 subst hxn hxf hxo hxc
 have h':i6 En ((⟨xf,[],xos,.i .h,2⟩:St).S).nx.idx xf [] ((⟨xf,[],xos,.i .h,2⟩:St).S) _:=h
 obtain ⟨v1,H',⟨e1,e2,e3⟩,k2⟩:=i6.alone (S:=H) (tK (os:=xos) hk rfl (ho H g0 g1)) (ef H.nx.idx) h'
 refine ⟨fr',he,fun c bot=>?_⟩
 have hS2:Mg En (r7 En.ng 2 H.nx.idx [.h,.o .h]) H ((⟨xf,[],xos,.i .h,2⟩:St).S) H' (U6 (gf H.nx).2 H):=by
  rw [hn]
  obtain ⟨a1,a2⟩:=qW news H
  refine ⟨fun a o ha=>?_,?_,a2⟩
  ·rcases dY ha with ⟨i,b1,b2⟩|b1
   ·refine .inl ⟨Ps.of (2+i),o,?_,?_,e3 i o b1,(hr o (List.mem_of_getElem? b1) _).symm⟩
    ·show 2≤(Ps.of (2+i)).idx
     rw [Ps.idx_of];omega
    ·rw [fI (by rw [Iy];omega) (by rw [Ps.idx_of];omega)]
     refine Ps.idx_inj ?_
     rw [Ps.idx_of,Ps.idx_of,b2];omega
   ·refine .inr ⟨b1,fun k o' c1 c2=>?_⟩
    have hlow:=hxl
    have:=hlow (k,o') (P9 c1)
    exact absurd c2 (by show ¬ 2≤k.idx;dsimp only at this;omega)
  ·show (U6 news H).nx.idx=H.nx.idx+(H'.nx.idx - 2)
   rw [a1,e2];omega
 obtain ⟨γ1,v',w1,q1,q2,q3,q4⟩:=k2 _ hS2 γ fr' w hf hH c bot
 have q2:VR γ1 (F1 (r7 En.ng 2 H.nx.idx [.h,.o .h]) v1) v':=q2
 rw [e1,hv] at q2
 have hfl:H.fl≤H.nx.idx:=(fJ hk).2.2.1
 refine ⟨γ1,v',w1,q1,q2,q3,q4.pres (fun a o h1 h2=>nY (by omega) h1) (fun a o h1 h2 h3=>?_)⟩
 rcases dY h1 with ⟨i,b1,b2⟩|b1
 ·omega
 ·exact b1
section
variable {nd:Nat} {D:Nat→Nat→Int} {dx dy:Bool} {de:Nat} {md:Nat} {T:Nat→Nat→Int} {tx ty:Bool} {te:Nat}
theorem Sg {mar:List AV} {mr:AV} (h7:nZ mar mr) (h:a7 En 2 (fT nd D dx dy de md T tx ty te) (fun v H=>v=.agg [.int .i64 0,.int .i64 500,.nils,.nils]∧H.nx=.i .h)) :
 q9 (Z6 [.agg [.sa .h 0 nd 7,.sa (.o .h) 0 md 2]] mar (some (.arr nd 7 (a8 [.u8,.i16,.i16,.i16,.i16,.i16,.i16] D) none de dx dy)) (some (.arr md 2 (a8 [.u8,.u8] T) none te tx ty)) mr ) En:=by
 obtain ⟨v,H,⟨e1,e2⟩,hr⟩:=a7.split h
 refine Y7 (Q5 (x:=fT nd D dx dy de md T tx ty te) (v0:=.agg [.int .i64 0,.int .i64 500,.nils,.nils]) (news:=[]) (os:=[(.h,(.arr nd 7 (a8 [.u8,.i16,.i16,.i16,.i16,.i16,.i16] D) none de dx dy)),(.o .h,(.arr md 2 (a8 [.u8,.u8] T) none te tx ty))]) rfl rfl rfl (fun p hp=>?_) rfl (by kernel_rfl) (fun m=>by kernel_rfl) (fun H h0 h1=>⟨(Eq.trans (show AM.T.get (r7 En.ng 2 H.nx.idx [.h,.o .h] .h) H.hp=AM.T.get .h H.hp from by kernel_rfl) (h0.trans (by kernel_rfl))),(Eq.trans (show AM.T.get (r7 En.ng 2 H.nx.idx [.h,.o .h] (.o .h)) H.hp=AM.T.get (.o .h) H.hp from by kernel_rfl) (h1.trans (by kernel_rfl))),trivial⟩) (fun a=>?_) (fun _=>rfl) (fun o ho ρ=>?_) (hr _ ⟨e1,by rw [e2];rfl,fun i o hi=>by
  simp at hi⟩)) h7
 ·simp only [List.mem_cons,List.not_mem_nil,or_false] at hp
  rcases hp with rfl|rfl <;> first|exact (show (Ps.h).idx < 2 by decide)|exact (show (Ps.o .h).idx < 2 by decide)
 ·rfl
 ·cases ho
theorem Si {n:Nat} {G:Nat→Nat→Int} {mar:List AV} {mr:AV} (h7:nZ mar mr) (h:a7 En 2 (fT nd D dx dy de md T tx ty te) (fun v H=>v=.agg [.int .i64 0,.int .i64 500,.sa (.i .h) 0 n 7,.nils]∧H.nx=.o (.o .h)∧H.hp.get (.i .h)=some (FD n G))) :
 q9 (qU [.agg [.sa .h 0 nd 7,.sa (.o .h) 0 md 2]] mar (some (.arr nd 7 (a8 [.u8,.i16,.i16,.i16,.i16,.i16,.i16] D) none de dx dy)) (some (.arr md 2 (a8 [.u8,.u8] T) none te tx ty)) mr n G) En:=by
 obtain ⟨v,H,⟨e1,e2,g1⟩,hr⟩:=a7.split h
 refine Y7 (Q5 (x:=fT nd D dx dy de md T tx ty te) (v0:=.agg [.int .i64 0,.int .i64 500,.sa (.i .h) 0 n 7,.nils]) (news:=[FD n G]) (os:=[(.h,(.arr nd 7 (a8 [.u8,.i16,.i16,.i16,.i16,.i16,.i16] D) none de dx dy)),(.o .h,(.arr md 2 (a8 [.u8,.u8] T) none te tx ty))]) rfl rfl rfl (fun p hp=>?_) rfl (by kernel_rfl) (fun m=>by kernel_rfl) (fun H h0 h1=>⟨(Eq.trans (show AM.T.get (r7 En.ng 2 H.nx.idx [.h,.o .h] .h) H.hp=AM.T.get .h H.hp from by kernel_rfl) (h0.trans (by kernel_rfl))),(Eq.trans (show AM.T.get (r7 En.ng 2 H.nx.idx [.h,.o .h] (.o .h)) H.hp=AM.T.get (.o .h) H.hp from by kernel_rfl) (h1.trans (by kernel_rfl))),trivial⟩) (fun a=>?_) (fun _=>rfl) (fun o ho ρ=>?_) (hr _ ⟨e1,by rw [e2];rfl,fun i o hi=>by
  match i,hi with
  | 0,hi=>cases hi;exact g1
  | i+1,hi=>simp at hi⟩)) h7
 ·simp only [List.mem_cons,List.not_mem_nil,or_false] at hp
  rcases hp with rfl|rfl <;> first|exact (show (Ps.h).idx < 2 by decide)|exact (show (Ps.o .h).idx < 2 by decide)
 ·show AV.agg [.int .i64 0,.int .i64 500,.sa (Ps.of (a.idx+0)) 0 n 7,.nils]=_
  rw [Nat.add_zero,fW]
 ·simp only [List.mem_cons,List.not_mem_nil,or_false] at ho
  subst ho;rfl
theorem Sj {m:Nat} {V:Nat→Bool} {S:Nat→Nat→Int} {mar:List AV} {mr:AV} (h7:nZ mar mr) (h:a7 En 2 (fT nd D dx dy de md T tx ty te) (fun v H=>v=.agg [.int .i64 0,.int .i64 500,.nils,.sa (.i .h) 0 m 3]∧H.nx=.o (.o .h)∧H.hp.get (.i .h)=some (FE m V S))) :
 q9 (qV [.agg [.sa .h 0 nd 7,.sa (.o .h) 0 md 2]] mar (some (.arr nd 7 (a8 [.u8,.i16,.i16,.i16,.i16,.i16,.i16] D) none de dx dy)) (some (.arr md 2 (a8 [.u8,.u8] T) none te tx ty)) mr m V S) En:=by
 obtain ⟨v,H,⟨e1,e2,g1⟩,hr⟩:=a7.split h
 refine Y7 (Q5 (x:=fT nd D dx dy de md T tx ty te) (v0:=.agg [.int .i64 0,.int .i64 500,.nils,.sa (.i .h) 0 m 3]) (news:=[FE m V S]) (os:=[(.h,(.arr nd 7 (a8 [.u8,.i16,.i16,.i16,.i16,.i16,.i16] D) none de dx dy)),(.o .h,(.arr md 2 (a8 [.u8,.u8] T) none te tx ty))]) rfl rfl rfl (fun p hp=>?_) rfl (by kernel_rfl) (fun m=>by kernel_rfl) (fun H h0 h1=>⟨(Eq.trans (show AM.T.get (r7 En.ng 2 H.nx.idx [.h,.o .h] .h) H.hp=AM.T.get .h H.hp from by kernel_rfl) (h0.trans (by kernel_rfl))),(Eq.trans (show AM.T.get (r7 En.ng 2 H.nx.idx [.h,.o .h] (.o .h)) H.hp=AM.T.get (.o .h) H.hp from by kernel_rfl) (h1.trans (by kernel_rfl))),trivial⟩) (fun a=>?_) (fun _=>rfl) (fun o ho ρ=>?_) (hr _ ⟨e1,by rw [e2];rfl,fun i o hi=>by
  match i,hi with
  | 0,hi=>cases hi;exact g1
  | i+1,hi=>simp at hi⟩)) h7
 ·simp only [List.mem_cons,List.not_mem_nil,or_false] at hp
  rcases hp with rfl|rfl <;> first|exact (show (Ps.h).idx < 2 by decide)|exact (show (Ps.o .h).idx < 2 by decide)
 ·show AV.agg [.int .i64 0,.int .i64 500,.nils,.sa (Ps.of (a.idx+0)) 0 m 3]=_
  rw [Nat.add_zero,fW]
 ·simp only [List.mem_cons,List.not_mem_nil,or_false] at ho
  subst ho;rfl
theorem Sk {n:Nat} {G:Nat→Nat→Int} {m:Nat} {V:Nat→Bool} {S:Nat→Nat→Int} {mar:List AV} {mr:AV} (h7:nZ mar mr) (h:a7 En 2 (fT nd D dx dy de md T tx ty te) (fun v H=>v=.agg [.int .i64 0,.int .i64 500,.sa (.i .h) 0 n 7,.sa (.o (.o .h)) 0 m 3]∧H.nx=.i (.o .h)∧H.hp.get (.i .h)=some (FD n G)∧H.hp.get (.o (.o .h))=some (FE m V S))) :
 q9 (Sf [.agg [.sa .h 0 nd 7,.sa (.o .h) 0 md 2]] mar (some (.arr nd 7 (a8 [.u8,.i16,.i16,.i16,.i16,.i16,.i16] D) none de dx dy)) (some (.arr md 2 (a8 [.u8,.u8] T) none te tx ty)) mr n G m V S) En:=by
 obtain ⟨v,H,⟨e1,e2,g1,g2⟩,hr⟩:=a7.split h
 refine Y7 (Q5 (x:=fT nd D dx dy de md T tx ty te) (v0:=.agg [.int .i64 0,.int .i64 500,.sa (.i .h) 0 n 7,.sa (.o (.o .h)) 0 m 3]) (news:=[FD n G,FE m V S]) (os:=[(.h,(.arr nd 7 (a8 [.u8,.i16,.i16,.i16,.i16,.i16,.i16] D) none de dx dy)),(.o .h,(.arr md 2 (a8 [.u8,.u8] T) none te tx ty))]) rfl rfl rfl (fun p hp=>?_) rfl (by kernel_rfl) (fun m=>by kernel_rfl) (fun H h0 h1=>⟨(Eq.trans (show AM.T.get (r7 En.ng 2 H.nx.idx [.h,.o .h] .h) H.hp=AM.T.get .h H.hp from by kernel_rfl) (h0.trans (by kernel_rfl))),(Eq.trans (show AM.T.get (r7 En.ng 2 H.nx.idx [.h,.o .h] (.o .h)) H.hp=AM.T.get (.o .h) H.hp from by kernel_rfl) (h1.trans (by kernel_rfl))),trivial⟩) (fun a=>?_) (fun _=>rfl) (fun o ho ρ=>?_) (hr _ ⟨e1,by rw [e2];rfl,fun i o hi=>by
  match i,hi with
  | 0,hi=>cases hi;exact g1
  | 1,hi=>cases hi;exact g2
  | i+2,hi=>simp at hi⟩)) h7
 ·simp only [List.mem_cons,List.not_mem_nil,or_false] at hp
  rcases hp with rfl|rfl <;> first|exact (show (Ps.h).idx < 2 by decide)|exact (show (Ps.o .h).idx < 2 by decide)
 ·show AV.agg [.int .i64 0,.int .i64 500,.sa (Ps.of (a.idx+0)) 0 n 7,.sa (Ps.of (a.idx+1)) 0 m 3]=_
  rw [Nat.add_zero,fW,TD]
 ·simp only [List.mem_cons,List.not_mem_nil,or_false] at ho
  rcases ho with rfl|rfl <;> rfl
theorem Sl {mar:List AV} {mr:AV} (h7:nZ mar mr) (h:a7 En 2 (xC nd D dx dy de) (fun v H=>v=.agg [.int .i64 0,.int .i64 500,.nils,.nils]∧H.nx=.i .h)) :
 q9 (Z6 [.agg [.sa .h 0 nd 7,.nils]] mar (some (.arr nd 7 (a8 [.u8,.i16,.i16,.i16,.i16,.i16,.i16] D) none de dx dy)) none mr ) En:=by
 obtain ⟨v,H,⟨e1,e2⟩,hr⟩:=a7.split h
 refine Y7 (Q5 (x:=xC nd D dx dy de) (v0:=.agg [.int .i64 0,.int .i64 500,.nils,.nils]) (news:=[]) (os:=[(.h,(.arr nd 7 (a8 [.u8,.i16,.i16,.i16,.i16,.i16,.i16] D) none de dx dy))]) rfl rfl rfl (fun p hp=>?_) rfl (by kernel_rfl) (fun m=>by kernel_rfl) (fun H h0 h1=>⟨(Eq.trans (show AM.T.get (r7 En.ng 2 H.nx.idx [.h,.o .h] .h) H.hp=AM.T.get .h H.hp from by kernel_rfl) (h0.trans (by kernel_rfl))),trivial⟩) (fun a=>?_) (fun _=>rfl) (fun o ho ρ=>?_) (hr _ ⟨e1,by rw [e2];rfl,fun i o hi=>by
  simp at hi⟩)) h7
 ·simp only [List.mem_cons,List.not_mem_nil,or_false] at hp
  subst hp;first|exact (show (Ps.h).idx < 2 by decide)|exact (show (Ps.o .h).idx < 2 by decide)
 ·rfl
 ·cases ho
theorem Sm {n:Nat} {G:Nat→Nat→Int} {mar:List AV} {mr:AV} (h7:nZ mar mr) (h:a7 En 2 (xC nd D dx dy de) (fun v H=>v=.agg [.int .i64 0,.int .i64 500,.sa (.i .h) 0 n 7,.nils]∧H.nx=.o (.o .h)∧H.hp.get (.i .h)=some (FD n G))) :
 q9 (qU [.agg [.sa .h 0 nd 7,.nils]] mar (some (.arr nd 7 (a8 [.u8,.i16,.i16,.i16,.i16,.i16,.i16] D) none de dx dy)) none mr n G) En:=by
 obtain ⟨v,H,⟨e1,e2,g1⟩,hr⟩:=a7.split h
 refine Y7 (Q5 (x:=xC nd D dx dy de) (v0:=.agg [.int .i64 0,.int .i64 500,.sa (.i .h) 0 n 7,.nils]) (news:=[FD n G]) (os:=[(.h,(.arr nd 7 (a8 [.u8,.i16,.i16,.i16,.i16,.i16,.i16] D) none de dx dy))]) rfl rfl rfl (fun p hp=>?_) rfl (by kernel_rfl) (fun m=>by kernel_rfl) (fun H h0 h1=>⟨(Eq.trans (show AM.T.get (r7 En.ng 2 H.nx.idx [.h,.o .h] .h) H.hp=AM.T.get .h H.hp from by kernel_rfl) (h0.trans (by kernel_rfl))),trivial⟩) (fun a=>?_) (fun _=>rfl) (fun o ho ρ=>?_) (hr _ ⟨e1,by rw [e2];rfl,fun i o hi=>by
  match i,hi with
  | 0,hi=>cases hi;exact g1
  | i+1,hi=>simp at hi⟩)) h7
 ·simp only [List.mem_cons,List.not_mem_nil,or_false] at hp
  subst hp;first|exact (show (Ps.h).idx < 2 by decide)|exact (show (Ps.o .h).idx < 2 by decide)
 ·show AV.agg [.int .i64 0,.int .i64 500,.sa (Ps.of (a.idx+0)) 0 n 7,.nils]=_
  rw [Nat.add_zero,fW]
 ·simp only [List.mem_cons,List.not_mem_nil,or_false] at ho
  subst ho;rfl
theorem Sn {mar:List AV} {mr:AV} (h7:nZ mar mr) (h:a7 En 2 (xD md T tx ty te) (fun v H=>v=.agg [.int .i64 0,.int .i64 500,.nils,.nils]∧H.nx=.i .h)) :
 q9 (Z6 [.agg [.nils,.sa (.o .h) 0 md 2]] mar none (some (.arr md 2 (a8 [.u8,.u8] T) none te tx ty)) mr ) En:=by
 obtain ⟨v,H,⟨e1,e2⟩,hr⟩:=a7.split h
 refine Y7 (Q5 (x:=xD md T tx ty te) (v0:=.agg [.int .i64 0,.int .i64 500,.nils,.nils]) (news:=[]) (os:=[(.o .h,(.arr md 2 (a8 [.u8,.u8] T) none te tx ty))]) rfl rfl rfl (fun p hp=>?_) rfl (by kernel_rfl) (fun m=>by kernel_rfl) (fun H h0 h1=>⟨(Eq.trans (show AM.T.get (r7 En.ng 2 H.nx.idx [.h,.o .h] (.o .h)) H.hp=AM.T.get (.o .h) H.hp from by kernel_rfl) (h1.trans (by kernel_rfl))),trivial⟩) (fun a=>?_) (fun _=>rfl) (fun o ho ρ=>?_) (hr _ ⟨e1,by rw [e2];rfl,fun i o hi=>by
  simp at hi⟩)) h7
 ·simp only [List.mem_cons,List.not_mem_nil,or_false] at hp
  subst hp;first|exact (show (Ps.h).idx < 2 by decide)|exact (show (Ps.o .h).idx < 2 by decide)
 ·rfl
 ·cases ho
theorem So {m:Nat} {V:Nat→Bool} {S:Nat→Nat→Int} {mar:List AV} {mr:AV} (h7:nZ mar mr) (h:a7 En 2 (xD md T tx ty te) (fun v H=>v=.agg [.int .i64 0,.int .i64 500,.nils,.sa (.i .h) 0 m 3]∧H.nx=.o (.o .h)∧H.hp.get (.i .h)=some (FE m V S))) :
 q9 (qV [.agg [.nils,.sa (.o .h) 0 md 2]] mar none (some (.arr md 2 (a8 [.u8,.u8] T) none te tx ty)) mr m V S) En:=by
 obtain ⟨v,H,⟨e1,e2,g1⟩,hr⟩:=a7.split h
 refine Y7 (Q5 (x:=xD md T tx ty te) (v0:=.agg [.int .i64 0,.int .i64 500,.nils,.sa (.i .h) 0 m 3]) (news:=[FE m V S]) (os:=[(.o .h,(.arr md 2 (a8 [.u8,.u8] T) none te tx ty))]) rfl rfl rfl (fun p hp=>?_) rfl (by kernel_rfl) (fun m=>by kernel_rfl) (fun H h0 h1=>⟨(Eq.trans (show AM.T.get (r7 En.ng 2 H.nx.idx [.h,.o .h] (.o .h)) H.hp=AM.T.get (.o .h) H.hp from by kernel_rfl) (h1.trans (by kernel_rfl))),trivial⟩) (fun a=>?_) (fun _=>rfl) (fun o ho ρ=>?_) (hr _ ⟨e1,by rw [e2];rfl,fun i o hi=>by
  match i,hi with
  | 0,hi=>cases hi;exact g1
  | i+1,hi=>simp at hi⟩)) h7
 ·simp only [List.mem_cons,List.not_mem_nil,or_false] at hp
  subst hp;first|exact (show (Ps.h).idx < 2 by decide)|exact (show (Ps.o .h).idx < 2 by decide)
 ·show AV.agg [.int .i64 0,.int .i64 500,.nils,.sa (Ps.of (a.idx+0)) 0 m 3]=_
  rw [Nat.add_zero,fW]
 ·simp only [List.mem_cons,List.not_mem_nil,or_false] at ho
  subst ho;rfl
theorem Sp {mar:List AV} {mr:AV} (h7:nZ mar mr) (h:a7 En 2 (Sb) (fun v H=>v=.agg [.int .i64 0,.int .i64 500,.nils,.nils]∧H.nx=.i .h)) :
 q9 (Z6 [.agg [.nils,.nils]] mar none none mr ) En:=by
 obtain ⟨v,H,⟨e1,e2⟩,hr⟩:=a7.split h
 refine Y7 (Q5 (x:=Sb) (v0:=.agg [.int .i64 0,.int .i64 500,.nils,.nils]) (news:=[]) (os:=[]) rfl rfl rfl (fun p hp=>?_) rfl (by kernel_rfl) (fun m=>by kernel_rfl) (fun H h0 h1=>trivial) (fun a=>?_) (fun _=>rfl) (fun o ho ρ=>?_) (hr _ ⟨e1,by rw [e2];rfl,fun i o hi=>by
  simp at hi⟩)) h7
 ·cases hp
 ·rfl
 ·cases ho
end
def cQ (ax ay bx b qx qy:Int):Int:=if ay≤qy∧qy < b∧(b - ay) * (qx - ax) < (bx - ax) * (qy - ay) then 1 else 0
def W5 (ax ay bx b qx qy:Int):Int:=if b < ay then 0 - cQ bx b ax ay qx qy else cQ ax ay bx b qx qy
theorem tT (ax ay bx b qx qy:Int) : -1≤W5 ax ay bx b qx qy∧W5 ax ay bx b qx qy≤1:=by
 unfold W5 cQ;split <;> split <;> omega
def Fy (m:Int):Int:=if 16 < 3 * m then if 64 < 3 * m then if 256 < 3 * m then if 1024 < 3 * m then if 4096 < 3 * m then if 16384 < 3 * m then if 65536 < 3 * m then 128 else 64 else 32 else 16 else 8 else 4 else 2 else 1
def Sq (z:Int):Int:=if z < 0 - z then 0 - z else z
def TE (a b:Int):Int:=if a < b then b else a
def jX (ax ay bx b cx cy dx dy:Int):Int:=
 Fy (TE (Sq (ax - 2 * bx+cx)+Sq (ay - 2 * b+cy)) (Sq (bx - 2 * cx+dx)+Sq (b - 2 * cy+dy)))
theorem KW (m:Int):1≤Fy m∧Fy m≤128:=by unfold Fy;repeat' split <;> try omega
theorem oA (ax ay bx b cx cy dx dy:Int):1≤jX ax ay bx b cx cy dx dy∧jX ax ay bx b cx cy dx dy≤128:=KW _
def qX (F:Nat→Nat→Int):Nat→Int|0=>0|i+1=>if F i 0=1 then F i 1 else qX F i
def pE (F:Nat→Nat→Int):Nat→Int|0=>0|i+1=>if F i 0=1 then F i 2 else pE F i
def fX (F:Nat→Nat→Int):Nat→Int|0=>0|i+1=>if F i 0=1∨F i 0=2 then F i 1 else if F i 0=3 then F i 5 else qX F i
def eA (F:Nat→Nat→Int):Nat→Int|0=>0|i+1=>if F i 0=1∨F i 0=2 then F i 2 else if F i 0=3 then F i 6 else pE F i
def Fz (F:Nat→Nat→Int) (x y:Int):Nat→Int
 | 0=>0
 | i+1=>Fz F x y i+if F i 0=2 then W5 (fX F i) (eA F i) (F i 1) (F i 2) x y else W5 (fX F i) (eA F i) (qX F i) (pE F i) x y
def wn (F:Nat→Nat→Int) (n:Nat) (x y:Int):Int:=Fz F x y n+W5 (fX F n) (eA F n) (qX F n) (pE F n) x y
theorem Sr (F:Nat→Nat→Int) (x y:Int):∀ n:Nat,-(n:Int)≤Fz F x y n∧Fz F x y n≤n
 | 0=>by unfold Fz;omega
 | n+1=>by
   have h:=Sr F x y n
   have h1:=tT (fX F n) (eA F n) (F n 1) (F n 2) x y
   have h2:=tT (fX F n) (eA F n) (qX F n) (pE F n) x y
   unfold Fz
   split <;> omega
section
variable (F:Nat→Nat→Int) (i:Nat)
include F i
theorem Z7:qX F (i+1)=if F i 0=1 then F i 1 else qX F i:=rfl
theorem Z8:pE F (i+1)=if F i 0=1 then F i 2 else pE F i:=rfl
theorem Z9:fX F (i+1)=if F i 0=1∨F i 0=2 then F i 1 else if F i 0=3 then F i 5 else qX F i:=rfl
theorem aA:eA F (i+1)=if F i 0=1∨F i 0=2 then F i 2 else if F i 0=3 then F i 6 else pE F i:=rfl
end
theorem fY (F:Nat→Nat→Int) (x y:Int) (i:Nat):Fz F x y (i+1)=Fz F x y i+if F i 0=2 then W5 (fX F i) (eA F i) (F i 1) (F i 2) x y else W5 (fX F i) (eA F i) (qX F i) (pE F i) x y:=rfl
theorem xE {F:Nat→Nat→Int} {B:Int} (hB:0≤B) (h:∀ j k,-B≤F j k∧F j k≤B):∀ n,(-B≤qX F n∧qX F n≤B)∧(-B≤pE F n∧pE F n≤B)
 | 0=>⟨⟨by show -B≤0;omega,hB⟩,⟨by show -B≤0;omega,hB⟩⟩
 | n+1=>by
   have h0:=xE hB h n
   have h1:=h n 1
   have h2:=h n 2
   rw [Z7,Z8]
   split <;> omega
theorem Ga {F:Nat→Nat→Int} {B:Int} (hB:0≤B) (h:∀ j k,-B≤F j k∧F j k≤B):∀ n,(-B≤fX F n∧fX F n≤B)∧(-B≤eA F n∧eA F n≤B)
 | 0=>⟨⟨by show -B≤0;omega,hB⟩,⟨by show -B≤0;omega,hB⟩⟩
 | n+1=>by
   have h0:=xE hB h n
   have h1:=h n 1
   have h2:=h n 2
   have h5:=h n 5
   have h6:=h n 6
   rw [Z9,aA]
   split
   ·omega
   ·split <;> omega
def Ss (ax:Int) (ay:Int) (bx:Int) (b:Int) (qx:Int) (qy:Int):St:=⟨o4 (d9 En 53 [(az [ax,ay,bx,b]),(az [qx,qy])] false),[],[],.h,0⟩
theorem TF (ax:Int) (ay:Int) (bx:Int) (b:Int) (qx:Int) (qy:Int):d9 En 53 [(az [ax,ay,bx,b]),(az [qx,qy])] false=some (Ss ax ay bx b qx qy).f:=by kernel_rfl
end Go.Proofs.Ytoahnefofelglaa.gm
end
