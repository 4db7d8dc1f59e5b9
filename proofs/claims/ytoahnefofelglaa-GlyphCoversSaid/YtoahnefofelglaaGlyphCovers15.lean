/- A part of the proof of GlyphCovers; no condition. -/
import Derived.Test.YtoahnefofelglaaGlyphCovers14
set_option linter.unusedVariables false
set_option linter.unusedSimpArgs false
set_option linter.unusedSectionVars false
noncomputable section
section
namespace Go.Proofs.Ytoahnefofelglaa.gm
open Go Go.AM
abbrev dE (x y:Int):Bool:=(a6 (f8 x) (a6 (f8 y) true))
abbrev Uc (kx:Int) (Q:Nat→Nat→Int) (i:Nat):Int:=(Int.add kx (Int.tmod (Q i 0) (8)))
abbrev Ud (ky:Int) (Q:Nat→Nat→Int) (i:Nat):Int:=(Int.add ky (Int.tmod (Q i 1) (8)))
abbrev Ci (i nq:Nat):Bool:=(a6 (Nat.ble (Nat.succ i) nq) true)
abbrev FU (x:Int) (Q:Nat→Nat→Int) (i:Nat):Int:=(Int.add (Int.mul (16) (Int.add x (Q i 0))) (8))
abbrev FV (y:Int) (Q:Nat→Nat→Int) (i:Nat):Int:=(Int.add (Int.mul (16) (Int.add y (Q i 1))) (8))
abbrev FW (x kx:Int) (Q:Nat→Nat→Int) (i:Nat):Int:=(Int.add (Int.mul (16) (Int.add x (Uc kx Q i))) (8))
abbrev FX (y ky:Int) (Q:Nat→Nat→Int) (i:Nat):Int:=(Int.add (Int.mul (16) (Int.add y (Ud ky Q i))) (8))
abbrev oI (n0 n1 n2 n3:Int):Bool:=(a6 (a6 (c9 n0 n0) (a6 (c9 n1 n1) (a6 (c9 n2 n2) (a6 (c9 n3 n3) true)))) (a6 (a6 (c9 n0 n0) (a6 (c9 n1 n1) (a6 (c9 n2 n2) (a6 (c9 n3 n3) true)))) true))
abbrev FY (n0 n1 n2 n3:Int) (nd:Nat):Bool:=(a6 (oI n0 n1 n2 n3) (a6 (a6 (a6 (a6 (Nat.beq nd nd) true) true) true) true))
abbrev xV (n0 n1 n2 n3:Int) (md:Nat):Bool:=(a6 (oI n0 n1 n2 n3) (a6 (a6 (a6 (a6 (Nat.beq md md) true) true) true) true))
abbrev Jw (x:Int) (Q:Nat→Nat→Int) (i:Nat) (y:Int):Bool:=(a6 (a6 (f9 (-16384) (FU x Q i)) (f9 (FU x Q i) (16384))) (a6 (a6 (f9 (-16384) (FV y Q i)) (f9 (FV y Q i) (16384))) true))
abbrev cR (n0 n1 n2 n3:Int) (nd md:Nat):Bool:=(a6 (oI n0 n1 n2 n3) (a6 (a6 (a6 (a6 (Nat.beq nd nd) true) (a6 (a6 (Nat.beq md md) true) true)) true) true))
abbrev Jx (kx ky kw kh:Int) (Q:Nat→Nat→Int) (i:Nat):Bool:=(a6 (a6 (a6 (a6 (f9 (-2000) kx) (f9 kx (2000))) (a6 (a6 (f9 (-2000) ky) (f9 ky (2000))) (a6 (a6 (f9 (0) kw) (f9 kw (256))) (a6 (a6 (f9 (0) kh) (f9 kh (256))) (a6 (a6 (f9 (-2000) (Q i 0)) (f9 (Q i 0) (2000))) (a6 (f9 (-2000) (Q i 1)) (f9 (Q i 1) (2000)))))))) true) true)
abbrev CA (kx ky kw kh:Int) (Q:Nat→Nat→Int) (i:Nat):Bool:=(a6 (a6 (a6 (a6 (f9 (-2000) kx) (f9 kx (2000))) (a6 (a6 (f9 (-2000) ky) (f9 ky (2000))) (a6 (a6 (f9 (0) kw) (f9 kw (256))) (a6 (a6 (f9 (0) kh) (f9 kh (256))) (a6 (a6 (f9 (-2000) (Uc kx Q i)) (f9 (Uc kx Q i) (2000))) (a6 (f9 (-2000) (Ud ky Q i)) (f9 (Ud ky Q i) (2000)))))))) true) true)
abbrev Jy (i nq:Nat) (Q:Nat→Nat→Int) (kx ky:Int):Bool:=(a6 (a6 (Ci i nq) (a6 (a6 (Ci i nq) true) (a6 (f8 (Q i 0)) (a6 (Ci i nq) (a6 (a6 (Ci i nq) true) (a6 (f8 (Q i 1)) (a6 (Ci i nq) (a6 (a6 (Ci i nq) true) (a6 (f8 (Q i 0)) (a6 (f8 (Uc kx Q i)) (a6 (Ci i nq) (a6 (a6 (Ci i nq) true) (a6 (f8 (Q i 1)) (a6 (f8 (Ud ky Q i)) true)))))))))))))) (a6 (a6 (a6 (f8 (Q i 1)) (c9 (Q i 1) (Q i 1))) true) (a6 (a6 (a6 (a6 (Ci i nq) true) (c9 (Q i 1) (Q i 1))) true) (a6 (a6 (c9 ky ky) true) (a6 (a6 (a6 (f8 (Q i 0)) (c9 (Q i 0) (Q i 0))) true) (a6 (a6 (a6 (a6 (Ci i nq) true) (c9 (Q i 0) (Q i 0))) true) (a6 (a6 (c9 kx kx) true) (a6 (a6 (a6 (f8 (Q i 1)) (c9 (Q i 1) (Q i 1))) true) (a6 (a6 (a6 (a6 (Ci i nq) true) (c9 (Q i 1) (Q i 1))) true) (a6 (a6 (a6 (f8 (Q i 0)) (c9 (Q i 0) (Q i 0))) true) (a6 (a6 (a6 (a6 (Ci i nq) true) (c9 (Q i 0) (Q i 0))) true) true)))))))))))
theorem ZF (z:Int) : -8 < Int.tmod z 8∧Int.tmod z 8 < 8:=by
 have h:=Int.tmod_eq_emod (a:=z) (b:=8)
 have e1:=Int.emod_nonneg z (b:=8) (by decide)
 have e2:=Int.emod_lt_of_pos z (b:=8) (by decide)
 split at h <;> omega
theorem Ue {n:Nat} {Y P0 P:Nat→Nat→Int} {oX oY:Int→Int→Int} {x y:Int} (h0:∀ j,j < n→I5 Y oX oY 0 0 P0 j) (h1:∀ j,j < n→I5 Y oX oY x y P j):WF P0 P n (16 * x) (16 * y):=fun j hj=>by
 obtain ⟨a0,a1,a2,a3,a4⟩:=h0 j hj
 obtain ⟨b0,b1,b2,b3,b4⟩:=h1 j hj
 refine ⟨by omega,fun h=>?_,fun h=>?_⟩
 ·have:=a2 (by omega);have:=b2 (by omega);omega
 have:=a3 (by omega);have:=b3 (by omega);omega
section
variable {n:Nat} {Y P:Nat→Nat→Int} {oX oY:Int→Int→Int} {x y:Int} {kx ky kw kh:Int} {l:List Nat}
theorem Uf {N:Nat} {F:Nat→Nat→Int} (hr:∀ j,j < n→I5 Y oX oY x y P j) (hN:(N:Int)=v8 P n) (hL:z7 P F n) (hrel:∃ (P0:Nat→Nat→Int) (N0:Nat) (F0:Nat→Nat→Int),u2 n P0∧(∀ j,j < n→I5 Y oX oY 0 0 P0 j)∧(N0:Int)=v8 P0 n∧N0≤300∧z7 P0 F0 n∧(∀ j k,-8192≤F0 j k∧F0 j k≤8192)∧∀ a b,S6 kx ky kw kh l a b=S5 F0 N0 (16 * a+8) (16 * b+8)) :
 N≤300∧∀ a b,S6 kx ky kw kh l a b=S5 F N (16 * (x+a)+8) (16 * (y+b)+8):=by
 obtain ⟨P0,N0,F0,k0,k1,k2,k3,k4,k5,k6⟩:=hrel
 have hs:=Ue k1 hr
 have ho:=cD k0 hs n (Nat.le_refl n)
 obtain rfl:N=N0:=by omega
 refine ⟨k3,fun a b=>?_⟩
 rw [k6 a b]
 unfold S5
 have:=Tj (tX k2 k4 k0 k5 k3) (Cf k0 hs k2 k4 hL) (oG k2 k4) (16 * a+8) (16 * b+8)
 rw [← this,show 16 * a+8+16 * x=16 * (x+a)+8 by omega,show 16 * b+8+16 * y=16 * (y+b)+8 by omega]
theorem Ug (hr:∀ j,j < n→I5 Y oX oY x y P j) (hrel:∃ (P0:Nat→Nat→Int) (N0:Nat) (F0:Nat→Nat→Int),u2 n P0∧(∀ j,j < n→I5 Y oX oY 0 0 P0 j)∧(N0:Int)=v8 P0 n∧N0≤300∧z7 P0 F0 n∧(∀ j k,-8192≤F0 j k∧F0 j k≤8192)∧∀ a b,S6 kx ky kw kh l a b=S5 F0 N0 (16 * a+8) (16 * b+8)):v8 P n≤300:=by
 obtain ⟨P0,N0,F0,k0,k1,k2,k3,_⟩:=hrel
 have ho:=cD k0 (Ue k1 hr) n (Nat.le_refl n)
 omega
end
section
variable {nd:Nat} {D:Nat→Nat→Int} {dx:Bool} {dy:Bool} {de:Nat} {md:Nat} {T:Nat→Nat→Int} {tx:Bool} {ty:Bool} {te:Nat} {n0:Int} {n1:Int} {n2:Int} {n3:Int} {up:Bool} {x:Int} {y:Int} {nq:Nat} {Q:Nat→Nat→Int} {qx:Bool} {qy:Bool} {qe:Nat} {n:Nat} {Y:Nat→Nat→Int} {m:Nat} {V:Nat→Bool} {S:Nat→Nat→Int} {mA:Int} {mB:Int} {mC:Int} {mD:Int} {mE:Int} {mF:Int}
theorem CB {kx ky kw kh:Int} {l:List Nat} {N:Nat} {F:Nat→Nat→Int} {oe:Bool} (hx : -128≤x∧x≤127) (hy : -128≤y∧y≤127) (hQ:∀ j k,-128≤Q j k∧Q j k≤127) (hkb:((-512≤kx∧kx≤512)∧(-512≤ky∧ky≤512)∧(0≤kw∧kw≤256)∧(0≤kh∧kh≤256))) (hN:N≤300) (hF:∀ j k,-8192≤F j k∧F j k≤8192) (hok:u2 N F) (hfl:∀ j,j < N→F j 0≠3) (hc:∀ a b,S6 kx ky kw kh l a b=S5 F N (16 * (x+a)+8) (16 * (y+b)+8)) (d:Nat):∀ i:Nat,nq - i=d→i≤nq→a7 En 3 (Gk x y nq Q qx qy qe kx ky kw kh l N F oe i) (fun v H=>v=.bool true∧H.nx=.o J1):=by
 have hpo:K9 N (a8 R7 F)=true:=oD hN (fun j k=>by have:=hF j k;omega) hok hfl
 have hb:∀ a b:Int,P6 (T1 N (a8 R7 F) (Int.add (Int.mul (16) (Int.add x a)) (8)) (Int.add (Int.mul (16) (Int.add y b)) (8))) (S6 kx ky kw kh l a b)=true:=fun a b=>by
  rw [tW,hc a b];exact uF _
 induction d using Nat.strongRecOn with
 | ind d IH =>
   intro i hd hi
   have hq0:=hQ i 0
   have hq1:=hQ i 1
   have hm0 : -8 < Int.tmod (Q i 0) (8)∧Int.tmod (Q i 0) (8) < 8:=ZF _
   have hm1 : -8 < Int.tmod (Q i 1) (8)∧Int.tmod (Q i 1) (8) < 8:=ZF _
   have ih:i < nq→a7 En 3 (Gk x y nq Q qx qy qe kx ky kw kh l N F oe (Nat.add i 1)) (fun v H=>v=.bool true∧H.nx=.o J1):=fun h=>IH (nq - (i+1)) (by omega) (i+1) rfl (by omega)
   clear IH
   rcases T6 (Nat.succ i) nq with ⟨b1,b1p⟩|⟨b1,b1p⟩
   ·refine A5 j9 3 [(8,64,false)] 12 (a6 (Bool.not (Nat.ble (Nat.succ i) nq)) true) [.h,J1,J2] (.bool true) [] J3 (by (try simp only [b1,hpo,gS]);(try simp only [gT] at *);try omega) ?_
    exact ⟨rfl,rfl⟩
   rcases T6 (Nat.succ i) 30 with ⟨b2,b2p⟩|⟨b2,b2p⟩
   ·refine A5 j9 3 [(8,64,true),(4,67,false)] 8 (a6 (Nat.ble (Nat.succ i) nq) (a6 (Bool.not (Nat.ble (Nat.succ i) 30)) true)) [.h,J1,J2] (.bool true) [] J3 (by (try simp only [b1,hpo,b2,gS]);(try simp only [gT] at *);try omega) ?_
    exact ⟨rfl,rfl⟩
   cases b3:(P6 (T1 N (a8 R7 F) (Int.add (Int.mul (16) (Int.add x (Q i 0))) (8)) (Int.add (Int.mul (16) (Int.add y (Q i 1))) (8))) (S6 kx ky kw kh l (Q i 0) (Q i 1)))
   ·have b3p:=tM (N6 _ _) b3
    refine A5 j9 3 [(8,64,true),(4,67,true),(65,141,true)] 7 ((a6 (Nat.ble (Nat.succ i) nq) (a6 (Nat.ble (Nat.succ i) 30) (a6 (a6 (Jy i nq Q kx ky) (a6 (f8 x) (a6 (f8 (Int.add x (Q i 0))) (a6 (f8 (Int.mul (16) (Int.add x (Q i 0)))) (a6 (f8 (FU x Q i)) (a6 (f8 y) (a6 (f8 (Int.add y (Q i 1))) (a6 (f8 (Int.mul (16) (Int.add y (Q i 1)))) (a6 (f8 (FV y Q i)) (a6 (a6 (a6 (Nat.beq N N) (a6 (K9 N (a8 R7 F)) (Jw x Q i y))) true) (Jx kx ky kw kh Q i))))))))))) (a6 (Bool.not (P6 (T1 N (a8 R7 F) (Int.add (Int.mul (16) (Int.add x (Q i 0))) (8)) (Int.add (Int.mul (16) (Int.add y (Q i 1))) (8))) (S6 kx ky kw kh l (Q i 0) (Q i 1)))) true))))) [.h,J1,J2] (.bool false) [] J3 (by have:=n7 (hQ i);have:=o8 (Q i 1) (k:=8) (by decide);have:=o8 (Q i 0) (k:=8) (by decide);(try simp only [b1,hpo,b2,b3,gS,Uc,Ud,Ci,FU,FV,Jw,Jx,Jy]);(try simp only [gT] at *);try omega) ?_
    exact absurd (hb _ _) (by first|(rw [b4];decide)|(rw [b3];decide))
   have b3p:=tL (N6 _ _) b3
   cases b4:(P6 (T1 N (a8 R7 F) (Int.add (Int.mul (16) (Int.add x (Int.add kx (Int.tmod (Q i 0) (8))))) (8)) (Int.add (Int.mul (16) (Int.add y (Int.add ky (Int.tmod (Q i 1) (8))))) (8))) (S6 kx ky kw kh l (Int.add kx (Int.tmod (Q i 0) (8))) (Int.add ky (Int.tmod (Q i 1) (8)))))
   ·have b4p:=tM (N6 _ _) b4
    refine A5 j9 3 [(8,64,true),(4,67,true),(65,141,false),(65,141,true)] 7 ((a6 (Nat.ble (Nat.succ i) nq) (a6 (Nat.ble (Nat.succ i) 30) (a6 (a6 (Jy i nq Q kx ky) (a6 (f8 x) (a6 (f8 (Int.add x (Q i 0))) (a6 (f8 (Int.mul (16) (Int.add x (Q i 0)))) (a6 (f8 (FU x Q i)) (a6 (f8 y) (a6 (f8 (Int.add y (Q i 1))) (a6 (f8 (Int.mul (16) (Int.add y (Q i 1)))) (a6 (f8 (FV y Q i)) (a6 (a6 (a6 (Nat.beq N N) (a6 (K9 N (a8 R7 F)) (Jw x Q i y))) true) (Jx kx ky kw kh Q i))))))))))) (a6 (Bool.not (Bool.not (P6 (T1 N (a8 R7 F) (Int.add (Int.mul (16) (Int.add x (Q i 0))) (8)) (Int.add (Int.mul (16) (Int.add y (Q i 1))) (8))) (S6 kx ky kw kh l (Q i 0) (Q i 1))))) (a6 (a6 (f8 x) (a6 (f8 (Int.add x (Uc kx Q i))) (a6 (f8 (Int.mul (16) (Int.add x (Uc kx Q i)))) (a6 (f8 (FW x kx Q i)) (a6 (f8 y) (a6 (f8 (Int.add y (Ud ky Q i))) (a6 (f8 (Int.mul (16) (Int.add y (Ud ky Q i)))) (a6 (f8 (FX y ky Q i)) (a6 (a6 (a6 (Nat.beq N N) (a6 (K9 N (a8 R7 F)) (a6 (a6 (f9 (-16384) (FW x kx Q i)) (f9 (FW x kx Q i) (16384))) (a6 (a6 (f9 (-16384) (FX y ky Q i)) (f9 (FX y ky Q i) (16384))) true)))) true) (CA kx ky kw kh Q i)))))))))) (a6 (Bool.not (P6 (T1 N (a8 R7 F) (Int.add (Int.mul (16) (Int.add x (Int.add kx (Int.tmod (Q i 0) (8))))) (8)) (Int.add (Int.mul (16) (Int.add y (Int.add ky (Int.tmod (Q i 1) (8))))) (8))) (S6 kx ky kw kh l (Int.add kx (Int.tmod (Q i 0) (8))) (Int.add ky (Int.tmod (Q i 1) (8)))))) true))))))) [.h,J1,J2] (.bool false) [] J3 (by have:=n7 (hQ i);have:=o8 (Q i 0) (k:=8) (by decide);have:=o8 (Q i 1) (k:=8) (by decide);(try simp only [b1,hpo,b2,b3,b4,gS,Uc,Ud,Ci,FU,FV,FW,FX,Jw,Jx,CA,Jy]);(try simp only [gT] at *);try omega) ?_
    exact absurd (hb _ _) (by first|(rw [b4];decide)|(rw [b3];decide))
   have b4p:=tL (N6 _ _) b4
   refine Z1 j9 3 [(8,64,true),(4,67,true),(65,141,false),(65,141,false)] 22 ((a6 (Nat.ble (Nat.succ i) nq) (a6 (Nat.ble (Nat.succ i) 30) (a6 (a6 (Jy i nq Q kx ky) (a6 (f8 x) (a6 (f8 (Int.add x (Q i 0))) (a6 (f8 (Int.mul (16) (Int.add x (Q i 0)))) (a6 (f8 (FU x Q i)) (a6 (f8 y) (a6 (f8 (Int.add y (Q i 1))) (a6 (f8 (Int.mul (16) (Int.add y (Q i 1)))) (a6 (f8 (FV y Q i)) (a6 (a6 (a6 (Nat.beq N N) (a6 (K9 N (a8 R7 F)) (Jw x Q i y))) true) (Jx kx ky kw kh Q i))))))))))) (a6 (Bool.not (Bool.not (P6 (T1 N (a8 R7 F) (Int.add (Int.mul (16) (Int.add x (Q i 0))) (8)) (Int.add (Int.mul (16) (Int.add y (Q i 1))) (8))) (S6 kx ky kw kh l (Q i 0) (Q i 1))))) (a6 (a6 (f8 x) (a6 (f8 (Int.add x (Uc kx Q i))) (a6 (f8 (Int.mul (16) (Int.add x (Uc kx Q i)))) (a6 (f8 (FW x kx Q i)) (a6 (f8 y) (a6 (f8 (Int.add y (Ud ky Q i))) (a6 (f8 (Int.mul (16) (Int.add y (Ud ky Q i)))) (a6 (f8 (FX y ky Q i)) (a6 (a6 (a6 (Nat.beq N N) (a6 (K9 N (a8 R7 F)) (a6 (a6 (f9 (-16384) (FW x kx Q i)) (f9 (FW x kx Q i) (16384))) (a6 (a6 (f9 (-16384) (FX y ky Q i)) (f9 (FX y ky Q i) (16384))) true)))) true) (CA kx ky kw kh Q i)))))))))) (a6 (Bool.not (Bool.not (P6 (T1 N (a8 R7 F) (Int.add (Int.mul (16) (Int.add x (Int.add kx (Int.tmod (Q i 0) (8))))) (8)) (Int.add (Int.mul (16) (Int.add y (Int.add ky (Int.tmod (Q i 1) (8))))) (8))) (S6 kx ky kw kh l (Int.add kx (Int.tmod (Q i 0) (8))) (Int.add ky (Int.tmod (Q i 1) (8))))))) (a6 (a6 (f9 (-9223372036854775808) (.ofNat (Nat.add i 1))) (Nat.ble (Nat.add i 1) 9223372036854775807)) true)))))))) (Gk x y nq Q qx qy qe kx ky kw kh l N F oe (Nat.add i 1)) [.h,J1,J2,J3,J4,J5] [4,8,13,15,17] [] (by have:=n7 (hQ i);have:=o8 (Q i 0) (k:=8) (by decide);have:=o8 (Q i 1) (k:=8) (by decide);(try simp only [b1,hpo,b2,b3,b4,gS,Uc,Ud,Ci,FU,FV,FW,FX,Jw,Jx,CA,Jy]);(try simp only [gT] at *);try omega) ?_
   exact ih (by omega)
theorem CC {kx ky kw kh:Int} {l:List Nat} {N:Nat} {F:Nat→Nat→Int} {oe:Bool}:a7 En 3 (FT x y kx ky kw kh l N F oe) (fun v H=>v=.bool true∧H.nx=.o J1):=by
 refine A5 j9 3 [] 20 true [.h,J1,J2] (.bool true) [] J3 rfl ?_
 exact ⟨rfl,rfl⟩
theorem kX {kx ky kw kh:Int} {l:List Nat} {P:Nat→Nat→Int} {oX oY:Int→Int→Int} (hx : -128≤x∧x≤127) (hy : -128≤y∧y≤127) (hQ:∀ j k,-128≤Q j k∧Q j k≤127) (hn:n≤300) (hP:∀ j k,-8192≤P j k∧P j k≤8192) (hok:u2 n P) (hr:∀ j,j < n→I5 Y oX oY x y P j) (hkb:((-512≤kx∧kx≤512)∧(-512≤ky∧ky≤512)∧(0≤kw∧kw≤256)∧(0≤kh∧kh≤256))) (hrel:∃ (P0:Nat→Nat→Int) (N0:Nat) (F0:Nat→Nat→Int),u2 n P0∧(∀ j,j < n→I5 Y oX oY 0 0 P0 j)∧(N0:Int)=v8 P0 n∧N0≤300∧z7 P0 F0 n∧(∀ j k,-8192≤F0 j k∧F0 j k≤8192)∧∀ a b,S6 kx ky kw kh l a b=S5 F0 N0 (16 * a+8) (16 * b+8)):a7 En 3 (xS x y nq Q qx qy qe n kx ky kw kh l P) (fun v H=>v=.bool true∧H.nx=.o J1):=by
 refine J0 j9 3 [] 3 true (NS x y nq Q qx qy qe n kx ky kw kh l P) [.h,J1,J2,J5,J3,J4] [[4,8,13]] rfl ?_
 refine ca (Cc n P true false) [J3] (Ce (n:=n) (P:=P) (ex:=true) (sty:=false) hn hP hok) (fun v' H' q=>?_)
 rcases q with ⟨rfl,hnx43,hq_43⟩|⟨N_43,F_43,oe_43,rfl,hnx43,ho0_43,hNo_43,hN_43,hL_43,hF_43⟩
 ·skip
  refine ⟨(.tup [.nils,(zi (26))]),[],J6,(by kernel_rfl),(by rw [hnx43];kernel_rfl),trivial,(by kernel_rfl),?_⟩
  refine A5 j9 3 [] 19 true [.h,J1,J2] (.bool false) [] J3 rfl ?_
  exact absurd (Ug hr hrel) (by omega)
 skip
 refine ⟨(.tup [(.sa J6 0 N_43 7),(zi (0))]),[(J6,(o7 N_43 F_43 oe_43 false))],J7,(by kernel_rfl),(by rw [hnx43];kernel_rfl),⟨⟨J1,_,(Nat.le_of_ble_eq_true (by kernel_rfl)),(by show _=_;kernel_rfl),ho0_43,(by show _=_;kernel_rfl)⟩,trivial⟩,(by kernel_rfl),?_⟩
 refine Z1 j9 3 [] 21 true (Gk x y nq Q qx qy qe kx ky kw kh l N_43 F_43 oe_43 0) [.h,J1,J2,J4,J5,J6] [4,8,13,15,17] [] rfl ?_
 exact CB hx hy hQ hkb (Uf hr hNo_43 hL_43 hrel).1 hF_43 (tX hNo_43 hL_43 hok hF_43 hN_43) (oG hNo_43 hL_43) (Uf hr hNo_43 hL_43 hrel).2 (nq - 0) 0 rfl (by omega)
theorem kY {kx ky kw kh:Int} {l:List Nat} {P:Nat→Nat→Int} {oX oY:Int→Int→Int} (hx : -128≤x∧x≤127) (hy : -128≤y∧y≤127) (hn:n≤300) (hP:∀ j k,-8192≤P j k∧P j k≤8192) (hok:u2 n P) (hr:∀ j,j < n→I5 Y oX oY x y P j) (hkb:((-512≤kx∧kx≤512)∧(-512≤ky∧ky≤512)∧(0≤kw∧kw≤256)∧(0≤kh∧kh≤256))) (hrel:∃ (P0:Nat→Nat→Int) (N0:Nat) (F0:Nat→Nat→Int),u2 n P0∧(∀ j,j < n→I5 Y oX oY 0 0 P0 j)∧(N0:Int)=v8 P0 n∧N0≤300∧z7 P0 F0 n∧(∀ j k,-8192≤F0 j k∧F0 j k≤8192)∧∀ a b,S6 kx ky kw kh l a b=S5 F0 N0 (16 * a+8) (16 * b+8)):a7 En 3 (xU x y n kx ky kw kh l P) (fun v H=>v=.bool true∧H.nx=.o J1):=by
 refine J0 j9 3 [] 3 true (NT x y n kx ky kw kh l P) [.h,J1,J2,J5,J3,J4] [[4,8,13]] rfl ?_
 refine ca (Cc n P true false) [J3] (Ce (n:=n) (P:=P) (ex:=true) (sty:=false) hn hP hok) (fun v' H' q=>?_)
 rcases q with ⟨rfl,hnx44,hq_44⟩|⟨N_44,F_44,oe_44,rfl,hnx44,ho0_44,hNo_44,hN_44,hL_44,hF_44⟩
 ·skip
  refine ⟨(.tup [.nils,(zi (26))]),[],J6,(by kernel_rfl),(by rw [hnx44];kernel_rfl),trivial,(by kernel_rfl),?_⟩
  refine A5 j9 3 [] 19 true [.h,J1,J2] (.bool false) [] J3 rfl ?_
  exact absurd (Ug hr hrel) (by omega)
 skip
 refine ⟨(.tup [(.sa J6 0 N_44 7),(zi (0))]),[(J6,(o7 N_44 F_44 oe_44 false))],J7,(by kernel_rfl),(by rw [hnx44];kernel_rfl),⟨⟨J1,_,(Nat.le_of_ble_eq_true (by kernel_rfl)),(by show _=_;kernel_rfl),ho0_44,(by show _=_;kernel_rfl)⟩,trivial⟩,(by kernel_rfl),?_⟩
 refine Z1 j9 3 [] 21 true (FT x y kx ky kw kh l N_44 F_44 oe_44) [.h,J1,J2,J4,J5,J6] [4,8,13,15,17] [] rfl ?_
 exact CC
theorem Jz {oX oY:Int→Int→Int} (hx : -128≤x∧x≤127) (hy : -128≤y∧y≤127) (hQ:∀ j k,-128≤Q j k∧Q j k≤127) (hpa:∀ (x y:Int),(-128≤x∧x≤127)→(-128≤y∧y≤127)→a7 En 2 (P5 n Y false false (0) (500) m V S false false mA mB mC mD mE mF x y) (QR n Y oX oY x y J2 J3)) (hdr:a7 En 2 (bP n Y false false (0) (500) m V S false false mA mB mC mD mE mF) (dZ n Y oX oY)):a7 En 3 (Gi x y nq Q qx qy qe n Y m V S mA mB mC mD mE mF) (fun v H=>v=.bool true∧H.nx=.o J1):=by
 refine J0 j9 3 [] 4 true (ND x y nq Q qx qy qe n Y m V S mA mB mC mD mE mF) [.h,J1,J2,J6,J7,J3,J4,J5] [[4,8,11,12]] rfl ?_
 refine ca (bP n Y false false (0) (500) m V S false false mA mB mC mD mE mF) [J3,J4] (hdr) (fun v' H' q=>?_)
 rcases q with ⟨e_28,rfl,hnx28,hde_28⟩|⟨kx_28,ky_28,kw_28,kh_28,l_28,rfl,hnx28,hkb_28,hk_28⟩
 ·skip
  refine ⟨(.tup [(.agg [(zi (0)),(zi (0)),(zi (0)),(zi (0)),(.str [])]),(zi e_28)]),[],J8,(by kernel_rfl),(by rw [hnx28];kernel_rfl),trivial,(by kernel_rfl),?_⟩
  refine J0 j9 3 [] 18 ((dE x y)) (NE x y nq Q qx qy qe n Y m V S mA mB mC mD mE mF e_28) [.h,J1,J2,J3,J4,J5,J8] [[4,8,13,14]] (by (try simp only [hde_28,gS,dE]);(try simp only [gT] at *);try omega) ?_
  refine ca (P5 n Y false false (0) (500) m V S false false mA mB mC mD mE mF x y) [J3,J4] (hpa (x:=x) (y:=y) hx hy) (fun v' H' q=>?_)
  rcases q with ⟨e_29,rfl,hnx29,he_29⟩|⟨P_29,rfl,hnx29,ho0_29,hb_29,hk_29,hr_29⟩
  ·skip
   refine ⟨(.tup [.nils,(zi e_29)]),[],J7,(by kernel_rfl),(by rw [hnx29];kernel_rfl),trivial,(by kernel_rfl),?_⟩
   refine A5 j9 3 [(12,49,true)] 11 (a6 (Bool.not (c9 e_28 (0))) true) [.h,J1,J2] (.bool true) [] J3 (by (try simp only [hde_28,he_29,gS]);(try simp only [gT] at *);try omega) ?_
   exact ⟨rfl,rfl⟩
  skip
  refine ⟨(.tup [(.sa J7 0 n 7),(zi (0))]),[(J7,(o7 n P_29 true false))],J8,(by kernel_rfl),(by rw [hnx29];kernel_rfl),⟨⟨J2,_,(Nat.le_of_ble_eq_true (by kernel_rfl)),(by show _=_;kernel_rfl),ho0_29,(by show _=_;kernel_rfl)⟩,trivial⟩,(by kernel_rfl),?_⟩
  refine A5 j9 3 [(12,49,true)] 11 (a6 (Bool.not (c9 e_28 (0))) true) [.h,J1,J2] (.bool true) [] J3 (by (try simp only [hde_28,gS]);(try simp only [gT] at *);try omega) ?_
  exact ⟨rfl,rfl⟩
 skip
 refine ⟨(.tup [(.agg [(zi kx_28),(zi ky_28),(zi kw_28),(zi kh_28),(.str l_28)]),(zi (0))]),[],J8,(by kernel_rfl),(by rw [hnx28];kernel_rfl),trivial,(by kernel_rfl),?_⟩
 refine J0 j9 3 [] 18 ((dE x y)) (NF x y nq Q qx qy qe n Y m V S mA mB mC mD mE mF kx_28 ky_28 kw_28 kh_28 l_28) [.h,J1,J2,J3,J4,J5,J8] [[4,8,13,14]] (by (try simp only [gS,dE]);(try simp only [gT] at *);try omega) ?_
 refine ca (P5 n Y false false (0) (500) m V S false false mA mB mC mD mE mF x y) [J3,J4] (hpa (x:=x) (y:=y) hx hy) (fun v' H' q=>?_)
 rcases q with ⟨e_30,rfl,hnx30,he_30⟩|⟨P_30,rfl,hnx30,ho0_30,hb_30,hk_30,hr_30⟩
 ·skip
  refine ⟨(.tup [.nils,(zi e_30)]),[],J7,(by kernel_rfl),(by rw [hnx30];kernel_rfl),trivial,(by kernel_rfl),?_⟩
  refine A5 j9 3 [(16,52,true)] 7 (a6 (Bool.not (c9 e_30 (0))) true) [.h,J1,J2] (.bool true) [] J3 (by (try simp only [he_30,gS]);(try simp only [gT] at *);try omega) ?_
  exact ⟨rfl,rfl⟩
 skip
 refine ⟨(.tup [(.sa J7 0 n 7),(zi (0))]),[(J7,(o7 n P_30 true false))],J8,(by kernel_rfl),(by rw [hnx30];kernel_rfl),⟨⟨J2,_,(Nat.le_of_ble_eq_true (by kernel_rfl)),(by show _=_;kernel_rfl),ho0_30,(by show _=_;kernel_rfl)⟩,trivial⟩,(by kernel_rfl),?_⟩
 refine Z1 j9 3 [] 19 true (xS x y nq Q qx qy qe n kx_28 ky_28 kw_28 kh_28 l_28 P_30) [.h,J1,J2,J5,J6,J7] [4,8,13,15] [] rfl ?_
 exact kX hx hy hQ hk_30.1 hb_30 hk_30 hr_30 hkb_28 hk_28
theorem rD {oX oY:Int→Int→Int} (hx : -128≤x∧x≤127) (hy : -128≤y∧y≤127) (hQ:∀ j k,-128≤Q j k∧Q j k≤127) (hpa:∀ (x y:Int),(-128≤x∧x≤127)→(-128≤y∧y≤127)→a7 En 1 (K8 n Y false false (0) (500) mA mB mC mD mE mF x y) (QR n Y oX oY x y J1 J2)) (hdr:a7 En 2 (U7 n Y false false (0) (500) mA mB mC mD mE mF) (dZ n Y oX oY)):a7 En 3 (tZ x y nq Q qx qy qe n Y mA mB mC mD mE mF) (fun v H=>v=.bool true∧H.nx=.o J1):=by
 refine J0 j9 3 [] 4 true (MX x y nq Q qx qy qe n Y mA mB mC mD mE mF) [.h,J1,J2,J6,J3,J4,J5] [[4,8,11,12]] rfl ?_
 refine ca (U7 n Y false false (0) (500) mA mB mC mD mE mF) [J3,.h] (hdr) (fun v' H' q=>?_)
 rcases q with ⟨e_22,rfl,hnx22,hde_22⟩|⟨kx_22,ky_22,kw_22,kh_22,l_22,rfl,hnx22,hkb_22,hk_22⟩
 ·skip
  refine ⟨(.tup [(.agg [(zi (0)),(zi (0)),(zi (0)),(zi (0)),(.str [])]),(zi e_22)]),[],J7,(by kernel_rfl),(by rw [hnx22];kernel_rfl),trivial,(by kernel_rfl),?_⟩
  refine J0 j9 3 [] 18 ((dE x y)) (MY x y nq Q qx qy qe n Y mA mB mC mD mE mF e_22) [.h,J1,J2,J3,J4,J7] [[4,8,13,14]] (by (try simp only [hde_22,gS,dE]);(try simp only [gT] at *);try omega) ?_
  refine ca (K8 n Y false false (0) (500) mA mB mC mD mE mF x y) [J3] (hpa (x:=x) (y:=y) hx hy) (fun v' H' q=>?_)
  rcases q with ⟨e_23,rfl,hnx23,he_23⟩|⟨P_23,rfl,hnx23,ho0_23,hb_23,hk_23,hr_23⟩
  ·skip
   refine ⟨(.tup [.nils,(zi e_23)]),[],J6,(by kernel_rfl),(by rw [hnx23];kernel_rfl),trivial,(by kernel_rfl),?_⟩
   refine A5 j9 3 [(12,49,true)] 11 (a6 (Bool.not (c9 e_22 (0))) true) [.h,J1,J2] (.bool true) [] J3 (by (try simp only [hde_22,he_23,gS]);(try simp only [gT] at *);try omega) ?_
   exact ⟨rfl,rfl⟩
  skip
  refine ⟨(.tup [(.sa J6 0 n 7),(zi (0))]),[(J6,(o7 n P_23 true false))],J7,(by kernel_rfl),(by rw [hnx23];kernel_rfl),⟨⟨J1,_,(Nat.le_of_ble_eq_true (by kernel_rfl)),(by show _=_;kernel_rfl),ho0_23,(by show _=_;kernel_rfl)⟩,trivial⟩,(by kernel_rfl),?_⟩
  refine A5 j9 3 [(12,49,true)] 11 (a6 (Bool.not (c9 e_22 (0))) true) [.h,J1,J2] (.bool true) [] J3 (by (try simp only [hde_22,gS]);(try simp only [gT] at *);try omega) ?_
  exact ⟨rfl,rfl⟩
 skip
 refine ⟨(.tup [(.agg [(zi kx_22),(zi ky_22),(zi kw_22),(zi kh_22),(.str l_22)]),(zi (0))]),[],J7,(by kernel_rfl),(by rw [hnx22];kernel_rfl),trivial,(by kernel_rfl),?_⟩
 refine J0 j9 3 [] 18 ((dE x y)) (MZ x y nq Q qx qy qe n Y mA mB mC mD mE mF kx_22 ky_22 kw_22 kh_22 l_22) [.h,J1,J2,J3,J4,J7] [[4,8,13,14]] (by (try simp only [gS,dE]);(try simp only [gT] at *);try omega) ?_
 refine ca (K8 n Y false false (0) (500) mA mB mC mD mE mF x y) [J3] (hpa (x:=x) (y:=y) hx hy) (fun v' H' q=>?_)
 rcases q with ⟨e_24,rfl,hnx24,he_24⟩|⟨P_24,rfl,hnx24,ho0_24,hb_24,hk_24,hr_24⟩
 ·skip
  refine ⟨(.tup [.nils,(zi e_24)]),[],J6,(by kernel_rfl),(by rw [hnx24];kernel_rfl),trivial,(by kernel_rfl),?_⟩
  refine A5 j9 3 [(16,52,true)] 7 (a6 (Bool.not (c9 e_24 (0))) true) [.h,J1,J2] (.bool true) [] J3 (by (try simp only [he_24,gS]);(try simp only [gT] at *);try omega) ?_
  exact ⟨rfl,rfl⟩
 skip
 refine ⟨(.tup [(.sa J6 0 n 7),(zi (0))]),[(J6,(o7 n P_24 true false))],J7,(by kernel_rfl),(by rw [hnx24];kernel_rfl),⟨⟨J1,_,(Nat.le_of_ble_eq_true (by kernel_rfl)),(by show _=_;kernel_rfl),ho0_24,(by show _=_;kernel_rfl)⟩,trivial⟩,(by kernel_rfl),?_⟩
 refine Z1 j9 3 [] 19 true (xS x y nq Q qx qy qe n kx_22 ky_22 kw_22 kh_22 l_22 P_24) [.h,J1,J2,J4,J5,J6] [4,8,13,15] [] rfl ?_
 exact kX hx hy hQ hk_24.1 hb_24 hk_24 hr_24 hkb_22 hk_22
theorem rE {oX oY:Int→Int→Int} (hx : -128≤x∧x≤127) (hy : -128≤y∧y≤127) (hQ:∀ j k,-128≤Q j k∧Q j k≤127) (hpa:∀ (x y:Int),(-128≤x∧x≤127)→(-128≤y∧y≤127)→a7 En 1 (D9 (0) (500) m V S false false mA mB mC mD mE mF x y) (QR n Y oX oY x y J1 J2)) (hdr:a7 En 2 (U8 (0) (500) m V S false false mA mB mC mD mE mF) (dZ n Y oX oY)):a7 En 3 (uA x y nq Q qx qy qe m V S mA mB mC mD mE mF) (fun v H=>v=.bool true∧H.nx=.o J1):=by
 refine J0 j9 3 [] 4 true (NA x y nq Q qx qy qe m V S mA mB mC mD mE mF) [.h,J1,J2,J6,J3,J4,J5] [[4,8,11,12]] rfl ?_
 refine ca (U8 (0) (500) m V S false false mA mB mC mD mE mF) [J3,.h] (hdr) (fun v' H' q=>?_)
 rcases q with ⟨e_25,rfl,hnx25,hde_25⟩|⟨kx_25,ky_25,kw_25,kh_25,l_25,rfl,hnx25,hkb_25,hk_25⟩
 ·skip
  refine ⟨(.tup [(.agg [(zi (0)),(zi (0)),(zi (0)),(zi (0)),(.str [])]),(zi e_25)]),[],J7,(by kernel_rfl),(by rw [hnx25];kernel_rfl),trivial,(by kernel_rfl),?_⟩
  refine J0 j9 3 [] 18 ((dE x y)) (NB x y nq Q qx qy qe m V S mA mB mC mD mE mF e_25) [.h,J1,J2,J3,J4,J7] [[4,8,13,14]] (by (try simp only [hde_25,gS,dE]);(try simp only [gT] at *);try omega) ?_
  refine ca (D9 (0) (500) m V S false false mA mB mC mD mE mF x y) [J3] (hpa (x:=x) (y:=y) hx hy) (fun v' H' q=>?_)
  rcases q with ⟨e_26,rfl,hnx26,he_26⟩|⟨P_26,rfl,hnx26,ho0_26,hb_26,hk_26,hr_26⟩
  ·skip
   refine ⟨(.tup [.nils,(zi e_26)]),[],J6,(by kernel_rfl),(by rw [hnx26];kernel_rfl),trivial,(by kernel_rfl),?_⟩
   refine A5 j9 3 [(12,49,true)] 11 (a6 (Bool.not (c9 e_25 (0))) true) [.h,J1,J2] (.bool true) [] J3 (by (try simp only [hde_25,he_26,gS]);(try simp only [gT] at *);try omega) ?_
   exact ⟨rfl,rfl⟩
  skip
  refine ⟨(.tup [(.sa J6 0 n 7),(zi (0))]),[(J6,(o7 n P_26 true false))],J7,(by kernel_rfl),(by rw [hnx26];kernel_rfl),⟨⟨J1,_,(Nat.le_of_ble_eq_true (by kernel_rfl)),(by show _=_;kernel_rfl),ho0_26,(by show _=_;kernel_rfl)⟩,trivial⟩,(by kernel_rfl),?_⟩
  refine A5 j9 3 [(12,49,true)] 11 (a6 (Bool.not (c9 e_25 (0))) true) [.h,J1,J2] (.bool true) [] J3 (by (try simp only [hde_25,gS]);(try simp only [gT] at *);try omega) ?_
  exact ⟨rfl,rfl⟩
 skip
 refine ⟨(.tup [(.agg [(zi kx_25),(zi ky_25),(zi kw_25),(zi kh_25),(.str l_25)]),(zi (0))]),[],J7,(by kernel_rfl),(by rw [hnx25];kernel_rfl),trivial,(by kernel_rfl),?_⟩
 refine J0 j9 3 [] 18 ((dE x y)) (NC x y nq Q qx qy qe m V S mA mB mC mD mE mF kx_25 ky_25 kw_25 kh_25 l_25) [.h,J1,J2,J3,J4,J7] [[4,8,13,14]] (by (try simp only [gS,dE]);(try simp only [gT] at *);try omega) ?_
 refine ca (D9 (0) (500) m V S false false mA mB mC mD mE mF x y) [J3] (hpa (x:=x) (y:=y) hx hy) (fun v' H' q=>?_)
 rcases q with ⟨e_27,rfl,hnx27,he_27⟩|⟨P_27,rfl,hnx27,ho0_27,hb_27,hk_27,hr_27⟩
 ·skip
  refine ⟨(.tup [.nils,(zi e_27)]),[],J6,(by kernel_rfl),(by rw [hnx27];kernel_rfl),trivial,(by kernel_rfl),?_⟩
  refine A5 j9 3 [(16,52,true)] 7 (a6 (Bool.not (c9 e_27 (0))) true) [.h,J1,J2] (.bool true) [] J3 (by (try simp only [he_27,gS]);(try simp only [gT] at *);try omega) ?_
  exact ⟨rfl,rfl⟩
 skip
 refine ⟨(.tup [(.sa J6 0 n 7),(zi (0))]),[(J6,(o7 n P_27 true false))],J7,(by kernel_rfl),(by rw [hnx27];kernel_rfl),⟨⟨J1,_,(Nat.le_of_ble_eq_true (by kernel_rfl)),(by show _=_;kernel_rfl),ho0_27,(by show _=_;kernel_rfl)⟩,trivial⟩,(by kernel_rfl),?_⟩
 refine Z1 j9 3 [] 19 true (xS x y nq Q qx qy qe n kx_25 ky_25 kw_25 kh_25 l_25 P_27) [.h,J1,J2,J4,J5,J6] [4,8,13,15] [] rfl ?_
 exact kX hx hy hQ hk_27.1 hb_27 hk_27 hr_27 hkb_25 hk_25
theorem cE {oX oY:Int→Int→Int} (hx : -128≤x∧x≤127) (hy : -128≤y∧y≤127) (hQ:∀ j k,-128≤Q j k∧Q j k≤127) (hpa:∀ (x y:Int),(-128≤x∧x≤127)→(-128≤y∧y≤127)→a7 En 0 (z6 (0) (500) mA mB mC mD mE mF x y) (QR n Y oX oY x y (.h) J1)) (hdr:a7 En 2 (I8 (0) (500) mA mB mC mD mE mF) (dZ n Y oX oY)):a7 En 3 (gD x y nq Q qx qy qe mA mB mC mD mE mF) (fun v H=>v=.bool true∧H.nx=.o J1):=by
 refine J0 j9 3 [] 4 true (MU x y nq Q qx qy qe mA mB mC mD mE mF) [.h,J1,J2,J3,J4,J5] [[4,8,11,12]] rfl ?_
 refine ca (I8 (0) (500) mA mB mC mD mE mF) [.h,J1] (hdr) (fun v' H' q=>?_)
 rcases q with ⟨e_19,rfl,hnx19,hde_19⟩|⟨kx_19,ky_19,kw_19,kh_19,l_19,rfl,hnx19,hkb_19,hk_19⟩
 ·skip
  refine ⟨(.tup [(.agg [(zi (0)),(zi (0)),(zi (0)),(zi (0)),(.str [])]),(zi e_19)]),[],J6,(by kernel_rfl),(by rw [hnx19];kernel_rfl),trivial,(by kernel_rfl),?_⟩
  refine J0 j9 3 [] 18 ((dE x y)) (MV x y nq Q qx qy qe mA mB mC mD mE mF e_19) [.h,J1,J2,J3,J6] [[4,8,13,14]] (by (try simp only [hde_19,gS,dE]);(try simp only [gT] at *);try omega) ?_
  refine ca (z6 (0) (500) mA mB mC mD mE mF x y) [] (hpa (x:=x) (y:=y) hx hy) (fun v' H' q=>?_)
  rcases q with ⟨e_20,rfl,hnx20,he_20⟩|⟨P_20,rfl,hnx20,ho0_20,hb_20,hk_20,hr_20⟩
  ·skip
   refine ⟨(.tup [.nils,(zi e_20)]),[],J5,(by kernel_rfl),(by rw [hnx20];kernel_rfl),trivial,(by kernel_rfl),?_⟩
   refine A5 j9 3 [(12,49,true)] 11 (a6 (Bool.not (c9 e_19 (0))) true) [.h,J1,J2] (.bool true) [] J3 (by (try simp only [hde_19,he_20,gS]);(try simp only [gT] at *);try omega) ?_
   exact ⟨rfl,rfl⟩
  skip
  refine ⟨(.tup [(.sa J5 0 n 7),(zi (0))]),[(J5,(o7 n P_20 true false))],J6,(by kernel_rfl),(by rw [hnx20];kernel_rfl),⟨⟨.h,_,(Nat.le_of_ble_eq_true (by kernel_rfl)),(by show _=_;kernel_rfl),ho0_20,(by show _=_;kernel_rfl)⟩,trivial⟩,(by kernel_rfl),?_⟩
  refine A5 j9 3 [(12,49,true)] 11 (a6 (Bool.not (c9 e_19 (0))) true) [.h,J1,J2] (.bool true) [] J3 (by (try simp only [hde_19,gS]);(try simp only [gT] at *);try omega) ?_
  exact ⟨rfl,rfl⟩
 skip
 refine ⟨(.tup [(.agg [(zi kx_19),(zi ky_19),(zi kw_19),(zi kh_19),(.str l_19)]),(zi (0))]),[],J6,(by kernel_rfl),(by rw [hnx19];kernel_rfl),trivial,(by kernel_rfl),?_⟩
 refine J0 j9 3 [] 18 ((dE x y)) (MW x y nq Q qx qy qe mA mB mC mD mE mF kx_19 ky_19 kw_19 kh_19 l_19) [.h,J1,J2,J3,J6] [[4,8,13,14]] (by (try simp only [gS,dE]);(try simp only [gT] at *);try omega) ?_
 refine ca (z6 (0) (500) mA mB mC mD mE mF x y) [] (hpa (x:=x) (y:=y) hx hy) (fun v' H' q=>?_)
 rcases q with ⟨e_21,rfl,hnx21,he_21⟩|⟨P_21,rfl,hnx21,ho0_21,hb_21,hk_21,hr_21⟩
 ·skip
  refine ⟨(.tup [.nils,(zi e_21)]),[],J5,(by kernel_rfl),(by rw [hnx21];kernel_rfl),trivial,(by kernel_rfl),?_⟩
  refine A5 j9 3 [(16,52,true)] 7 (a6 (Bool.not (c9 e_21 (0))) true) [.h,J1,J2] (.bool true) [] J3 (by (try simp only [he_21,gS]);(try simp only [gT] at *);try omega) ?_
  exact ⟨rfl,rfl⟩
 skip
 refine ⟨(.tup [(.sa J5 0 n 7),(zi (0))]),[(J5,(o7 n P_21 true false))],J6,(by kernel_rfl),(by rw [hnx21];kernel_rfl),⟨⟨.h,_,(Nat.le_of_ble_eq_true (by kernel_rfl)),(by show _=_;kernel_rfl),ho0_21,(by show _=_;kernel_rfl)⟩,trivial⟩,(by kernel_rfl),?_⟩
 refine Z1 j9 3 [] 19 true (xS x y nq Q qx qy qe n kx_19 ky_19 kw_19 kh_19 l_19 P_21) [.h,J1,J2,J3,J4,J5] [4,8,13,15] [] rfl ?_
 exact kX hx hy hQ hk_21.1 hb_21 hk_21 hr_21 hkb_19 hk_19
theorem Cj {oX oY:Int→Int→Int} (hx : -128≤x∧x≤127) (hy : -128≤y∧y≤127) (hQ:∀ j k,-128≤Q j k∧Q j k≤127) (hpa:∀ (x y:Int),(-128≤x∧x≤127)→(-128≤y∧y≤127)→a7 En 0 (z6 (0) (500) mA mB mC mD mE mF x y) (QR n Y oX oY x y (.h) J1)) (hdr:a7 En 2 (I8 (0) (500) mA mB mC mD mE mF) (dZ n Y oX oY)) (hwk:a7 En 0 r5 (fun v H=>v=.bool true∧H.nx=.h)) (hT:q9 (Z6 [(.agg [(.sa (.h) 0 nd 7),(.sa J1 0 md 2)])] [(.agg [(.int .i16 n0),(.int .i16 n1),(.int .i16 n2),(.int .i16 n3)]),(.bool up)] (some (.arr nd 7 (a8 RD D) none de dx dy)) (some (.arr md 2 (a8 [.u8,.u8] T) none te tx ty)) (az [mA,mB,mC,mD,mE,mF])) En):a7 En 3 (xK nd D dx dy de md T tx ty te n0 n1 n2 n3 up x y nq Q qx qy qe) (fun v H=>v=.bool true∧H.nx=.o J1):=by
 refine J0 hT 3 [] 11 true (UH nd D dx dy de md T tx ty te n0 n1 n2 n3 up x y nq Q qx qy qe) [.h,J1,J2,J3,J4,J5] [[2,4,5,6,8]] rfl ?_
 refine ca (r5) [] (hwk) (fun v' H' q=>?_)
 rcases q with ⟨rfl,hnx1⟩
 refine ⟨(.bool true),[],J6,(by kernel_rfl),(by rw [hnx1];kernel_rfl),trivial,(by kernel_rfl),?_⟩
 refine Z1 hT 3 [] 7 ((a6 (a6 (a6 (a6 (C9 (.cons (.agg (.cons (.sa .h 0 nd 7) (.cons (.sa J1 0 md 2) .nil))) .nil) (.cons (.agg (.cons (.sa .h 0 nd 7) (.cons (.sa J1 0 md 2) .nil))) .nil)) (a6 (D0 (.some (.arr nd 7 (a8 RD D) .none de dx dy)) (.some (.arr nd 7 (a8 RD D) .none de dx dy))) (a6 (D0 (.some (.arr md 2 (a8 [.u8,.u8] T) .none te tx ty)) (.some (.arr md 2 (a8 [.u8,.u8] T) .none te tx ty))) true))) (a6 (C9 (.cons (.agg (.cons (.int .i16 n0) (.cons (.int .i16 n1) (.cons (.int .i16 n2) (.cons (.int .i16 n3) .nil))))) (.cons (.bool up) .nil)) (.cons (.agg (.cons (.int .i16 n0) (.cons (.int .i16 n1) (.cons (.int .i16 n2) (.cons (.int .i16 n3) .nil))))) (.cons (.bool up) .nil))) true)) (cR n0 n1 n2 n3 nd md)) true)) (gD x y nq Q qx qy qe mA mB mC mD mE mF) [.h,J1,J2,J5,J6,J7] [4,8,11,12] [] (by (try simp only [v5,v6,gS,oI,cR]);(try simp only [gT] at *);try omega) ?_
 exact cE hx hy hQ hpa hdr
theorem Ck {oX oY:Int→Int→Int} (hx : -128≤x∧x≤127) (hy : -128≤y∧y≤127) (hQ:∀ j k,-128≤Q j k∧Q j k≤127) (hpa:∀ (x y:Int),(-128≤x∧x≤127)→(-128≤y∧y≤127)→a7 En 1 (K8 n Y false false (0) (500) mA mB mC mD mE mF x y) (QR n Y oX oY x y J1 J2)) (hdr:a7 En 2 (U7 n Y false false (0) (500) mA mB mC mD mE mF) (dZ n Y oX oY)) (hwk:a7 En 0 r5 (fun v H=>v=.bool true∧H.nx=.h)) (hT:q9 (qU [(.agg [(.sa (.h) 0 nd 7),(.sa J1 0 md 2)])] [(.agg [(.int .i16 n0),(.int .i16 n1),(.int .i16 n2),(.int .i16 n3)]),(.bool up)] (some (.arr nd 7 (a8 RD D) none de dx dy)) (some (.arr md 2 (a8 [.u8,.u8] T) none te tx ty)) (az [mA,mB,mC,mD,mE,mF]) n Y) En):a7 En 3 (Ts nd D dx dy de md T tx ty te n0 n1 n2 n3 up x y nq Q qx qy qe) (fun v H=>v=.bool true∧H.nx=.o J1):=by
 refine J0 hT 3 [] 11 true (UI nd D dx dy de md T tx ty te n0 n1 n2 n3 up x y nq Q qx qy qe) [.h,J1,J2,J3,J4,J5] [[2,4,5,6,8]] rfl ?_
 refine ca (r5) [] (hwk) (fun v' H' q=>?_)
 rcases q with ⟨rfl,hnx2⟩
 refine ⟨(.bool true),[],J6,(by kernel_rfl),(by rw [hnx2];kernel_rfl),trivial,(by kernel_rfl),?_⟩
 refine Z1 hT 3 [] 7 ((a6 (a6 (a6 (a6 (C9 (.cons (.agg (.cons (.sa .h 0 nd 7) (.cons (.sa J1 0 md 2) .nil))) .nil) (.cons (.agg (.cons (.sa .h 0 nd 7) (.cons (.sa J1 0 md 2) .nil))) .nil)) (a6 (D0 (.some (.arr nd 7 (a8 RD D) .none de dx dy)) (.some (.arr nd 7 (a8 RD D) .none de dx dy))) (a6 (D0 (.some (.arr md 2 (a8 [.u8,.u8] T) .none te tx ty)) (.some (.arr md 2 (a8 [.u8,.u8] T) .none te tx ty))) true))) (a6 (C9 (.cons (.agg (.cons (.int .i16 n0) (.cons (.int .i16 n1) (.cons (.int .i16 n2) (.cons (.int .i16 n3) .nil))))) (.cons (.bool up) .nil)) (.cons (.agg (.cons (.int .i16 n0) (.cons (.int .i16 n1) (.cons (.int .i16 n2) (.cons (.int .i16 n3) .nil))))) (.cons (.bool up) .nil))) true)) (cR n0 n1 n2 n3 nd md)) true)) (tZ x y nq Q qx qy qe n Y mA mB mC mD mE mF) [.h,J1,J2,J5,J7,J8,J6] [4,8,11,12] [] (by (try simp only [v5,v6,gS,oI,cR]);(try simp only [gT] at *);try omega) ?_
 exact rD hx hy hQ hpa hdr
theorem Cl {oX oY:Int→Int→Int} (hx : -128≤x∧x≤127) (hy : -128≤y∧y≤127) (hQ:∀ j k,-128≤Q j k∧Q j k≤127) (hpa:∀ (x y:Int),(-128≤x∧x≤127)→(-128≤y∧y≤127)→a7 En 1 (D9 (0) (500) m V S false false mA mB mC mD mE mF x y) (QR n Y oX oY x y J1 J2)) (hdr:a7 En 2 (U8 (0) (500) m V S false false mA mB mC mD mE mF) (dZ n Y oX oY)) (hwk:a7 En 0 r5 (fun v H=>v=.bool true∧H.nx=.h)) (hT:q9 (qV [(.agg [(.sa (.h) 0 nd 7),(.sa J1 0 md 2)])] [(.agg [(.int .i16 n0),(.int .i16 n1),(.int .i16 n2),(.int .i16 n3)]),(.bool up)] (some (.arr nd 7 (a8 RD D) none de dx dy)) (some (.arr md 2 (a8 [.u8,.u8] T) none te tx ty)) (az [mA,mB,mC,mD,mE,mF]) m V S) En):a7 En 3 (Tt nd D dx dy de md T tx ty te n0 n1 n2 n3 up x y nq Q qx qy qe) (fun v H=>v=.bool true∧H.nx=.o J1):=by
 refine J0 hT 3 [] 11 true (UJ nd D dx dy de md T tx ty te n0 n1 n2 n3 up x y nq Q qx qy qe) [.h,J1,J2,J3,J4,J5] [[2,4,5,6,8]] rfl ?_
 refine ca (r5) [] (hwk) (fun v' H' q=>?_)
 rcases q with ⟨rfl,hnx3⟩
 refine ⟨(.bool true),[],J6,(by kernel_rfl),(by rw [hnx3];kernel_rfl),trivial,(by kernel_rfl),?_⟩
 refine Z1 hT 3 [] 7 ((a6 (a6 (a6 (a6 (C9 (.cons (.agg (.cons (.sa .h 0 nd 7) (.cons (.sa J1 0 md 2) .nil))) .nil) (.cons (.agg (.cons (.sa .h 0 nd 7) (.cons (.sa J1 0 md 2) .nil))) .nil)) (a6 (D0 (.some (.arr nd 7 (a8 RD D) .none de dx dy)) (.some (.arr nd 7 (a8 RD D) .none de dx dy))) (a6 (D0 (.some (.arr md 2 (a8 [.u8,.u8] T) .none te tx ty)) (.some (.arr md 2 (a8 [.u8,.u8] T) .none te tx ty))) true))) (a6 (C9 (.cons (.agg (.cons (.int .i16 n0) (.cons (.int .i16 n1) (.cons (.int .i16 n2) (.cons (.int .i16 n3) .nil))))) (.cons (.bool up) .nil)) (.cons (.agg (.cons (.int .i16 n0) (.cons (.int .i16 n1) (.cons (.int .i16 n2) (.cons (.int .i16 n3) .nil))))) (.cons (.bool up) .nil))) true)) (cR n0 n1 n2 n3 nd md)) true)) (uA x y nq Q qx qy qe m V S mA mB mC mD mE mF) [.h,J1,J2,J5,J7,J8,J6] [4,8,11,12] [] (by (try simp only [v5,v6,gS,oI,cR]);(try simp only [gT] at *);try omega) ?_
 exact rE hx hy hQ hpa hdr
theorem Cm {oX oY:Int→Int→Int} (hx : -128≤x∧x≤127) (hy : -128≤y∧y≤127) (hQ:∀ j k,-128≤Q j k∧Q j k≤127) (hpa:∀ (x y:Int),(-128≤x∧x≤127)→(-128≤y∧y≤127)→a7 En 2 (P5 n Y false false (0) (500) m V S false false mA mB mC mD mE mF x y) (QR n Y oX oY x y J2 J3)) (hdr:a7 En 2 (bP n Y false false (0) (500) m V S false false mA mB mC mD mE mF) (dZ n Y oX oY)) (hwk:a7 En 0 r5 (fun v H=>v=.bool true∧H.nx=.h)) (hT:q9 (Sf [(.agg [(.sa (.h) 0 nd 7),(.sa J1 0 md 2)])] [(.agg [(.int .i16 n0),(.int .i16 n1),(.int .i16 n2),(.int .i16 n3)]),(.bool up)] (some (.arr nd 7 (a8 RD D) none de dx dy)) (some (.arr md 2 (a8 [.u8,.u8] T) none te tx ty)) (az [mA,mB,mC,mD,mE,mF]) n Y m V S) En):a7 En 3 (Tu nd D dx dy de md T tx ty te n0 n1 n2 n3 up x y nq Q qx qy qe) (fun v H=>v=.bool true∧H.nx=.o J1):=by
 refine J0 hT 3 [] 11 true (UK nd D dx dy de md T tx ty te n0 n1 n2 n3 up x y nq Q qx qy qe) [.h,J1,J2,J3,J4,J5] [[2,4,5,6,8]] rfl ?_
 refine ca (r5) [] (hwk) (fun v' H' q=>?_)
 rcases q with ⟨rfl,hnx4⟩
 refine ⟨(.bool true),[],J6,(by kernel_rfl),(by rw [hnx4];kernel_rfl),trivial,(by kernel_rfl),?_⟩
 refine Z1 hT 3 [] 7 ((a6 (a6 (a6 (a6 (C9 (.cons (.agg (.cons (.sa .h 0 nd 7) (.cons (.sa J1 0 md 2) .nil))) .nil) (.cons (.agg (.cons (.sa .h 0 nd 7) (.cons (.sa J1 0 md 2) .nil))) .nil)) (a6 (D0 (.some (.arr nd 7 (a8 RD D) .none de dx dy)) (.some (.arr nd 7 (a8 RD D) .none de dx dy))) (a6 (D0 (.some (.arr md 2 (a8 [.u8,.u8] T) .none te tx ty)) (.some (.arr md 2 (a8 [.u8,.u8] T) .none te tx ty))) true))) (a6 (C9 (.cons (.agg (.cons (.int .i16 n0) (.cons (.int .i16 n1) (.cons (.int .i16 n2) (.cons (.int .i16 n3) .nil))))) (.cons (.bool up) .nil)) (.cons (.agg (.cons (.int .i16 n0) (.cons (.int .i16 n1) (.cons (.int .i16 n2) (.cons (.int .i16 n3) .nil))))) (.cons (.bool up) .nil))) true)) (cR n0 n1 n2 n3 nd md)) true)) (Gi x y nq Q qx qy qe n Y m V S mA mB mC mD mE mF) [.h,J1,J2,J5,J8,J9,J6,J7] [4,8,11,12] [] (by (try simp only [v5,v6,gS,oI,cR]);(try simp only [gT] at *);try omega) ?_
 exact Jz hx hy hQ hpa hdr
theorem Cn {oX oY:Int→Int→Int} (hx : -128≤x∧x≤127) (hy : -128≤y∧y≤127) (hQ:∀ j k,-128≤Q j k∧Q j k≤127) (hpa:∀ (x y:Int),(-128≤x∧x≤127)→(-128≤y∧y≤127)→a7 En 0 (z6 (0) (500) mA mB mC mD mE mF x y) (QR n Y oX oY x y (.h) J1)) (hdr:a7 En 2 (I8 (0) (500) mA mB mC mD mE mF) (dZ n Y oX oY)) (hwk:a7 En 0 r5 (fun v H=>v=.bool true∧H.nx=.h)) (hT:q9 (Z6 [(.agg [(.sa (.h) 0 nd 7),.nils])] [(.agg [(.int .i16 n0),(.int .i16 n1),(.int .i16 n2),(.int .i16 n3)]),(.bool up)] (some (.arr nd 7 (a8 RD D) none de dx dy)) none (az [mA,mB,mC,mD,mE,mF])) En):a7 En 3 (xL nd D dx dy de n0 n1 n2 n3 up x y nq Q qx qy qe) (fun v H=>v=.bool true∧H.nx=.o J1):=by
 refine J0 hT 3 [] 11 true (UL nd D dx dy de n0 n1 n2 n3 up x y nq Q qx qy qe) [.h,J1,J2,J3,J4,J5] [[2,4,5,6,8]] rfl ?_
 refine ca (r5) [] (hwk) (fun v' H' q=>?_)
 rcases q with ⟨rfl,hnx5⟩
 refine ⟨(.bool true),[],J6,(by kernel_rfl),(by rw [hnx5];kernel_rfl),trivial,(by kernel_rfl),?_⟩
 refine Z1 hT 3 [] 7 ((a6 (a6 (a6 (a6 (C9 (.cons (.agg (.cons (.sa .h 0 nd 7) (.cons .nils .nil))) .nil) (.cons (.agg (.cons (.sa .h 0 nd 7) (.cons .nils .nil))) .nil)) (a6 (D0 (.some (.arr nd 7 (a8 RD D) .none de dx dy)) (.some (.arr nd 7 (a8 RD D) .none de dx dy))) (a6 (D0 .none .none) true))) (a6 (C9 (.cons (.agg (.cons (.int .i16 n0) (.cons (.int .i16 n1) (.cons (.int .i16 n2) (.cons (.int .i16 n3) .nil))))) (.cons (.bool up) .nil)) (.cons (.agg (.cons (.int .i16 n0) (.cons (.int .i16 n1) (.cons (.int .i16 n2) (.cons (.int .i16 n3) .nil))))) (.cons (.bool up) .nil))) true)) (FY n0 n1 n2 n3 nd)) true)) (gD x y nq Q qx qy qe mA mB mC mD mE mF) [.h,J1,J2,J5,J6,J7] [4,8,11,12] [] (by (try simp only [v5,v6,gS,oI,FY]);(try simp only [gT] at *);try omega) ?_
 exact cE hx hy hQ hpa hdr
theorem Co {oX oY:Int→Int→Int} (hx : -128≤x∧x≤127) (hy : -128≤y∧y≤127) (hQ:∀ j k,-128≤Q j k∧Q j k≤127) (hpa:∀ (x y:Int),(-128≤x∧x≤127)→(-128≤y∧y≤127)→a7 En 1 (K8 n Y false false (0) (500) mA mB mC mD mE mF x y) (QR n Y oX oY x y J1 J2)) (hdr:a7 En 2 (U7 n Y false false (0) (500) mA mB mC mD mE mF) (dZ n Y oX oY)) (hwk:a7 En 0 r5 (fun v H=>v=.bool true∧H.nx=.h)) (hT:q9 (qU [(.agg [(.sa (.h) 0 nd 7),.nils])] [(.agg [(.int .i16 n0),(.int .i16 n1),(.int .i16 n2),(.int .i16 n3)]),(.bool up)] (some (.arr nd 7 (a8 RD D) none de dx dy)) none (az [mA,mB,mC,mD,mE,mF]) n Y) En):a7 En 3 (Tv nd D dx dy de n0 n1 n2 n3 up x y nq Q qx qy qe) (fun v H=>v=.bool true∧H.nx=.o J1):=by
 refine J0 hT 3 [] 11 true (UM nd D dx dy de n0 n1 n2 n3 up x y nq Q qx qy qe) [.h,J1,J2,J3,J4,J5] [[2,4,5,6,8]] rfl ?_
 refine ca (r5) [] (hwk) (fun v' H' q=>?_)
 rcases q with ⟨rfl,hnx6⟩
 refine ⟨(.bool true),[],J6,(by kernel_rfl),(by rw [hnx6];kernel_rfl),trivial,(by kernel_rfl),?_⟩
 refine Z1 hT 3 [] 7 ((a6 (a6 (a6 (a6 (C9 (.cons (.agg (.cons (.sa .h 0 nd 7) (.cons .nils .nil))) .nil) (.cons (.agg (.cons (.sa .h 0 nd 7) (.cons .nils .nil))) .nil)) (a6 (D0 (.some (.arr nd 7 (a8 RD D) .none de dx dy)) (.some (.arr nd 7 (a8 RD D) .none de dx dy))) (a6 (D0 .none .none) true))) (a6 (C9 (.cons (.agg (.cons (.int .i16 n0) (.cons (.int .i16 n1) (.cons (.int .i16 n2) (.cons (.int .i16 n3) .nil))))) (.cons (.bool up) .nil)) (.cons (.agg (.cons (.int .i16 n0) (.cons (.int .i16 n1) (.cons (.int .i16 n2) (.cons (.int .i16 n3) .nil))))) (.cons (.bool up) .nil))) true)) (FY n0 n1 n2 n3 nd)) true)) (tZ x y nq Q qx qy qe n Y mA mB mC mD mE mF) [.h,J1,J2,J5,J7,J8,J6] [4,8,11,12] [] (by (try simp only [v5,v6,gS,oI,FY]);(try simp only [gT] at *);try omega) ?_
 exact rD hx hy hQ hpa hdr
theorem Cp {oX oY:Int→Int→Int} (hx : -128≤x∧x≤127) (hy : -128≤y∧y≤127) (hQ:∀ j k,-128≤Q j k∧Q j k≤127) (hpa:∀ (x y:Int),(-128≤x∧x≤127)→(-128≤y∧y≤127)→a7 En 0 (z6 (0) (500) mA mB mC mD mE mF x y) (QR n Y oX oY x y (.h) J1)) (hdr:a7 En 2 (I8 (0) (500) mA mB mC mD mE mF) (dZ n Y oX oY)) (hwk:a7 En 0 r5 (fun v H=>v=.bool true∧H.nx=.h)) (hT:q9 (Z6 [(.agg [.nils,(.sa J1 0 md 2)])] [(.agg [(.int .i16 n0),(.int .i16 n1),(.int .i16 n2),(.int .i16 n3)]),(.bool up)] none (some (.arr md 2 (a8 [.u8,.u8] T) none te tx ty)) (az [mA,mB,mC,mD,mE,mF])) En):a7 En 3 (xM md T tx ty te n0 n1 n2 n3 up x y nq Q qx qy qe) (fun v H=>v=.bool true∧H.nx=.o J1):=by
 refine J0 hT 3 [] 11 true (UN md T tx ty te n0 n1 n2 n3 up x y nq Q qx qy qe) [.h,J1,J2,J3,J4,J5] [[2,4,5,6,8]] rfl ?_
 refine ca (r5) [] (hwk) (fun v' H' q=>?_)
 rcases q with ⟨rfl,hnx7⟩
 refine ⟨(.bool true),[],J6,(by kernel_rfl),(by rw [hnx7];kernel_rfl),trivial,(by kernel_rfl),?_⟩
 refine Z1 hT 3 [] 7 ((a6 (a6 (a6 (a6 (C9 (.cons (.agg (.cons .nils (.cons (.sa J1 0 md 2) .nil))) .nil) (.cons (.agg (.cons .nils (.cons (.sa J1 0 md 2) .nil))) .nil)) (a6 (D0 .none .none) (a6 (D0 (.some (.arr md 2 (a8 [.u8,.u8] T) .none te tx ty)) (.some (.arr md 2 (a8 [.u8,.u8] T) .none te tx ty))) true))) (a6 (C9 (.cons (.agg (.cons (.int .i16 n0) (.cons (.int .i16 n1) (.cons (.int .i16 n2) (.cons (.int .i16 n3) .nil))))) (.cons (.bool up) .nil)) (.cons (.agg (.cons (.int .i16 n0) (.cons (.int .i16 n1) (.cons (.int .i16 n2) (.cons (.int .i16 n3) .nil))))) (.cons (.bool up) .nil))) true)) (xV n0 n1 n2 n3 md)) true)) (gD x y nq Q qx qy qe mA mB mC mD mE mF) [.h,J1,J2,J5,J6,J7] [4,8,11,12] [] (by (try simp only [v5,v6,gS,oI,xV]);(try simp only [gT] at *);try omega) ?_
 exact cE hx hy hQ hpa hdr
theorem Cq {oX oY:Int→Int→Int} (hx : -128≤x∧x≤127) (hy : -128≤y∧y≤127) (hQ:∀ j k,-128≤Q j k∧Q j k≤127) (hpa:∀ (x y:Int),(-128≤x∧x≤127)→(-128≤y∧y≤127)→a7 En 1 (D9 (0) (500) m V S false false mA mB mC mD mE mF x y) (QR n Y oX oY x y J1 J2)) (hdr:a7 En 2 (U8 (0) (500) m V S false false mA mB mC mD mE mF) (dZ n Y oX oY)) (hwk:a7 En 0 r5 (fun v H=>v=.bool true∧H.nx=.h)) (hT:q9 (qV [(.agg [.nils,(.sa J1 0 md 2)])] [(.agg [(.int .i16 n0),(.int .i16 n1),(.int .i16 n2),(.int .i16 n3)]),(.bool up)] none (some (.arr md 2 (a8 [.u8,.u8] T) none te tx ty)) (az [mA,mB,mC,mD,mE,mF]) m V S) En):a7 En 3 (Tw md T tx ty te n0 n1 n2 n3 up x y nq Q qx qy qe) (fun v H=>v=.bool true∧H.nx=.o J1):=by
 refine J0 hT 3 [] 11 true (UO md T tx ty te n0 n1 n2 n3 up x y nq Q qx qy qe) [.h,J1,J2,J3,J4,J5] [[2,4,5,6,8]] rfl ?_
 refine ca (r5) [] (hwk) (fun v' H' q=>?_)
 rcases q with ⟨rfl,hnx8⟩
 refine ⟨(.bool true),[],J6,(by kernel_rfl),(by rw [hnx8];kernel_rfl),trivial,(by kernel_rfl),?_⟩
 refine Z1 hT 3 [] 7 ((a6 (a6 (a6 (a6 (C9 (.cons (.agg (.cons .nils (.cons (.sa J1 0 md 2) .nil))) .nil) (.cons (.agg (.cons .nils (.cons (.sa J1 0 md 2) .nil))) .nil)) (a6 (D0 .none .none) (a6 (D0 (.some (.arr md 2 (a8 [.u8,.u8] T) .none te tx ty)) (.some (.arr md 2 (a8 [.u8,.u8] T) .none te tx ty))) true))) (a6 (C9 (.cons (.agg (.cons (.int .i16 n0) (.cons (.int .i16 n1) (.cons (.int .i16 n2) (.cons (.int .i16 n3) .nil))))) (.cons (.bool up) .nil)) (.cons (.agg (.cons (.int .i16 n0) (.cons (.int .i16 n1) (.cons (.int .i16 n2) (.cons (.int .i16 n3) .nil))))) (.cons (.bool up) .nil))) true)) (xV n0 n1 n2 n3 md)) true)) (uA x y nq Q qx qy qe m V S mA mB mC mD mE mF) [.h,J1,J2,J5,J7,J8,J6] [4,8,11,12] [] (by (try simp only [v5,v6,gS,oI,xV]);(try simp only [gT] at *);try omega) ?_
 exact rE hx hy hQ hpa hdr
theorem Cr {oX oY:Int→Int→Int} (hx : -128≤x∧x≤127) (hy : -128≤y∧y≤127) (hQ:∀ j k,-128≤Q j k∧Q j k≤127) (hpa:∀ (x y:Int),(-128≤x∧x≤127)→(-128≤y∧y≤127)→a7 En 0 (z6 (0) (500) mA mB mC mD mE mF x y) (QR n Y oX oY x y (.h) J1)) (hdr:a7 En 2 (I8 (0) (500) mA mB mC mD mE mF) (dZ n Y oX oY)) (hwk:a7 En 0 r5 (fun v H=>v=.bool true∧H.nx=.h)) (hT:q9 (Z6 [(.agg [.nils,.nils])] [(.agg [(.int .i16 n0),(.int .i16 n1),(.int .i16 n2),(.int .i16 n3)]),(.bool up)] none none (az [mA,mB,mC,mD,mE,mF])) En):a7 En 3 (xN n0 n1 n2 n3 up x y nq Q qx qy qe) (fun v H=>v=.bool true∧H.nx=.o J1):=by
 refine J0 hT 3 [] 11 true (UP n0 n1 n2 n3 up x y nq Q qx qy qe) [.h,J1,J2,J3,J4,J5] [[2,4,5,6,8]] rfl ?_
 refine ca (r5) [] (hwk) (fun v' H' q=>?_)
 rcases q with ⟨rfl,hnx9⟩
 refine ⟨(.bool true),[],J6,(by kernel_rfl),(by rw [hnx9];kernel_rfl),trivial,(by kernel_rfl),?_⟩
 refine Z1 hT 3 [] 7 ((a6 (a6 (a6 (a6 (C9 (.cons (.agg (.cons .nils (.cons .nils .nil))) .nil) (.cons (.agg (.cons .nils (.cons .nils .nil))) .nil)) (a6 (D0 .none .none) (a6 (D0 .none .none) true))) (a6 (C9 (.cons (.agg (.cons (.int .i16 n0) (.cons (.int .i16 n1) (.cons (.int .i16 n2) (.cons (.int .i16 n3) .nil))))) (.cons (.bool up) .nil)) (.cons (.agg (.cons (.int .i16 n0) (.cons (.int .i16 n1) (.cons (.int .i16 n2) (.cons (.int .i16 n3) .nil))))) (.cons (.bool up) .nil))) true)) (a6 (oI n0 n1 n2 n3) true)) true)) (gD x y nq Q qx qy qe mA mB mC mD mE mF) [.h,J1,J2,J5,J6,J7] [4,8,11,12] [] (by (try simp only [v5,v6,gS,oI]);(try simp only [gT] at *);try omega) ?_
 exact cE hx hy hQ hpa hdr
end
def CD (nd:Nat) (D:Nat→Nat→Int) (dx:Bool) (dy:Bool) (de:Nat) (md:Nat) (T:Nat→Nat→Int) (tx:Bool) (ty:Bool) (te:Nat) (n0:Int) (n1:Int) (n2:Int) (n3:Int) (up:Bool) (x:Int) (y:Int) (nq:Nat) (Q:Nat→Nat→Int) (qx:Bool) (qy:Bool) (qe:Nat):St:=xK nd D dx dy de md T tx ty te n0 n1 n2 n3 up x y nq Q qx qy qe
theorem Ka {nd:Nat} {D:Nat→Nat→Int} {dx:Bool} {dy:Bool} {de:Nat} {md:Nat} {T:Nat→Nat→Int} {tx:Bool} {ty:Bool} {te:Nat} {n0:Int} {n1:Int} {n2:Int} {n3:Int} {up:Bool} {x:Int} {y:Int} {nq:Nat} {Q:Nat→Nat→Int} {qx:Bool} {qy:Bool} {qe:Nat} (hD:∀ j k,-32768≤D j k∧D j k≤32767) (hD0:∀ j,0≤D j 0) (hT:∀ j k,0≤T j k∧T j k≤255) (hn0 : -32768≤n0∧n0≤32767) (hn1 : -32768≤n1∧n1≤32767) (hn2 : -32768≤n2∧n2≤32767) (hn3 : -32768≤n3∧n3≤32767) (hx : -128≤x∧x≤127) (hy : -128≤y∧y≤127) (hQ:∀ j k,-128≤Q j k∧Q j k≤127) (hwk:a7 En 0 r5 (fun v H=>v=.bool true∧H.nx=.h)) :
 a7 En 3 (CD nd D dx dy de md T tx ty te n0 n1 n2 n3 up x y nq Q qx qy qe) (fun v H=>v=.bool true∧H.nx=.o J1):=by
 obtain ⟨vm,Hm,⟨mA,mB,mC,mD,mE,mF,e1,_,hmA,hmB,hmC,hmD,hmE,hmF⟩,hrm⟩:=a7.split (bM (up:=up) hn0 hn1 hn2 hn3)
 have h7:=T8 (n0:=n0) (n1:=n1) (n2:=n2) (n3:=n3) (up:=up) (mr:=vm) (by rw [e1];kernel_rfl) (hrm _ rfl)
 subst e1
 obtain ⟨v,H,hq,hr⟩:=a7.split (Fu (nd:=nd) (D:=D) (dx:=dx) (dy:=dy) (de:=de) (md:=md) (T:=T) (tx:=tx) (ty:=ty) (te:=te) hD hD0 hT)
 rcases hq with h|⟨n,Y,h1,h2,h3,hn1',hn,hY,q1⟩|⟨m,V,S,h1,h2,h3,hst,q2⟩|⟨n,Y,m,V,S,h1,h2,h3,h4,hn1',hn,hY,hst,q1,q2⟩
 ·obtain ⟨oX,oY,hp⟩:=T7 (sd:=0) (wd:=500) hmA hmB hmC hmD hmE hmF
  exact Cj (nd:=nd) (D:=D) (dx:=dx) (dy:=dy) (de:=de) (md:=md) (T:=T) (tx:=tx) (ty:=ty) (te:=te) (n0:=n0) (n1:=n1) (n2:=n2) (n3:=n3) (up:=up) (x:=x) (y:=y) (nq:=nq) (Q:=Q) (qx:=qx) (qy:=qy) (qe:=qe) (mA:=mA) (mB:=mB) (mC:=mC) (mD:=mD) (mE:=mE) (mF:=mF) (n:=0) (Y:=fun _ _=>0) hx hy hQ hp (U0 (n:=0) (Y:=fun _ _=>0) hp) hwk (Sg h7 (hr _ h))
 ·obtain ⟨oX,oY,hp⟩:=tS (ex:=false) (sty:=false) (sd:=0) (wd:=500) hn hY hmA hmB hmC hmD hmE hmF
  exact Ck (nd:=nd) (D:=D) (dx:=dx) (dy:=dy) (de:=de) (md:=md) (T:=T) (tx:=tx) (ty:=ty) (te:=te) (n0:=n0) (n1:=n1) (n2:=n2) (n3:=n3) (up:=up) (x:=x) (y:=y) (nq:=nq) (Q:=Q) (qx:=qx) (qy:=qy) (qe:=qe) (mA:=mA) (mB:=mB) (mC:=mC) (mD:=mD) (mE:=mE) (mF:=mF) (n:=n) (Y:=Y) hx hy hQ hp (kU hp) hwk (Si h7 (hr _ ⟨h1,h2,h3⟩))
 ·obtain ⟨s1,s2,s3,s4,s5⟩:=hst
  obtain ⟨oX,oY,hp⟩:=kS (sex:=false) (ssty:=false) (sd:=0) (wd:=500) s2 s5 s3 s1 s4 hmA hmB hmC hmD hmE hmF
  exact Cl (nd:=nd) (D:=D) (dx:=dx) (dy:=dy) (de:=de) (md:=md) (T:=T) (tx:=tx) (ty:=ty) (te:=te) (n0:=n0) (n1:=n1) (n2:=n2) (n3:=n3) (up:=up) (x:=x) (y:=y) (nq:=nq) (Q:=Q) (qx:=qx) (qy:=qy) (qe:=qe) (mA:=mA) (mB:=mB) (mC:=mC) (mD:=mD) (mE:=mE) (mF:=mF) (m:=m) (V:=V) (S:=S) (n:=0) (Y:=fun _ _=>0) hx hy hQ hp (kV (n:=0) (Y:=fun _ _=>0) hp) hwk (Sj h7 (hr _ ⟨h1,h2,h3⟩))
 obtain ⟨s1,s2,s3,s4,s5⟩:=hst
 obtain ⟨oX,oY,hp⟩:=Se (ex:=false) (sty:=false) (sex:=false) (ssty:=false) (sd:=0) (wd:=500) hn hY s2 s5 s3 s1 s4 hmA hmB hmC hmD hmE hmF
 exact Cm (nd:=nd) (D:=D) (dx:=dx) (dy:=dy) (de:=de) (md:=md) (T:=T) (tx:=tx) (ty:=ty) (te:=te) (n0:=n0) (n1:=n1) (n2:=n2) (n3:=n3) (up:=up) (x:=x) (y:=y) (nq:=nq) (Q:=Q) (qx:=qx) (qy:=qy) (qe:=qe) (mA:=mA) (mB:=mB) (mC:=mC) (mD:=mD) (mE:=mE) (mF:=mF) (n:=n) (Y:=Y) (m:=m) (V:=V) (S:=S) hx hy hQ hp (Gg hp) hwk (Sk h7 (hr _ ⟨h1,h2,h3,h4⟩))
def CE (nd:Nat) (D:Nat→Nat→Int) (dx:Bool) (dy:Bool) (de:Nat) (n0:Int) (n1:Int) (n2:Int) (n3:Int) (up:Bool) (x:Int) (y:Int) (nq:Nat) (Q:Nat→Nat→Int) (qx:Bool) (qy:Bool) (qe:Nat):St:=xL nd D dx dy de n0 n1 n2 n3 up x y nq Q qx qy qe
theorem Kb {nd:Nat} {D:Nat→Nat→Int} {dx:Bool} {dy:Bool} {de:Nat} {md:Nat} {T:Nat→Nat→Int} {tx:Bool} {ty:Bool} {te:Nat} {n0:Int} {n1:Int} {n2:Int} {n3:Int} {up:Bool} {x:Int} {y:Int} {nq:Nat} {Q:Nat→Nat→Int} {qx:Bool} {qy:Bool} {qe:Nat} (hD:∀ j k,-32768≤D j k∧D j k≤32767) (hD0:∀ j,0≤D j 0) (hn0 : -32768≤n0∧n0≤32767) (hn1 : -32768≤n1∧n1≤32767) (hn2 : -32768≤n2∧n2≤32767) (hn3 : -32768≤n3∧n3≤32767) (hx : -128≤x∧x≤127) (hy : -128≤y∧y≤127) (hQ:∀ j k,-128≤Q j k∧Q j k≤127) (hwk:a7 En 0 r5 (fun v H=>v=.bool true∧H.nx=.h)) :
 a7 En 3 (CE nd D dx dy de n0 n1 n2 n3 up x y nq Q qx qy qe) (fun v H=>v=.bool true∧H.nx=.o J1):=by
 obtain ⟨vm,Hm,⟨mA,mB,mC,mD,mE,mF,e1,_,hmA,hmB,hmC,hmD,hmE,hmF⟩,hrm⟩:=a7.split (bM (up:=up) hn0 hn1 hn2 hn3)
 have h7:=T8 (n0:=n0) (n1:=n1) (n2:=n2) (n3:=n3) (up:=up) (mr:=vm) (by rw [e1];kernel_rfl) (hrm _ rfl)
 subst e1
 obtain ⟨v,H,hq,hr⟩:=a7.split (Fv (nd:=nd) (D:=D) (dx:=dx) (dy:=dy) (de:=de) hD hD0 )
 rcases hq with h|⟨n,Y,h1,h2,h3,hn1',hn,hY,q1⟩|⟨m,V,S,h1,h2,h3,hst,q2⟩|⟨n,Y,m,V,S,h1,h2,h3,h4,hn1',hn,hY,hst,q1,q2⟩
 ·obtain ⟨oX,oY,hp⟩:=T7 (sd:=0) (wd:=500) hmA hmB hmC hmD hmE hmF
  exact Cn (nd:=nd) (D:=D) (dx:=dx) (dy:=dy) (de:=de) (n0:=n0) (n1:=n1) (n2:=n2) (n3:=n3) (up:=up) (x:=x) (y:=y) (nq:=nq) (Q:=Q) (qx:=qx) (qy:=qy) (qe:=qe) (mA:=mA) (mB:=mB) (mC:=mC) (mD:=mD) (mE:=mE) (mF:=mF) (n:=0) (Y:=fun _ _=>0) hx hy hQ hp (U0 (n:=0) (Y:=fun _ _=>0) hp) hwk (Sl h7 (hr _ h))
 ·obtain ⟨oX,oY,hp⟩:=tS (ex:=false) (sty:=false) (sd:=0) (wd:=500) hn hY hmA hmB hmC hmD hmE hmF
  exact Co (nd:=nd) (D:=D) (dx:=dx) (dy:=dy) (de:=de) (n0:=n0) (n1:=n1) (n2:=n2) (n3:=n3) (up:=up) (x:=x) (y:=y) (nq:=nq) (Q:=Q) (qx:=qx) (qy:=qy) (qe:=qe) (mA:=mA) (mB:=mB) (mC:=mC) (mD:=mD) (mE:=mE) (mF:=mF) (n:=n) (Y:=Y) hx hy hQ hp (kU hp) hwk (Sm h7 (hr _ ⟨h1,h2,h3⟩))
 ·first|(cases q1;done)|(cases q2;done)
 first|(cases q1;done)|(cases q2;done)
def CF (md:Nat) (T:Nat→Nat→Int) (tx:Bool) (ty:Bool) (te:Nat) (n0:Int) (n1:Int) (n2:Int) (n3:Int) (up:Bool) (x:Int) (y:Int) (nq:Nat) (Q:Nat→Nat→Int) (qx:Bool) (qy:Bool) (qe:Nat):St:=xM md T tx ty te n0 n1 n2 n3 up x y nq Q qx qy qe
theorem Kc {nd:Nat} {D:Nat→Nat→Int} {dx:Bool} {dy:Bool} {de:Nat} {md:Nat} {T:Nat→Nat→Int} {tx:Bool} {ty:Bool} {te:Nat} {n0:Int} {n1:Int} {n2:Int} {n3:Int} {up:Bool} {x:Int} {y:Int} {nq:Nat} {Q:Nat→Nat→Int} {qx:Bool} {qy:Bool} {qe:Nat} (hT:∀ j k,0≤T j k∧T j k≤255) (hn0 : -32768≤n0∧n0≤32767) (hn1 : -32768≤n1∧n1≤32767) (hn2 : -32768≤n2∧n2≤32767) (hn3 : -32768≤n3∧n3≤32767) (hx : -128≤x∧x≤127) (hy : -128≤y∧y≤127) (hQ:∀ j k,-128≤Q j k∧Q j k≤127) (hwk:a7 En 0 r5 (fun v H=>v=.bool true∧H.nx=.h)) :
 a7 En 3 (CF md T tx ty te n0 n1 n2 n3 up x y nq Q qx qy qe) (fun v H=>v=.bool true∧H.nx=.o J1):=by
 obtain ⟨vm,Hm,⟨mA,mB,mC,mD,mE,mF,e1,_,hmA,hmB,hmC,hmD,hmE,hmF⟩,hrm⟩:=a7.split (bM (up:=up) hn0 hn1 hn2 hn3)
 have h7:=T8 (n0:=n0) (n1:=n1) (n2:=n2) (n3:=n3) (up:=up) (mr:=vm) (by rw [e1];kernel_rfl) (hrm _ rfl)
 subst e1
 obtain ⟨v,H,hq,hr⟩:=a7.split (Fw (md:=md) (T:=T) (tx:=tx) (ty:=ty) (te:=te) hT)
 rcases hq with h|⟨n,Y,h1,h2,h3,hn1',hn,hY,q1⟩|⟨m,V,S,h1,h2,h3,hst,q2⟩|⟨n,Y,m,V,S,h1,h2,h3,h4,hn1',hn,hY,hst,q1,q2⟩
 ·obtain ⟨oX,oY,hp⟩:=T7 (sd:=0) (wd:=500) hmA hmB hmC hmD hmE hmF
  exact Cp (md:=md) (T:=T) (tx:=tx) (ty:=ty) (te:=te) (n0:=n0) (n1:=n1) (n2:=n2) (n3:=n3) (up:=up) (x:=x) (y:=y) (nq:=nq) (Q:=Q) (qx:=qx) (qy:=qy) (qe:=qe) (mA:=mA) (mB:=mB) (mC:=mC) (mD:=mD) (mE:=mE) (mF:=mF) (n:=0) (Y:=fun _ _=>0) hx hy hQ hp (U0 (n:=0) (Y:=fun _ _=>0) hp) hwk (Sn h7 (hr _ h))
 ·first|(cases q1;done)|(cases q2;done)
 ·obtain ⟨s1,s2,s3,s4,s5⟩:=hst
  obtain ⟨oX,oY,hp⟩:=kS (sex:=false) (ssty:=false) (sd:=0) (wd:=500) s2 s5 s3 s1 s4 hmA hmB hmC hmD hmE hmF
  exact Cq (md:=md) (T:=T) (tx:=tx) (ty:=ty) (te:=te) (n0:=n0) (n1:=n1) (n2:=n2) (n3:=n3) (up:=up) (x:=x) (y:=y) (nq:=nq) (Q:=Q) (qx:=qx) (qy:=qy) (qe:=qe) (mA:=mA) (mB:=mB) (mC:=mC) (mD:=mD) (mE:=mE) (mF:=mF) (m:=m) (V:=V) (S:=S) (n:=0) (Y:=fun _ _=>0) hx hy hQ hp (kV (n:=0) (Y:=fun _ _=>0) hp) hwk (So h7 (hr _ ⟨h1,h2,h3⟩))
 first|(cases q1;done)|(cases q2;done)
def CG (n0:Int) (n1:Int) (n2:Int) (n3:Int) (up:Bool) (x:Int) (y:Int) (nq:Nat) (Q:Nat→Nat→Int) (qx:Bool) (qy:Bool) (qe:Nat):St:=xN n0 n1 n2 n3 up x y nq Q qx qy qe
section
variable {nd:Nat} {D:Nat→Nat→Int} {dx:Bool} {dy:Bool} {de:Nat} {md:Nat} {T:Nat→Nat→Int} {tx:Bool} {ty:Bool} {te:Nat} {n0:Int} {n1:Int} {n2:Int} {n3:Int} {up:Bool} {x:Int} {y:Int} {nq:Nat} {Q:Nat→Nat→Int} {qx:Bool} {qy:Bool} {qe:Nat}
theorem Ke (hn0 : -32768≤n0∧n0≤32767) (hn1 : -32768≤n1∧n1≤32767) (hn2 : -32768≤n2∧n2≤32767) (hn3 : -32768≤n3∧n3≤32767) (hx : -128≤x∧x≤127) (hy : -128≤y∧y≤127) (hQ:∀ j k,-128≤Q j k∧Q j k≤127) (hwk:a7 En 0 r5 (fun v H=>v=.bool true∧H.nx=.h)) :
 a7 En 3 (CG n0 n1 n2 n3 up x y nq Q qx qy qe) (fun v H=>v=.bool true∧H.nx=.o J1):=by
 obtain ⟨vm,Hm,⟨mA,mB,mC,mD,mE,mF,e1,_,hmA,hmB,hmC,hmD,hmE,hmF⟩,hrm⟩:=a7.split (bM (up:=up) hn0 hn1 hn2 hn3)
 have h7:=T8 (n0:=n0) (n1:=n1) (n2:=n2) (n3:=n3) (up:=up) (mr:=vm) (by rw [e1];kernel_rfl) (hrm _ rfl)
 subst e1
 obtain ⟨v,H,hq,hr⟩:=a7.split (Fx )
 rcases hq with h|⟨n,Y,h1,h2,h3,hn1',hn,hY,q1⟩|⟨m,V,S,h1,h2,h3,hst,q2⟩|⟨n,Y,m,V,S,h1,h2,h3,h4,hn1',hn,hY,hst,q1,q2⟩
 ·obtain ⟨oX,oY,hp⟩:=T7 (sd:=0) (wd:=500) hmA hmB hmC hmD hmE hmF
  exact Cr (n0:=n0) (n1:=n1) (n2:=n2) (n3:=n3) (up:=up) (x:=x) (y:=y) (nq:=nq) (Q:=Q) (qx:=qx) (qy:=qy) (qe:=qe) (mA:=mA) (mB:=mB) (mC:=mC) (mD:=mD) (mE:=mE) (mF:=mF) (n:=0) (Y:=fun _ _=>0) hx hy hQ hp (U0 (n:=0) (Y:=fun _ _=>0) hp) hwk (Sp h7 (hr _ h))
 ·first|(cases q1;done)|(cases q2;done)
 ·first|(cases q1;done)|(cases q2;done)
 first|(cases q1;done)|(cases q2;done)
theorem Kf {n:Nat} {Y:Nat→Nat→Int} {m:Nat} {V:Nat→Bool} {S:Nat→Nat→Int} {mA:Int} {mB:Int} {mC:Int} {mD:Int} {mE:Int} {mF:Int} {oX oY:Int→Int→Int} (hx : -128≤x∧x≤127) (hy : -128≤y∧y≤127) (hpa:∀ (x y:Int),(-128≤x∧x≤127)→(-128≤y∧y≤127)→a7 En 2 (P5 n Y false false (0) (500) m V S false false mA mB mC mD mE mF x y) (QR n Y oX oY x y J2 J3)) (hdr:a7 En 2 (bP n Y false false (0) (500) m V S false false mA mB mC mD mE mF) (dZ n Y oX oY)):a7 En 3 (Gj x y n Y m V S mA mB mC mD mE mF) (fun v H=>v=.bool true∧H.nx=.o J1):=by
 refine J0 j9 3 [] 4 true (NP x y n Y m V S mA mB mC mD mE mF) [.h,J1,J2,J6,J7,J3,J4,J5] [[4,8,11,12]] rfl ?_
 refine ca (bP n Y false false (0) (500) m V S false false mA mB mC mD mE mF) [J3,J4] (hdr) (fun v' H' q=>?_)
 rcases q with ⟨e_40,rfl,hnx40,hde_40⟩|⟨kx_40,ky_40,kw_40,kh_40,l_40,rfl,hnx40,hkb_40,hk_40⟩
 ·skip
  refine ⟨(.tup [(.agg [(zi (0)),(zi (0)),(zi (0)),(zi (0)),(.str [])]),(zi e_40)]),[],J8,(by kernel_rfl),(by rw [hnx40];kernel_rfl),trivial,(by kernel_rfl),?_⟩
  refine J0 j9 3 [] 18 ((dE x y)) (NQ x y n Y m V S mA mB mC mD mE mF e_40) [.h,J1,J2,J3,J4,J5,J8] [[4,8,13,14]] (by (try simp only [hde_40,gS,dE]);(try simp only [gT] at *);try omega) ?_
  refine ca (P5 n Y false false (0) (500) m V S false false mA mB mC mD mE mF x y) [J3,J4] (hpa (x:=x) (y:=y) hx hy) (fun v' H' q=>?_)
  rcases q with ⟨e_41,rfl,hnx41,he_41⟩|⟨P_41,rfl,hnx41,ho0_41,hb_41,hk_41,hr_41⟩
  ·skip
   refine ⟨(.tup [.nils,(zi e_41)]),[],J7,(by kernel_rfl),(by rw [hnx41];kernel_rfl),trivial,(by kernel_rfl),?_⟩
   refine A5 j9 3 [(12,49,true)] 11 (a6 (Bool.not (c9 e_40 (0))) true) [.h,J1,J2] (.bool true) [] J3 (by (try simp only [hde_40,he_41,gS]);(try simp only [gT] at *);try omega) ?_
   exact ⟨rfl,rfl⟩
  skip
  refine ⟨(.tup [(.sa J7 0 n 7),(zi (0))]),[(J7,(o7 n P_41 true false))],J8,(by kernel_rfl),(by rw [hnx41];kernel_rfl),⟨⟨J2,_,(Nat.le_of_ble_eq_true (by kernel_rfl)),(by show _=_;kernel_rfl),ho0_41,(by show _=_;kernel_rfl)⟩,trivial⟩,(by kernel_rfl),?_⟩
  refine A5 j9 3 [(12,49,true)] 11 (a6 (Bool.not (c9 e_40 (0))) true) [.h,J1,J2] (.bool true) [] J3 (by (try simp only [hde_40,gS]);(try simp only [gT] at *);try omega) ?_
  exact ⟨rfl,rfl⟩
 skip
 refine ⟨(.tup [(.agg [(zi kx_40),(zi ky_40),(zi kw_40),(zi kh_40),(.str l_40)]),(zi (0))]),[],J8,(by kernel_rfl),(by rw [hnx40];kernel_rfl),trivial,(by kernel_rfl),?_⟩
 refine J0 j9 3 [] 18 ((dE x y)) (NR x y n Y m V S mA mB mC mD mE mF kx_40 ky_40 kw_40 kh_40 l_40) [.h,J1,J2,J3,J4,J5,J8] [[4,8,13,14]] (by (try simp only [gS,dE]);(try simp only [gT] at *);try omega) ?_
 refine ca (P5 n Y false false (0) (500) m V S false false mA mB mC mD mE mF x y) [J3,J4] (hpa (x:=x) (y:=y) hx hy) (fun v' H' q=>?_)
 rcases q with ⟨e_42,rfl,hnx42,he_42⟩|⟨P_42,rfl,hnx42,ho0_42,hb_42,hk_42,hr_42⟩
 ·skip
  refine ⟨(.tup [.nils,(zi e_42)]),[],J7,(by kernel_rfl),(by rw [hnx42];kernel_rfl),trivial,(by kernel_rfl),?_⟩
  refine A5 j9 3 [(16,52,true)] 7 (a6 (Bool.not (c9 e_42 (0))) true) [.h,J1,J2] (.bool true) [] J3 (by (try simp only [he_42,gS]);(try simp only [gT] at *);try omega) ?_
  exact ⟨rfl,rfl⟩
 skip
 refine ⟨(.tup [(.sa J7 0 n 7),(zi (0))]),[(J7,(o7 n P_42 true false))],J8,(by kernel_rfl),(by rw [hnx42];kernel_rfl),⟨⟨J2,_,(Nat.le_of_ble_eq_true (by kernel_rfl)),(by show _=_;kernel_rfl),ho0_42,(by show _=_;kernel_rfl)⟩,trivial⟩,(by kernel_rfl),?_⟩
 refine Z1 j9 3 [] 19 true (xU x y n kx_40 ky_40 kw_40 kh_40 l_40 P_42) [.h,J1,J2,J5,J6,J7] [4,8,13,15] [] rfl ?_
 exact kY hx hy  hk_42.1 hb_42 hk_42 hr_42 hkb_40 hk_40
theorem rF {n:Nat} {Y:Nat→Nat→Int} {m:Nat} {V:Nat→Bool} {S:Nat→Nat→Int} {mA:Int} {mB:Int} {mC:Int} {mD:Int} {mE:Int} {mF:Int} {oX oY:Int→Int→Int} (hx : -128≤x∧x≤127) (hy : -128≤y∧y≤127) (hpa:∀ (x y:Int),(-128≤x∧x≤127)→(-128≤y∧y≤127)→a7 En 1 (K8 n Y false false (0) (500) mA mB mC mD mE mF x y) (QR n Y oX oY x y J1 J2)) (hdr:a7 En 2 (U7 n Y false false (0) (500) mA mB mC mD mE mF) (dZ n Y oX oY)):a7 En 3 (uB x y n Y mA mB mC mD mE mF) (fun v H=>v=.bool true∧H.nx=.o J1):=by
 refine J0 j9 3 [] 4 true (NJ x y n Y mA mB mC mD mE mF) [.h,J1,J2,J6,J3,J4,J5] [[4,8,11,12]] rfl ?_
 refine ca (U7 n Y false false (0) (500) mA mB mC mD mE mF) [J3,.h] (hdr) (fun v' H' q=>?_)
 rcases q with ⟨e_34,rfl,hnx34,hde_34⟩|⟨kx_34,ky_34,kw_34,kh_34,l_34,rfl,hnx34,hkb_34,hk_34⟩
 ·skip
  refine ⟨(.tup [(.agg [(zi (0)),(zi (0)),(zi (0)),(zi (0)),(.str [])]),(zi e_34)]),[],J7,(by kernel_rfl),(by rw [hnx34];kernel_rfl),trivial,(by kernel_rfl),?_⟩
  refine J0 j9 3 [] 18 ((dE x y)) (NK x y n Y mA mB mC mD mE mF e_34) [.h,J1,J2,J3,J4,J7] [[4,8,13,14]] (by (try simp only [hde_34,gS,dE]);(try simp only [gT] at *);try omega) ?_
  refine ca (K8 n Y false false (0) (500) mA mB mC mD mE mF x y) [J3] (hpa (x:=x) (y:=y) hx hy) (fun v' H' q=>?_)
  rcases q with ⟨e_35,rfl,hnx35,he_35⟩|⟨P_35,rfl,hnx35,ho0_35,hb_35,hk_35,hr_35⟩
  ·skip
   refine ⟨(.tup [.nils,(zi e_35)]),[],J6,(by kernel_rfl),(by rw [hnx35];kernel_rfl),trivial,(by kernel_rfl),?_⟩
   refine A5 j9 3 [(12,49,true)] 11 (a6 (Bool.not (c9 e_34 (0))) true) [.h,J1,J2] (.bool true) [] J3 (by (try simp only [hde_34,he_35,gS]);(try simp only [gT] at *);try omega) ?_
   exact ⟨rfl,rfl⟩
  skip
  refine ⟨(.tup [(.sa J6 0 n 7),(zi (0))]),[(J6,(o7 n P_35 true false))],J7,(by kernel_rfl),(by rw [hnx35];kernel_rfl),⟨⟨J1,_,(Nat.le_of_ble_eq_true (by kernel_rfl)),(by show _=_;kernel_rfl),ho0_35,(by show _=_;kernel_rfl)⟩,trivial⟩,(by kernel_rfl),?_⟩
  refine A5 j9 3 [(12,49,true)] 11 (a6 (Bool.not (c9 e_34 (0))) true) [.h,J1,J2] (.bool true) [] J3 (by (try simp only [hde_34,gS]);(try simp only [gT] at *);try omega) ?_
  exact ⟨rfl,rfl⟩
 skip
 refine ⟨(.tup [(.agg [(zi kx_34),(zi ky_34),(zi kw_34),(zi kh_34),(.str l_34)]),(zi (0))]),[],J7,(by kernel_rfl),(by rw [hnx34];kernel_rfl),trivial,(by kernel_rfl),?_⟩
 refine J0 j9 3 [] 18 ((dE x y)) (NL x y n Y mA mB mC mD mE mF kx_34 ky_34 kw_34 kh_34 l_34) [.h,J1,J2,J3,J4,J7] [[4,8,13,14]] (by (try simp only [gS,dE]);(try simp only [gT] at *);try omega) ?_
 refine ca (K8 n Y false false (0) (500) mA mB mC mD mE mF x y) [J3] (hpa (x:=x) (y:=y) hx hy) (fun v' H' q=>?_)
 rcases q with ⟨e_36,rfl,hnx36,he_36⟩|⟨P_36,rfl,hnx36,ho0_36,hb_36,hk_36,hr_36⟩
 ·skip
  refine ⟨(.tup [.nils,(zi e_36)]),[],J6,(by kernel_rfl),(by rw [hnx36];kernel_rfl),trivial,(by kernel_rfl),?_⟩
  refine A5 j9 3 [(16,52,true)] 7 (a6 (Bool.not (c9 e_36 (0))) true) [.h,J1,J2] (.bool true) [] J3 (by (try simp only [he_36,gS]);(try simp only [gT] at *);try omega) ?_
  exact ⟨rfl,rfl⟩
 skip
 refine ⟨(.tup [(.sa J6 0 n 7),(zi (0))]),[(J6,(o7 n P_36 true false))],J7,(by kernel_rfl),(by rw [hnx36];kernel_rfl),⟨⟨J1,_,(Nat.le_of_ble_eq_true (by kernel_rfl)),(by show _=_;kernel_rfl),ho0_36,(by show _=_;kernel_rfl)⟩,trivial⟩,(by kernel_rfl),?_⟩
 refine Z1 j9 3 [] 19 true (xU x y n kx_34 ky_34 kw_34 kh_34 l_34 P_36) [.h,J1,J2,J4,J5,J6] [4,8,13,15] [] rfl ?_
 exact kY hx hy  hk_36.1 hb_36 hk_36 hr_36 hkb_34 hk_34
theorem rG {n:Nat} {Y:Nat→Nat→Int} {m:Nat} {V:Nat→Bool} {S:Nat→Nat→Int} {mA:Int} {mB:Int} {mC:Int} {mD:Int} {mE:Int} {mF:Int} {oX oY:Int→Int→Int} (hx : -128≤x∧x≤127) (hy : -128≤y∧y≤127) (hpa:∀ (x y:Int),(-128≤x∧x≤127)→(-128≤y∧y≤127)→a7 En 1 (D9 (0) (500) m V S false false mA mB mC mD mE mF x y) (QR n Y oX oY x y J1 J2)) (hdr:a7 En 2 (U8 (0) (500) m V S false false mA mB mC mD mE mF) (dZ n Y oX oY)):a7 En 3 (uC x y m V S mA mB mC mD mE mF) (fun v H=>v=.bool true∧H.nx=.o J1):=by
 refine J0 j9 3 [] 4 true (NM x y m V S mA mB mC mD mE mF) [.h,J1,J2,J6,J3,J4,J5] [[4,8,11,12]] rfl ?_
 refine ca (U8 (0) (500) m V S false false mA mB mC mD mE mF) [J3,.h] (hdr) (fun v' H' q=>?_)
 rcases q with ⟨e_37,rfl,hnx37,hde_37⟩|⟨kx_37,ky_37,kw_37,kh_37,l_37,rfl,hnx37,hkb_37,hk_37⟩
 ·skip
  refine ⟨(.tup [(.agg [(zi (0)),(zi (0)),(zi (0)),(zi (0)),(.str [])]),(zi e_37)]),[],J7,(by kernel_rfl),(by rw [hnx37];kernel_rfl),trivial,(by kernel_rfl),?_⟩
  refine J0 j9 3 [] 18 ((dE x y)) (NN x y m V S mA mB mC mD mE mF e_37) [.h,J1,J2,J3,J4,J7] [[4,8,13,14]] (by (try simp only [hde_37,gS,dE]);(try simp only [gT] at *);try omega) ?_
  refine ca (D9 (0) (500) m V S false false mA mB mC mD mE mF x y) [J3] (hpa (x:=x) (y:=y) hx hy) (fun v' H' q=>?_)
  rcases q with ⟨e_38,rfl,hnx38,he_38⟩|⟨P_38,rfl,hnx38,ho0_38,hb_38,hk_38,hr_38⟩
  ·skip
   refine ⟨(.tup [.nils,(zi e_38)]),[],J6,(by kernel_rfl),(by rw [hnx38];kernel_rfl),trivial,(by kernel_rfl),?_⟩
   refine A5 j9 3 [(12,49,true)] 11 (a6 (Bool.not (c9 e_37 (0))) true) [.h,J1,J2] (.bool true) [] J3 (by (try simp only [hde_37,he_38,gS]);(try simp only [gT] at *);try omega) ?_
   exact ⟨rfl,rfl⟩
  skip
  refine ⟨(.tup [(.sa J6 0 n 7),(zi (0))]),[(J6,(o7 n P_38 true false))],J7,(by kernel_rfl),(by rw [hnx38];kernel_rfl),⟨⟨J1,_,(Nat.le_of_ble_eq_true (by kernel_rfl)),(by show _=_;kernel_rfl),ho0_38,(by show _=_;kernel_rfl)⟩,trivial⟩,(by kernel_rfl),?_⟩
  refine A5 j9 3 [(12,49,true)] 11 (a6 (Bool.not (c9 e_37 (0))) true) [.h,J1,J2] (.bool true) [] J3 (by (try simp only [hde_37,gS]);(try simp only [gT] at *);try omega) ?_
  exact ⟨rfl,rfl⟩
 skip
 refine ⟨(.tup [(.agg [(zi kx_37),(zi ky_37),(zi kw_37),(zi kh_37),(.str l_37)]),(zi (0))]),[],J7,(by kernel_rfl),(by rw [hnx37];kernel_rfl),trivial,(by kernel_rfl),?_⟩
 refine J0 j9 3 [] 18 ((dE x y)) (NO x y m V S mA mB mC mD mE mF kx_37 ky_37 kw_37 kh_37 l_37) [.h,J1,J2,J3,J4,J7] [[4,8,13,14]] (by (try simp only [gS,dE]);(try simp only [gT] at *);try omega) ?_
 refine ca (D9 (0) (500) m V S false false mA mB mC mD mE mF x y) [J3] (hpa (x:=x) (y:=y) hx hy) (fun v' H' q=>?_)
 rcases q with ⟨e_39,rfl,hnx39,he_39⟩|⟨P_39,rfl,hnx39,ho0_39,hb_39,hk_39,hr_39⟩
 ·skip
  refine ⟨(.tup [.nils,(zi e_39)]),[],J6,(by kernel_rfl),(by rw [hnx39];kernel_rfl),trivial,(by kernel_rfl),?_⟩
  refine A5 j9 3 [(16,52,true)] 7 (a6 (Bool.not (c9 e_39 (0))) true) [.h,J1,J2] (.bool true) [] J3 (by (try simp only [he_39,gS]);(try simp only [gT] at *);try omega) ?_
  exact ⟨rfl,rfl⟩
 skip
 refine ⟨(.tup [(.sa J6 0 n 7),(zi (0))]),[(J6,(o7 n P_39 true false))],J7,(by kernel_rfl),(by rw [hnx39];kernel_rfl),⟨⟨J1,_,(Nat.le_of_ble_eq_true (by kernel_rfl)),(by show _=_;kernel_rfl),ho0_39,(by show _=_;kernel_rfl)⟩,trivial⟩,(by kernel_rfl),?_⟩
 refine Z1 j9 3 [] 19 true (xU x y n kx_37 ky_37 kw_37 kh_37 l_37 P_39) [.h,J1,J2,J4,J5,J6] [4,8,13,15] [] rfl ?_
 exact kY hx hy  hk_39.1 hb_39 hk_39 hr_39 hkb_37 hk_37
theorem cF {n:Nat} {Y:Nat→Nat→Int} {m:Nat} {V:Nat→Bool} {S:Nat→Nat→Int} {mA:Int} {mB:Int} {mC:Int} {mD:Int} {mE:Int} {mF:Int} {oX oY:Int→Int→Int} (hx : -128≤x∧x≤127) (hy : -128≤y∧y≤127) (hpa:∀ (x y:Int),(-128≤x∧x≤127)→(-128≤y∧y≤127)→a7 En 0 (z6 (0) (500) mA mB mC mD mE mF x y) (QR n Y oX oY x y (.h) J1)) (hdr:a7 En 2 (I8 (0) (500) mA mB mC mD mE mF) (dZ n Y oX oY)):a7 En 3 (gE x y mA mB mC mD mE mF) (fun v H=>v=.bool true∧H.nx=.o J1):=by
 refine J0 j9 3 [] 4 true (NG x y mA mB mC mD mE mF) [.h,J1,J2,J3,J4,J5] [[4,8,11,12]] rfl ?_
 refine ca (I8 (0) (500) mA mB mC mD mE mF) [.h,J1] (hdr) (fun v' H' q=>?_)
 rcases q with ⟨e_31,rfl,hnx31,hde_31⟩|⟨kx_31,ky_31,kw_31,kh_31,l_31,rfl,hnx31,hkb_31,hk_31⟩
 ·skip
  refine ⟨(.tup [(.agg [(zi (0)),(zi (0)),(zi (0)),(zi (0)),(.str [])]),(zi e_31)]),[],J6,(by kernel_rfl),(by rw [hnx31];kernel_rfl),trivial,(by kernel_rfl),?_⟩
  refine J0 j9 3 [] 18 ((dE x y)) (NH x y mA mB mC mD mE mF e_31) [.h,J1,J2,J3,J6] [[4,8,13,14]] (by (try simp only [hde_31,gS,dE]);(try simp only [gT] at *);try omega) ?_
  refine ca (z6 (0) (500) mA mB mC mD mE mF x y) [] (hpa (x:=x) (y:=y) hx hy) (fun v' H' q=>?_)
  rcases q with ⟨e_32,rfl,hnx32,he_32⟩|⟨P_32,rfl,hnx32,ho0_32,hb_32,hk_32,hr_32⟩
  ·skip
   refine ⟨(.tup [.nils,(zi e_32)]),[],J5,(by kernel_rfl),(by rw [hnx32];kernel_rfl),trivial,(by kernel_rfl),?_⟩
   refine A5 j9 3 [(12,49,true)] 11 (a6 (Bool.not (c9 e_31 (0))) true) [.h,J1,J2] (.bool true) [] J3 (by (try simp only [hde_31,he_32,gS]);(try simp only [gT] at *);try omega) ?_
   exact ⟨rfl,rfl⟩
  skip
  refine ⟨(.tup [(.sa J5 0 n 7),(zi (0))]),[(J5,(o7 n P_32 true false))],J6,(by kernel_rfl),(by rw [hnx32];kernel_rfl),⟨⟨.h,_,(Nat.le_of_ble_eq_true (by kernel_rfl)),(by show _=_;kernel_rfl),ho0_32,(by show _=_;kernel_rfl)⟩,trivial⟩,(by kernel_rfl),?_⟩
  refine A5 j9 3 [(12,49,true)] 11 (a6 (Bool.not (c9 e_31 (0))) true) [.h,J1,J2] (.bool true) [] J3 (by (try simp only [hde_31,gS]);(try simp only [gT] at *);try omega) ?_
  exact ⟨rfl,rfl⟩
 skip
 refine ⟨(.tup [(.agg [(zi kx_31),(zi ky_31),(zi kw_31),(zi kh_31),(.str l_31)]),(zi (0))]),[],J6,(by kernel_rfl),(by rw [hnx31];kernel_rfl),trivial,(by kernel_rfl),?_⟩
 refine J0 j9 3 [] 18 ((dE x y)) (NI x y mA mB mC mD mE mF kx_31 ky_31 kw_31 kh_31 l_31) [.h,J1,J2,J3,J6] [[4,8,13,14]] (by (try simp only [gS,dE]);(try simp only [gT] at *);try omega) ?_
 refine ca (z6 (0) (500) mA mB mC mD mE mF x y) [] (hpa (x:=x) (y:=y) hx hy) (fun v' H' q=>?_)
 rcases q with ⟨e_33,rfl,hnx33,he_33⟩|⟨P_33,rfl,hnx33,ho0_33,hb_33,hk_33,hr_33⟩
 ·skip
  refine ⟨(.tup [.nils,(zi e_33)]),[],J5,(by kernel_rfl),(by rw [hnx33];kernel_rfl),trivial,(by kernel_rfl),?_⟩
  refine A5 j9 3 [(16,52,true)] 7 (a6 (Bool.not (c9 e_33 (0))) true) [.h,J1,J2] (.bool true) [] J3 (by (try simp only [he_33,gS]);(try simp only [gT] at *);try omega) ?_
  exact ⟨rfl,rfl⟩
 skip
 refine ⟨(.tup [(.sa J5 0 n 7),(zi (0))]),[(J5,(o7 n P_33 true false))],J6,(by kernel_rfl),(by rw [hnx33];kernel_rfl),⟨⟨.h,_,(Nat.le_of_ble_eq_true (by kernel_rfl)),(by show _=_;kernel_rfl),ho0_33,(by show _=_;kernel_rfl)⟩,trivial⟩,(by kernel_rfl),?_⟩
 refine Z1 j9 3 [] 19 true (xU x y n kx_31 ky_31 kw_31 kh_31 l_31 P_33) [.h,J1,J2,J3,J4,J5] [4,8,13,15] [] rfl ?_
 exact kY hx hy  hk_33.1 hb_33 hk_33 hr_33 hkb_31 hk_31
theorem Cs {n:Nat} {Y:Nat→Nat→Int} {m:Nat} {V:Nat→Bool} {S:Nat→Nat→Int} {mA:Int} {mB:Int} {mC:Int} {mD:Int} {mE:Int} {mF:Int} {oX oY:Int→Int→Int} (hx : -128≤x∧x≤127) (hy : -128≤y∧y≤127) (hpa:∀ (x y:Int),(-128≤x∧x≤127)→(-128≤y∧y≤127)→a7 En 0 (z6 (0) (500) mA mB mC mD mE mF x y) (QR n Y oX oY x y (.h) J1)) (hdr:a7 En 2 (I8 (0) (500) mA mB mC mD mE mF) (dZ n Y oX oY)) (hwk:a7 En 0 r5 (fun v H=>v=.bool true∧H.nx=.h)) (hT:q9 (Z6 [(.agg [(.sa (.h) 0 nd 7),(.sa J1 0 md 2)])] [(.agg [(.int .i16 n0),(.int .i16 n1),(.int .i16 n2),(.int .i16 n3)]),(.bool up)] (some (.arr nd 7 (a8 RD D) none de dx dy)) (some (.arr md 2 (a8 [.u8,.u8] T) none te tx ty)) (az [mA,mB,mC,mD,mE,mF])) En):a7 En 3 (xO nd D dx dy de md T tx ty te n0 n1 n2 n3 up x y) (fun v H=>v=.bool true∧H.nx=.o J1):=by
 refine J0 hT 3 [] 11 true (MK nd D dx dy de md T tx ty te n0 n1 n2 n3 up x y) [.h,J1,J2,J3,J4,J5] [[2,4,5,6,8]] rfl ?_
 refine ca (r5) [] (hwk) (fun v' H' q=>?_)
 rcases q with ⟨rfl,hnx10⟩
 refine ⟨(.bool true),[],J6,(by kernel_rfl),(by rw [hnx10];kernel_rfl),trivial,(by kernel_rfl),?_⟩
 refine Z1 hT 3 [] 7 ((a6 (a6 (a6 (a6 (C9 (.cons (.agg (.cons (.sa .h 0 nd 7) (.cons (.sa J1 0 md 2) .nil))) .nil) (.cons (.agg (.cons (.sa .h 0 nd 7) (.cons (.sa J1 0 md 2) .nil))) .nil)) (a6 (D0 (.some (.arr nd 7 (a8 RD D) .none de dx dy)) (.some (.arr nd 7 (a8 RD D) .none de dx dy))) (a6 (D0 (.some (.arr md 2 (a8 [.u8,.u8] T) .none te tx ty)) (.some (.arr md 2 (a8 [.u8,.u8] T) .none te tx ty))) true))) (a6 (C9 (.cons (.agg (.cons (.int .i16 n0) (.cons (.int .i16 n1) (.cons (.int .i16 n2) (.cons (.int .i16 n3) .nil))))) (.cons (.bool up) .nil)) (.cons (.agg (.cons (.int .i16 n0) (.cons (.int .i16 n1) (.cons (.int .i16 n2) (.cons (.int .i16 n3) .nil))))) (.cons (.bool up) .nil))) true)) (cR n0 n1 n2 n3 nd md)) true)) (gE x y mA mB mC mD mE mF) [.h,J1,J2,J5,J6,J7] [4,8,11,12] [] (by (try simp only [v5,v6,gS,oI,cR]);(try simp only [gT] at *);try omega) ?_
 exact cF (m:=m) (V:=V) (S:=S) hx hy  hpa hdr
theorem Ct {n:Nat} {Y:Nat→Nat→Int} {m:Nat} {V:Nat→Bool} {S:Nat→Nat→Int} {mA:Int} {mB:Int} {mC:Int} {mD:Int} {mE:Int} {mF:Int} {oX oY:Int→Int→Int} (hx : -128≤x∧x≤127) (hy : -128≤y∧y≤127) (hpa:∀ (x y:Int),(-128≤x∧x≤127)→(-128≤y∧y≤127)→a7 En 1 (K8 n Y false false (0) (500) mA mB mC mD mE mF x y) (QR n Y oX oY x y J1 J2)) (hdr:a7 En 2 (U7 n Y false false (0) (500) mA mB mC mD mE mF) (dZ n Y oX oY)) (hwk:a7 En 0 r5 (fun v H=>v=.bool true∧H.nx=.h)) (hT:q9 (qU [(.agg [(.sa (.h) 0 nd 7),(.sa J1 0 md 2)])] [(.agg [(.int .i16 n0),(.int .i16 n1),(.int .i16 n2),(.int .i16 n3)]),(.bool up)] (some (.arr nd 7 (a8 RD D) none de dx dy)) (some (.arr md 2 (a8 [.u8,.u8] T) none te tx ty)) (az [mA,mB,mC,mD,mE,mF]) n Y) En):a7 En 3 (Tx nd D dx dy de md T tx ty te n0 n1 n2 n3 up x y) (fun v H=>v=.bool true∧H.nx=.o J1):=by
 refine J0 hT 3 [] 11 true (ML nd D dx dy de md T tx ty te n0 n1 n2 n3 up x y) [.h,J1,J2,J3,J4,J5] [[2,4,5,6,8]] rfl ?_
 refine ca (r5) [] (hwk) (fun v' H' q=>?_)
 rcases q with ⟨rfl,hnx11⟩
 refine ⟨(.bool true),[],J6,(by kernel_rfl),(by rw [hnx11];kernel_rfl),trivial,(by kernel_rfl),?_⟩
 refine Z1 hT 3 [] 7 ((a6 (a6 (a6 (a6 (C9 (.cons (.agg (.cons (.sa .h 0 nd 7) (.cons (.sa J1 0 md 2) .nil))) .nil) (.cons (.agg (.cons (.sa .h 0 nd 7) (.cons (.sa J1 0 md 2) .nil))) .nil)) (a6 (D0 (.some (.arr nd 7 (a8 RD D) .none de dx dy)) (.some (.arr nd 7 (a8 RD D) .none de dx dy))) (a6 (D0 (.some (.arr md 2 (a8 [.u8,.u8] T) .none te tx ty)) (.some (.arr md 2 (a8 [.u8,.u8] T) .none te tx ty))) true))) (a6 (C9 (.cons (.agg (.cons (.int .i16 n0) (.cons (.int .i16 n1) (.cons (.int .i16 n2) (.cons (.int .i16 n3) .nil))))) (.cons (.bool up) .nil)) (.cons (.agg (.cons (.int .i16 n0) (.cons (.int .i16 n1) (.cons (.int .i16 n2) (.cons (.int .i16 n3) .nil))))) (.cons (.bool up) .nil))) true)) (cR n0 n1 n2 n3 nd md)) true)) (uB x y n Y mA mB mC mD mE mF) [.h,J1,J2,J5,J7,J8,J6] [4,8,11,12] [] (by (try simp only [v5,v6,gS,oI,cR]);(try simp only [gT] at *);try omega) ?_
 exact rF (m:=m) (V:=V) (S:=S) hx hy  hpa hdr
theorem Cu {n:Nat} {Y:Nat→Nat→Int} {m:Nat} {V:Nat→Bool} {S:Nat→Nat→Int} {mA:Int} {mB:Int} {mC:Int} {mD:Int} {mE:Int} {mF:Int} {oX oY:Int→Int→Int} (hx : -128≤x∧x≤127) (hy : -128≤y∧y≤127) (hpa:∀ (x y:Int),(-128≤x∧x≤127)→(-128≤y∧y≤127)→a7 En 1 (D9 (0) (500) m V S false false mA mB mC mD mE mF x y) (QR n Y oX oY x y J1 J2)) (hdr:a7 En 2 (U8 (0) (500) m V S false false mA mB mC mD mE mF) (dZ n Y oX oY)) (hwk:a7 En 0 r5 (fun v H=>v=.bool true∧H.nx=.h)) (hT:q9 (qV [(.agg [(.sa (.h) 0 nd 7),(.sa J1 0 md 2)])] [(.agg [(.int .i16 n0),(.int .i16 n1),(.int .i16 n2),(.int .i16 n3)]),(.bool up)] (some (.arr nd 7 (a8 RD D) none de dx dy)) (some (.arr md 2 (a8 [.u8,.u8] T) none te tx ty)) (az [mA,mB,mC,mD,mE,mF]) m V S) En):a7 En 3 (Ty nd D dx dy de md T tx ty te n0 n1 n2 n3 up x y) (fun v H=>v=.bool true∧H.nx=.o J1):=by
 refine J0 hT 3 [] 11 true (MM nd D dx dy de md T tx ty te n0 n1 n2 n3 up x y) [.h,J1,J2,J3,J4,J5] [[2,4,5,6,8]] rfl ?_
 refine ca (r5) [] (hwk) (fun v' H' q=>?_)
 rcases q with ⟨rfl,hnx12⟩
 refine ⟨(.bool true),[],J6,(by kernel_rfl),(by rw [hnx12];kernel_rfl),trivial,(by kernel_rfl),?_⟩
 refine Z1 hT 3 [] 7 ((a6 (a6 (a6 (a6 (C9 (.cons (.agg (.cons (.sa .h 0 nd 7) (.cons (.sa J1 0 md 2) .nil))) .nil) (.cons (.agg (.cons (.sa .h 0 nd 7) (.cons (.sa J1 0 md 2) .nil))) .nil)) (a6 (D0 (.some (.arr nd 7 (a8 RD D) .none de dx dy)) (.some (.arr nd 7 (a8 RD D) .none de dx dy))) (a6 (D0 (.some (.arr md 2 (a8 [.u8,.u8] T) .none te tx ty)) (.some (.arr md 2 (a8 [.u8,.u8] T) .none te tx ty))) true))) (a6 (C9 (.cons (.agg (.cons (.int .i16 n0) (.cons (.int .i16 n1) (.cons (.int .i16 n2) (.cons (.int .i16 n3) .nil))))) (.cons (.bool up) .nil)) (.cons (.agg (.cons (.int .i16 n0) (.cons (.int .i16 n1) (.cons (.int .i16 n2) (.cons (.int .i16 n3) .nil))))) (.cons (.bool up) .nil))) true)) (cR n0 n1 n2 n3 nd md)) true)) (uC x y m V S mA mB mC mD mE mF) [.h,J1,J2,J5,J7,J8,J6] [4,8,11,12] [] (by (try simp only [v5,v6,gS,oI,cR]);(try simp only [gT] at *);try omega) ?_
 exact rG hx hy  hpa hdr
theorem Cv {n:Nat} {Y:Nat→Nat→Int} {m:Nat} {V:Nat→Bool} {S:Nat→Nat→Int} {mA:Int} {mB:Int} {mC:Int} {mD:Int} {mE:Int} {mF:Int} {oX oY:Int→Int→Int} (hx : -128≤x∧x≤127) (hy : -128≤y∧y≤127) (hpa:∀ (x y:Int),(-128≤x∧x≤127)→(-128≤y∧y≤127)→a7 En 2 (P5 n Y false false (0) (500) m V S false false mA mB mC mD mE mF x y) (QR n Y oX oY x y J2 J3)) (hdr:a7 En 2 (bP n Y false false (0) (500) m V S false false mA mB mC mD mE mF) (dZ n Y oX oY)) (hwk:a7 En 0 r5 (fun v H=>v=.bool true∧H.nx=.h)) (hT:q9 (Sf [(.agg [(.sa (.h) 0 nd 7),(.sa J1 0 md 2)])] [(.agg [(.int .i16 n0),(.int .i16 n1),(.int .i16 n2),(.int .i16 n3)]),(.bool up)] (some (.arr nd 7 (a8 RD D) none de dx dy)) (some (.arr md 2 (a8 [.u8,.u8] T) none te tx ty)) (az [mA,mB,mC,mD,mE,mF]) n Y m V S) En):a7 En 3 (Tz nd D dx dy de md T tx ty te n0 n1 n2 n3 up x y) (fun v H=>v=.bool true∧H.nx=.o J1):=by
 refine J0 hT 3 [] 11 true (MN nd D dx dy de md T tx ty te n0 n1 n2 n3 up x y) [.h,J1,J2,J3,J4,J5] [[2,4,5,6,8]] rfl ?_
 refine ca (r5) [] (hwk) (fun v' H' q=>?_)
 rcases q with ⟨rfl,hnx13⟩
 refine ⟨(.bool true),[],J6,(by kernel_rfl),(by rw [hnx13];kernel_rfl),trivial,(by kernel_rfl),?_⟩
 refine Z1 hT 3 [] 7 ((a6 (a6 (a6 (a6 (C9 (.cons (.agg (.cons (.sa .h 0 nd 7) (.cons (.sa J1 0 md 2) .nil))) .nil) (.cons (.agg (.cons (.sa .h 0 nd 7) (.cons (.sa J1 0 md 2) .nil))) .nil)) (a6 (D0 (.some (.arr nd 7 (a8 RD D) .none de dx dy)) (.some (.arr nd 7 (a8 RD D) .none de dx dy))) (a6 (D0 (.some (.arr md 2 (a8 [.u8,.u8] T) .none te tx ty)) (.some (.arr md 2 (a8 [.u8,.u8] T) .none te tx ty))) true))) (a6 (C9 (.cons (.agg (.cons (.int .i16 n0) (.cons (.int .i16 n1) (.cons (.int .i16 n2) (.cons (.int .i16 n3) .nil))))) (.cons (.bool up) .nil)) (.cons (.agg (.cons (.int .i16 n0) (.cons (.int .i16 n1) (.cons (.int .i16 n2) (.cons (.int .i16 n3) .nil))))) (.cons (.bool up) .nil))) true)) (cR n0 n1 n2 n3 nd md)) true)) (Gj x y n Y m V S mA mB mC mD mE mF) [.h,J1,J2,J5,J8,J9,J6,J7] [4,8,11,12] [] (by (try simp only [v5,v6,gS,oI,cR]);(try simp only [gT] at *);try omega) ?_
 exact Kf hx hy  hpa hdr
theorem Cw {n:Nat} {Y:Nat→Nat→Int} {m:Nat} {V:Nat→Bool} {S:Nat→Nat→Int} {mA:Int} {mB:Int} {mC:Int} {mD:Int} {mE:Int} {mF:Int} {oX oY:Int→Int→Int} (hx : -128≤x∧x≤127) (hy : -128≤y∧y≤127) (hpa:∀ (x y:Int),(-128≤x∧x≤127)→(-128≤y∧y≤127)→a7 En 0 (z6 (0) (500) mA mB mC mD mE mF x y) (QR n Y oX oY x y (.h) J1)) (hdr:a7 En 2 (I8 (0) (500) mA mB mC mD mE mF) (dZ n Y oX oY)) (hwk:a7 En 0 r5 (fun v H=>v=.bool true∧H.nx=.h)) (hT:q9 (Z6 [(.agg [(.sa (.h) 0 nd 7),.nils])] [(.agg [(.int .i16 n0),(.int .i16 n1),(.int .i16 n2),(.int .i16 n3)]),(.bool up)] (some (.arr nd 7 (a8 RD D) none de dx dy)) none (az [mA,mB,mC,mD,mE,mF])) En):a7 En 3 (xP nd D dx dy de n0 n1 n2 n3 up x y) (fun v H=>v=.bool true∧H.nx=.o J1):=by
 refine J0 hT 3 [] 11 true (MO nd D dx dy de n0 n1 n2 n3 up x y) [.h,J1,J2,J3,J4,J5] [[2,4,5,6,8]] rfl ?_
 refine ca (r5) [] (hwk) (fun v' H' q=>?_)
 rcases q with ⟨rfl,hnx14⟩
 refine ⟨(.bool true),[],J6,(by kernel_rfl),(by rw [hnx14];kernel_rfl),trivial,(by kernel_rfl),?_⟩
 refine Z1 hT 3 [] 7 ((a6 (a6 (a6 (a6 (C9 (.cons (.agg (.cons (.sa .h 0 nd 7) (.cons .nils .nil))) .nil) (.cons (.agg (.cons (.sa .h 0 nd 7) (.cons .nils .nil))) .nil)) (a6 (D0 (.some (.arr nd 7 (a8 RD D) .none de dx dy)) (.some (.arr nd 7 (a8 RD D) .none de dx dy))) (a6 (D0 .none .none) true))) (a6 (C9 (.cons (.agg (.cons (.int .i16 n0) (.cons (.int .i16 n1) (.cons (.int .i16 n2) (.cons (.int .i16 n3) .nil))))) (.cons (.bool up) .nil)) (.cons (.agg (.cons (.int .i16 n0) (.cons (.int .i16 n1) (.cons (.int .i16 n2) (.cons (.int .i16 n3) .nil))))) (.cons (.bool up) .nil))) true)) (FY n0 n1 n2 n3 nd)) true)) (gE x y mA mB mC mD mE mF) [.h,J1,J2,J5,J6,J7] [4,8,11,12] [] (by (try simp only [v5,v6,gS,oI,FY]);(try simp only [gT] at *);try omega) ?_
 exact cF (m:=m) (V:=V) (S:=S) hx hy  hpa hdr
theorem Cx {n:Nat} {Y:Nat→Nat→Int} {m:Nat} {V:Nat→Bool} {S:Nat→Nat→Int} {mA:Int} {mB:Int} {mC:Int} {mD:Int} {mE:Int} {mF:Int} {oX oY:Int→Int→Int} (hx : -128≤x∧x≤127) (hy : -128≤y∧y≤127) (hpa:∀ (x y:Int),(-128≤x∧x≤127)→(-128≤y∧y≤127)→a7 En 1 (K8 n Y false false (0) (500) mA mB mC mD mE mF x y) (QR n Y oX oY x y J1 J2)) (hdr:a7 En 2 (U7 n Y false false (0) (500) mA mB mC mD mE mF) (dZ n Y oX oY)) (hwk:a7 En 0 r5 (fun v H=>v=.bool true∧H.nx=.h)) (hT:q9 (qU [(.agg [(.sa (.h) 0 nd 7),.nils])] [(.agg [(.int .i16 n0),(.int .i16 n1),(.int .i16 n2),(.int .i16 n3)]),(.bool up)] (some (.arr nd 7 (a8 RD D) none de dx dy)) none (az [mA,mB,mC,mD,mE,mF]) n Y) En):a7 En 3 (Ua nd D dx dy de n0 n1 n2 n3 up x y) (fun v H=>v=.bool true∧H.nx=.o J1):=by
 refine J0 hT 3 [] 11 true (MP nd D dx dy de n0 n1 n2 n3 up x y) [.h,J1,J2,J3,J4,J5] [[2,4,5,6,8]] rfl ?_
 refine ca (r5) [] (hwk) (fun v' H' q=>?_)
 rcases q with ⟨rfl,hnx15⟩
 refine ⟨(.bool true),[],J6,(by kernel_rfl),(by rw [hnx15];kernel_rfl),trivial,(by kernel_rfl),?_⟩
 refine Z1 hT 3 [] 7 ((a6 (a6 (a6 (a6 (C9 (.cons (.agg (.cons (.sa .h 0 nd 7) (.cons .nils .nil))) .nil) (.cons (.agg (.cons (.sa .h 0 nd 7) (.cons .nils .nil))) .nil)) (a6 (D0 (.some (.arr nd 7 (a8 RD D) .none de dx dy)) (.some (.arr nd 7 (a8 RD D) .none de dx dy))) (a6 (D0 .none .none) true))) (a6 (C9 (.cons (.agg (.cons (.int .i16 n0) (.cons (.int .i16 n1) (.cons (.int .i16 n2) (.cons (.int .i16 n3) .nil))))) (.cons (.bool up) .nil)) (.cons (.agg (.cons (.int .i16 n0) (.cons (.int .i16 n1) (.cons (.int .i16 n2) (.cons (.int .i16 n3) .nil))))) (.cons (.bool up) .nil))) true)) (FY n0 n1 n2 n3 nd)) true)) (uB x y n Y mA mB mC mD mE mF) [.h,J1,J2,J5,J7,J8,J6] [4,8,11,12] [] (by (try simp only [v5,v6,gS,oI,FY]);(try simp only [gT] at *);try omega) ?_
 exact rF (m:=m) (V:=V) (S:=S) hx hy  hpa hdr
theorem Cy {n:Nat} {Y:Nat→Nat→Int} {m:Nat} {V:Nat→Bool} {S:Nat→Nat→Int} {mA:Int} {mB:Int} {mC:Int} {mD:Int} {mE:Int} {mF:Int} {oX oY:Int→Int→Int} (hx : -128≤x∧x≤127) (hy : -128≤y∧y≤127) (hpa:∀ (x y:Int),(-128≤x∧x≤127)→(-128≤y∧y≤127)→a7 En 0 (z6 (0) (500) mA mB mC mD mE mF x y) (QR n Y oX oY x y (.h) J1)) (hdr:a7 En 2 (I8 (0) (500) mA mB mC mD mE mF) (dZ n Y oX oY)) (hwk:a7 En 0 r5 (fun v H=>v=.bool true∧H.nx=.h)) (hT:q9 (Z6 [(.agg [.nils,(.sa J1 0 md 2)])] [(.agg [(.int .i16 n0),(.int .i16 n1),(.int .i16 n2),(.int .i16 n3)]),(.bool up)] none (some (.arr md 2 (a8 [.u8,.u8] T) none te tx ty)) (az [mA,mB,mC,mD,mE,mF])) En):a7 En 3 (xQ md T tx ty te n0 n1 n2 n3 up x y) (fun v H=>v=.bool true∧H.nx=.o J1):=by
 refine J0 hT 3 [] 11 true (MQ md T tx ty te n0 n1 n2 n3 up x y) [.h,J1,J2,J3,J4,J5] [[2,4,5,6,8]] rfl ?_
 refine ca (r5) [] (hwk) (fun v' H' q=>?_)
 rcases q with ⟨rfl,hnx16⟩
 refine ⟨(.bool true),[],J6,(by kernel_rfl),(by rw [hnx16];kernel_rfl),trivial,(by kernel_rfl),?_⟩
 refine Z1 hT 3 [] 7 ((a6 (a6 (a6 (a6 (C9 (.cons (.agg (.cons .nils (.cons (.sa J1 0 md 2) .nil))) .nil) (.cons (.agg (.cons .nils (.cons (.sa J1 0 md 2) .nil))) .nil)) (a6 (D0 .none .none) (a6 (D0 (.some (.arr md 2 (a8 [.u8,.u8] T) .none te tx ty)) (.some (.arr md 2 (a8 [.u8,.u8] T) .none te tx ty))) true))) (a6 (C9 (.cons (.agg (.cons (.int .i16 n0) (.cons (.int .i16 n1) (.cons (.int .i16 n2) (.cons (.int .i16 n3) .nil))))) (.cons (.bool up) .nil)) (.cons (.agg (.cons (.int .i16 n0) (.cons (.int .i16 n1) (.cons (.int .i16 n2) (.cons (.int .i16 n3) .nil))))) (.cons (.bool up) .nil))) true)) (xV n0 n1 n2 n3 md)) true)) (gE x y mA mB mC mD mE mF) [.h,J1,J2,J5,J6,J7] [4,8,11,12] [] (by (try simp only [v5,v6,gS,oI,xV]);(try simp only [gT] at *);try omega) ?_
 exact cF (m:=m) (V:=V) (S:=S) hx hy  hpa hdr
theorem Cz {n:Nat} {Y:Nat→Nat→Int} {m:Nat} {V:Nat→Bool} {S:Nat→Nat→Int} {mA:Int} {mB:Int} {mC:Int} {mD:Int} {mE:Int} {mF:Int} {oX oY:Int→Int→Int} (hx : -128≤x∧x≤127) (hy : -128≤y∧y≤127) (hpa:∀ (x y:Int),(-128≤x∧x≤127)→(-128≤y∧y≤127)→a7 En 1 (D9 (0) (500) m V S false false mA mB mC mD mE mF x y) (QR n Y oX oY x y J1 J2)) (hdr:a7 En 2 (U8 (0) (500) m V S false false mA mB mC mD mE mF) (dZ n Y oX oY)) (hwk:a7 En 0 r5 (fun v H=>v=.bool true∧H.nx=.h)) (hT:q9 (qV [(.agg [.nils,(.sa J1 0 md 2)])] [(.agg [(.int .i16 n0),(.int .i16 n1),(.int .i16 n2),(.int .i16 n3)]),(.bool up)] none (some (.arr md 2 (a8 [.u8,.u8] T) none te tx ty)) (az [mA,mB,mC,mD,mE,mF]) m V S) En):a7 En 3 (Ub md T tx ty te n0 n1 n2 n3 up x y) (fun v H=>v=.bool true∧H.nx=.o J1):=by
 refine J0 hT 3 [] 11 true (MS md T tx ty te n0 n1 n2 n3 up x y) [.h,J1,J2,J3,J4,J5] [[2,4,5,6,8]] rfl ?_
 refine ca (r5) [] (hwk) (fun v' H' q=>?_)
 rcases q with ⟨rfl,hnx17⟩
 refine ⟨(.bool true),[],J6,(by kernel_rfl),(by rw [hnx17];kernel_rfl),trivial,(by kernel_rfl),?_⟩
 refine Z1 hT 3 [] 7 ((a6 (a6 (a6 (a6 (C9 (.cons (.agg (.cons .nils (.cons (.sa J1 0 md 2) .nil))) .nil) (.cons (.agg (.cons .nils (.cons (.sa J1 0 md 2) .nil))) .nil)) (a6 (D0 .none .none) (a6 (D0 (.some (.arr md 2 (a8 [.u8,.u8] T) .none te tx ty)) (.some (.arr md 2 (a8 [.u8,.u8] T) .none te tx ty))) true))) (a6 (C9 (.cons (.agg (.cons (.int .i16 n0) (.cons (.int .i16 n1) (.cons (.int .i16 n2) (.cons (.int .i16 n3) .nil))))) (.cons (.bool up) .nil)) (.cons (.agg (.cons (.int .i16 n0) (.cons (.int .i16 n1) (.cons (.int .i16 n2) (.cons (.int .i16 n3) .nil))))) (.cons (.bool up) .nil))) true)) (xV n0 n1 n2 n3 md)) true)) (uC x y m V S mA mB mC mD mE mF) [.h,J1,J2,J5,J7,J8,J6] [4,8,11,12] [] (by (try simp only [v5,v6,gS,oI,xV]);(try simp only [gT] at *);try omega) ?_
 exact rG hx hy  hpa hdr
theorem Da {n:Nat} {Y:Nat→Nat→Int} {m:Nat} {V:Nat→Bool} {S:Nat→Nat→Int} {mA:Int} {mB:Int} {mC:Int} {mD:Int} {mE:Int} {mF:Int} {oX oY:Int→Int→Int} (hx : -128≤x∧x≤127) (hy : -128≤y∧y≤127) (hpa:∀ (x y:Int),(-128≤x∧x≤127)→(-128≤y∧y≤127)→a7 En 0 (z6 (0) (500) mA mB mC mD mE mF x y) (QR n Y oX oY x y (.h) J1)) (hdr:a7 En 2 (I8 (0) (500) mA mB mC mD mE mF) (dZ n Y oX oY)) (hwk:a7 En 0 r5 (fun v H=>v=.bool true∧H.nx=.h)) (hT:q9 (Z6 [(.agg [.nils,.nils])] [(.agg [(.int .i16 n0),(.int .i16 n1),(.int .i16 n2),(.int .i16 n3)]),(.bool up)] none none (az [mA,mB,mC,mD,mE,mF])) En):a7 En 3 (xR n0 n1 n2 n3 up x y) (fun v H=>v=.bool true∧H.nx=.o J1):=by
 refine J0 hT 3 [] 11 true (MT n0 n1 n2 n3 up x y) [.h,J1,J2,J3,J4,J5] [[2,4,5,6,8]] rfl ?_
 refine ca (r5) [] (hwk) (fun v' H' q=>?_)
 rcases q with ⟨rfl,hnx18⟩
 refine ⟨(.bool true),[],J6,(by kernel_rfl),(by rw [hnx18];kernel_rfl),trivial,(by kernel_rfl),?_⟩
 refine Z1 hT 3 [] 7 ((a6 (a6 (a6 (a6 (C9 (.cons (.agg (.cons .nils (.cons .nils .nil))) .nil) (.cons (.agg (.cons .nils (.cons .nils .nil))) .nil)) (a6 (D0 .none .none) (a6 (D0 .none .none) true))) (a6 (C9 (.cons (.agg (.cons (.int .i16 n0) (.cons (.int .i16 n1) (.cons (.int .i16 n2) (.cons (.int .i16 n3) .nil))))) (.cons (.bool up) .nil)) (.cons (.agg (.cons (.int .i16 n0) (.cons (.int .i16 n1) (.cons (.int .i16 n2) (.cons (.int .i16 n3) .nil))))) (.cons (.bool up) .nil))) true)) (a6 (oI n0 n1 n2 n3) true)) true)) (gE x y mA mB mC mD mE mF) [.h,J1,J2,J5,J6,J7] [4,8,11,12] [] (by (try simp only [v5,v6,gS,oI]);(try simp only [gT] at *);try omega) ?_
 exact cF (m:=m) (V:=V) (S:=S) hx hy  hpa hdr
end
def CH (nd:Nat) (D:Nat→Nat→Int) (dx:Bool) (dy:Bool) (de:Nat) (md:Nat) (T:Nat→Nat→Int) (tx:Bool) (ty:Bool) (te:Nat) (n0:Int) (n1:Int) (n2:Int) (n3:Int) (up:Bool) (x:Int) (y:Int):St:=xO nd D dx dy de md T tx ty te n0 n1 n2 n3 up x y
theorem Kg {nd:Nat} {D:Nat→Nat→Int} {dx:Bool} {dy:Bool} {de:Nat} {md:Nat} {T:Nat→Nat→Int} {tx:Bool} {ty:Bool} {te:Nat} {n0:Int} {n1:Int} {n2:Int} {n3:Int} {up:Bool} {x:Int} {y:Int} {nq:Nat} {Q:Nat→Nat→Int} {qx:Bool} {qy:Bool} {qe:Nat} (hD:∀ j k,-32768≤D j k∧D j k≤32767) (hD0:∀ j,0≤D j 0) (hT:∀ j k,0≤T j k∧T j k≤255) (hn0 : -32768≤n0∧n0≤32767) (hn1 : -32768≤n1∧n1≤32767) (hn2 : -32768≤n2∧n2≤32767) (hn3 : -32768≤n3∧n3≤32767) (hx : -128≤x∧x≤127) (hy : -128≤y∧y≤127)  (hwk:a7 En 0 r5 (fun v H=>v=.bool true∧H.nx=.h)) :
 a7 En 3 (CH nd D dx dy de md T tx ty te n0 n1 n2 n3 up x y) (fun v H=>v=.bool true∧H.nx=.o J1):=by
 obtain ⟨vm,Hm,⟨mA,mB,mC,mD,mE,mF,e1,_,hmA,hmB,hmC,hmD,hmE,hmF⟩,hrm⟩:=a7.split (bM (up:=up) hn0 hn1 hn2 hn3)
 have h7:=T8 (n0:=n0) (n1:=n1) (n2:=n2) (n3:=n3) (up:=up) (mr:=vm) (by rw [e1];kernel_rfl) (hrm _ rfl)
 subst e1
 obtain ⟨v,H,hq,hr⟩:=a7.split (Fu (nd:=nd) (D:=D) (dx:=dx) (dy:=dy) (de:=de) (md:=md) (T:=T) (tx:=tx) (ty:=ty) (te:=te) hD hD0 hT)
 rcases hq with h|⟨n,Y,h1,h2,h3,hn1',hn,hY,q1⟩|⟨m,V,S,h1,h2,h3,hst,q2⟩|⟨n,Y,m,V,S,h1,h2,h3,h4,hn1',hn,hY,hst,q1,q2⟩
 ·obtain ⟨oX,oY,hp⟩:=T7 (sd:=0) (wd:=500) hmA hmB hmC hmD hmE hmF
  exact Cs (nd:=nd) (D:=D) (dx:=dx) (dy:=dy) (de:=de) (md:=md) (T:=T) (tx:=tx) (ty:=ty) (te:=te) (n0:=n0) (n1:=n1) (n2:=n2) (n3:=n3) (up:=up) (x:=x) (y:=y) (mA:=mA) (mB:=mB) (mC:=mC) (mD:=mD) (mE:=mE) (mF:=mF) (n:=0) (Y:=fun _ _=>0) (m:=0) (V:=fun _=>false) (S:=fun _ _=>0) hx hy  hp (U0 (n:=0) (Y:=fun _ _=>0) hp) hwk (Sg h7 (hr _ h))
 ·obtain ⟨oX,oY,hp⟩:=tS (ex:=false) (sty:=false) (sd:=0) (wd:=500) hn hY hmA hmB hmC hmD hmE hmF
  exact Ct (nd:=nd) (D:=D) (dx:=dx) (dy:=dy) (de:=de) (md:=md) (T:=T) (tx:=tx) (ty:=ty) (te:=te) (n0:=n0) (n1:=n1) (n2:=n2) (n3:=n3) (up:=up) (x:=x) (y:=y) (mA:=mA) (mB:=mB) (mC:=mC) (mD:=mD) (mE:=mE) (mF:=mF) (n:=n) (Y:=Y) (m:=0) (V:=fun _=>false) (S:=fun _ _=>0) hx hy  hp (kU hp) hwk (Si h7 (hr _ ⟨h1,h2,h3⟩))
 ·obtain ⟨s1,s2,s3,s4,s5⟩:=hst
  obtain ⟨oX,oY,hp⟩:=kS (sex:=false) (ssty:=false) (sd:=0) (wd:=500) s2 s5 s3 s1 s4 hmA hmB hmC hmD hmE hmF
  exact Cu (nd:=nd) (D:=D) (dx:=dx) (dy:=dy) (de:=de) (md:=md) (T:=T) (tx:=tx) (ty:=ty) (te:=te) (n0:=n0) (n1:=n1) (n2:=n2) (n3:=n3) (up:=up) (x:=x) (y:=y) (mA:=mA) (mB:=mB) (mC:=mC) (mD:=mD) (mE:=mE) (mF:=mF) (m:=m) (V:=V) (S:=S) (n:=0) (Y:=fun _ _=>0) hx hy  hp (kV (n:=0) (Y:=fun _ _=>0) hp) hwk (Sj h7 (hr _ ⟨h1,h2,h3⟩))
 obtain ⟨s1,s2,s3,s4,s5⟩:=hst
 obtain ⟨oX,oY,hp⟩:=Se (ex:=false) (sty:=false) (sex:=false) (ssty:=false) (sd:=0) (wd:=500) hn hY s2 s5 s3 s1 s4 hmA hmB hmC hmD hmE hmF
 exact Cv (nd:=nd) (D:=D) (dx:=dx) (dy:=dy) (de:=de) (md:=md) (T:=T) (tx:=tx) (ty:=ty) (te:=te) (n0:=n0) (n1:=n1) (n2:=n2) (n3:=n3) (up:=up) (x:=x) (y:=y) (mA:=mA) (mB:=mB) (mC:=mC) (mD:=mD) (mE:=mE) (mF:=mF) (n:=n) (Y:=Y) (m:=m) (V:=V) (S:=S) hx hy  hp (Gg hp) hwk (Sk h7 (hr _ ⟨h1,h2,h3,h4⟩))
def CI (nd:Nat) (D:Nat→Nat→Int) (dx:Bool) (dy:Bool) (de:Nat) (n0:Int) (n1:Int) (n2:Int) (n3:Int) (up:Bool) (x:Int) (y:Int):St:=xP nd D dx dy de n0 n1 n2 n3 up x y
theorem Kh {nd:Nat} {D:Nat→Nat→Int} {dx:Bool} {dy:Bool} {de:Nat} {md:Nat} {T:Nat→Nat→Int} {tx:Bool} {ty:Bool} {te:Nat} {n0:Int} {n1:Int} {n2:Int} {n3:Int} {up:Bool} {x:Int} {y:Int} {nq:Nat} {Q:Nat→Nat→Int} {qx:Bool} {qy:Bool} {qe:Nat} (hD:∀ j k,-32768≤D j k∧D j k≤32767) (hD0:∀ j,0≤D j 0) (hn0 : -32768≤n0∧n0≤32767) (hn1 : -32768≤n1∧n1≤32767) (hn2 : -32768≤n2∧n2≤32767) (hn3 : -32768≤n3∧n3≤32767) (hx : -128≤x∧x≤127) (hy : -128≤y∧y≤127)  (hwk:a7 En 0 r5 (fun v H=>v=.bool true∧H.nx=.h)) :
 a7 En 3 (CI nd D dx dy de n0 n1 n2 n3 up x y) (fun v H=>v=.bool true∧H.nx=.o J1):=by
 obtain ⟨vm,Hm,⟨mA,mB,mC,mD,mE,mF,e1,_,hmA,hmB,hmC,hmD,hmE,hmF⟩,hrm⟩:=a7.split (bM (up:=up) hn0 hn1 hn2 hn3)
 have h7:=T8 (n0:=n0) (n1:=n1) (n2:=n2) (n3:=n3) (up:=up) (mr:=vm) (by rw [e1];kernel_rfl) (hrm _ rfl)
 subst e1
 obtain ⟨v,H,hq,hr⟩:=a7.split (Fv (nd:=nd) (D:=D) (dx:=dx) (dy:=dy) (de:=de) hD hD0 )
 rcases hq with h|⟨n,Y,h1,h2,h3,hn1',hn,hY,q1⟩|⟨m,V,S,h1,h2,h3,hst,q2⟩|⟨n,Y,m,V,S,h1,h2,h3,h4,hn1',hn,hY,hst,q1,q2⟩
 ·obtain ⟨oX,oY,hp⟩:=T7 (sd:=0) (wd:=500) hmA hmB hmC hmD hmE hmF
  exact Cw (nd:=nd) (D:=D) (dx:=dx) (dy:=dy) (de:=de) (n0:=n0) (n1:=n1) (n2:=n2) (n3:=n3) (up:=up) (x:=x) (y:=y) (mA:=mA) (mB:=mB) (mC:=mC) (mD:=mD) (mE:=mE) (mF:=mF) (n:=0) (Y:=fun _ _=>0) (m:=0) (V:=fun _=>false) (S:=fun _ _=>0) hx hy  hp (U0 (n:=0) (Y:=fun _ _=>0) hp) hwk (Sl h7 (hr _ h))
 ·obtain ⟨oX,oY,hp⟩:=tS (ex:=false) (sty:=false) (sd:=0) (wd:=500) hn hY hmA hmB hmC hmD hmE hmF
  exact Cx (nd:=nd) (D:=D) (dx:=dx) (dy:=dy) (de:=de) (n0:=n0) (n1:=n1) (n2:=n2) (n3:=n3) (up:=up) (x:=x) (y:=y) (mA:=mA) (mB:=mB) (mC:=mC) (mD:=mD) (mE:=mE) (mF:=mF) (n:=n) (Y:=Y) (m:=0) (V:=fun _=>false) (S:=fun _ _=>0) hx hy  hp (kU hp) hwk (Sm h7 (hr _ ⟨h1,h2,h3⟩))
 ·first|(cases q1;done)|(cases q2;done)
 first|(cases q1;done)|(cases q2;done)
def CJ (md:Nat) (T:Nat→Nat→Int) (tx:Bool) (ty:Bool) (te:Nat) (n0:Int) (n1:Int) (n2:Int) (n3:Int) (up:Bool) (x:Int) (y:Int):St:=xQ md T tx ty te n0 n1 n2 n3 up x y
theorem Ki {nd:Nat} {D:Nat→Nat→Int} {dx:Bool} {dy:Bool} {de:Nat} {md:Nat} {T:Nat→Nat→Int} {tx:Bool} {ty:Bool} {te:Nat} {n0:Int} {n1:Int} {n2:Int} {n3:Int} {up:Bool} {x:Int} {y:Int} {nq:Nat} {Q:Nat→Nat→Int} {qx:Bool} {qy:Bool} {qe:Nat} (hT:∀ j k,0≤T j k∧T j k≤255) (hn0 : -32768≤n0∧n0≤32767) (hn1 : -32768≤n1∧n1≤32767) (hn2 : -32768≤n2∧n2≤32767) (hn3 : -32768≤n3∧n3≤32767) (hx : -128≤x∧x≤127) (hy : -128≤y∧y≤127)  (hwk:a7 En 0 r5 (fun v H=>v=.bool true∧H.nx=.h)) :
 a7 En 3 (CJ md T tx ty te n0 n1 n2 n3 up x y) (fun v H=>v=.bool true∧H.nx=.o J1):=by
 obtain ⟨vm,Hm,⟨mA,mB,mC,mD,mE,mF,e1,_,hmA,hmB,hmC,hmD,hmE,hmF⟩,hrm⟩:=a7.split (bM (up:=up) hn0 hn1 hn2 hn3)
 have h7:=T8 (n0:=n0) (n1:=n1) (n2:=n2) (n3:=n3) (up:=up) (mr:=vm) (by rw [e1];kernel_rfl) (hrm _ rfl)
 subst e1
 obtain ⟨v,H,hq,hr⟩:=a7.split (Fw (md:=md) (T:=T) (tx:=tx) (ty:=ty) (te:=te) hT)
 rcases hq with h|⟨n,Y,h1,h2,h3,hn1',hn,hY,q1⟩|⟨m,V,S,h1,h2,h3,hst,q2⟩|⟨n,Y,m,V,S,h1,h2,h3,h4,hn1',hn,hY,hst,q1,q2⟩
 ·obtain ⟨oX,oY,hp⟩:=T7 (sd:=0) (wd:=500) hmA hmB hmC hmD hmE hmF
  exact Cy (md:=md) (T:=T) (tx:=tx) (ty:=ty) (te:=te) (n0:=n0) (n1:=n1) (n2:=n2) (n3:=n3) (up:=up) (x:=x) (y:=y) (mA:=mA) (mB:=mB) (mC:=mC) (mD:=mD) (mE:=mE) (mF:=mF) (n:=0) (Y:=fun _ _=>0) (m:=0) (V:=fun _=>false) (S:=fun _ _=>0) hx hy  hp (U0 (n:=0) (Y:=fun _ _=>0) hp) hwk (Sn h7 (hr _ h))
 ·first|(cases q1;done)|(cases q2;done)
 ·obtain ⟨s1,s2,s3,s4,s5⟩:=hst
  obtain ⟨oX,oY,hp⟩:=kS (sex:=false) (ssty:=false) (sd:=0) (wd:=500) s2 s5 s3 s1 s4 hmA hmB hmC hmD hmE hmF
  exact Cz (md:=md) (T:=T) (tx:=tx) (ty:=ty) (te:=te) (n0:=n0) (n1:=n1) (n2:=n2) (n3:=n3) (up:=up) (x:=x) (y:=y) (mA:=mA) (mB:=mB) (mC:=mC) (mD:=mD) (mE:=mE) (mF:=mF) (m:=m) (V:=V) (S:=S) (n:=0) (Y:=fun _ _=>0) hx hy  hp (kV (n:=0) (Y:=fun _ _=>0) hp) hwk (So h7 (hr _ ⟨h1,h2,h3⟩))
 first|(cases q1;done)|(cases q2;done)
def CK (n0:Int) (n1:Int) (n2:Int) (n3:Int) (up:Bool) (x:Int) (y:Int):St:=xR n0 n1 n2 n3 up x y
theorem Kj {nd:Nat} {D:Nat→Nat→Int} {dx:Bool} {dy:Bool} {de:Nat} {md:Nat} {T:Nat→Nat→Int} {tx:Bool} {ty:Bool} {te:Nat} {n0:Int} {n1:Int} {n2:Int} {n3:Int} {up:Bool} {x:Int} {y:Int} {nq:Nat} {Q:Nat→Nat→Int} {qx:Bool} {qy:Bool} {qe:Nat} (hn0 : -32768≤n0∧n0≤32767) (hn1 : -32768≤n1∧n1≤32767) (hn2 : -32768≤n2∧n2≤32767) (hn3 : -32768≤n3∧n3≤32767) (hx : -128≤x∧x≤127) (hy : -128≤y∧y≤127)  (hwk:a7 En 0 r5 (fun v H=>v=.bool true∧H.nx=.h)) :
 a7 En 3 (CK n0 n1 n2 n3 up x y) (fun v H=>v=.bool true∧H.nx=.o J1):=by
 obtain ⟨vm,Hm,⟨mA,mB,mC,mD,mE,mF,e1,_,hmA,hmB,hmC,hmD,hmE,hmF⟩,hrm⟩:=a7.split (bM (up:=up) hn0 hn1 hn2 hn3)
 have h7:=T8 (n0:=n0) (n1:=n1) (n2:=n2) (n3:=n3) (up:=up) (mr:=vm) (by rw [e1];kernel_rfl) (hrm _ rfl)
 subst e1
 obtain ⟨v,H,hq,hr⟩:=a7.split (Fx )
 rcases hq with h|⟨n,Y,h1,h2,h3,hn1',hn,hY,q1⟩|⟨m,V,S,h1,h2,h3,hst,q2⟩|⟨n,Y,m,V,S,h1,h2,h3,h4,hn1',hn,hY,hst,q1,q2⟩
 ·obtain ⟨oX,oY,hp⟩:=T7 (sd:=0) (wd:=500) hmA hmB hmC hmD hmE hmF
  exact Da (n0:=n0) (n1:=n1) (n2:=n2) (n3:=n3) (up:=up) (x:=x) (y:=y) (mA:=mA) (mB:=mB) (mC:=mC) (mD:=mD) (mE:=mE) (mF:=mF) (n:=0) (Y:=fun _ _=>0) (m:=0) (V:=fun _=>false) (S:=fun _ _=>0) hx hy  hp (U0 (n:=0) (Y:=fun _ _=>0) hp) hwk (Sp h7 (hr _ h))
 ·first|(cases q1;done)|(cases q2;done)
 ·first|(cases q1;done)|(cases q2;done)
 first|(cases q1;done)|(cases q2;done)
end Go.Proofs.Ytoahnefofelglaa.gm
end
