/- A part of the proof of GlyphCovers; no condition. -/
import Derived.Test.YtoahnefofelglaaGlyphCovers09
set_option linter.unusedVariables false
set_option linter.unusedSimpArgs false
set_option linter.unusedSectionVars false
noncomputable section
section
namespace Go.Proofs.Ytoahnefofelglaa.gm
open Go Go.AM
abbrev X0 (Y:Nat→Nat→Int) (i:Nat):Bool:=(c9 (Y i 0) (4))
abbrev W2 (Y:Nat→Nat→Int) (i:Nat):Bool:=(f9 (Y i 1) (32000))
abbrev Y3 (Y:Nat→Nat→Int) (i:Nat):Bool:=(f9 (Y i 2) (32000))
abbrev Z4 (Y:Nat→Nat→Int) (i:Nat):Bool:=(f9 (Y i 3) (32000))
abbrev gG (Y:Nat→Nat→Int) (i:Nat):Bool:=(f9 (Y i 4) (32000))
abbrev V0 (Y:Nat→Nat→Int) (i:Nat):Bool:=(f9 (-32000) (Y i 1))
abbrev X1 (Y:Nat→Nat→Int) (i:Nat):Bool:=(f9 (-32000) (Y i 2))
abbrev K7 (Y:Nat→Nat→Int) (i:Nat):Bool:=(f9 (-32000) (Y i 3))
abbrev dB (Y:Nat→Nat→Int) (i:Nat):Bool:=(f9 (-32000) (Y i 4))
abbrev P3 (i n:Nat):Bool:=(Nat.ble (Nat.succ i) n)
abbrev M2 (Y:Nat→Nat→Int) (i:Nat):Bool:=(Bool.not (X0 Y i))
abbrev cM (Y:Nat→Nat→Int) (i:Nat):Bool:=(Bool.not (c9 (Y i 0) (3)))
abbrev aG (Y:Nat→Nat→Int) (i:Nat):Bool:=(Bool.and (c9 (Y i 3) (0)) (Bool.and (c9 (Y i 4) (0)) true))
abbrev cO (Y:Nat→Nat→Int) (i:Nat):Bool:=(Bool.and (c9 (Y i 1) (0)) (Bool.and (c9 (Y i 2) (0)) true))
abbrev B3 (i n:Nat):Bool:=(a6 (a6 (P3 i n) true) (a6 (a6 (a6 (P3 i n) true) true) true))
abbrev A3 (Y:Nat→Nat→Int) (i:Nat):Bool:=(a6 (a6 (f8 (Y i 1)) (a6 (f8 (Y i 2)) true)) (a6 (a6 (c9 (Y i 2) (Y i 2)) (a6 (c9 (Y i 2) (Y i 2)) true)) (a6 (a6 (c9 (Y i 1) (Y i 1)) true) true)))
abbrev C0 (Y:Nat→Nat→Int) (i:Nat):Bool:=(a6 (a6 (f8 (Y i 3)) (a6 (f8 (Y i 4)) true)) (a6 (a6 (c9 (Y i 4) (Y i 4)) (a6 (c9 (Y i 4) (Y i 4)) true)) (a6 (a6 (c9 (Y i 3) (Y i 3)) true) true)))
abbrev C8 (Y:Nat→Nat→Int) (i:Nat):Bool:=(a6 (A3 Y i) true)
abbrev Q4 (Y:Nat→Nat→Int) (i:Nat):Bool:=(a6 (C0 Y i) true)
abbrev x7 (Y:Nat→Nat→Int) (i n:Nat):Bool:=(a6 (a6 (a6 (f8 (Y i 5)) (a6 (f8 (Y i 6)) true)) (a6 (a6 (c9 (Y i 6) (Y i 6)) (a6 (c9 (Y i 6) (Y i 6)) true)) (a6 (a6 (c9 (Y i 5) (Y i 5)) true) true))) (a6 (a6 (P3 i n) true) (a6 (a6 (a6 (P3 i n) true) true) (a6 (a6 (f9 (-9223372036854775808) (.ofNat (Nat.add i 1))) (Nat.ble (Nat.add i 1) 9223372036854775807)) true))))
abbrev Jj (Y:Nat→Nat→Int) (i n:Nat):Bool:=(a6 (f9 (-32000) (Y i 5)) (a6 (Bool.not (f9 (Y i 5) (32000))) (x7 Y i n)))
abbrev Jk (Y:Nat→Nat→Int) (i n:Nat):Bool:=(a6 (f9 (-32000) (Y i 5)) (a6 (f9 (Y i 5) (32000)) (a6 (Bool.not (f9 (-32000) (Y i 6))) (x7 Y i n))))
abbrev Jl (Y:Nat→Nat→Int) (i n:Nat):Bool:=(a6 (f9 (-32000) (Y i 5)) (a6 (f9 (Y i 5) (32000)) (a6 (f9 (-32000) (Y i 6)) (a6 (Bool.not (f9 (Y i 6) (32000))) (x7 Y i n)))))
abbrev G1 (Y:Nat→Nat→Int) (i n:Nat):Bool:=(a6 (C0 Y i) (x7 Y i n))
abbrev Jm (Y:Nat→Nat→Int) (i n:Nat):Bool:=(a6 (K7 Y i) (a6 (Z4 Y i) (a6 (Bool.not (dB Y i)) (G1 Y i n))))
abbrev Jn (Y:Nat→Nat→Int) (i n:Nat):Bool:=(a6 (K7 Y i) (a6 (Z4 Y i) (a6 (dB Y i) (a6 (Bool.not (gG Y i)) (G1 Y i n)))))
abbrev Yj (i n:Nat) (fine:Bool) (Y:Nat→Nat→Int):Bool:=(a6 (P3 i n) (a6 (B3 i n) (a6 fine (a6 (V0 Y i) (a6 (W2 Y i) (a6 (X1 Y i) (a6 (Y3 Y i) (a6 (X0 Y i) (a6 (C8 Y i) (a6 (Bool.not (cO Y i)) (G1 Y i n)))))))))))
abbrev Yk (i n:Nat) (fine:Bool) (Y:Nat→Nat→Int):Bool:=(a6 (P3 i n) (a6 (B3 i n) (a6 fine (a6 (V0 Y i) (a6 (W2 Y i) (a6 (X1 Y i) (a6 (Y3 Y i) (a6 (X0 Y i) (a6 (C8 Y i) (a6 (cO Y i) (a6 (K7 Y i) (a6 (Z4 Y i) (a6 (dB Y i) (a6 (gG Y i) (a6 (X0 Y i) (a6 (Q4 Y i) (a6 (Bool.not (aG Y i)) (x7 Y i n))))))))))))))))))
abbrev Yl (i n:Nat) (fine:Bool) (Y:Nat→Nat→Int):Bool:=(a6 (P3 i n) (a6 (B3 i n) (a6 fine (a6 (V0 Y i) (a6 (W2 Y i) (a6 (X1 Y i) (a6 (Y3 Y i) (a6 (M2 Y i) (a6 (cM Y i) (a6 (C8 Y i) (a6 (K7 Y i) (a6 (Z4 Y i) (a6 (dB Y i) (a6 (gG Y i) (a6 (M2 Y i) (a6 (cM Y i) (a6 (Q4 Y i) (a6 (Bool.not (aG Y i)) (x7 Y i n)))))))))))))))))))
abbrev r9 (i n:Nat) (zz:Bool):Bool:=(a6 (P3 i n) (a6 (B3 i n) zz))
abbrev t7 (Y:Nat→Nat→Int) (i:Nat) (zz:Bool):Bool:=(a6 (V0 Y i) zz)
abbrev u4 (Y:Nat→Nat→Int) (i:Nat) (zz:Bool):Bool:=(a6 (W2 Y i) zz)
abbrev u9 (Y:Nat→Nat→Int) (i:Nat) (zz:Bool):Bool:=(a6 (X1 Y i) zz)
abbrev w5 (Y:Nat→Nat→Int) (i:Nat) (zz:Bool):Bool:=(a6 (Y3 Y i) zz)
abbrev E5 (Y:Nat→Nat→Int) (i:Nat) (zz:Bool):Bool:=(a6 (M2 Y i) zz)
abbrev aH (Y:Nat→Nat→Int) (i:Nat) (zz:Bool):Bool:=(a6 (cM Y i) (a6 (C8 Y i) zz))
abbrev oV (Y:Nat→Nat→Int) (i:Nat) (zz:Bool):Bool:=(a6 (Z4 Y i) (a6 (dB Y i) (a6 (gG Y i) (a6 (M2 Y i) (a6 (cM Y i) (a6 (Q4 Y i) (a6 (aG Y i) zz)))))))
abbrev aI (Y:Nat→Nat→Int) (i:Nat) (zz:Bool):Bool:=(a6 (c9 (Y i 0) (3)) (a6 (C8 Y i) zz))
abbrev oW (Y:Nat→Nat→Int) (i:Nat) (zz:Bool):Bool:=(a6 (Z4 Y i) (a6 (dB Y i) (a6 (gG Y i) (a6 (M2 Y i) (a6 (c9 (Y i 0) (3)) (a6 (Q4 Y i) zz))))))
abbrev aJ (Y:Nat→Nat→Int) (i:Nat) (zz:Bool):Bool:=(a6 (X0 Y i) (a6 (C8 Y i) (a6 (cO Y i) zz)))
abbrev oZ (Y:Nat→Nat→Int) (i:Nat) (zz:Bool):Bool:=(a6 (Z4 Y i) (a6 (dB Y i) (a6 (gG Y i) (a6 (X0 Y i) (a6 (Q4 Y i) (a6 (aG Y i) zz))))))
def VS (n:Nat) (Y:Nat→Nat→Int):AV→Hp→Prop:=fun v H=>∃ e:Int,v=.int .i64 e∧H.nx=J2∧(e=0→Y2 n Y)
set_option maxHeartbeats 8000000 in
section
variable {n:Nat} {Y:Nat→Nat→Int} {ex sty:Bool} {sd wd:Int} {m:Nat} {V:Nat→Bool} {S:Nat→Nat→Int} {sex ssty:Bool} (hY:∀ j k,-1000000000≤Y j k∧Y j k≤1000000000) (hn:n≤1000) (hm8:m≤8) (hS:∀ j k,-32000≤S j k∧S j k≤32000) (hsort:G0 m V S)
include hY hn hm8 hS hsort
theorem JZ (d:Nat):∀ (i:Nat) (fine:Bool) (Z:Nat→Nat→Int),n - i=d→i≤n →
 (∀ j k,-1000000000≤Z j k∧Z j k≤1000000000)→(∀ j,j < i→Z j 0=Y j 0)→(fine=true→∀ j,j < i→Z3 (Y j))→a7 En 2 (B7 n Y ex sty sd wd m V S sex ssty i fine Z) (VS n Y):=by
 induction d using Nat.strongRecOn with
 | ind d IH =>
   intro i fine Z hd hi hZ hzk hgood
   have ih:∀ (f:Bool),i < n→(f=true→fine=true∧Z3 (Y i))→a7 En 2 (B7 n Y ex sty sd wd m V S sex ssty (Nat.add i 1) f (i2 Z i (Xy (Y i)))) (VS n Y):=fun f h1 h2 =>
    IH (n - (i+1)) (by omega) (i+1) f _ rfl (by omega) (M9 (by decide) hZ i (Fc (hY i)))
     (fun j hj=>by
      by_cases e:j=i
      ·subst e;rw [x9];rfl
      rw [N1 _ _ _ e];exact hzk j (by omega))
     (fun e j hj=>by
      obtain ⟨g1,g2⟩:=h2 e
      by_cases e2:j=i
      ·subst e2;exact g2
      exact hgood g1 j (by omega))
   clear IH
   rcases T6 (Nat.succ i) n with ⟨b1,b1p⟩|⟨b1,b1p⟩
   ·rcases Km fine with b2|b2
    ·have b2p:=b2
     refine fi 2 [(5,25,false),(8,75,true)] 12 ((a6 (Bool.not (P3 i n)) (a6 (Bool.not fine) true))) [.h,J1] (zi (460)) [] J2 (by (try simp only [b1,b2,gS,P3]);(try simp only [gT] at *);try omega) ?_
     exact ⟨460,rfl,rfl,fun h=>absurd h (by decide)⟩
    have b2p:=b2
    refine ac 2 [(5,25,false),(8,75,false)] 2 ((a6 (Bool.not (P3 i n)) (a6 (Bool.not (Bool.not fine)) true))) (SI n Y ex sty sd wd m V S sex ssty Z) [.h,J1,J3,J2] [[1,75]] (by (try simp only [b1,b2,gS,P3]);(try simp only [gT] at *);try omega) ?_
    refine ca (dS n Z true false) [J2] (dU (n:=n) (Y:=Z) (ex:=true) (sty:=false) hZ hn) (fun v' H' q=>?_)
    rcases q with ⟨e_1,rfl,hnx1,hq_1⟩
    refine ⟨(zi e_1),[],J4,(by kernel_rfl),(by rw [hnx1];kernel_rfl),trivial,(by kernel_rfl),?_⟩
    rcases ci e_1 (0) with ⟨b3,b3p⟩|⟨b3,b3p⟩
    ·refine fi 2 [(3,79,true)] 7 (a6 (Bool.not (c9 e_1 (0))) true) [.h,J1] (zi (460)) [] J2 (by (try simp only [b1,b2,b3,gS]);(try simp only [gT] at *);try omega) ?_
     exact ⟨460,rfl,rfl,fun h=>absurd h (by decide)⟩
    refine ac 2 [(3,79,false)] 30 (a6 (Bool.not (Bool.not (c9 e_1 (0)))) true) (SJ n Y ex sty sd wd m V S sex ssty) [.h,J1,J3] [[1,80,81]] (by (try simp only [b1,b2,b3,gS]);(try simp only [gT] at *);try omega) ?_
    refine ca (O1 m V S sex ssty true (1)) [J1] (O2 (m:=m) (V:=V) (Y:=S) (ex:=sex) (sty:=ssty) (vert:=true) (sc:=(1)) hm8 hS (by decide) hsort) (fun v' H' q=>?_)
    rcases q with ⟨rfl,hnx2⟩|⟨rfl,hnx2,hnv_2⟩|⟨q_2,K_2,rfl,hnx2,ho0_2,hq_2,hK_2⟩
    ·skip
     refine ⟨(.tup [(.agg [(zi (0)),(zi (0)),.nils]),(zi (2))]),[],J3,(by kernel_rfl),(by rw [hnx2];kernel_rfl),trivial,(by kernel_rfl),?_⟩
     refine fi 2 [] 19 true [.h,J1] (zi (460)) [] J2 rfl ?_
     exact ⟨460,rfl,rfl,fun h=>absurd h (by decide)⟩
    ·skip
     refine ⟨(.tup [(.agg [(zi (1)),(zi (0)),.nils]),(zi (0))]),[],J3,(by kernel_rfl),(by rw [hnx2];kernel_rfl),trivial,(by kernel_rfl),?_⟩
     refine ac 2 [] 40 true (SK n Y ex sty sd wd m V S sex ssty) [.h,J1,J2] [[1,80,81]] rfl ?_
     refine ca (O1 m V S sex ssty false (1)) [J1] (O2 (m:=m) (V:=V) (Y:=S) (ex:=sex) (sty:=ssty) (vert:=false) (sc:=(1)) hm8 hS (by decide) hsort) (fun v' H' q=>?_)
     rcases q with ⟨rfl,hnx3⟩|⟨rfl,hnx3,hnv_3⟩|⟨q_3,K_3,rfl,hnx3,ho0_3,hq_3,hK_3⟩
     ·skip
      refine ⟨(.tup [(.agg [(zi (0)),(zi (0)),.nils]),(zi (2))]),[],J3,(by kernel_rfl),(by rw [hnx3];kernel_rfl),trivial,(by kernel_rfl),?_⟩
      refine fi 2 [] 19 true [.h,J1] (zi (460)) [] J2 rfl ?_
      exact ⟨460,rfl,rfl,fun h=>absurd h (by decide)⟩
     ·skip
      refine ⟨(.tup [(.agg [(zi (1)),(zi (0)),.nils]),(zi (0))]),[],J3,(by kernel_rfl),(by rw [hnx3];kernel_rfl),trivial,(by kernel_rfl),?_⟩
      refine fi 2 [] 33 true [.h,J1] (zi (0)) [] J2 rfl ?_
      exact ⟨0,rfl,rfl,fun _=>bL (fun j hj=>hzk j (by omega)) (fun j hj=>hgood b2 j (by omega)) (hq_1.1 b3p)⟩
     skip
     refine ⟨(.tup [(.agg [(zi (1)),(zi (0)),(.sa J3 0 (Nat.succ q_3) 2)]),(zi (0))]),[(J3,(.arr (Nat.succ q_3) 2 (a8 [.i64,.i64] K_3) none 159 false false))],J4,(by kernel_rfl),(by rw [hnx3];kernel_rfl),⟨⟨J1,_,(Nat.le_of_ble_eq_true (by kernel_rfl)),(by show _=_;kernel_rfl),ho0_3,(by show _=_;kernel_rfl)⟩,trivial⟩,(by kernel_rfl),?_⟩
     refine fi 2 [] 33 true [.h,J1] (zi (0)) [] J2 rfl ?_
     exact ⟨0,rfl,rfl,fun _=>bL (fun j hj=>hzk j (by omega)) (fun j hj=>hgood b2 j (by omega)) (hq_1.1 b3p)⟩
    skip
    refine ⟨(.tup [(.agg [(zi (1)),(zi (0)),(.sa J3 0 (Nat.succ q_2) 2)]),(zi (0))]),[(J3,(.arr (Nat.succ q_2) 2 (a8 [.i64,.i64] K_2) none 159 false false))],J4,(by kernel_rfl),(by rw [hnx2];kernel_rfl),⟨⟨J1,_,(Nat.le_of_ble_eq_true (by kernel_rfl)),(by show _=_;kernel_rfl),ho0_2,(by show _=_;kernel_rfl)⟩,trivial⟩,(by kernel_rfl),?_⟩
    refine ac 2 [] 40 true (SL n Y ex sty sd wd m V S sex ssty) [.h,J1,J2] [[1,80,81]] rfl ?_
    refine ca (O1 m V S sex ssty false (1)) [J1] (O2 (m:=m) (V:=V) (Y:=S) (ex:=sex) (sty:=ssty) (vert:=false) (sc:=(1)) hm8 hS (by decide) hsort) (fun v' H' q=>?_)
    rcases q with ⟨rfl,hnx4⟩|⟨rfl,hnx4,hnv_4⟩|⟨q_4,K_4,rfl,hnx4,ho0_4,hq_4,hK_4⟩
    ·skip
     refine ⟨(.tup [(.agg [(zi (0)),(zi (0)),.nils]),(zi (2))]),[],J3,(by kernel_rfl),(by rw [hnx4];kernel_rfl),trivial,(by kernel_rfl),?_⟩
     refine fi 2 [] 19 true [.h,J1] (zi (460)) [] J2 rfl ?_
     exact ⟨460,rfl,rfl,fun h=>absurd h (by decide)⟩
    ·skip
     refine ⟨(.tup [(.agg [(zi (1)),(zi (0)),.nils]),(zi (0))]),[],J3,(by kernel_rfl),(by rw [hnx4];kernel_rfl),trivial,(by kernel_rfl),?_⟩
     refine fi 2 [] 33 true [.h,J1] (zi (0)) [] J2 rfl ?_
     exact ⟨0,rfl,rfl,fun _=>bL (fun j hj=>hzk j (by omega)) (fun j hj=>hgood b2 j (by omega)) (hq_1.1 b3p)⟩
    skip
    refine ⟨(.tup [(.agg [(zi (1)),(zi (0)),(.sa J3 0 (Nat.succ q_4) 2)]),(zi (0))]),[(J3,(.arr (Nat.succ q_4) 2 (a8 [.i64,.i64] K_4) none 159 false false))],J4,(by kernel_rfl),(by rw [hnx4];kernel_rfl),⟨⟨J1,_,(Nat.le_of_ble_eq_true (by kernel_rfl)),(by show _=_;kernel_rfl),ho0_4,(by show _=_;kernel_rfl)⟩,trivial⟩,(by kernel_rfl),?_⟩
    refine fi 2 [] 33 true [.h,J1] (zi (0)) [] J2 rfl ?_
    exact ⟨0,rfl,rfl,fun _=>bL (fun j hj=>hzk j (by omega)) (fun j hj=>hgood b2 j (by omega)) (hq_1.1 b3p)⟩
   rcases Km fine with b4|b4
   ·have b4p:=b4
    refine t8 3 2 [(5,25,true),(43,36,false)] 149 ((r9 i n (a6 (Bool.not fine) (a6 (A3 Y i) (G1 Y i n))))) (B7 n Y ex sty sd wd m V S sex ssty (Nat.add i 1) false (i2 Z i [(Y i 0),(c8 (Y i 1) (2)),(c8 (Y i 2) (2)),(c8 (Y i 3) (2)),(c8 (Y i 4) (2)),(c8 (Y i 5) (2)),(c8 (Y i 6) (2))])) [.h,J1,J2,J3] [1,3,4,22,23,24] [] ⟨f7 (by kernel_rfl) rfl (by kernel_rfl),trivial⟩ (by have:=n7 (hY i);(try simp only [b1,b4,gS,P3,B3,A3,C0,x7,G1,r9]);(try simp only [gT] at *);try omega) ?_
    exact ih false (by omega) (fun e=>absurd e (by decide))
   have b4p:=b4
   rcases cl (-32000) (Y i 1) with ⟨b5,b5p⟩|⟨b5,b5p⟩
   ·refine t8 3 2 [(5,25,true),(43,36,true),(14,9,false)] 154 ((r9 i n (a6 fine (a6 (Bool.not (V0 Y i)) (a6 (A3 Y i) (G1 Y i n)))))) (B7 n Y ex sty sd wd m V S sex ssty (Nat.add i 1) false (i2 Z i [(Y i 0),(c8 (Y i 1) (2)),(c8 (Y i 2) (2)),(c8 (Y i 3) (2)),(c8 (Y i 4) (2)),(c8 (Y i 5) (2)),(c8 (Y i 6) (2))])) [.h,J1,J2,J3] [1,3,4,22,23,24] [] ⟨f7 (by kernel_rfl) rfl (by kernel_rfl),trivial⟩ (by have:=n7 (hY i);(try simp only [b1,b4,b5,gS,V0,P3,B3,A3,C0,x7,G1,r9]);(try simp only [gT] at *);try omega) ?_
    exact ih false (by omega) (fun e=>absurd e (by decide))
   rcases cl (Y i 1) (32000) with ⟨b6,b6p⟩|⟨b6,b6p⟩
   ·refine t8 3 2 [(5,25,true),(43,36,true),(14,9,true),(10,41,false)] 144 ((r9 i n (a6 fine (t7 Y i (a6 (Bool.not (W2 Y i)) (a6 (A3 Y i) (G1 Y i n))))))) (B7 n Y ex sty sd wd m V S sex ssty (Nat.add i 1) false (i2 Z i [(Y i 0),(c8 (Y i 1) (2)),(c8 (Y i 2) (2)),(c8 (Y i 3) (2)),(c8 (Y i 4) (2)),(c8 (Y i 5) (2)),(c8 (Y i 6) (2))])) [.h,J1,J2,J3] [1,3,4,22,23,24] [] ⟨f7 (by kernel_rfl) rfl (by kernel_rfl),trivial⟩ (by have:=n7 (hY i);(try simp only [b1,b4,b5,b6,gS,W2,V0,P3,B3,A3,C0,x7,G1,r9,t7]);(try simp only [gT] at *);try omega) ?_
    exact ih false (by omega) (fun e=>absurd e (by decide))
   rcases cl (-32000) (Y i 2) with ⟨b7,b7p⟩|⟨b7,b7p⟩
   ·refine t8 3 2 [(5,25,true),(43,36,true),(14,9,true),(10,41,true),(14,9,false)] 149 ((r9 i n (a6 fine (t7 Y i (u4 Y i (a6 (Bool.not (X1 Y i)) (a6 (A3 Y i) (G1 Y i n)))))))) (B7 n Y ex sty sd wd m V S sex ssty (Nat.add i 1) false (i2 Z i [(Y i 0),(c8 (Y i 1) (2)),(c8 (Y i 2) (2)),(c8 (Y i 3) (2)),(c8 (Y i 4) (2)),(c8 (Y i 5) (2)),(c8 (Y i 6) (2))])) [.h,J1,J2,J3] [1,3,4,22,23,24] [] ⟨f7 (by kernel_rfl) rfl (by kernel_rfl),trivial⟩ (by have:=n7 (hY i);(try simp only [b1,b4,b5,b6,b7,gS,W2,V0,X1,P3,B3,A3,C0,x7,G1,r9,t7,u4]);(try simp only [gT] at *);try omega) ?_
    exact ih false (by omega) (fun e=>absurd e (by decide))
   rcases cl (Y i 2) (32000) with ⟨b8,b8p⟩|⟨b8,b8p⟩
   ·refine t8 3 2 [(5,25,true),(43,36,true),(14,9,true),(10,41,true),(14,9,true),(10,46,false)] 139 ((r9 i n (a6 fine (t7 Y i (u4 Y i (u9 Y i (a6 (Bool.not (Y3 Y i)) (a6 (A3 Y i) (G1 Y i n))))))))) (B7 n Y ex sty sd wd m V S sex ssty (Nat.add i 1) false (i2 Z i [(Y i 0),(c8 (Y i 1) (2)),(c8 (Y i 2) (2)),(c8 (Y i 3) (2)),(c8 (Y i 4) (2)),(c8 (Y i 5) (2)),(c8 (Y i 6) (2))])) [.h,J1,J2,J3] [1,3,4,22,23,24] [] ⟨f7 (by kernel_rfl) rfl (by kernel_rfl),trivial⟩ (by have:=n7 (hY i);(try simp only [b1,b4,b5,b6,b7,b8,gS,W2,Y3,V0,X1,P3,B3,A3,C0,x7,G1,r9,t7,u4,u9]);(try simp only [gT] at *);try omega) ?_
    exact ih false (by omega) (fun e=>absurd e (by decide))
   rcases ci (Y i 0) (4) with ⟨b9,b9p⟩|⟨b9,b9p⟩
   ·rcases ci (Y i 0) (3) with ⟨b10,b10p⟩|⟨b10,b10p⟩
    ·rcases cl (-32000) (Y i 3) with ⟨b11,b11p⟩|⟨b11,b11p⟩
     ·refine t8 3 2 [(5,25,true),(43,36,true),(14,9,true),(10,41,true),(14,9,true),(10,46,true),(20,5,false),(6,7,false),(60,9,false)] 104 ((r9 i n (a6 fine (t7 Y i (u4 Y i (u9 Y i (w5 Y i (E5 Y i (aH Y i (a6 (Bool.not (K7 Y i)) (G1 Y i n))))))))))) (B7 n Y ex sty sd wd m V S sex ssty (Nat.add i 1) false (i2 Z i [(Y i 0),(c8 (Y i 1) (2)),(c8 (Y i 2) (2)),(c8 (Y i 3) (2)),(c8 (Y i 4) (2)),(c8 (Y i 5) (2)),(c8 (Y i 6) (2))])) [.h,J1,J2,J3] [1,3,4,22,23,24] [] ⟨f7 (by kernel_rfl) rfl (by kernel_rfl),trivial⟩ (by have:=n7 (hY i);(try simp only [b1,b4,b5,b6,b7,b8,b9,b10,b11,gS,X0,W2,Y3,V0,X1,K7,P3,M2,cM,B3,A3,C0,C8,x7,G1,r9,t7,u4,u9,w5,E5,aH]);(try simp only [gT] at *);try omega) ?_
      exact ih false (by omega) (fun e=>absurd e (by decide))
     rcases cl (Y i 3) (32000) with ⟨b12,b12p⟩|⟨b12,b12p⟩
     ·refine t8 3 2 [(5,25,true),(43,36,true),(14,9,true),(10,41,true),(14,9,true),(10,46,true),(20,5,false),(6,7,false),(60,9,true),(10,41,false)] 94 ((r9 i n (a6 fine (t7 Y i (u4 Y i (u9 Y i (w5 Y i (E5 Y i (aH Y i (a6 (K7 Y i) (a6 (Bool.not (Z4 Y i)) (G1 Y i n)))))))))))) (B7 n Y ex sty sd wd m V S sex ssty (Nat.add i 1) false (i2 Z i [(Y i 0),(c8 (Y i 1) (2)),(c8 (Y i 2) (2)),(c8 (Y i 3) (2)),(c8 (Y i 4) (2)),(c8 (Y i 5) (2)),(c8 (Y i 6) (2))])) [.h,J1,J2,J3] [1,3,4,22,23,24] [] ⟨f7 (by kernel_rfl) rfl (by kernel_rfl),trivial⟩ (by have:=n7 (hY i);(try simp only [b1,b4,b5,b6,b7,b8,b9,b10,b11,b12,gS,X0,W2,Y3,Z4,V0,X1,K7,P3,M2,cM,B3,A3,C0,C8,x7,G1,r9,t7,u4,u9,w5,E5,aH]);(try simp only [gT] at *);try omega) ?_
      exact ih false (by omega) (fun e=>absurd e (by decide))
     rcases cl (-32000) (Y i 4) with ⟨b13,b13p⟩|⟨b13,b13p⟩
     ·refine t8 3 2 [(5,25,true),(43,36,true),(14,9,true),(10,41,true),(14,9,true),(10,46,true),(20,5,false),(6,7,false),(60,9,true),(10,41,true),(14,9,false)] 99 ((r9 i n (a6 fine (t7 Y i (u4 Y i (u9 Y i (w5 Y i (E5 Y i (aH Y i (Jm Y i n)))))))))) (B7 n Y ex sty sd wd m V S sex ssty (Nat.add i 1) false (i2 Z i [(Y i 0),(c8 (Y i 1) (2)),(c8 (Y i 2) (2)),(c8 (Y i 3) (2)),(c8 (Y i 4) (2)),(c8 (Y i 5) (2)),(c8 (Y i 6) (2))])) [.h,J1,J2,J3] [1,3,4,22,23,24] [] ⟨f7 (by kernel_rfl) rfl (by kernel_rfl),trivial⟩ (by have:=n7 (hY i);(try simp only [b1,b4,b5,b6,b7,b8,b9,b10,b11,b12,b13,gS,X0,W2,Y3,Z4,V0,X1,K7,dB,P3,M2,cM,B3,A3,C0,C8,x7,G1,Jm,r9,t7,u4,u9,w5,E5,aH]);(try simp only [gT] at *);try omega) ?_
      exact ih false (by omega) (fun e=>absurd e (by decide))
     rcases cl (Y i 4) (32000) with ⟨b14,b14p⟩|⟨b14,b14p⟩
     ·refine t8 3 2 [(5,25,true),(43,36,true),(14,9,true),(10,41,true),(14,9,true),(10,46,true),(20,5,false),(6,7,false),(60,9,true),(10,41,true),(14,9,true),(10,46,false)] 89 ((r9 i n (a6 fine (t7 Y i (u4 Y i (u9 Y i (w5 Y i (E5 Y i (aH Y i (Jn Y i n)))))))))) (B7 n Y ex sty sd wd m V S sex ssty (Nat.add i 1) false (i2 Z i [(Y i 0),(c8 (Y i 1) (2)),(c8 (Y i 2) (2)),(c8 (Y i 3) (2)),(c8 (Y i 4) (2)),(c8 (Y i 5) (2)),(c8 (Y i 6) (2))])) [.h,J1,J2,J3] [1,3,4,22,23,24] [] ⟨f7 (by kernel_rfl) rfl (by kernel_rfl),trivial⟩ (by have:=n7 (hY i);(try simp only [b1,b4,b5,b6,b7,b8,b9,b10,b11,b12,b13,b14,gS,X0,W2,Y3,Z4,gG,V0,X1,K7,dB,P3,M2,cM,B3,A3,C0,C8,x7,G1,Jn,r9,t7,u4,u9,w5,E5,aH]);(try simp only [gT] at *);try omega) ?_
      exact ih false (by omega) (fun e=>absurd e (by decide))
     rcases ci (Y i 3) (0) with ⟨b15,b15p⟩|⟨b15,b15p⟩
     ·refine t8 3 2 [(5,25,true),(43,36,true),(14,9,true),(10,41,true),(14,9,true),(10,46,true),(20,5,false),(6,7,false),(60,9,true),(10,41,true),(14,9,true),(10,46,true),(20,5,false),(6,7,false),(46,36,false)] 49 ((Yl i n fine Y)) (B7 n Y ex sty sd wd m V S sex ssty (Nat.add i 1) false (i2 Z i [(Y i 0),(c8 (Y i 1) (2)),(c8 (Y i 2) (2)),(c8 (Y i 3) (2)),(c8 (Y i 4) (2)),(c8 (Y i 5) (2)),(c8 (Y i 6) (2))])) [.h,J1,J2,J3] [1,3,4,22,23,24] [] ⟨f7 (by kernel_rfl) rfl (by kernel_rfl),trivial⟩ (by have:=n7 (hY i);(try simp only [b1,b4,b5,b6,b7,b8,b9,b10,b11,b12,b13,b14,b15,gS,X0,W2,Y3,Z4,gG,V0,X1,K7,dB,P3,M2,cM,aG,B3,A3,C0,C8,Q4,x7,Yl]);(try simp only [gT] at *);try omega) ?_
      exact ih false (by omega) (fun e=>absurd e (by decide))
     rcases ci (Y i 4) (0) with ⟨b16,b16p⟩|⟨b16,b16p⟩
     ·refine t8 3 2 [(5,25,true),(43,36,true),(14,9,true),(10,41,true),(14,9,true),(10,46,true),(20,5,false),(6,7,false),(60,9,true),(10,41,true),(14,9,true),(10,46,true),(20,5,false),(6,7,false),(46,36,false)] 49 ((Yl i n fine Y)) (B7 n Y ex sty sd wd m V S sex ssty (Nat.add i 1) false (i2 Z i [(Y i 0),(c8 (Y i 1) (2)),(c8 (Y i 2) (2)),(c8 (Y i 3) (2)),(c8 (Y i 4) (2)),(c8 (Y i 5) (2)),(c8 (Y i 6) (2))])) [.h,J1,J2,J3] [1,3,4,22,23,24] [] ⟨f7 (by kernel_rfl) rfl (by kernel_rfl),trivial⟩ (by have:=n7 (hY i);(try simp only [b1,b4,b5,b6,b7,b8,b9,b10,b11,b12,b13,b14,b15,b16,gS,X0,W2,Y3,Z4,gG,V0,X1,K7,dB,P3,M2,cM,aG,B3,A3,C0,C8,Q4,x7,Yl]);(try simp only [gT] at *);try omega) ?_
      exact ih false (by omega) (fun e=>absurd e (by decide))
     rcases cl (-32000) (Y i 5) with ⟨b17,b17p⟩|⟨b17,b17p⟩
     ·refine t8 3 2 [(5,25,true),(43,36,true),(14,9,true),(10,41,true),(14,9,true),(10,46,true),(20,5,false),(6,7,false),(60,9,true),(10,41,true),(14,9,true),(10,46,true),(20,5,false),(6,7,false),(46,36,true),(14,9,false)] 54 ((r9 i n (a6 fine (t7 Y i (u4 Y i (u9 Y i (w5 Y i (E5 Y i (aH Y i (a6 (K7 Y i) (oV Y i (a6 (Bool.not (f9 (-32000) (Y i 5))) (x7 Y i n))))))))))))) (B7 n Y ex sty sd wd m V S sex ssty (Nat.add i 1) false (i2 Z i [(Y i 0),(c8 (Y i 1) (2)),(c8 (Y i 2) (2)),(c8 (Y i 3) (2)),(c8 (Y i 4) (2)),(c8 (Y i 5) (2)),(c8 (Y i 6) (2))])) [.h,J1,J2,J3] [1,3,4,22,23,24] [] ⟨f7 (by kernel_rfl) rfl (by kernel_rfl),trivial⟩ (by have:=n7 (hY i);(try simp only [b1,b4,b5,b6,b7,b8,b9,b10,b11,b12,b13,b14,b15,b16,b17,gS,X0,W2,Y3,Z4,gG,V0,X1,K7,dB,P3,M2,cM,aG,B3,A3,C0,C8,Q4,x7,r9,t7,u4,u9,w5,E5,aH,oV]);(try simp only [gT] at *);try omega) ?_
      exact ih false (by omega) (fun e=>absurd e (by decide))
     rcases cl (Y i 5) (32000) with ⟨b18,b18p⟩|⟨b18,b18p⟩
     ·refine t8 3 2 [(5,25,true),(43,36,true),(14,9,true),(10,41,true),(14,9,true),(10,46,true),(20,5,false),(6,7,false),(60,9,true),(10,41,true),(14,9,true),(10,46,true),(20,5,false),(6,7,false),(46,36,true),(14,9,true),(10,41,false)] 44 ((r9 i n (a6 fine (t7 Y i (u4 Y i (u9 Y i (w5 Y i (E5 Y i (aH Y i (a6 (K7 Y i) (oV Y i (Jj Y i n)))))))))))) (B7 n Y ex sty sd wd m V S sex ssty (Nat.add i 1) false (i2 Z i [(Y i 0),(c8 (Y i 1) (2)),(c8 (Y i 2) (2)),(c8 (Y i 3) (2)),(c8 (Y i 4) (2)),(c8 (Y i 5) (2)),(c8 (Y i 6) (2))])) [.h,J1,J2,J3] [1,3,4,22,23,24] [] ⟨f7 (by kernel_rfl) rfl (by kernel_rfl),trivial⟩ (by have:=n7 (hY i);(try simp only [b1,b4,b5,b6,b7,b8,b9,b10,b11,b12,b13,b14,b15,b16,b17,b18,gS,X0,W2,Y3,Z4,gG,V0,X1,K7,dB,P3,M2,cM,aG,B3,A3,C0,C8,Q4,x7,Jj,r9,t7,u4,u9,w5,E5,aH,oV]);(try simp only [gT] at *);try omega) ?_
      exact ih false (by omega) (fun e=>absurd e (by decide))
     rcases cl (-32000) (Y i 6) with ⟨b19,b19p⟩|⟨b19,b19p⟩
     ·refine t8 3 2 [(5,25,true),(43,36,true),(14,9,true),(10,41,true),(14,9,true),(10,46,true),(20,5,false),(6,7,false),(60,9,true),(10,41,true),(14,9,true),(10,46,true),(20,5,false),(6,7,false),(46,36,true),(14,9,true),(10,41,true),(14,9,false)] 49 ((r9 i n (a6 fine (t7 Y i (u4 Y i (u9 Y i (w5 Y i (E5 Y i (aH Y i (a6 (K7 Y i) (oV Y i (Jk Y i n)))))))))))) (B7 n Y ex sty sd wd m V S sex ssty (Nat.add i 1) false (i2 Z i [(Y i 0),(c8 (Y i 1) (2)),(c8 (Y i 2) (2)),(c8 (Y i 3) (2)),(c8 (Y i 4) (2)),(c8 (Y i 5) (2)),(c8 (Y i 6) (2))])) [.h,J1,J2,J3] [1,3,4,22,23,24] [] ⟨f7 (by kernel_rfl) rfl (by kernel_rfl),trivial⟩ (by have:=n7 (hY i);(try simp only [b1,b4,b5,b6,b7,b8,b9,b10,b11,b12,b13,b14,b15,b16,b17,b18,b19,gS,X0,W2,Y3,Z4,gG,V0,X1,K7,dB,P3,M2,cM,aG,B3,A3,C0,C8,Q4,x7,Jk,r9,t7,u4,u9,w5,E5,aH,oV]);(try simp only [gT] at *);try omega) ?_
      exact ih false (by omega) (fun e=>absurd e (by decide))
     rcases cl (Y i 6) (32000) with ⟨b20,b20p⟩|⟨b20,b20p⟩
     ·refine t8 3 2 [(5,25,true),(43,36,true),(14,9,true),(10,41,true),(14,9,true),(10,46,true),(20,5,false),(6,7,false),(60,9,true),(10,41,true),(14,9,true),(10,46,true),(20,5,false),(6,7,false),(46,36,true),(14,9,true),(10,41,true),(14,9,true),(10,46,false)] 39 ((r9 i n (a6 fine (t7 Y i (u4 Y i (u9 Y i (w5 Y i (E5 Y i (aH Y i (a6 (K7 Y i) (oV Y i (Jl Y i n)))))))))))) (B7 n Y ex sty sd wd m V S sex ssty (Nat.add i 1) false (i2 Z i [(Y i 0),(c8 (Y i 1) (2)),(c8 (Y i 2) (2)),(c8 (Y i 3) (2)),(c8 (Y i 4) (2)),(c8 (Y i 5) (2)),(c8 (Y i 6) (2))])) [.h,J1,J2,J3] [1,3,4,22,23,24] [] ⟨f7 (by kernel_rfl) rfl (by kernel_rfl),trivial⟩ (by have:=n7 (hY i);(try simp only [b1,b4,b5,b6,b7,b8,b9,b10,b11,b12,b13,b14,b15,b16,b17,b18,b19,b20,gS,X0,W2,Y3,Z4,gG,V0,X1,K7,dB,P3,M2,cM,aG,B3,A3,C0,C8,Q4,x7,Jl,r9,t7,u4,u9,w5,E5,aH,oV]);(try simp only [gT] at *);try omega) ?_
      exact ih false (by omega) (fun e=>absurd e (by decide))
     refine t8 3 2 [(5,25,true),(43,36,true),(14,9,true),(10,41,true),(14,9,true),(10,46,true),(20,5,false),(6,7,false),(60,9,true),(10,41,true),(14,9,true),(10,46,true),(20,5,false),(6,7,false),(46,36,true),(14,9,true),(10,41,true),(14,9,true),(10,46,true),(20,5,false),(6,7,false)] 45 ((r9 i n (a6 fine (t7 Y i (u4 Y i (u9 Y i (w5 Y i (E5 Y i (aH Y i (a6 (K7 Y i) (oV Y i (a6 (f9 (-32000) (Y i 5)) (a6 (f9 (Y i 5) (32000)) (a6 (f9 (-32000) (Y i 6)) (a6 (f9 (Y i 6) (32000)) (a6 (M2 Y i) (a6 (cM Y i) (x7 Y i n)))))))))))))))))) (B7 n Y ex sty sd wd m V S sex ssty (Nat.add i 1) (Bool.and (c9 (Y i 5) (0)) (Bool.and (c9 (Y i 6) (0)) true)) (i2 Z i [(Y i 0),(c8 (Y i 1) (2)),(c8 (Y i 2) (2)),(c8 (Y i 3) (2)),(c8 (Y i 4) (2)),(c8 (Y i 5) (2)),(c8 (Y i 6) (2))])) [.h,J1,J2,J3] [1,3,4,22,23,24] [] ⟨f7 (by kernel_rfl) rfl (by kernel_rfl),trivial⟩ (by have:=n7 (hY i);(try simp only [b1,b4,b5,b6,b7,b8,b9,b10,b11,b12,b13,b14,b15,b16,b17,b18,b19,b20,gS,X0,W2,Y3,Z4,gG,V0,X1,K7,dB,P3,M2,cM,aG,B3,A3,C0,C8,Q4,x7,r9,t7,u4,u9,w5,E5,aH,oV]);(try simp only [gT] at *);try omega) ?_
     exact ih (Bool.and (c9 (Y i 5) (0)) (Bool.and (c9 (Y i 6) (0)) true)) (by omega) (fun e=>⟨b4,by unfold Z3;(try simp only [R6,E2] at e);omega⟩)
    rcases cl (-32000) (Y i 3) with ⟨b21,b21p⟩|⟨b21,b21p⟩
    ·refine t8 3 2 [(5,25,true),(43,36,true),(14,9,true),(10,41,true),(14,9,true),(10,46,true),(20,5,false),(6,7,true),(58,9,false)] 104 ((r9 i n (a6 fine (t7 Y i (u4 Y i (u9 Y i (w5 Y i (E5 Y i (aI Y i (a6 (Bool.not (K7 Y i)) (G1 Y i n))))))))))) (B7 n Y ex sty sd wd m V S sex ssty (Nat.add i 1) false (i2 Z i [(Y i 0),(c8 (Y i 1) (2)),(c8 (Y i 2) (2)),(c8 (Y i 3) (2)),(c8 (Y i 4) (2)),(c8 (Y i 5) (2)),(c8 (Y i 6) (2))])) [.h,J1,J2,J3] [1,3,4,22,23,24] [] ⟨f7 (by kernel_rfl) rfl (by kernel_rfl),trivial⟩ (by have:=n7 (hY i);(try simp only [b1,b4,b5,b6,b7,b8,b9,b10,b21,gS,X0,W2,Y3,V0,X1,K7,P3,M2,B3,A3,C0,C8,x7,G1,r9,t7,u4,u9,w5,E5,aI]);(try simp only [gT] at *);try omega) ?_
     exact ih false (by omega) (fun e=>absurd e (by decide))
    rcases cl (Y i 3) (32000) with ⟨b22,b22p⟩|⟨b22,b22p⟩
    ·refine t8 3 2 [(5,25,true),(43,36,true),(14,9,true),(10,41,true),(14,9,true),(10,46,true),(20,5,false),(6,7,true),(58,9,true),(10,41,false)] 94 ((r9 i n (a6 fine (t7 Y i (u4 Y i (u9 Y i (w5 Y i (E5 Y i (aI Y i (a6 (K7 Y i) (a6 (Bool.not (Z4 Y i)) (G1 Y i n)))))))))))) (B7 n Y ex sty sd wd m V S sex ssty (Nat.add i 1) false (i2 Z i [(Y i 0),(c8 (Y i 1) (2)),(c8 (Y i 2) (2)),(c8 (Y i 3) (2)),(c8 (Y i 4) (2)),(c8 (Y i 5) (2)),(c8 (Y i 6) (2))])) [.h,J1,J2,J3] [1,3,4,22,23,24] [] ⟨f7 (by kernel_rfl) rfl (by kernel_rfl),trivial⟩ (by have:=n7 (hY i);(try simp only [b1,b4,b5,b6,b7,b8,b9,b10,b21,b22,gS,X0,W2,Y3,Z4,V0,X1,K7,P3,M2,B3,A3,C0,C8,x7,G1,r9,t7,u4,u9,w5,E5,aI]);(try simp only [gT] at *);try omega) ?_
     exact ih false (by omega) (fun e=>absurd e (by decide))
    rcases cl (-32000) (Y i 4) with ⟨b23,b23p⟩|⟨b23,b23p⟩
    ·refine t8 3 2 [(5,25,true),(43,36,true),(14,9,true),(10,41,true),(14,9,true),(10,46,true),(20,5,false),(6,7,true),(58,9,true),(10,41,true),(14,9,false)] 99 ((r9 i n (a6 fine (t7 Y i (u4 Y i (u9 Y i (w5 Y i (E5 Y i (aI Y i (Jm Y i n)))))))))) (B7 n Y ex sty sd wd m V S sex ssty (Nat.add i 1) false (i2 Z i [(Y i 0),(c8 (Y i 1) (2)),(c8 (Y i 2) (2)),(c8 (Y i 3) (2)),(c8 (Y i 4) (2)),(c8 (Y i 5) (2)),(c8 (Y i 6) (2))])) [.h,J1,J2,J3] [1,3,4,22,23,24] [] ⟨f7 (by kernel_rfl) rfl (by kernel_rfl),trivial⟩ (by have:=n7 (hY i);(try simp only [b1,b4,b5,b6,b7,b8,b9,b10,b21,b22,b23,gS,X0,W2,Y3,Z4,V0,X1,K7,dB,P3,M2,B3,A3,C0,C8,x7,G1,Jm,r9,t7,u4,u9,w5,E5,aI]);(try simp only [gT] at *);try omega) ?_
     exact ih false (by omega) (fun e=>absurd e (by decide))
    rcases cl (Y i 4) (32000) with ⟨b24,b24p⟩|⟨b24,b24p⟩
    ·refine t8 3 2 [(5,25,true),(43,36,true),(14,9,true),(10,41,true),(14,9,true),(10,46,true),(20,5,false),(6,7,true),(58,9,true),(10,41,true),(14,9,true),(10,46,false)] 89 ((r9 i n (a6 fine (t7 Y i (u4 Y i (u9 Y i (w5 Y i (E5 Y i (aI Y i (Jn Y i n)))))))))) (B7 n Y ex sty sd wd m V S sex ssty (Nat.add i 1) false (i2 Z i [(Y i 0),(c8 (Y i 1) (2)),(c8 (Y i 2) (2)),(c8 (Y i 3) (2)),(c8 (Y i 4) (2)),(c8 (Y i 5) (2)),(c8 (Y i 6) (2))])) [.h,J1,J2,J3] [1,3,4,22,23,24] [] ⟨f7 (by kernel_rfl) rfl (by kernel_rfl),trivial⟩ (by have:=n7 (hY i);(try simp only [b1,b4,b5,b6,b7,b8,b9,b10,b21,b22,b23,b24,gS,X0,W2,Y3,Z4,gG,V0,X1,K7,dB,P3,M2,B3,A3,C0,C8,x7,G1,Jn,r9,t7,u4,u9,w5,E5,aI]);(try simp only [gT] at *);try omega) ?_
     exact ih false (by omega) (fun e=>absurd e (by decide))
    rcases cl (-32000) (Y i 5) with ⟨b25,b25p⟩|⟨b25,b25p⟩
    ·refine t8 3 2 [(5,25,true),(43,36,true),(14,9,true),(10,41,true),(14,9,true),(10,46,true),(20,5,false),(6,7,true),(58,9,true),(10,41,true),(14,9,true),(10,46,true),(20,5,false),(6,7,true),(58,9,false)] 54 ((r9 i n (a6 fine (t7 Y i (u4 Y i (u9 Y i (w5 Y i (E5 Y i (aI Y i (a6 (K7 Y i) (oW Y i (a6 (Bool.not (f9 (-32000) (Y i 5))) (x7 Y i n))))))))))))) (B7 n Y ex sty sd wd m V S sex ssty (Nat.add i 1) false (i2 Z i [(Y i 0),(c8 (Y i 1) (2)),(c8 (Y i 2) (2)),(c8 (Y i 3) (2)),(c8 (Y i 4) (2)),(c8 (Y i 5) (2)),(c8 (Y i 6) (2))])) [.h,J1,J2,J3] [1,3,4,22,23,24] [] ⟨f7 (by kernel_rfl) rfl (by kernel_rfl),trivial⟩ (by have:=n7 (hY i);(try simp only [b1,b4,b5,b6,b7,b8,b9,b10,b21,b22,b23,b24,b25,gS,X0,W2,Y3,Z4,gG,V0,X1,K7,dB,P3,M2,B3,A3,C0,C8,Q4,x7,r9,t7,u4,u9,w5,E5,aI,oW]);(try simp only [gT] at *);try omega) ?_
     exact ih false (by omega) (fun e=>absurd e (by decide))
    rcases cl (Y i 5) (32000) with ⟨b26,b26p⟩|⟨b26,b26p⟩
    ·refine t8 3 2 [(5,25,true),(43,36,true),(14,9,true),(10,41,true),(14,9,true),(10,46,true),(20,5,false),(6,7,true),(58,9,true),(10,41,true),(14,9,true),(10,46,true),(20,5,false),(6,7,true),(58,9,true),(10,41,false)] 44 ((r9 i n (a6 fine (t7 Y i (u4 Y i (u9 Y i (w5 Y i (E5 Y i (aI Y i (a6 (K7 Y i) (oW Y i (Jj Y i n)))))))))))) (B7 n Y ex sty sd wd m V S sex ssty (Nat.add i 1) false (i2 Z i [(Y i 0),(c8 (Y i 1) (2)),(c8 (Y i 2) (2)),(c8 (Y i 3) (2)),(c8 (Y i 4) (2)),(c8 (Y i 5) (2)),(c8 (Y i 6) (2))])) [.h,J1,J2,J3] [1,3,4,22,23,24] [] ⟨f7 (by kernel_rfl) rfl (by kernel_rfl),trivial⟩ (by have:=n7 (hY i);(try simp only [b1,b4,b5,b6,b7,b8,b9,b10,b21,b22,b23,b24,b25,b26,gS,X0,W2,Y3,Z4,gG,V0,X1,K7,dB,P3,M2,B3,A3,C0,C8,Q4,x7,Jj,r9,t7,u4,u9,w5,E5,aI,oW]);(try simp only [gT] at *);try omega) ?_
     exact ih false (by omega) (fun e=>absurd e (by decide))
    rcases cl (-32000) (Y i 6) with ⟨b27,b27p⟩|⟨b27,b27p⟩
    ·refine t8 3 2 [(5,25,true),(43,36,true),(14,9,true),(10,41,true),(14,9,true),(10,46,true),(20,5,false),(6,7,true),(58,9,true),(10,41,true),(14,9,true),(10,46,true),(20,5,false),(6,7,true),(58,9,true),(10,41,true),(14,9,false)] 49 ((r9 i n (a6 fine (t7 Y i (u4 Y i (u9 Y i (w5 Y i (E5 Y i (aI Y i (a6 (K7 Y i) (oW Y i (Jk Y i n)))))))))))) (B7 n Y ex sty sd wd m V S sex ssty (Nat.add i 1) false (i2 Z i [(Y i 0),(c8 (Y i 1) (2)),(c8 (Y i 2) (2)),(c8 (Y i 3) (2)),(c8 (Y i 4) (2)),(c8 (Y i 5) (2)),(c8 (Y i 6) (2))])) [.h,J1,J2,J3] [1,3,4,22,23,24] [] ⟨f7 (by kernel_rfl) rfl (by kernel_rfl),trivial⟩ (by have:=n7 (hY i);(try simp only [b1,b4,b5,b6,b7,b8,b9,b10,b21,b22,b23,b24,b25,b26,b27,gS,X0,W2,Y3,Z4,gG,V0,X1,K7,dB,P3,M2,B3,A3,C0,C8,Q4,x7,Jk,r9,t7,u4,u9,w5,E5,aI,oW]);(try simp only [gT] at *);try omega) ?_
     exact ih false (by omega) (fun e=>absurd e (by decide))
    rcases cl (Y i 6) (32000) with ⟨b28,b28p⟩|⟨b28,b28p⟩
    ·refine t8 3 2 [(5,25,true),(43,36,true),(14,9,true),(10,41,true),(14,9,true),(10,46,true),(20,5,false),(6,7,true),(58,9,true),(10,41,true),(14,9,true),(10,46,true),(20,5,false),(6,7,true),(58,9,true),(10,41,true),(14,9,true),(10,46,false)] 39 ((r9 i n (a6 fine (t7 Y i (u4 Y i (u9 Y i (w5 Y i (E5 Y i (aI Y i (a6 (K7 Y i) (oW Y i (Jl Y i n)))))))))))) (B7 n Y ex sty sd wd m V S sex ssty (Nat.add i 1) false (i2 Z i [(Y i 0),(c8 (Y i 1) (2)),(c8 (Y i 2) (2)),(c8 (Y i 3) (2)),(c8 (Y i 4) (2)),(c8 (Y i 5) (2)),(c8 (Y i 6) (2))])) [.h,J1,J2,J3] [1,3,4,22,23,24] [] ⟨f7 (by kernel_rfl) rfl (by kernel_rfl),trivial⟩ (by have:=n7 (hY i);(try simp only [b1,b4,b5,b6,b7,b8,b9,b10,b21,b22,b23,b24,b25,b26,b27,b28,gS,X0,W2,Y3,Z4,gG,V0,X1,K7,dB,P3,M2,B3,A3,C0,C8,Q4,x7,Jl,r9,t7,u4,u9,w5,E5,aI,oW]);(try simp only [gT] at *);try omega) ?_
     exact ih false (by omega) (fun e=>absurd e (by decide))
    refine t8 3 2 [(5,25,true),(43,36,true),(14,9,true),(10,41,true),(14,9,true),(10,46,true),(20,5,false),(6,7,true),(58,9,true),(10,41,true),(14,9,true),(10,46,true),(20,5,false),(6,7,true),(58,9,true),(10,41,true),(14,9,true),(10,46,true),(20,5,false),(6,7,true)] 43 ((r9 i n (a6 fine (t7 Y i (u4 Y i (u9 Y i (w5 Y i (E5 Y i (aI Y i (a6 (K7 Y i) (oW Y i (a6 (f9 (-32000) (Y i 5)) (a6 (f9 (Y i 5) (32000)) (a6 (f9 (-32000) (Y i 6)) (a6 (f9 (Y i 6) (32000)) (a6 (M2 Y i) (a6 (c9 (Y i 0) (3)) (x7 Y i n)))))))))))))))))) (B7 n Y ex sty sd wd m V S sex ssty (Nat.add i 1) true (i2 Z i [(Y i 0),(c8 (Y i 1) (2)),(c8 (Y i 2) (2)),(c8 (Y i 3) (2)),(c8 (Y i 4) (2)),(c8 (Y i 5) (2)),(c8 (Y i 6) (2))])) [.h,J1,J2,J3] [1,3,4,22,23,24] [] ⟨f7 (by kernel_rfl) rfl (by kernel_rfl),trivial⟩ (by have:=n7 (hY i);(try simp only [b1,b4,b5,b6,b7,b8,b9,b10,b21,b22,b23,b24,b25,b26,b27,b28,gS,X0,W2,Y3,Z4,gG,V0,X1,K7,dB,P3,M2,B3,A3,C0,C8,Q4,x7,r9,t7,u4,u9,w5,E5,aI,oW]);(try simp only [gT] at *);try omega) ?_
    exact ih true (by omega) (fun e=>⟨b4,by unfold Z3;(try simp only [R6,E2] at e);omega⟩)
   rcases ci (Y i 1) (0) with ⟨b29,b29p⟩|⟨b29,b29p⟩
   ·refine t8 3 2 [(5,25,true),(43,36,true),(14,9,true),(10,41,true),(14,9,true),(10,46,true),(20,5,true),(44,36,false)] 99 ((Yj i n fine Y)) (B7 n Y ex sty sd wd m V S sex ssty (Nat.add i 1) false (i2 Z i [(Y i 0),(c8 (Y i 1) (2)),(c8 (Y i 2) (2)),(c8 (Y i 3) (2)),(c8 (Y i 4) (2)),(c8 (Y i 5) (2)),(c8 (Y i 6) (2))])) [.h,J1,J2,J3] [1,3,4,22,23,24] [] ⟨f7 (by kernel_rfl) rfl (by kernel_rfl),trivial⟩ (by have:=n7 (hY i);(try simp only [b1,b4,b5,b6,b7,b8,b9,b29,gS,X0,W2,Y3,V0,X1,P3,cO,B3,A3,C0,C8,x7,G1,Yj]);(try simp only [gT] at *);try omega) ?_
    exact ih false (by omega) (fun e=>absurd e (by decide))
   rcases ci (Y i 2) (0) with ⟨b30,b30p⟩|⟨b30,b30p⟩
   ·refine t8 3 2 [(5,25,true),(43,36,true),(14,9,true),(10,41,true),(14,9,true),(10,46,true),(20,5,true),(44,36,false)] 99 ((Yj i n fine Y)) (B7 n Y ex sty sd wd m V S sex ssty (Nat.add i 1) false (i2 Z i [(Y i 0),(c8 (Y i 1) (2)),(c8 (Y i 2) (2)),(c8 (Y i 3) (2)),(c8 (Y i 4) (2)),(c8 (Y i 5) (2)),(c8 (Y i 6) (2))])) [.h,J1,J2,J3] [1,3,4,22,23,24] [] ⟨f7 (by kernel_rfl) rfl (by kernel_rfl),trivial⟩ (by have:=n7 (hY i);(try simp only [b1,b4,b5,b6,b7,b8,b9,b29,b30,gS,X0,W2,Y3,V0,X1,P3,cO,B3,A3,C0,C8,x7,G1,Yj]);(try simp only [gT] at *);try omega) ?_
    exact ih false (by omega) (fun e=>absurd e (by decide))
   rcases cl (-32000) (Y i 3) with ⟨b31,b31p⟩|⟨b31,b31p⟩
   ·refine t8 3 2 [(5,25,true),(43,36,true),(14,9,true),(10,41,true),(14,9,true),(10,46,true),(20,5,true),(44,36,true),(14,9,false)] 104 ((r9 i n (a6 fine (t7 Y i (u4 Y i (u9 Y i (w5 Y i (aJ Y i (a6 (Bool.not (K7 Y i)) (G1 Y i n)))))))))) (B7 n Y ex sty sd wd m V S sex ssty (Nat.add i 1) false (i2 Z i [(Y i 0),(c8 (Y i 1) (2)),(c8 (Y i 2) (2)),(c8 (Y i 3) (2)),(c8 (Y i 4) (2)),(c8 (Y i 5) (2)),(c8 (Y i 6) (2))])) [.h,J1,J2,J3] [1,3,4,22,23,24] [] ⟨f7 (by kernel_rfl) rfl (by kernel_rfl),trivial⟩ (by have:=n7 (hY i);(try simp only [b1,b4,b5,b6,b7,b8,b9,b29,b30,b31,gS,X0,W2,Y3,V0,X1,K7,P3,cO,B3,A3,C0,C8,x7,G1,r9,t7,u4,u9,w5,aJ]);(try simp only [gT] at *);try omega) ?_
    exact ih false (by omega) (fun e=>absurd e (by decide))
   rcases cl (Y i 3) (32000) with ⟨b32,b32p⟩|⟨b32,b32p⟩
   ·refine t8 3 2 [(5,25,true),(43,36,true),(14,9,true),(10,41,true),(14,9,true),(10,46,true),(20,5,true),(44,36,true),(14,9,true),(10,41,false)] 94 ((r9 i n (a6 fine (t7 Y i (u4 Y i (u9 Y i (w5 Y i (aJ Y i (a6 (K7 Y i) (a6 (Bool.not (Z4 Y i)) (G1 Y i n))))))))))) (B7 n Y ex sty sd wd m V S sex ssty (Nat.add i 1) false (i2 Z i [(Y i 0),(c8 (Y i 1) (2)),(c8 (Y i 2) (2)),(c8 (Y i 3) (2)),(c8 (Y i 4) (2)),(c8 (Y i 5) (2)),(c8 (Y i 6) (2))])) [.h,J1,J2,J3] [1,3,4,22,23,24] [] ⟨f7 (by kernel_rfl) rfl (by kernel_rfl),trivial⟩ (by have:=n7 (hY i);(try simp only [b1,b4,b5,b6,b7,b8,b9,b29,b30,b31,b32,gS,X0,W2,Y3,Z4,V0,X1,K7,P3,cO,B3,A3,C0,C8,x7,G1,r9,t7,u4,u9,w5,aJ]);(try simp only [gT] at *);try omega) ?_
    exact ih false (by omega) (fun e=>absurd e (by decide))
   rcases cl (-32000) (Y i 4) with ⟨b33,b33p⟩|⟨b33,b33p⟩
   ·refine t8 3 2 [(5,25,true),(43,36,true),(14,9,true),(10,41,true),(14,9,true),(10,46,true),(20,5,true),(44,36,true),(14,9,true),(10,41,true),(14,9,false)] 99 ((r9 i n (a6 fine (t7 Y i (u4 Y i (u9 Y i (w5 Y i (aJ Y i (Jm Y i n))))))))) (B7 n Y ex sty sd wd m V S sex ssty (Nat.add i 1) false (i2 Z i [(Y i 0),(c8 (Y i 1) (2)),(c8 (Y i 2) (2)),(c8 (Y i 3) (2)),(c8 (Y i 4) (2)),(c8 (Y i 5) (2)),(c8 (Y i 6) (2))])) [.h,J1,J2,J3] [1,3,4,22,23,24] [] ⟨f7 (by kernel_rfl) rfl (by kernel_rfl),trivial⟩ (by have:=n7 (hY i);(try simp only [b1,b4,b5,b6,b7,b8,b9,b29,b30,b31,b32,b33,gS,X0,W2,Y3,Z4,V0,X1,K7,dB,P3,cO,B3,A3,C0,C8,x7,G1,Jm,r9,t7,u4,u9,w5,aJ]);(try simp only [gT] at *);try omega) ?_
    exact ih false (by omega) (fun e=>absurd e (by decide))
   rcases cl (Y i 4) (32000) with ⟨b34,b34p⟩|⟨b34,b34p⟩
   ·refine t8 3 2 [(5,25,true),(43,36,true),(14,9,true),(10,41,true),(14,9,true),(10,46,true),(20,5,true),(44,36,true),(14,9,true),(10,41,true),(14,9,true),(10,46,false)] 89 ((r9 i n (a6 fine (t7 Y i (u4 Y i (u9 Y i (w5 Y i (aJ Y i (Jn Y i n))))))))) (B7 n Y ex sty sd wd m V S sex ssty (Nat.add i 1) false (i2 Z i [(Y i 0),(c8 (Y i 1) (2)),(c8 (Y i 2) (2)),(c8 (Y i 3) (2)),(c8 (Y i 4) (2)),(c8 (Y i 5) (2)),(c8 (Y i 6) (2))])) [.h,J1,J2,J3] [1,3,4,22,23,24] [] ⟨f7 (by kernel_rfl) rfl (by kernel_rfl),trivial⟩ (by have:=n7 (hY i);(try simp only [b1,b4,b5,b6,b7,b8,b9,b29,b30,b31,b32,b33,b34,gS,X0,W2,Y3,Z4,gG,V0,X1,K7,dB,P3,cO,B3,A3,C0,C8,x7,G1,Jn,r9,t7,u4,u9,w5,aJ]);(try simp only [gT] at *);try omega) ?_
    exact ih false (by omega) (fun e=>absurd e (by decide))
   rcases ci (Y i 3) (0) with ⟨b35,b35p⟩|⟨b35,b35p⟩
   ·refine t8 3 2 [(5,25,true),(43,36,true),(14,9,true),(10,41,true),(14,9,true),(10,46,true),(20,5,true),(44,36,true),(14,9,true),(10,41,true),(14,9,true),(10,46,true),(20,5,true),(44,36,false)] 49 ((Yk i n fine Y)) (B7 n Y ex sty sd wd m V S sex ssty (Nat.add i 1) false (i2 Z i [(Y i 0),(c8 (Y i 1) (2)),(c8 (Y i 2) (2)),(c8 (Y i 3) (2)),(c8 (Y i 4) (2)),(c8 (Y i 5) (2)),(c8 (Y i 6) (2))])) [.h,J1,J2,J3] [1,3,4,22,23,24] [] ⟨f7 (by kernel_rfl) rfl (by kernel_rfl),trivial⟩ (by have:=n7 (hY i);(try simp only [b1,b4,b5,b6,b7,b8,b9,b29,b30,b31,b32,b33,b34,b35,gS,X0,W2,Y3,Z4,gG,V0,X1,K7,dB,P3,aG,cO,B3,A3,C0,C8,Q4,x7,Yk]);(try simp only [gT] at *);try omega) ?_
    exact ih false (by omega) (fun e=>absurd e (by decide))
   rcases ci (Y i 4) (0) with ⟨b36,b36p⟩|⟨b36,b36p⟩
   ·refine t8 3 2 [(5,25,true),(43,36,true),(14,9,true),(10,41,true),(14,9,true),(10,46,true),(20,5,true),(44,36,true),(14,9,true),(10,41,true),(14,9,true),(10,46,true),(20,5,true),(44,36,false)] 49 ((Yk i n fine Y)) (B7 n Y ex sty sd wd m V S sex ssty (Nat.add i 1) false (i2 Z i [(Y i 0),(c8 (Y i 1) (2)),(c8 (Y i 2) (2)),(c8 (Y i 3) (2)),(c8 (Y i 4) (2)),(c8 (Y i 5) (2)),(c8 (Y i 6) (2))])) [.h,J1,J2,J3] [1,3,4,22,23,24] [] ⟨f7 (by kernel_rfl) rfl (by kernel_rfl),trivial⟩ (by have:=n7 (hY i);(try simp only [b1,b4,b5,b6,b7,b8,b9,b29,b30,b31,b32,b33,b34,b35,b36,gS,X0,W2,Y3,Z4,gG,V0,X1,K7,dB,P3,aG,cO,B3,A3,C0,C8,Q4,x7,Yk]);(try simp only [gT] at *);try omega) ?_
    exact ih false (by omega) (fun e=>absurd e (by decide))
   rcases cl (-32000) (Y i 5) with ⟨b37,b37p⟩|⟨b37,b37p⟩
   ·refine t8 3 2 [(5,25,true),(43,36,true),(14,9,true),(10,41,true),(14,9,true),(10,46,true),(20,5,true),(44,36,true),(14,9,true),(10,41,true),(14,9,true),(10,46,true),(20,5,true),(44,36,true),(14,9,false)] 54 ((r9 i n (a6 fine (t7 Y i (u4 Y i (u9 Y i (w5 Y i (aJ Y i (a6 (K7 Y i) (oZ Y i (a6 (Bool.not (f9 (-32000) (Y i 5))) (x7 Y i n)))))))))))) (B7 n Y ex sty sd wd m V S sex ssty (Nat.add i 1) false (i2 Z i [(Y i 0),(c8 (Y i 1) (2)),(c8 (Y i 2) (2)),(c8 (Y i 3) (2)),(c8 (Y i 4) (2)),(c8 (Y i 5) (2)),(c8 (Y i 6) (2))])) [.h,J1,J2,J3] [1,3,4,22,23,24] [] ⟨f7 (by kernel_rfl) rfl (by kernel_rfl),trivial⟩ (by have:=n7 (hY i);(try simp only [b1,b4,b5,b6,b7,b8,b9,b29,b30,b31,b32,b33,b34,b35,b36,b37,gS,X0,W2,Y3,Z4,gG,V0,X1,K7,dB,P3,aG,cO,B3,A3,C0,C8,Q4,x7,r9,t7,u4,u9,w5,aJ,oZ]);(try simp only [gT] at *);try omega) ?_
    exact ih false (by omega) (fun e=>absurd e (by decide))
   rcases cl (Y i 5) (32000) with ⟨b38,b38p⟩|⟨b38,b38p⟩
   ·refine t8 3 2 [(5,25,true),(43,36,true),(14,9,true),(10,41,true),(14,9,true),(10,46,true),(20,5,true),(44,36,true),(14,9,true),(10,41,true),(14,9,true),(10,46,true),(20,5,true),(44,36,true),(14,9,true),(10,41,false)] 44 ((r9 i n (a6 fine (t7 Y i (u4 Y i (u9 Y i (w5 Y i (aJ Y i (a6 (K7 Y i) (oZ Y i (Jj Y i n))))))))))) (B7 n Y ex sty sd wd m V S sex ssty (Nat.add i 1) false (i2 Z i [(Y i 0),(c8 (Y i 1) (2)),(c8 (Y i 2) (2)),(c8 (Y i 3) (2)),(c8 (Y i 4) (2)),(c8 (Y i 5) (2)),(c8 (Y i 6) (2))])) [.h,J1,J2,J3] [1,3,4,22,23,24] [] ⟨f7 (by kernel_rfl) rfl (by kernel_rfl),trivial⟩ (by have:=n7 (hY i);(try simp only [b1,b4,b5,b6,b7,b8,b9,b29,b30,b31,b32,b33,b34,b35,b36,b37,b38,gS,X0,W2,Y3,Z4,gG,V0,X1,K7,dB,P3,aG,cO,B3,A3,C0,C8,Q4,x7,Jj,r9,t7,u4,u9,w5,aJ,oZ]);(try simp only [gT] at *);try omega) ?_
    exact ih false (by omega) (fun e=>absurd e (by decide))
   rcases cl (-32000) (Y i 6) with ⟨b39,b39p⟩|⟨b39,b39p⟩
   ·refine t8 3 2 [(5,25,true),(43,36,true),(14,9,true),(10,41,true),(14,9,true),(10,46,true),(20,5,true),(44,36,true),(14,9,true),(10,41,true),(14,9,true),(10,46,true),(20,5,true),(44,36,true),(14,9,true),(10,41,true),(14,9,false)] 49 ((r9 i n (a6 fine (t7 Y i (u4 Y i (u9 Y i (w5 Y i (aJ Y i (a6 (K7 Y i) (oZ Y i (Jk Y i n))))))))))) (B7 n Y ex sty sd wd m V S sex ssty (Nat.add i 1) false (i2 Z i [(Y i 0),(c8 (Y i 1) (2)),(c8 (Y i 2) (2)),(c8 (Y i 3) (2)),(c8 (Y i 4) (2)),(c8 (Y i 5) (2)),(c8 (Y i 6) (2))])) [.h,J1,J2,J3] [1,3,4,22,23,24] [] ⟨f7 (by kernel_rfl) rfl (by kernel_rfl),trivial⟩ (by have:=n7 (hY i);(try simp only [b1,b4,b5,b6,b7,b8,b9,b29,b30,b31,b32,b33,b34,b35,b36,b37,b38,b39,gS,X0,W2,Y3,Z4,gG,V0,X1,K7,dB,P3,aG,cO,B3,A3,C0,C8,Q4,x7,Jk,r9,t7,u4,u9,w5,aJ,oZ]);(try simp only [gT] at *);try omega) ?_
    exact ih false (by omega) (fun e=>absurd e (by decide))
   rcases cl (Y i 6) (32000) with ⟨b40,b40p⟩|⟨b40,b40p⟩
   ·refine t8 3 2 [(5,25,true),(43,36,true),(14,9,true),(10,41,true),(14,9,true),(10,46,true),(20,5,true),(44,36,true),(14,9,true),(10,41,true),(14,9,true),(10,46,true),(20,5,true),(44,36,true),(14,9,true),(10,41,true),(14,9,true),(10,46,false)] 39 ((r9 i n (a6 fine (t7 Y i (u4 Y i (u9 Y i (w5 Y i (aJ Y i (a6 (K7 Y i) (oZ Y i (Jl Y i n))))))))))) (B7 n Y ex sty sd wd m V S sex ssty (Nat.add i 1) false (i2 Z i [(Y i 0),(c8 (Y i 1) (2)),(c8 (Y i 2) (2)),(c8 (Y i 3) (2)),(c8 (Y i 4) (2)),(c8 (Y i 5) (2)),(c8 (Y i 6) (2))])) [.h,J1,J2,J3] [1,3,4,22,23,24] [] ⟨f7 (by kernel_rfl) rfl (by kernel_rfl),trivial⟩ (by have:=n7 (hY i);(try simp only [b1,b4,b5,b6,b7,b8,b9,b29,b30,b31,b32,b33,b34,b35,b36,b37,b38,b39,b40,gS,X0,W2,Y3,Z4,gG,V0,X1,K7,dB,P3,aG,cO,B3,A3,C0,C8,Q4,x7,Jl,r9,t7,u4,u9,w5,aJ,oZ]);(try simp only [gT] at *);try omega) ?_
    exact ih false (by omega) (fun e=>absurd e (by decide))
   refine t8 3 2 [(5,25,true),(43,36,true),(14,9,true),(10,41,true),(14,9,true),(10,46,true),(20,5,true),(44,36,true),(14,9,true),(10,41,true),(14,9,true),(10,46,true),(20,5,true),(44,36,true),(14,9,true),(10,41,true),(14,9,true),(10,46,true),(20,5,true)] 43 ((r9 i n (a6 fine (t7 Y i (u4 Y i (u9 Y i (w5 Y i (aJ Y i (a6 (K7 Y i) (oZ Y i (a6 (f9 (-32000) (Y i 5)) (a6 (f9 (Y i 5) (32000)) (a6 (f9 (-32000) (Y i 6)) (a6 (f9 (Y i 6) (32000)) (a6 (X0 Y i) (x7 Y i n)))))))))))))))) (B7 n Y ex sty sd wd m V S sex ssty (Nat.add i 1) (Bool.and (c9 (Y i 5) (0)) (Bool.and (c9 (Y i 6) (0)) true)) (i2 Z i [(Y i 0),(c8 (Y i 1) (2)),(c8 (Y i 2) (2)),(c8 (Y i 3) (2)),(c8 (Y i 4) (2)),(c8 (Y i 5) (2)),(c8 (Y i 6) (2))])) [.h,J1,J2,J3] [1,3,4,22,23,24] [] ⟨f7 (by kernel_rfl) rfl (by kernel_rfl),trivial⟩ (by have:=n7 (hY i);(try simp only [b1,b4,b5,b6,b7,b8,b9,b29,b30,b31,b32,b33,b34,b35,b36,b37,b38,b39,b40,gS,X0,W2,Y3,Z4,gG,V0,X1,K7,dB,P3,aG,cO,B3,A3,C0,C8,Q4,x7,r9,t7,u4,u9,w5,aJ,oZ]);(try simp only [gT] at *);try omega) ?_
   exact ih (Bool.and (c9 (Y i 5) (0)) (Bool.and (c9 (Y i 6) (0)) true)) (by omega) (fun e=>⟨b4,by unfold Z3;(try simp only [R6,E2] at e);omega⟩)
theorem tP:a7 En 2 (Yi n Y ex sty sd wd m V S sex ssty) (VS n Y):=by
 refine ar 2 [] 31 (a6 (a6 (a6 (Nat.beq n n) (a6 (Nat.ble n 1099511627776) (Nat.ble (Nat.mul 56 n) 1099511627776))) true) true) (B7 n Y ex sty sd wd m V S sex ssty 0 (Nat.ble m 40) (fun _ _=>0)) [.h,J1,J2,J3] [1,3,4,22,23,24] [] (by (try simp only [gS]);(try simp only [gT] at *);try omega) ?_
 exact JZ hY hn hm8 hS hsort (n - 0) 0 _ (fun _ _=>0) rfl (by omega) (fun j k=>by constructor <;> decide) (fun j hj=>by omega) (fun _ j hj=>by omega)
end
section
variable (n:Nat) (Y:Nat→Nat→Int) (ex sty:Bool) (sd wd:Int) (m:Nat) (V:Nat→Bool) (S:Nat→Nat→Int) (sex ssty:Bool) (mA mB mC mD mE mF:Int) (q_2:Nat) (K_2:Nat→Nat→Int) (q_1:Nat) (K_1:Nat→Nat→Int) (q_3:Nat) (K_3:Nat→Nat→Int)
def wY:St:=⟨o4 (d9 En 26 [(.agg [(zi sd),(zi wd),(.sa .h 0 n 7),(.sa J1 0 m 3)]),(az [mA,mB,mC,mD,mE,mF])] false),[],(zs [(o7 n Y ex sty),(o3 m V S sex ssty)]),J2,2⟩
def KA:St:=⟨cf (O1 m V S sex ssty true (Int.tdiv (Int.mul (16) mA) (1000))) J4 [J1],[(fr 26 52 (ts [2,6,8,25] [.ptr J2 0,.ptr J3 0,zi (Int.tdiv (Int.mul (-16) mD) (1000)),.ptr J3 0]) [rA En 26 (pb 252) 4,cA En 26 (pb 253),cA En 26 (pb 127)])],(zs [(o7 n Y ex sty),(o3 m V S sex ssty),(ce 36 [(zi sd),(zi wd),(.sa .h 0 n 7),(.sa J1 0 m 3)]),(ce 123 [(zi mA),(zi mB),(zi mC),(zi mD),(zi mE),(zi mF),(zi (0)),(zi (0)),.nils,(zi (0)),(zi (0)),.nils])]),J4,2⟩
def KB:St:=⟨cf (O1 m V S sex ssty false (Int.tdiv (Int.mul (-16) mD) (1000))) J3 [J1],[(fr 26 52 (ts [6,38] [.ptr J2 0,.ptr J2 0]) [rA En 26 (pb 508) 4,cA En 26 (pb 509),cA En 26 (pb 255)])],(zs [(o7 n Y ex sty),(o3 m V S sex ssty),(ce 123 [(zi mA),(zi mB),(zi mC),(zi mD),(zi mE),(zi mF),(zi (Int.tdiv (Int.mul (16) mA) (1000))),(zi (0)),.nils,(zi (0)),(zi (0)),.nils])]),J3,2⟩
def KC:St:=⟨cf (O1 m V S sex ssty false (Int.tdiv (Int.mul (-16) mD) (1000))) J4 [J1],[(fr 26 52 (ts [6,38] [.ptr J2 0,.ptr J2 0]) [rA En 26 (pb 508) 4,cA En 26 (pb 509),cA En 26 (pb 255)])],(zs [(o7 n Y ex sty),(o3 m V S sex ssty),(ce 123 [(zi mA),(zi mB),(zi mC),(zi mD),(zi mE),(zi mF),(zi (Int.tdiv (Int.mul (16) mA) (1000))),(zi (0)),(.sa J3 0 (Nat.succ q_1) 2),(zi (0)),(zi (0)),.nils]),(.arr (Nat.succ q_1) 2 (a8 [.i64,.i64] K_1) none 159 false false)]),J4,2⟩
end
def EC (n:Nat) (Y:Nat→Nat→Int) (ex:Bool) (sty:Bool) (sd:Int) (wd:Int) (mA:Int) (mB:Int) (mC:Int) (mD:Int) (mE:Int) (mF:Int):St:=⟨o4 (d9 En 26 [(.agg [(zi sd),(zi wd),(.sa .h 0 n 7),.nils]),(az [mA,mB,mC,mD,mE,mF])] false),[],[(.h,(o7 n Y ex sty))],J1,1⟩
section
variable (sd wd:Int) (m:Nat) (V:Nat→Bool) (S:Nat→Nat→Int) (sex ssty:Bool) (mA mB mC mD mE mF:Int) (q_2:Nat) (K_2:Nat→Nat→Int) (q_1:Nat) (K_1:Nat→Nat→Int) (q_3:Nat) (K_3:Nat→Nat→Int)
def M3:St:=⟨o4 (d9 En 26 [(.agg [(zi sd),(zi wd),.nils,(.sa .h 0 m 3)]),(az [mA,mB,mC,mD,mE,mF])] false),[],[(.h,(o3 m V S sex ssty))],J1,1⟩
def Ym:St:=⟨cf (O1 m V S sex ssty true (Int.tdiv (Int.mul (16) mA) (1000))) J3 [.h],[(fr 26 52 (ts [2,6,8,25] [.ptr J1 0,.ptr J2 0,zi (Int.tdiv (Int.mul (-16) mD) (1000)),.ptr J2 0]) [rA En 26 (pb 252) 4,cA En 26 (pb 253),cA En 26 (pb 127)])],(zs [(o3 m V S sex ssty),(ce 36 [(zi sd),(zi wd),.nils,(.sa .h 0 m 3)]),(ce 123 [(zi mA),(zi mB),(zi mC),(zi mD),(zi mE),(zi mF),(zi (0)),(zi (0)),.nils,(zi (0)),(zi (0)),.nils])]),J3,1⟩
def Yn:St:=⟨cf (O1 m V S sex ssty false (Int.tdiv (Int.mul (-16) mD) (1000))) J2 [.h],[(fr 26 52 (ts [6,38] [.ptr J1 0,.ptr J1 0]) [rA En 26 (pb 508) 4,cA En 26 (pb 509),cA En 26 (pb 255)])],(zs [(o3 m V S sex ssty),(ce 123 [(zi mA),(zi mB),(zi mC),(zi mD),(zi mE),(zi mF),(zi (Int.tdiv (Int.mul (16) mA) (1000))),(zi (0)),.nils,(zi (0)),(zi (0)),.nils])]),J2,1⟩
def Yo:St:=⟨cf (O1 m V S sex ssty false (Int.tdiv (Int.mul (-16) mD) (1000))) J3 [.h],[(fr 26 52 (ts [6,38] [.ptr J1 0,.ptr J1 0]) [rA En 26 (pb 508) 4,cA En 26 (pb 509),cA En 26 (pb 255)])],(zs [(o3 m V S sex ssty),(ce 123 [(zi mA),(zi mB),(zi mC),(zi mD),(zi mE),(zi mF),(zi (Int.tdiv (Int.mul (16) mA) (1000))),(zi (0)),(.sa J2 0 (Nat.succ q_1) 2),(zi (0)),(zi (0)),.nils]),(.arr (Nat.succ q_1) 2 (a8 [.i64,.i64] K_1) none 159 false false)]),J3,1⟩
end
def dV (sd:Int) (wd:Int) (mA:Int) (mB:Int) (mC:Int) (mD:Int) (mE:Int) (mF:Int):St:=⟨o4 (d9 En 26 [(.agg [(zi sd),(zi wd),.nils,.nils]),(az [mA,mB,mC,mD,mE,mF])] false),[],[],.h,0⟩
abbrev dW (mB:Int):Bool:=(Bool.not (Bool.not (c9 mB (0))))
abbrev jH (mC:Int):Bool:=(Bool.not (Bool.not (c9 mC (0))))
abbrev yD (mA:Int):Bool:=(i4 (0) (Int.tdiv (Int.mul (16) mA) (1000)))
abbrev Rp (mD:Int):Bool:=(Bool.not (i4 (0) (Int.tdiv (Int.mul (-16) mD) (1000))))
abbrev ED (mB mC:Int):Bool:=(a6 (dW mB) (a6 (Bool.not (c9 mC (0))) true))
abbrev EE (mB mC mA:Int):Bool:=(a6 (dW mB) (a6 (jH mC) (a6 (f9 mA (0)) true)))
abbrev EF (mB mC mA mD:Int):Bool:=(a6 (dW mB) (a6 (jH mC) (a6 (Bool.not (f9 mA (0))) (a6 (f9 (0) mD) true))))
abbrev yE (mA mD:Int):Bool:=(a6 (a6 (a6 (f8 (Int.mul (16) mA)) (a6 (f8 (Int.tdiv (Int.mul (16) mA) (1000))) (a6 (f8 (Int.mul (-16) mD)) (a6 (f8 (Int.tdiv (Int.mul (-16) mD) (1000))) true)))) (a6 (a6 (c9 mD mD) true) (a6 (a6 (c9 mA mA) true) true))) true)
abbrev EG (mB mC mA mD:Int):Bool:=(a6 (dW mB) (a6 (jH mC) (a6 (Bool.not (f9 mA (0))) (a6 (Bool.not (f9 (0) mD)) (a6 (yE mA mD) (a6 (Bool.not (yD mA)) true))))))
abbrev EH (mB mC mA mD:Int):Bool:=(a6 (dW mB) (a6 (jH mC) (a6 (Bool.not (f9 mA (0))) (a6 (Bool.not (f9 (0) mD)) (a6 (yE mA mD) (a6 (yD mA) (a6 (Rp mD) true)))))))
abbrev Yp (mB mC mA mD:Int):Bool:=(a6 (dW mB) (a6 (jH mC) (a6 (Bool.not (f9 mA (0))) (a6 (Bool.not (f9 (0) mD)) (a6 (yE mA mD) (a6 (yD mA) (a6 (Bool.not (Rp mD)) true)))))))
abbrev Yq (mB mC mA mD:Int):Bool:=(a6 (dW mB) (a6 (jH mC) (a6 (Bool.not (f9 mA (0))) (a6 (Bool.not (f9 (0) mD)) (a6 (yE mA mD) (a6 (yD mA) (a6 (Bool.not (Rp mD)) (a6 (f9 (1) (Int.tdiv (Int.mul (16) mA) (1000))) (a6 (f9 (Int.tdiv (Int.mul (16) mA) (1000)) (16777216)) (a6 (f9 (1) (Int.tdiv (Int.mul (-16) mD) (1000))) (a6 (f9 (Int.tdiv (Int.mul (-16) mD) (1000)) (16777216)) true)))))))))))
def SN (mA:Int) (mB:Int) (mC:Int) (mD:Int) (mE:Int) (mF:Int):AV→Hp→Prop:=fun v H =>
 ((v=(.tup [.nilf,(zi (2))])∧H.nx=.i .h)) ∨
 ((v=(.tup [(.fn 43 [(.ptr J2 0)] []),(zi (0))])∧H.nx=.o J1∧H.hp.get J2=some (ce 123 [(zi mA),(zi mB),(zi mC),(zi mD),(zi mE),(zi mF),(zi (0)),(zi (0)),.nils,(zi (0)),(zi (0)),.nils]))) ∨
 (∃ (q2:Nat) (K2:Nat→Nat→Int),(v=(.tup [(.fn 44 [(.ptr J2 0)] []),(zi (0))])∧H.nx=.i J1∧H.hp.get J2=some (ce 123 [(zi mA),(zi mB),(zi mC),(zi mD),(zi mE),(zi mF),(zi (Int.tdiv (Int.mul (16) mA) (1000))),(zi (0)),.nils,(zi (Int.tdiv (Int.mul (-16) mD) (1000))),(zi (0)),(.sa J3 0 (Nat.succ q2) 2)])∧H.hp.get J3=some (.arr (Nat.succ q2) 2 (a8 [.i64,.i64] K2) none 159 false false))∧(1≤Int.tdiv (Int.mul (16) mA) (1000)∧Int.tdiv (Int.mul (16) mA) (1000)≤16777216)∧(1≤Int.tdiv (Int.mul (-16) mD) (1000)∧Int.tdiv (Int.mul (-16) mD) (1000)≤16777216)∧q2≤100∧(∀ j k,-1000000000000≤K2 j k∧K2 j k≤1000000000000)) ∨
 (∃ (q:Nat) (K:Nat→Nat→Int),∃ (q2:Nat) (K2:Nat→Nat→Int),(v=(.tup [(.fn 44 [(.ptr J2 0)] []),(zi (0))])∧H.nx=.o J2∧H.hp.get J2=some (ce 123 [(zi mA),(zi mB),(zi mC),(zi mD),(zi mE),(zi mF),(zi (Int.tdiv (Int.mul (16) mA) (1000))),(zi (0)),(.sa J3 0 (Nat.succ q) 2),(zi (Int.tdiv (Int.mul (-16) mD) (1000))),(zi (0)),(.sa J4 0 (Nat.succ q2) 2)])∧H.hp.get J3=some (.arr (Nat.succ q) 2 (a8 [.i64,.i64] K) none 159 false false)∧H.hp.get J4=some (.arr (Nat.succ q2) 2 (a8 [.i64,.i64] K2) none 159 false false))∧(1≤Int.tdiv (Int.mul (16) mA) (1000)∧Int.tdiv (Int.mul (16) mA) (1000)≤16777216)∧(1≤Int.tdiv (Int.mul (-16) mD) (1000)∧Int.tdiv (Int.mul (-16) mD) (1000)≤16777216)∧q≤100∧(∀ j k,-1000000000000≤K j k∧K j k≤1000000000000)∧q2≤100∧(∀ j k,-1000000000000≤K2 j k∧K2 j k≤1000000000000))
theorem Yr {n:Nat} {Y:Nat→Nat→Int} {ex:Bool} {sty:Bool} {sd:Int} {wd:Int} {m:Nat} {V:Nat→Bool} {S:Nat→Nat→Int} {sex:Bool} {ssty:Bool} {mA:Int} {mB:Int} {mC:Int} {mD:Int} {mE:Int} {mF:Int} (hY:∀ j k,-32000≤Y j k∧Y j k≤32000) (hmA : -2000000≤mA∧mA≤2000000) (hmB : -2000000≤mB∧mB≤2000000) (hmC : -2000000≤mC∧mC≤2000000) (hmD : -2000000≤mD∧mD≤2000000) (hmE : -40000≤mE∧mE≤40000) (hmF : -40000≤mF∧mF≤40000) (hm8:m≤8) (hS:∀ j k,-32000≤S j k∧S j k≤32000) (hsort:G0 m V S) (hm1:0 < m) (hV0:V 0=false):a7 En 2 (wY n Y ex sty sd wd m V S sex ssty mA mB mC mD mE mF) (SN mA mB mC mD mE mF):=by
 rcases ci mB (0) with ⟨b1,b1p⟩|⟨b1,b1p⟩
 ·refine fi 2 [(32,8,true)] 48 (a6 (Bool.not (c9 mB (0))) true) [.h,J1,J4] (.tup [(.fn 43 [(.ptr J2 0)] []),(zi (0))]) [(J2,(ce 123 [(zi mA),(zi mB),(zi mC),(zi mD),(zi mE),(zi mF),(zi (0)),(zi (0)),.nils,(zi (0)),(zi (0)),.nils]))] J3 (by (try simp only [b1,gS]);(try simp only [gT] at *);try omega) ?_
  exact .inr (.inl (⟨rfl,rfl,rfl⟩))
 rcases ci mC (0) with ⟨b2,b2p⟩|⟨b2,b2p⟩
 ·refine fi 2 [(32,8,false),(5,13,true)] 43 ((ED mB mC)) [.h,J1,J4] (.tup [(.fn 43 [(.ptr J2 0)] []),(zi (0))]) [(J2,(ce 123 [(zi mA),(zi mB),(zi mC),(zi mD),(zi mE),(zi mF),(zi (0)),(zi (0)),.nils,(zi (0)),(zi (0)),.nils]))] J3 (by (try simp only [b1,b2,gS,dW,ED]);(try simp only [gT] at *);try omega) ?_
  exact .inr (.inl (⟨rfl,rfl,rfl⟩))
 rcases cl mA (0) with ⟨b3,b3p⟩|⟨b3,b3p⟩
 ·rcases cl (0) mD with ⟨b4,b4p⟩|⟨b4,b4p⟩
  ·rcases ct (0) (Int.tdiv (Int.mul (16) mA) (1000)) with ⟨b5,b5p⟩|⟨b5,b5p⟩
   ·refine fi 2 [(32,8,false),(5,13,false),(5,18,false),(5,22,false),(11,35,false)] 33 ((EG mB mC mA mD)) [.h,J1,J4] (.tup [(.fn 43 [(.ptr J2 0)] []),(zi (0))]) [(J2,(ce 123 [(zi mA),(zi mB),(zi mC),(zi mD),(zi mE),(zi mF),(zi (0)),(zi (0)),.nils,(zi (0)),(zi (0)),.nils]))] J3 (by have:=m6 (Int.mul (16) mA) (k:=1000) (by decide);have:=m6 (Int.mul (-16) mD) (k:=1000) (by decide);(try simp only [b1,b2,b3,b4,b5,gS,dW,jH,yD,yE,EG]);(try simp only [gT] at *);try omega) ?_
    exact .inr (.inl (⟨rfl,rfl,rfl⟩))
   rcases ct (0) (Int.tdiv (Int.mul (-16) mD) (1000)) with ⟨b6,b6p⟩|⟨b6,b6p⟩
   ·refine fi 2 [(32,8,false),(5,13,false),(5,18,false),(5,22,false),(11,35,true),(23,21,true)] 10 ((EH mB mC mA mD)) [.h,J1,J4] (.tup [(.fn 43 [(.ptr J2 0)] []),(zi (0))]) [(J2,(ce 123 [(zi mA),(zi mB),(zi mC),(zi mD),(zi mE),(zi mF),(zi (0)),(zi (0)),.nils,(zi (0)),(zi (0)),.nils]))] J3 (by have:=m6 (Int.mul (-16) mD) (k:=1000) (by decide);have:=m6 (Int.mul (16) mA) (k:=1000) (by decide);(try simp only [b1,b2,b3,b4,b5,b6,gS,dW,jH,yD,Rp,yE,EH]);(try simp only [gT] at *);try omega) ?_
    exact .inr (.inl (⟨rfl,rfl,rfl⟩))
   refine ac 2 [(32,8,false),(5,13,false),(5,18,false),(5,22,false),(11,35,true),(23,21,false)] 14 ((Yp mB mC mA mD)) (KA n Y ex sty sd wd m V S sex ssty mA mB mC mD mE mF) [.h,J1,J2,J4] [[2,6,8,25]] (by have:=m6 (Int.mul (-16) mD) (k:=1000) (by decide);have:=m6 (Int.mul (16) mA) (k:=1000) (by decide);(try simp only [b1,b2,b3,b4,b5,b6,gS,dW,jH,yD,Rp,yE,Yp]);(try simp only [gT] at *);try omega) ?_
   refine ca (O1 m V S sex ssty true (Int.tdiv (Int.mul (16) mA) (1000))) [J1] (O2 (m:=m) (V:=V) (Y:=S) (ex:=sex) (sty:=ssty) (vert:=true) (sc:=(Int.tdiv (Int.mul (16) mA) (1000))) hm8 hS (by have:=m6 (Int.mul (16) mA) (k:=1000) (by decide);have:=m6 (Int.mul (-16) mD) (k:=1000) (by decide);(try simp only [m8] at *);omega) hsort) (fun v' H' q=>?_)
   rcases q with ⟨rfl,hnx1⟩|⟨rfl,hnx1,hnv_1⟩|⟨q_1,K_1,rfl,hnx1,ho0_1,hq_1,hK_1⟩
   ·skip
    refine ⟨(.tup [(.agg [(zi (0)),(zi (0)),.nils]),(zi (2))]),[],J4,(by kernel_rfl),(by rw [hnx1];kernel_rfl),trivial,(by kernel_rfl),?_⟩
    refine fi 2 [] 22 true [.h,J1] (.tup [.nilf,(zi (2))]) [] J2 rfl ?_
    exact .inl (⟨rfl,rfl⟩)
   ·skip
    refine ⟨(.tup [(.agg [(zi (Int.tdiv (Int.mul (16) mA) (1000))),(zi (0)),.nils]),(zi (0))]),[],J4,(by kernel_rfl),(by rw [hnx1];kernel_rfl),trivial,(by kernel_rfl),?_⟩
    refine ac 2 [] 23 true (KB n Y ex sty m V S sex ssty mA mB mC mD mE mF) [.h,J1,J3] [[6,38]] rfl ?_
    refine ca (O1 m V S sex ssty false (Int.tdiv (Int.mul (-16) mD) (1000))) [J1] (O2 (m:=m) (V:=V) (Y:=S) (ex:=sex) (sty:=ssty) (vert:=false) (sc:=(Int.tdiv (Int.mul (-16) mD) (1000))) hm8 hS (by have:=m6 (Int.mul (16) mA) (k:=1000) (by decide);have:=m6 (Int.mul (-16) mD) (k:=1000) (by decide);(try simp only [m8] at *);omega) hsort) (fun v' H' q=>?_)
    rcases q with ⟨rfl,hnx2⟩|⟨rfl,hnx2,hnv_2⟩|⟨q_2,K_2,rfl,hnx2,ho0_2,hq_2,hK_2⟩
    ·skip
     refine ⟨(.tup [(.agg [(zi (0)),(zi (0)),.nils]),(zi (2))]),[],J3,(by kernel_rfl),(by rw [hnx2];kernel_rfl),trivial,(by kernel_rfl),?_⟩
     refine fi 2 [] 22 true [.h,J1] (.tup [.nilf,(zi (2))]) [] J2 rfl ?_
     exact .inl (⟨rfl,rfl⟩)
    ·skip
     refine ⟨(.tup [(.agg [(zi (Int.tdiv (Int.mul (-16) mD) (1000))),(zi (0)),.nils]),(zi (0))]),[],J3,(by kernel_rfl),(by rw [hnx2];kernel_rfl),trivial,(by kernel_rfl),?_⟩
     refine fi 2 [] 24 true [.h,J1,J2] (.tup [(.fn 44 [(.ptr J2 0)] []),(zi (0))]) [(J2,(ce 123 [(zi mA),(zi mB),(zi mC),(zi mD),(zi mE),(zi mF),(zi (Int.tdiv (Int.mul (16) mA) (1000))),(zi (0)),.nils,(zi (Int.tdiv (Int.mul (-16) mD) (1000))),(zi (0)),.nils]))] J3 rfl ?_
     exact absurd hV0 (hnv_2 0 hm1)
    skip
    refine ⟨(.tup [(.agg [(zi (Int.tdiv (Int.mul (-16) mD) (1000))),(zi (0)),(.sa J3 0 (Nat.succ q_2) 2)]),(zi (0))]),[(J3,(.arr (Nat.succ q_2) 2 (a8 [.i64,.i64] K_2) none 159 false false))],J4,(by kernel_rfl),(by rw [hnx2];kernel_rfl),⟨⟨J1,_,(Nat.le_of_ble_eq_true (by kernel_rfl)),(by show _=_;kernel_rfl),ho0_2,(by show _=_;kernel_rfl)⟩,trivial⟩,(by kernel_rfl),?_⟩
    refine fi 2 [] 24 true [.h,J1,J2,J3] (.tup [(.fn 44 [(.ptr J2 0)] []),(zi (0))]) [(J2,(ce 123 [(zi mA),(zi mB),(zi mC),(zi mD),(zi mE),(zi mF),(zi (Int.tdiv (Int.mul (16) mA) (1000))),(zi (0)),.nils,(zi (Int.tdiv (Int.mul (-16) mD) (1000))),(zi (0)),(.sa J3 0 (Nat.succ q_2) 2)])),(J3,(.arr (Nat.succ q_2) 2 (a8 [.i64,.i64] K_2) none 159 false false))] J4 rfl ?_
    exact .inr (.inr (.inl (⟨q_2,K_2,⟨rfl,rfl,rfl,rfl⟩,(by have:=m6 (Int.mul (16) mA) (k:=1000) (by decide);have:=m6 (Int.mul (-16) mD) (k:=1000) (by decide);(try simp only [m8] at *);omega),(by have:=m6 (Int.mul (16) mA) (k:=1000) (by decide);have:=m6 (Int.mul (-16) mD) (k:=1000) (by decide);(try simp only [m8] at *);omega),hq_2,hK_2⟩)))
   skip
   refine ⟨(.tup [(.agg [(zi (Int.tdiv (Int.mul (16) mA) (1000))),(zi (0)),(.sa J4 0 (Nat.succ q_1) 2)]),(zi (0))]),[(J4,(.arr (Nat.succ q_1) 2 (a8 [.i64,.i64] K_1) none 159 false false))],J5,(by kernel_rfl),(by rw [hnx1];kernel_rfl),⟨⟨J1,_,(Nat.le_of_ble_eq_true (by kernel_rfl)),(by show _=_;kernel_rfl),ho0_1,(by show _=_;kernel_rfl)⟩,trivial⟩,(by kernel_rfl),?_⟩
   refine ac 2 [] 23 true (KC n Y ex sty m V S sex ssty mA mB mC mD mE mF q_1 K_1) [.h,J1,J3,J4] [[6,38]] rfl ?_
   refine ca (O1 m V S sex ssty false (Int.tdiv (Int.mul (-16) mD) (1000))) [J1] (O2 (m:=m) (V:=V) (Y:=S) (ex:=sex) (sty:=ssty) (vert:=false) (sc:=(Int.tdiv (Int.mul (-16) mD) (1000))) hm8 hS (by have:=m6 (Int.mul (16) mA) (k:=1000) (by decide);have:=m6 (Int.mul (-16) mD) (k:=1000) (by decide);(try simp only [m8] at *);omega) hsort) (fun v' H' q=>?_)
   rcases q with ⟨rfl,hnx3⟩|⟨rfl,hnx3,hnv_3⟩|⟨q_3,K_3,rfl,hnx3,ho0_3,hq_3,hK_3⟩
   ·skip
    refine ⟨(.tup [(.agg [(zi (0)),(zi (0)),.nils]),(zi (2))]),[],J4,(by kernel_rfl),(by rw [hnx3];kernel_rfl),trivial,(by kernel_rfl),?_⟩
    refine fi 2 [] 22 true [.h,J1] (.tup [.nilf,(zi (2))]) [] J2 rfl ?_
    exact .inl (⟨rfl,rfl⟩)
   ·skip
    refine ⟨(.tup [(.agg [(zi (Int.tdiv (Int.mul (-16) mD) (1000))),(zi (0)),.nils]),(zi (0))]),[],J4,(by kernel_rfl),(by rw [hnx3];kernel_rfl),trivial,(by kernel_rfl),?_⟩
    refine fi 2 [] 24 true [.h,J1,J2,J3] (.tup [(.fn 44 [(.ptr J2 0)] []),(zi (0))]) [(J2,(ce 123 [(zi mA),(zi mB),(zi mC),(zi mD),(zi mE),(zi mF),(zi (Int.tdiv (Int.mul (16) mA) (1000))),(zi (0)),(.sa J3 0 (Nat.succ q_1) 2),(zi (Int.tdiv (Int.mul (-16) mD) (1000))),(zi (0)),.nils])),(J3,(.arr (Nat.succ q_1) 2 (a8 [.i64,.i64] K_1) none 159 false false))] J4 rfl ?_
    exact absurd hV0 (hnv_3 0 hm1)
   skip
   refine ⟨(.tup [(.agg [(zi (Int.tdiv (Int.mul (-16) mD) (1000))),(zi (0)),(.sa J4 0 (Nat.succ q_3) 2)]),(zi (0))]),[(J4,(.arr (Nat.succ q_3) 2 (a8 [.i64,.i64] K_3) none 159 false false))],J5,(by kernel_rfl),(by rw [hnx3];kernel_rfl),⟨⟨J1,_,(Nat.le_of_ble_eq_true (by kernel_rfl)),(by show _=_;kernel_rfl),ho0_3,(by show _=_;kernel_rfl)⟩,trivial⟩,(by kernel_rfl),?_⟩
   refine fi 2 [] 24 true [.h,J1,J2,J3,J4] (.tup [(.fn 44 [(.ptr J2 0)] []),(zi (0))]) [(J2,(ce 123 [(zi mA),(zi mB),(zi mC),(zi mD),(zi mE),(zi mF),(zi (Int.tdiv (Int.mul (16) mA) (1000))),(zi (0)),(.sa J3 0 (Nat.succ q_1) 2),(zi (Int.tdiv (Int.mul (-16) mD) (1000))),(zi (0)),(.sa J4 0 (Nat.succ q_3) 2)])),(J3,(.arr (Nat.succ q_1) 2 (a8 [.i64,.i64] K_1) none 159 false false)),(J4,(.arr (Nat.succ q_3) 2 (a8 [.i64,.i64] K_3) none 159 false false))] J5 rfl ?_
   exact .inr (.inr (.inr ((⟨q_1,K_1,q_3,K_3,⟨rfl,rfl,rfl,rfl,rfl⟩,(by have:=m6 (Int.mul (16) mA) (k:=1000) (by decide);have:=m6 (Int.mul (-16) mD) (k:=1000) (by decide);(try simp only [m8] at *);omega),(by have:=m6 (Int.mul (16) mA) (k:=1000) (by decide);have:=m6 (Int.mul (-16) mD) (k:=1000) (by decide);(try simp only [m8] at *);omega),hq_1,hK_1,hq_3,hK_3⟩))))
  refine fi 2 [(32,8,false),(5,13,false),(5,18,false),(5,22,true)] 33 ((EF mB mC mA mD)) [.h,J1,J4] (.tup [(.fn 43 [(.ptr J2 0)] []),(zi (0))]) [(J2,(ce 123 [(zi mA),(zi mB),(zi mC),(zi mD),(zi mE),(zi mF),(zi (0)),(zi (0)),.nils,(zi (0)),(zi (0)),.nils]))] J3 (by (try simp only [b1,b2,b3,b4,gS,dW,jH,EF]);(try simp only [gT] at *);try omega) ?_
  exact .inr (.inl (⟨rfl,rfl,rfl⟩))
 refine fi 2 [(32,8,false),(5,13,false),(5,18,true)] 38 ((EE mB mC mA)) [.h,J1,J4] (.tup [(.fn 43 [(.ptr J2 0)] []),(zi (0))]) [(J2,(ce 123 [(zi mA),(zi mB),(zi mC),(zi mD),(zi mE),(zi mF),(zi (0)),(zi (0)),.nils,(zi (0)),(zi (0)),.nils]))] J3 (by (try simp only [b1,b2,b3,gS,dW,jH,EE]);(try simp only [gT] at *);try omega) ?_
 exact .inr (.inl (⟨rfl,rfl,rfl⟩))
def SO (mA:Int) (mB:Int) (mC:Int) (mD:Int) (mE:Int) (mF:Int):AV→Hp→Prop:=fun v H =>
 ((v=(.tup [(.fn 43 [(.ptr J1 0)] []),(zi (0))])∧H.nx=.i .h∧H.hp.get J1=some (ce 123 [(zi mA),(zi mB),(zi mC),(zi mD),(zi mE),(zi mF),(zi (0)),(zi (0)),.nils,(zi (0)),(zi (0)),.nils]))) ∨
 ((v=(.tup [(.fn 44 [(.ptr J1 0)] []),(zi (0))])∧H.nx=.i .h∧H.hp.get J1=some (ce 123 [(zi mA),(zi mB),(zi mC),(zi mD),(zi mE),(zi mF),(zi (Int.tdiv (Int.mul (16) mA) (1000))),(zi (0)),.nils,(zi (Int.tdiv (Int.mul (-16) mD) (1000))),(zi (0)),.nils]))∧(1≤Int.tdiv (Int.mul (16) mA) (1000)∧Int.tdiv (Int.mul (16) mA) (1000)≤16777216)∧(1≤Int.tdiv (Int.mul (-16) mD) (1000)∧Int.tdiv (Int.mul (-16) mD) (1000)≤16777216))
theorem Ys {n:Nat} {Y:Nat→Nat→Int} {ex:Bool} {sty:Bool} {sd:Int} {wd:Int} {mA:Int} {mB:Int} {mC:Int} {mD:Int} {mE:Int} {mF:Int} (hY:∀ j k,-32000≤Y j k∧Y j k≤32000) (hmA : -2000000≤mA∧mA≤2000000) (hmB : -2000000≤mB∧mB≤2000000) (hmC : -2000000≤mC∧mC≤2000000) (hmD : -2000000≤mD∧mD≤2000000) (hmE : -40000≤mE∧mE≤40000) (hmF : -40000≤mF∧mF≤40000):a7 En 1 (EC n Y ex sty sd wd mA mB mC mD mE mF) (SO mA mB mC mD mE mF):=by
 rcases ci mB (0) with ⟨b1,b1p⟩|⟨b1,b1p⟩
 ·refine fi 1 [(32,8,true)] 48 (a6 (Bool.not (c9 mB (0))) true) [.h,J3] (.tup [(.fn 43 [(.ptr J1 0)] []),(zi (0))]) [(J1,(ce 123 [(zi mA),(zi mB),(zi mC),(zi mD),(zi mE),(zi mF),(zi (0)),(zi (0)),.nils,(zi (0)),(zi (0)),.nils]))] J2 (by (try simp only [b1,gS]);(try simp only [gT] at *);try omega) ?_
  exact .inl (⟨rfl,rfl,rfl⟩)
 rcases ci mC (0) with ⟨b2,b2p⟩|⟨b2,b2p⟩
 ·refine fi 1 [(32,8,false),(5,13,true)] 43 ((ED mB mC)) [.h,J3] (.tup [(.fn 43 [(.ptr J1 0)] []),(zi (0))]) [(J1,(ce 123 [(zi mA),(zi mB),(zi mC),(zi mD),(zi mE),(zi mF),(zi (0)),(zi (0)),.nils,(zi (0)),(zi (0)),.nils]))] J2 (by (try simp only [b1,b2,gS,dW,ED]);(try simp only [gT] at *);try omega) ?_
  exact .inl (⟨rfl,rfl,rfl⟩)
 rcases cl mA (0) with ⟨b3,b3p⟩|⟨b3,b3p⟩
 ·rcases cl (0) mD with ⟨b4,b4p⟩|⟨b4,b4p⟩
  ·rcases ct (0) (Int.tdiv (Int.mul (16) mA) (1000)) with ⟨b5,b5p⟩|⟨b5,b5p⟩
   ·refine fi 1 [(32,8,false),(5,13,false),(5,18,false),(5,22,false),(11,35,false)] 33 ((EG mB mC mA mD)) [.h,J3] (.tup [(.fn 43 [(.ptr J1 0)] []),(zi (0))]) [(J1,(ce 123 [(zi mA),(zi mB),(zi mC),(zi mD),(zi mE),(zi mF),(zi (0)),(zi (0)),.nils,(zi (0)),(zi (0)),.nils]))] J2 (by have:=m6 (Int.mul (16) mA) (k:=1000) (by decide);have:=m6 (Int.mul (-16) mD) (k:=1000) (by decide);(try simp only [b1,b2,b3,b4,b5,gS,dW,jH,yD,yE,EG]);(try simp only [gT] at *);try omega) ?_
    exact .inl (⟨rfl,rfl,rfl⟩)
   rcases ct (0) (Int.tdiv (Int.mul (-16) mD) (1000)) with ⟨b6,b6p⟩|⟨b6,b6p⟩
   ·refine fi 1 [(32,8,false),(5,13,false),(5,18,false),(5,22,false),(11,35,true),(23,21,true)] 10 ((EH mB mC mA mD)) [.h,J3] (.tup [(.fn 43 [(.ptr J1 0)] []),(zi (0))]) [(J1,(ce 123 [(zi mA),(zi mB),(zi mC),(zi mD),(zi mE),(zi mF),(zi (0)),(zi (0)),.nils,(zi (0)),(zi (0)),.nils]))] J2 (by have:=m6 (Int.mul (-16) mD) (k:=1000) (by decide);have:=m6 (Int.mul (16) mA) (k:=1000) (by decide);(try simp only [b1,b2,b3,b4,b5,b6,gS,dW,jH,yD,Rp,yE,EH]);(try simp only [gT] at *);try omega) ?_
    exact .inl (⟨rfl,rfl,rfl⟩)
   refine fi 1 [(32,8,false),(5,13,false),(5,18,false),(5,22,false),(11,35,true),(23,21,false),(64,10,true),(9,9,true),(336,10,true),(9,9,true)] 287 ((Yq mB mC mA mD)) [.h,J3] (.tup [(.fn 44 [(.ptr J1 0)] []),(zi (0))]) [(J1,(ce 123 [(zi mA),(zi mB),(zi mC),(zi mD),(zi mE),(zi mF),(zi (Int.tdiv (Int.mul (16) mA) (1000))),(zi (0)),.nils,(zi (Int.tdiv (Int.mul (-16) mD) (1000))),(zi (0)),.nils]))] J2 (by have:=m6 (Int.mul (-16) mD) (k:=1000) (by decide);have:=m6 (Int.mul (16) mA) (k:=1000) (by decide);(try simp only [b1,b2,b3,b4,b5,b6,gS,dW,jH,yD,Rp,yE,Yq]);(try simp only [gT] at *);try omega) ?_
   exact .inr ((⟨⟨rfl,rfl,rfl⟩,(by have:=m6 (Int.mul (16) mA) (k:=1000) (by decide);have:=m6 (Int.mul (-16) mD) (k:=1000) (by decide);(try simp only [m8] at *);omega),(by have:=m6 (Int.mul (16) mA) (k:=1000) (by decide);have:=m6 (Int.mul (-16) mD) (k:=1000) (by decide);(try simp only [m8] at *);omega)⟩))
  refine fi 1 [(32,8,false),(5,13,false),(5,18,false),(5,22,true)] 33 ((EF mB mC mA mD)) [.h,J3] (.tup [(.fn 43 [(.ptr J1 0)] []),(zi (0))]) [(J1,(ce 123 [(zi mA),(zi mB),(zi mC),(zi mD),(zi mE),(zi mF),(zi (0)),(zi (0)),.nils,(zi (0)),(zi (0)),.nils]))] J2 (by (try simp only [b1,b2,b3,b4,gS,dW,jH,EF]);(try simp only [gT] at *);try omega) ?_
  exact .inl (⟨rfl,rfl,rfl⟩)
 refine fi 1 [(32,8,false),(5,13,false),(5,18,true)] 38 ((EE mB mC mA)) [.h,J3] (.tup [(.fn 43 [(.ptr J1 0)] []),(zi (0))]) [(J1,(ce 123 [(zi mA),(zi mB),(zi mC),(zi mD),(zi mE),(zi mF),(zi (0)),(zi (0)),.nils,(zi (0)),(zi (0)),.nils]))] J2 (by (try simp only [b1,b2,b3,gS,dW,jH,EE]);(try simp only [gT] at *);try omega) ?_
 exact .inl (⟨rfl,rfl,rfl⟩)
def KD (mA:Int) (mB:Int) (mC:Int) (mD:Int) (mE:Int) (mF:Int):AV→Hp→Prop:=fun v H =>
 ((v=(.tup [.nilf,(zi (2))])∧H.nx=.o .h)) ∨
 ((v=(.tup [(.fn 43 [(.ptr J1 0)] []),(zi (0))])∧H.nx=.i .h∧H.hp.get J1=some (ce 123 [(zi mA),(zi mB),(zi mC),(zi mD),(zi mE),(zi mF),(zi (0)),(zi (0)),.nils,(zi (0)),(zi (0)),.nils]))) ∨
 (∃ (q2:Nat) (K2:Nat→Nat→Int),(v=(.tup [(.fn 44 [(.ptr J1 0)] []),(zi (0))])∧H.nx=.o J1∧H.hp.get J1=some (ce 123 [(zi mA),(zi mB),(zi mC),(zi mD),(zi mE),(zi mF),(zi (Int.tdiv (Int.mul (16) mA) (1000))),(zi (0)),.nils,(zi (Int.tdiv (Int.mul (-16) mD) (1000))),(zi (0)),(.sa J2 0 (Nat.succ q2) 2)])∧H.hp.get J2=some (.arr (Nat.succ q2) 2 (a8 [.i64,.i64] K2) none 159 false false))∧(1≤Int.tdiv (Int.mul (16) mA) (1000)∧Int.tdiv (Int.mul (16) mA) (1000)≤16777216)∧(1≤Int.tdiv (Int.mul (-16) mD) (1000)∧Int.tdiv (Int.mul (-16) mD) (1000)≤16777216)∧q2≤100∧(∀ j k,-1000000000000≤K2 j k∧K2 j k≤1000000000000)) ∨
 (∃ (q:Nat) (K:Nat→Nat→Int),∃ (q2:Nat) (K2:Nat→Nat→Int),(v=(.tup [(.fn 44 [(.ptr J1 0)] []),(zi (0))])∧H.nx=.i J1∧H.hp.get J1=some (ce 123 [(zi mA),(zi mB),(zi mC),(zi mD),(zi mE),(zi mF),(zi (Int.tdiv (Int.mul (16) mA) (1000))),(zi (0)),(.sa J2 0 (Nat.succ q) 2),(zi (Int.tdiv (Int.mul (-16) mD) (1000))),(zi (0)),(.sa J3 0 (Nat.succ q2) 2)])∧H.hp.get J2=some (.arr (Nat.succ q) 2 (a8 [.i64,.i64] K) none 159 false false)∧H.hp.get J3=some (.arr (Nat.succ q2) 2 (a8 [.i64,.i64] K2) none 159 false false))∧(1≤Int.tdiv (Int.mul (16) mA) (1000)∧Int.tdiv (Int.mul (16) mA) (1000)≤16777216)∧(1≤Int.tdiv (Int.mul (-16) mD) (1000)∧Int.tdiv (Int.mul (-16) mD) (1000)≤16777216)∧q≤100∧(∀ j k,-1000000000000≤K j k∧K j k≤1000000000000)∧q2≤100∧(∀ j k,-1000000000000≤K2 j k∧K2 j k≤1000000000000))
theorem Rq {sd:Int} {wd:Int} {m:Nat} {V:Nat→Bool} {S:Nat→Nat→Int} {sex:Bool} {ssty:Bool} {mA:Int} {mB:Int} {mC:Int} {mD:Int} {mE:Int} {mF:Int} (hmA : -2000000≤mA∧mA≤2000000) (hmB : -2000000≤mB∧mB≤2000000) (hmC : -2000000≤mC∧mC≤2000000) (hmD : -2000000≤mD∧mD≤2000000) (hmE : -40000≤mE∧mE≤40000) (hmF : -40000≤mF∧mF≤40000) (hm8:m≤8) (hS:∀ j k,-32000≤S j k∧S j k≤32000) (hsort:G0 m V S) (hm1:0 < m) (hV0:V 0=false):a7 En 1 (M3 sd wd m V S sex ssty mA mB mC mD mE mF) (KD mA mB mC mD mE mF):=by
 rcases ci mB (0) with ⟨b1,b1p⟩|⟨b1,b1p⟩
 ·refine fi 1 [(32,8,true)] 48 (a6 (Bool.not (c9 mB (0))) true) [.h,J3] (.tup [(.fn 43 [(.ptr J1 0)] []),(zi (0))]) [(J1,(ce 123 [(zi mA),(zi mB),(zi mC),(zi mD),(zi mE),(zi mF),(zi (0)),(zi (0)),.nils,(zi (0)),(zi (0)),.nils]))] J2 (by (try simp only [b1,gS]);(try simp only [gT] at *);try omega) ?_
  exact .inr (.inl (⟨rfl,rfl,rfl⟩))
 rcases ci mC (0) with ⟨b2,b2p⟩|⟨b2,b2p⟩
 ·refine fi 1 [(32,8,false),(5,13,true)] 43 ((ED mB mC)) [.h,J3] (.tup [(.fn 43 [(.ptr J1 0)] []),(zi (0))]) [(J1,(ce 123 [(zi mA),(zi mB),(zi mC),(zi mD),(zi mE),(zi mF),(zi (0)),(zi (0)),.nils,(zi (0)),(zi (0)),.nils]))] J2 (by (try simp only [b1,b2,gS,dW,ED]);(try simp only [gT] at *);try omega) ?_
  exact .inr (.inl (⟨rfl,rfl,rfl⟩))
 rcases cl mA (0) with ⟨b3,b3p⟩|⟨b3,b3p⟩
 ·rcases cl (0) mD with ⟨b4,b4p⟩|⟨b4,b4p⟩
  ·rcases ct (0) (Int.tdiv (Int.mul (16) mA) (1000)) with ⟨b5,b5p⟩|⟨b5,b5p⟩
   ·refine fi 1 [(32,8,false),(5,13,false),(5,18,false),(5,22,false),(11,35,false)] 33 ((EG mB mC mA mD)) [.h,J3] (.tup [(.fn 43 [(.ptr J1 0)] []),(zi (0))]) [(J1,(ce 123 [(zi mA),(zi mB),(zi mC),(zi mD),(zi mE),(zi mF),(zi (0)),(zi (0)),.nils,(zi (0)),(zi (0)),.nils]))] J2 (by have:=m6 (Int.mul (16) mA) (k:=1000) (by decide);have:=m6 (Int.mul (-16) mD) (k:=1000) (by decide);(try simp only [b1,b2,b3,b4,b5,gS,dW,jH,yD,yE,EG]);(try simp only [gT] at *);try omega) ?_
    exact .inr (.inl (⟨rfl,rfl,rfl⟩))
   rcases ct (0) (Int.tdiv (Int.mul (-16) mD) (1000)) with ⟨b6,b6p⟩|⟨b6,b6p⟩
   ·refine fi 1 [(32,8,false),(5,13,false),(5,18,false),(5,22,false),(11,35,true),(23,21,true)] 10 ((EH mB mC mA mD)) [.h,J3] (.tup [(.fn 43 [(.ptr J1 0)] []),(zi (0))]) [(J1,(ce 123 [(zi mA),(zi mB),(zi mC),(zi mD),(zi mE),(zi mF),(zi (0)),(zi (0)),.nils,(zi (0)),(zi (0)),.nils]))] J2 (by have:=m6 (Int.mul (-16) mD) (k:=1000) (by decide);have:=m6 (Int.mul (16) mA) (k:=1000) (by decide);(try simp only [b1,b2,b3,b4,b5,b6,gS,dW,jH,yD,Rp,yE,EH]);(try simp only [gT] at *);try omega) ?_
    exact .inr (.inl (⟨rfl,rfl,rfl⟩))
   refine ac 1 [(32,8,false),(5,13,false),(5,18,false),(5,22,false),(11,35,true),(23,21,false)] 14 ((Yp mB mC mA mD)) (Ym sd wd m V S sex ssty mA mB mC mD mE mF) [.h,J1,J3] [[2,6,8,25]] (by have:=m6 (Int.mul (-16) mD) (k:=1000) (by decide);have:=m6 (Int.mul (16) mA) (k:=1000) (by decide);(try simp only [b1,b2,b3,b4,b5,b6,gS,dW,jH,yD,Rp,yE,Yp]);(try simp only [gT] at *);try omega) ?_
   refine ca (O1 m V S sex ssty true (Int.tdiv (Int.mul (16) mA) (1000))) [.h] (O2 (m:=m) (V:=V) (Y:=S) (ex:=sex) (sty:=ssty) (vert:=true) (sc:=(Int.tdiv (Int.mul (16) mA) (1000))) hm8 hS (by have:=m6 (Int.mul (16) mA) (k:=1000) (by decide);have:=m6 (Int.mul (-16) mD) (k:=1000) (by decide);(try simp only [m8] at *);omega) hsort) (fun v' H' q=>?_)
   rcases q with ⟨rfl,hnx1⟩|⟨rfl,hnx1,hnv_1⟩|⟨q_1,K_1,rfl,hnx1,ho0_1,hq_1,hK_1⟩
   ·skip
    refine ⟨(.tup [(.agg [(zi (0)),(zi (0)),.nils]),(zi (2))]),[],J3,(by kernel_rfl),(by rw [hnx1];kernel_rfl),trivial,(by kernel_rfl),?_⟩
    refine fi 1 [] 22 true [.h] (.tup [.nilf,(zi (2))]) [] J1 rfl ?_
    exact .inl (⟨rfl,rfl⟩)
   ·skip
    refine ⟨(.tup [(.agg [(zi (Int.tdiv (Int.mul (16) mA) (1000))),(zi (0)),.nils]),(zi (0))]),[],J3,(by kernel_rfl),(by rw [hnx1];kernel_rfl),trivial,(by kernel_rfl),?_⟩
    refine ac 1 [] 23 true (Yn m V S sex ssty mA mB mC mD mE mF) [.h,J2] [[6,38]] rfl ?_
    refine ca (O1 m V S sex ssty false (Int.tdiv (Int.mul (-16) mD) (1000))) [.h] (O2 (m:=m) (V:=V) (Y:=S) (ex:=sex) (sty:=ssty) (vert:=false) (sc:=(Int.tdiv (Int.mul (-16) mD) (1000))) hm8 hS (by have:=m6 (Int.mul (16) mA) (k:=1000) (by decide);have:=m6 (Int.mul (-16) mD) (k:=1000) (by decide);(try simp only [m8] at *);omega) hsort) (fun v' H' q=>?_)
    rcases q with ⟨rfl,hnx2⟩|⟨rfl,hnx2,hnv_2⟩|⟨q_2,K_2,rfl,hnx2,ho0_2,hq_2,hK_2⟩
    ·skip
     refine ⟨(.tup [(.agg [(zi (0)),(zi (0)),.nils]),(zi (2))]),[],J2,(by kernel_rfl),(by rw [hnx2];kernel_rfl),trivial,(by kernel_rfl),?_⟩
     refine fi 1 [] 22 true [.h] (.tup [.nilf,(zi (2))]) [] J1 rfl ?_
     exact .inl (⟨rfl,rfl⟩)
    ·skip
     refine ⟨(.tup [(.agg [(zi (Int.tdiv (Int.mul (-16) mD) (1000))),(zi (0)),.nils]),(zi (0))]),[],J2,(by kernel_rfl),(by rw [hnx2];kernel_rfl),trivial,(by kernel_rfl),?_⟩
     refine fi 1 [] 24 true [.h,J1] (.tup [(.fn 44 [(.ptr J1 0)] []),(zi (0))]) [(J1,(ce 123 [(zi mA),(zi mB),(zi mC),(zi mD),(zi mE),(zi mF),(zi (Int.tdiv (Int.mul (16) mA) (1000))),(zi (0)),.nils,(zi (Int.tdiv (Int.mul (-16) mD) (1000))),(zi (0)),.nils]))] J2 rfl ?_
     exact absurd hV0 (hnv_2 0 hm1)
    skip
    refine ⟨(.tup [(.agg [(zi (Int.tdiv (Int.mul (-16) mD) (1000))),(zi (0)),(.sa J2 0 (Nat.succ q_2) 2)]),(zi (0))]),[(J2,(.arr (Nat.succ q_2) 2 (a8 [.i64,.i64] K_2) none 159 false false))],J3,(by kernel_rfl),(by rw [hnx2];kernel_rfl),⟨⟨J1,_,(Nat.le_of_ble_eq_true (by kernel_rfl)),(by show _=_;kernel_rfl),ho0_2,(by show _=_;kernel_rfl)⟩,trivial⟩,(by kernel_rfl),?_⟩
    refine fi 1 [] 24 true [.h,J1,J2] (.tup [(.fn 44 [(.ptr J1 0)] []),(zi (0))]) [(J1,(ce 123 [(zi mA),(zi mB),(zi mC),(zi mD),(zi mE),(zi mF),(zi (Int.tdiv (Int.mul (16) mA) (1000))),(zi (0)),.nils,(zi (Int.tdiv (Int.mul (-16) mD) (1000))),(zi (0)),(.sa J2 0 (Nat.succ q_2) 2)])),(J2,(.arr (Nat.succ q_2) 2 (a8 [.i64,.i64] K_2) none 159 false false))] J3 rfl ?_
    exact .inr (.inr (.inl (⟨q_2,K_2,⟨rfl,rfl,rfl,rfl⟩,(by have:=m6 (Int.mul (16) mA) (k:=1000) (by decide);have:=m6 (Int.mul (-16) mD) (k:=1000) (by decide);(try simp only [m8] at *);omega),(by have:=m6 (Int.mul (16) mA) (k:=1000) (by decide);have:=m6 (Int.mul (-16) mD) (k:=1000) (by decide);(try simp only [m8] at *);omega),hq_2,hK_2⟩)))
   skip
   refine ⟨(.tup [(.agg [(zi (Int.tdiv (Int.mul (16) mA) (1000))),(zi (0)),(.sa J3 0 (Nat.succ q_1) 2)]),(zi (0))]),[(J3,(.arr (Nat.succ q_1) 2 (a8 [.i64,.i64] K_1) none 159 false false))],J4,(by kernel_rfl),(by rw [hnx1];kernel_rfl),⟨⟨J1,_,(Nat.le_of_ble_eq_true (by kernel_rfl)),(by show _=_;kernel_rfl),ho0_1,(by show _=_;kernel_rfl)⟩,trivial⟩,(by kernel_rfl),?_⟩
   refine ac 1 [] 23 true (Yo m V S sex ssty mA mB mC mD mE mF q_1 K_1) [.h,J2,J3] [[6,38]] rfl ?_
   refine ca (O1 m V S sex ssty false (Int.tdiv (Int.mul (-16) mD) (1000))) [.h] (O2 (m:=m) (V:=V) (Y:=S) (ex:=sex) (sty:=ssty) (vert:=false) (sc:=(Int.tdiv (Int.mul (-16) mD) (1000))) hm8 hS (by have:=m6 (Int.mul (16) mA) (k:=1000) (by decide);have:=m6 (Int.mul (-16) mD) (k:=1000) (by decide);(try simp only [m8] at *);omega) hsort) (fun v' H' q=>?_)
   rcases q with ⟨rfl,hnx3⟩|⟨rfl,hnx3,hnv_3⟩|⟨q_3,K_3,rfl,hnx3,ho0_3,hq_3,hK_3⟩
   ·skip
    refine ⟨(.tup [(.agg [(zi (0)),(zi (0)),.nils]),(zi (2))]),[],J3,(by kernel_rfl),(by rw [hnx3];kernel_rfl),trivial,(by kernel_rfl),?_⟩
    refine fi 1 [] 22 true [.h] (.tup [.nilf,(zi (2))]) [] J1 rfl ?_
    exact .inl (⟨rfl,rfl⟩)
   ·skip
    refine ⟨(.tup [(.agg [(zi (Int.tdiv (Int.mul (-16) mD) (1000))),(zi (0)),.nils]),(zi (0))]),[],J3,(by kernel_rfl),(by rw [hnx3];kernel_rfl),trivial,(by kernel_rfl),?_⟩
    refine fi 1 [] 24 true [.h,J1,J2] (.tup [(.fn 44 [(.ptr J1 0)] []),(zi (0))]) [(J1,(ce 123 [(zi mA),(zi mB),(zi mC),(zi mD),(zi mE),(zi mF),(zi (Int.tdiv (Int.mul (16) mA) (1000))),(zi (0)),(.sa J2 0 (Nat.succ q_1) 2),(zi (Int.tdiv (Int.mul (-16) mD) (1000))),(zi (0)),.nils])),(J2,(.arr (Nat.succ q_1) 2 (a8 [.i64,.i64] K_1) none 159 false false))] J3 rfl ?_
    exact absurd hV0 (hnv_3 0 hm1)
   skip
   refine ⟨(.tup [(.agg [(zi (Int.tdiv (Int.mul (-16) mD) (1000))),(zi (0)),(.sa J3 0 (Nat.succ q_3) 2)]),(zi (0))]),[(J3,(.arr (Nat.succ q_3) 2 (a8 [.i64,.i64] K_3) none 159 false false))],J4,(by kernel_rfl),(by rw [hnx3];kernel_rfl),⟨⟨J1,_,(Nat.le_of_ble_eq_true (by kernel_rfl)),(by show _=_;kernel_rfl),ho0_3,(by show _=_;kernel_rfl)⟩,trivial⟩,(by kernel_rfl),?_⟩
   refine fi 1 [] 24 true [.h,J1,J2,J3] (.tup [(.fn 44 [(.ptr J1 0)] []),(zi (0))]) [(J1,(ce 123 [(zi mA),(zi mB),(zi mC),(zi mD),(zi mE),(zi mF),(zi (Int.tdiv (Int.mul (16) mA) (1000))),(zi (0)),(.sa J2 0 (Nat.succ q_1) 2),(zi (Int.tdiv (Int.mul (-16) mD) (1000))),(zi (0)),(.sa J3 0 (Nat.succ q_3) 2)])),(J2,(.arr (Nat.succ q_1) 2 (a8 [.i64,.i64] K_1) none 159 false false)),(J3,(.arr (Nat.succ q_3) 2 (a8 [.i64,.i64] K_3) none 159 false false))] J4 rfl ?_
   exact .inr (.inr (.inr ((⟨q_1,K_1,q_3,K_3,⟨rfl,rfl,rfl,rfl,rfl⟩,(by have:=m6 (Int.mul (16) mA) (k:=1000) (by decide);have:=m6 (Int.mul (-16) mD) (k:=1000) (by decide);(try simp only [m8] at *);omega),(by have:=m6 (Int.mul (16) mA) (k:=1000) (by decide);have:=m6 (Int.mul (-16) mD) (k:=1000) (by decide);(try simp only [m8] at *);omega),hq_1,hK_1,hq_3,hK_3⟩))))
  refine fi 1 [(32,8,false),(5,13,false),(5,18,false),(5,22,true)] 33 ((EF mB mC mA mD)) [.h,J3] (.tup [(.fn 43 [(.ptr J1 0)] []),(zi (0))]) [(J1,(ce 123 [(zi mA),(zi mB),(zi mC),(zi mD),(zi mE),(zi mF),(zi (0)),(zi (0)),.nils,(zi (0)),(zi (0)),.nils]))] J2 (by (try simp only [b1,b2,b3,b4,gS,dW,jH,EF]);(try simp only [gT] at *);try omega) ?_
  exact .inr (.inl (⟨rfl,rfl,rfl⟩))
 refine fi 1 [(32,8,false),(5,13,false),(5,18,true)] 38 ((EE mB mC mA)) [.h,J3] (.tup [(.fn 43 [(.ptr J1 0)] []),(zi (0))]) [(J1,(ce 123 [(zi mA),(zi mB),(zi mC),(zi mD),(zi mE),(zi mF),(zi (0)),(zi (0)),.nils,(zi (0)),(zi (0)),.nils]))] J2 (by (try simp only [b1,b2,b3,gS,dW,jH,EE]);(try simp only [gT] at *);try omega) ?_
 exact .inr (.inl (⟨rfl,rfl,rfl⟩))
def KE (mA:Int) (mB:Int) (mC:Int) (mD:Int) (mE:Int) (mF:Int):AV→Hp→Prop:=fun v H =>
 ((v=(.tup [(.fn 43 [(.ptr (.h) 0)] []),(zi (0))])∧H.nx=.o .h∧H.hp.get (.h)=some (ce 123 [(zi mA),(zi mB),(zi mC),(zi mD),(zi mE),(zi mF),(zi (0)),(zi (0)),.nils,(zi (0)),(zi (0)),.nils]))) ∨
 ((v=(.tup [(.fn 44 [(.ptr (.h) 0)] []),(zi (0))])∧H.nx=.o .h∧H.hp.get (.h)=some (ce 123 [(zi mA),(zi mB),(zi mC),(zi mD),(zi mE),(zi mF),(zi (Int.tdiv (Int.mul (16) mA) (1000))),(zi (0)),.nils,(zi (Int.tdiv (Int.mul (-16) mD) (1000))),(zi (0)),.nils]))∧(1≤Int.tdiv (Int.mul (16) mA) (1000)∧Int.tdiv (Int.mul (16) mA) (1000)≤16777216)∧(1≤Int.tdiv (Int.mul (-16) mD) (1000)∧Int.tdiv (Int.mul (-16) mD) (1000)≤16777216))
theorem Rr {sd:Int} {wd:Int} {mA:Int} {mB:Int} {mC:Int} {mD:Int} {mE:Int} {mF:Int} (hmA : -2000000≤mA∧mA≤2000000) (hmB : -2000000≤mB∧mB≤2000000) (hmC : -2000000≤mC∧mC≤2000000) (hmD : -2000000≤mD∧mD≤2000000) (hmE : -40000≤mE∧mE≤40000) (hmF : -40000≤mF∧mF≤40000):a7 En 0 (dV sd wd mA mB mC mD mE mF) (KE mA mB mC mD mE mF):=by
 rcases ci mB (0) with ⟨b1,b1p⟩|⟨b1,b1p⟩
 ·refine fi 0 [(32,8,true)] 48 (a6 (Bool.not (c9 mB (0))) true) [J2] (.tup [(.fn 43 [(.ptr .h 0)] []),(zi (0))]) [(.h,(ce 123 [(zi mA),(zi mB),(zi mC),(zi mD),(zi mE),(zi mF),(zi (0)),(zi (0)),.nils,(zi (0)),(zi (0)),.nils]))] J1 (by (try simp only [b1,gS]);(try simp only [gT] at *);try omega) ?_
  exact .inl (⟨rfl,rfl,rfl⟩)
 rcases ci mC (0) with ⟨b2,b2p⟩|⟨b2,b2p⟩
 ·refine fi 0 [(32,8,false),(5,13,true)] 43 ((ED mB mC)) [J2] (.tup [(.fn 43 [(.ptr .h 0)] []),(zi (0))]) [(.h,(ce 123 [(zi mA),(zi mB),(zi mC),(zi mD),(zi mE),(zi mF),(zi (0)),(zi (0)),.nils,(zi (0)),(zi (0)),.nils]))] J1 (by (try simp only [b1,b2,gS,dW,ED]);(try simp only [gT] at *);try omega) ?_
  exact .inl (⟨rfl,rfl,rfl⟩)
 rcases cl mA (0) with ⟨b3,b3p⟩|⟨b3,b3p⟩
 ·rcases cl (0) mD with ⟨b4,b4p⟩|⟨b4,b4p⟩
  ·rcases ct (0) (Int.tdiv (Int.mul (16) mA) (1000)) with ⟨b5,b5p⟩|⟨b5,b5p⟩
   ·refine fi 0 [(32,8,false),(5,13,false),(5,18,false),(5,22,false),(11,35,false)] 33 ((EG mB mC mA mD)) [J2] (.tup [(.fn 43 [(.ptr .h 0)] []),(zi (0))]) [(.h,(ce 123 [(zi mA),(zi mB),(zi mC),(zi mD),(zi mE),(zi mF),(zi (0)),(zi (0)),.nils,(zi (0)),(zi (0)),.nils]))] J1 (by have:=m6 (Int.mul (16) mA) (k:=1000) (by decide);have:=m6 (Int.mul (-16) mD) (k:=1000) (by decide);(try simp only [b1,b2,b3,b4,b5,gS,dW,jH,yD,yE,EG]);(try simp only [gT] at *);try omega) ?_
    exact .inl (⟨rfl,rfl,rfl⟩)
   rcases ct (0) (Int.tdiv (Int.mul (-16) mD) (1000)) with ⟨b6,b6p⟩|⟨b6,b6p⟩
   ·refine fi 0 [(32,8,false),(5,13,false),(5,18,false),(5,22,false),(11,35,true),(23,21,true)] 10 ((EH mB mC mA mD)) [J2] (.tup [(.fn 43 [(.ptr .h 0)] []),(zi (0))]) [(.h,(ce 123 [(zi mA),(zi mB),(zi mC),(zi mD),(zi mE),(zi mF),(zi (0)),(zi (0)),.nils,(zi (0)),(zi (0)),.nils]))] J1 (by have:=m6 (Int.mul (-16) mD) (k:=1000) (by decide);have:=m6 (Int.mul (16) mA) (k:=1000) (by decide);(try simp only [b1,b2,b3,b4,b5,b6,gS,dW,jH,yD,Rp,yE,EH]);(try simp only [gT] at *);try omega) ?_
    exact .inl (⟨rfl,rfl,rfl⟩)
   refine fi 0 [(32,8,false),(5,13,false),(5,18,false),(5,22,false),(11,35,true),(23,21,false),(64,10,true),(9,9,true),(336,10,true),(9,9,true)] 287 ((Yq mB mC mA mD)) [J2] (.tup [(.fn 44 [(.ptr .h 0)] []),(zi (0))]) [(.h,(ce 123 [(zi mA),(zi mB),(zi mC),(zi mD),(zi mE),(zi mF),(zi (Int.tdiv (Int.mul (16) mA) (1000))),(zi (0)),.nils,(zi (Int.tdiv (Int.mul (-16) mD) (1000))),(zi (0)),.nils]))] J1 (by have:=m6 (Int.mul (-16) mD) (k:=1000) (by decide);have:=m6 (Int.mul (16) mA) (k:=1000) (by decide);(try simp only [b1,b2,b3,b4,b5,b6,gS,dW,jH,yD,Rp,yE,Yq]);(try simp only [gT] at *);try omega) ?_
   exact .inr ((⟨⟨rfl,rfl,rfl⟩,(by have:=m6 (Int.mul (16) mA) (k:=1000) (by decide);have:=m6 (Int.mul (-16) mD) (k:=1000) (by decide);(try simp only [m8] at *);omega),(by have:=m6 (Int.mul (16) mA) (k:=1000) (by decide);have:=m6 (Int.mul (-16) mD) (k:=1000) (by decide);(try simp only [m8] at *);omega)⟩))
  refine fi 0 [(32,8,false),(5,13,false),(5,18,false),(5,22,true)] 33 ((EF mB mC mA mD)) [J2] (.tup [(.fn 43 [(.ptr .h 0)] []),(zi (0))]) [(.h,(ce 123 [(zi mA),(zi mB),(zi mC),(zi mD),(zi mE),(zi mF),(zi (0)),(zi (0)),.nils,(zi (0)),(zi (0)),.nils]))] J1 (by (try simp only [b1,b2,b3,b4,gS,dW,jH,EF]);(try simp only [gT] at *);try omega) ?_
  exact .inl (⟨rfl,rfl,rfl⟩)
 refine fi 0 [(32,8,false),(5,13,false),(5,18,true)] 38 ((EE mB mC mA)) [J2] (.tup [(.fn 43 [(.ptr .h 0)] []),(zi (0))]) [(.h,(ce 123 [(zi mA),(zi mB),(zi mC),(zi mD),(zi mE),(zi mF),(zi (0)),(zi (0)),.nils,(zi (0)),(zi (0)),.nils]))] J1 (by (try simp only [b1,b2,b3,gS,dW,jH,EE]);(try simp only [gT] at *);try omega) ?_
 exact .inl (⟨rfl,rfl,rfl⟩)
section
variable (sd wd:Int) (m:Nat) (V:Nat→Bool) (S:Nat→Nat→Int) (sex ssty:Bool) (e_1:Int) (q_3:Nat) (K_3:Nat→Nat→Int) (q_2:Nat) (K_2:Nat→Nat→Int) (q_4:Nat) (K_4:Nat→Nat→Int)
def fO:St:=⟨o4 (d9 En 17 [(.agg [(zi sd),(zi wd),.nils,(.sa .h 0 m 3)])] false),[],[(.h,(o3 m V S sex ssty))],J1,1⟩
def KF:St:=⟨cf (dS 0 (fun _ _=>0) true false) J3 [J1],[(fr 17 94 (ts [1,75] [.ptr J2 0,.bool false]) [rA En 17 (pb 124) 4,cA En 17 (pb 125),cA En 17 (pb 63)])],(zs [(o3 m V S sex ssty),(o7 0 (fun _ _=>0) true false),(ce 36 [(zi sd),(zi wd),.nils,(.sa .h 0 m 3)])]),J3,1⟩
def KG:St:=⟨cf (O1 m V S sex ssty true (1)) J2 [.h],[(fr 17 94 (ts [1,80,81] [.ptr J1 0,.agg [(.bool true),(.bool false)],zi (0)]) [rA En 17 (pb 64818) 3,cA En 17 (pb 64819),.blk 5,cA En 17 (pb 8103),lA En 17 (pb 1012),.blk 4,cA En 17 (pb 127)])],(zs [(o3 m V S sex ssty),(ce 36 [(zi sd),(zi wd),.nils,(.sa .h 0 m 3)])]),J2,1⟩
def KH:St:=⟨cf (O1 m V S sex ssty false (1)) J2 [.h],[(fr 17 94 (ts [1,80,81] [.ptr J1 0,.agg [(.bool true),(.bool false)],zi (1)]) [rA En 17 (pb 64818) 3,cA En 17 (pb 64819),.blk 5,cA En 17 (pb 8103),lA En 17 (pb 1012),.blk 4,cA En 17 (pb 127)])],(zs [(o3 m V S sex ssty),(ce 36 [(zi sd),(zi wd),.nils,(.sa .h 0 m 3)])]),J2,1⟩
def KI:St:=⟨cf (O1 m V S sex ssty false (1)) J2 [.h],[(fr 17 94 (ts [1,80,81] [.ptr J1 0,.agg [(.bool true),(.bool false)],zi (1)]) [rA En 17 (pb 64818) 3,cA En 17 (pb 64819),.blk 5,cA En 17 (pb 8103),lA En 17 (pb 1012),.blk 4,cA En 17 (pb 127)])],(zs [(o3 m V S sex ssty),(ce 36 [(zi sd),(zi wd),.nils,(.sa .h 0 m 3)])]),J2,1⟩
end
section
variable (sd wd e_1:Int)
def wZ:St:=⟨o4 (d9 En 17 [(.agg [(zi sd),(zi wd),.nils,.nils])] false),[],[],.h,0⟩
def KJ:St:=⟨cf (dS 0 (fun _ _=>0) true false) J2 [.h],[(fr 17 94 (ts [1,75] [.ptr J1 0,.bool false]) [rA En 17 (pb 124) 4,cA En 17 (pb 125),cA En 17 (pb 63)])],(zs [(o7 0 (fun _ _=>0) true false),(ce 36 [(zi sd),(zi wd),.nils,.nils])]),J2,0⟩
end
theorem z9:∀ (j k:Nat),-1000000000≤(fun (_ _:Nat)=>(0:Int)) j k∧(fun (_ _:Nat)=>(0:Int)) j k≤1000000000:=fun _ _=>⟨(by show (-1000000000:Int)≤0;decide),(by show (0:Int)≤1000000000;decide)⟩
theorem kO {sd:Int} {wd:Int} {m:Nat} {V:Nat→Bool} {S:Nat→Nat→Int} {sex:Bool} {ssty:Bool} (hm8:m≤8) (hS:∀ j k,-32000≤S j k∧S j k≤32000) (hsort:G0 m V S):a7 En 1 (fO sd wd m V S sex ssty) (fun v H=>∃ e:Int,v=.int .i64 e∧H.nx=.o .h):=by
 refine ac 1 [(44,75,false)] 2 (a6 (Bool.not (Bool.not (Nat.ble m 40))) true) (KF sd wd m V S sex ssty) [.h,J2,J1] [[1,75]] (by (try simp only [gS]);(try simp only [gT] at *);try omega) ?_
 refine ca (dS 0 (fun _ _=>0) true false) [J1] (dU (n:=0) (Y:=(fun _ _=>0)) (ex:=true) (sty:=false) z9 (by decide)) (fun v' H' q=>?_)
 rcases q with ⟨e_1,rfl,hnx1,hq_1⟩
 refine ⟨(zi e_1),[],J3,(by kernel_rfl),(by rw [hnx1];kernel_rfl),trivial,(by kernel_rfl),?_⟩
 rcases ci e_1 (0) with ⟨b1,b1p⟩|⟨b1,b1p⟩
 ·refine fi 1 [(3,79,true)] 7 (a6 (Bool.not (c9 e_1 (0))) true) [.h] (zi (460)) [] J1 (by (try simp only [b1,gS]);(try simp only [gT] at *);try omega) ?_
  exact ⟨_,rfl,rfl⟩
 refine ac 1 [(3,79,false)] 30 (a6 (Bool.not (Bool.not (c9 e_1 (0)))) true) (KG sd wd m V S sex ssty) [.h,J2] [[1,80,81]] (by (try simp only [b1,gS]);(try simp only [gT] at *);try omega) ?_
 refine ca (O1 m V S sex ssty true (1)) [.h] (O2 (m:=m) (V:=V) (Y:=S) (ex:=sex) (sty:=ssty) (vert:=true) (sc:=(1)) hm8 hS (by decide) hsort) (fun v' H' q=>?_)
 rcases q with ⟨rfl,hnx2⟩|⟨rfl,hnx2,hnv_2⟩|⟨q_2,K_2,rfl,hnx2,ho0_2,hq_2,hK_2⟩
 ·skip
  refine ⟨(.tup [(.agg [(zi (0)),(zi (0)),.nils]),(zi (2))]),[],J2,(by kernel_rfl),(by rw [hnx2];kernel_rfl),trivial,(by kernel_rfl),?_⟩
  refine fi 1 [] 19 true [.h] (zi (460)) [] J1 rfl ?_
  exact ⟨_,rfl,rfl⟩
 ·skip
  refine ⟨(.tup [(.agg [(zi (1)),(zi (0)),.nils]),(zi (0))]),[],J2,(by kernel_rfl),(by rw [hnx2];kernel_rfl),trivial,(by kernel_rfl),?_⟩
  refine ac 1 [] 40 true (KH sd wd m V S sex ssty) [.h,J1] [[1,80,81]] rfl ?_
  refine ca (O1 m V S sex ssty false (1)) [.h] (O2 (m:=m) (V:=V) (Y:=S) (ex:=sex) (sty:=ssty) (vert:=false) (sc:=(1)) hm8 hS (by decide) hsort) (fun v' H' q=>?_)
  rcases q with ⟨rfl,hnx3⟩|⟨rfl,hnx3,hnv_3⟩|⟨q_3,K_3,rfl,hnx3,ho0_3,hq_3,hK_3⟩
  ·skip
   refine ⟨(.tup [(.agg [(zi (0)),(zi (0)),.nils]),(zi (2))]),[],J2,(by kernel_rfl),(by rw [hnx3];kernel_rfl),trivial,(by kernel_rfl),?_⟩
   refine fi 1 [] 19 true [.h] (zi (460)) [] J1 rfl ?_
   exact ⟨_,rfl,rfl⟩
  ·skip
   refine ⟨(.tup [(.agg [(zi (1)),(zi (0)),.nils]),(zi (0))]),[],J2,(by kernel_rfl),(by rw [hnx3];kernel_rfl),trivial,(by kernel_rfl),?_⟩
   refine fi 1 [] 33 true [.h] (zi (0)) [] J1 rfl ?_
   exact ⟨_,rfl,rfl⟩
  skip
  refine ⟨(.tup [(.agg [(zi (1)),(zi (0)),(.sa J2 0 (Nat.succ q_3) 2)]),(zi (0))]),[(J2,(.arr (Nat.succ q_3) 2 (a8 [.i64,.i64] K_3) none 159 false false))],J3,(by kernel_rfl),(by rw [hnx3];kernel_rfl),⟨⟨J1,_,(Nat.le_of_ble_eq_true (by kernel_rfl)),(by show _=_;kernel_rfl),ho0_3,(by show _=_;kernel_rfl)⟩,trivial⟩,(by kernel_rfl),?_⟩
  refine fi 1 [] 33 true [.h] (zi (0)) [] J1 rfl ?_
  exact ⟨_,rfl,rfl⟩
 skip
 refine ⟨(.tup [(.agg [(zi (1)),(zi (0)),(.sa J2 0 (Nat.succ q_2) 2)]),(zi (0))]),[(J2,(.arr (Nat.succ q_2) 2 (a8 [.i64,.i64] K_2) none 159 false false))],J3,(by kernel_rfl),(by rw [hnx2];kernel_rfl),⟨⟨J1,_,(Nat.le_of_ble_eq_true (by kernel_rfl)),(by show _=_;kernel_rfl),ho0_2,(by show _=_;kernel_rfl)⟩,trivial⟩,(by kernel_rfl),?_⟩
 refine ac 1 [] 40 true (KI sd wd m V S sex ssty) [.h,J1] [[1,80,81]] rfl ?_
 refine ca (O1 m V S sex ssty false (1)) [.h] (O2 (m:=m) (V:=V) (Y:=S) (ex:=sex) (sty:=ssty) (vert:=false) (sc:=(1)) hm8 hS (by decide) hsort) (fun v' H' q=>?_)
 rcases q with ⟨rfl,hnx4⟩|⟨rfl,hnx4,hnv_4⟩|⟨q_4,K_4,rfl,hnx4,ho0_4,hq_4,hK_4⟩
 ·skip
  refine ⟨(.tup [(.agg [(zi (0)),(zi (0)),.nils]),(zi (2))]),[],J2,(by kernel_rfl),(by rw [hnx4];kernel_rfl),trivial,(by kernel_rfl),?_⟩
  refine fi 1 [] 19 true [.h] (zi (460)) [] J1 rfl ?_
  exact ⟨_,rfl,rfl⟩
 ·skip
  refine ⟨(.tup [(.agg [(zi (1)),(zi (0)),.nils]),(zi (0))]),[],J2,(by kernel_rfl),(by rw [hnx4];kernel_rfl),trivial,(by kernel_rfl),?_⟩
  refine fi 1 [] 33 true [.h] (zi (0)) [] J1 rfl ?_
  exact ⟨_,rfl,rfl⟩
 skip
 refine ⟨(.tup [(.agg [(zi (1)),(zi (0)),(.sa J2 0 (Nat.succ q_4) 2)]),(zi (0))]),[(J2,(.arr (Nat.succ q_4) 2 (a8 [.i64,.i64] K_4) none 159 false false))],J3,(by kernel_rfl),(by rw [hnx4];kernel_rfl),⟨⟨J1,_,(Nat.le_of_ble_eq_true (by kernel_rfl)),(by show _=_;kernel_rfl),ho0_4,(by show _=_;kernel_rfl)⟩,trivial⟩,(by kernel_rfl),?_⟩
 refine fi 1 [] 33 true [.h] (zi (0)) [] J1 rfl ?_
 exact ⟨_,rfl,rfl⟩
theorem Fo {sd:Int} {wd:Int}  : a7 En 0 (wZ sd wd) (fun v H=>∃ e:Int,v=.int .i64 e∧H.nx=.h):=by
 refine ac 0 [] 46 true (KJ sd wd) [J1,.h] [[1,75]] rfl ?_
 refine ca (dS 0 (fun _ _=>0) true false) [.h] (dU (n:=0) (Y:=(fun _ _=>0)) (ex:=true) (sty:=false) z9 (by decide)) (fun v' H' q=>?_)
 rcases q with ⟨e_1,rfl,hnx1,hq_1⟩
 refine ⟨(zi e_1),[],J2,(by kernel_rfl),(by rw [hnx1];kernel_rfl),trivial,(by kernel_rfl),?_⟩
 rcases ci e_1 (0) with ⟨b1,b1p⟩|⟨b1,b1p⟩
 ·refine fi 0 [(3,79,true)] 7 (a6 (Bool.not (c9 e_1 (0))) true) [] (zi (460)) [] .h (by (try simp only [b1,gS]);(try simp only [gT] at *);try omega) ?_
  exact ⟨_,rfl,rfl⟩
 refine fi 0 [(3,79,false)] 747 (a6 (Bool.not (Bool.not (c9 e_1 (0)))) true) [] (zi (0)) [] .h (by (try simp only [b1,gS]);(try simp only [gT] at *);try omega) ?_
 exact ⟨_,rfl,rfl⟩
def I5 (Y:Nat→Nat→Int) (oX oY:Int→Int→Int) (x y:Int) (P:Nat→Nat→Int) (j:Nat):Prop:=
 P j 0=Y j 0∧(Y j 0=4→P j 1=Y j 1∧P j 2=Y j 2)∧(Y j 0≠4→P j 1=oX (Y j 1) (Y j 2)+x * 16∧P j 2=oY (Y j 1) (Y j 2)+y * 16) ∧
   (Y j 0=3→P j 3=oX (Y j 3) (Y j 4)+x * 16∧P j 4=oY (Y j 3) (Y j 4)+y * 16∧P j 5=oX (Y j 5) (Y j 6)+x * 16∧P j 6=oY (Y j 5) (Y j 6)+y * 16) ∧
   (Y j 0≠3→P j 3=Y j 3∧P j 4=Y j 4∧P j 5=Y j 5∧P j 6=Y j 6)
def pA (z:Int):Prop:=-8192≤z∧z≤8192
def fP (Y P:Nat→Nat→Int) (j:Nat):Prop:=(Y j 0≠4→pA (P j 1)∧pA (P j 2))∧(Y j 0=3→pA (P j 3)∧pA (P j 4)∧pA (P j 5)∧pA (P j 6))
theorem Yt {Y:Nat→Nat→Int} {oX oY:Int→Int→Int} {x y:Int} {P:Nat→Nat→Int} {i j:Nat} {l:List Int} (h:j≠i) (hp:I5 Y oX oY x y P j):I5 Y oX oY x y (i2 P i l) j:=by
 unfold I5 at *;simp only [N1 _ _ _ h];exact hp
theorem Yu {Y P:Nat→Nat→Int} {i j:Nat} {l:List Int} (h:j≠i) (hp:fP Y P j):fP Y (i2 P i l) j:=by
 unfold fP at *;simp only [N1 _ _ _ h];exact hp
theorem SP {Y:Nat→Nat→Int} {oX oY:Int→Int→Int} {x y:Int} {P:Nat→Nat→Int} {i:Nat} (h:Y i 0=4):I5 Y oX oY x y (i2 P i [(Y i 0),(Y i 1),(Y i 2),(Y i 3),(Y i 4),(Y i 5),(Y i 6)]) i:=by
 unfold I5;simp only [x9]
 exact ⟨rfl,fun _=>⟨rfl,rfl⟩,fun k=>absurd h k,fun k=>absurd (h.symm.trans k) (by decide),fun _=>⟨rfl,rfl,rfl,rfl⟩⟩
theorem SQ {Y P:Nat→Nat→Int} {i:Nat} {l:List Int} (h:Y i 0=4):fP Y (i2 P i l) i:=⟨fun k=>absurd h k,fun k=>absurd (h.symm.trans k) (by decide)⟩
theorem xA {Y:Nat→Nat→Int} {oX oY:Int→Int→Int} {x y:Int} {P:Nat→Nat→Int} {i:Nat} (h:¬ Y i 0=4) (h3:¬ Y i 0=3):I5 Y oX oY x y (i2 P i [(Y i 0),(Int.add (oX (Y i 1) (Y i 2)) (Int.mul x (16))),(Int.add (oY (Y i 1) (Y i 2)) (Int.mul y (16))),(Y i 3),(Y i 4),(Y i 5),(Y i 6)]) i:=by
 unfold I5;simp only [x9]
 exact ⟨rfl,fun k=>absurd k h,fun _=>⟨rfl,rfl⟩,fun k=>absurd k h3,fun _=>⟨rfl,rfl,rfl,rfl⟩⟩
theorem SS {Y P:Nat→Nat→Int} {i:Nat} {k a b c d e f:Int} (h3:¬ Y i 0=3) (ha:pA a) (hb:pA b):fP Y (i2 P i [k,a,b,c,d,e,f]) i:=by
 unfold fP;simp only [x9]
 exact ⟨fun _=>⟨ha,hb⟩,fun k=>absurd k h3⟩
theorem xB {Y:Nat→Nat→Int} {oX oY:Int→Int→Int} {x y:Int} {P:Nat→Nat→Int} {i:Nat} (h3:Y i 0=3):I5 Y oX oY x y (i2 P i [(Y i 0),(Int.add (oX (Y i 1) (Y i 2)) (Int.mul x (16))),(Int.add (oY (Y i 1) (Y i 2)) (Int.mul y (16))),(Int.add (oX (Y i 3) (Y i 4)) (Int.mul x (16))),(Int.add (oY (Y i 3) (Y i 4)) (Int.mul y (16))),(Int.add (oX (Y i 5) (Y i 6)) (Int.mul x (16))),(Int.add (oY (Y i 5) (Y i 6)) (Int.mul y (16)))]) i:=by
 unfold I5;simp only [x9]
 exact ⟨rfl,fun k=>absurd (h3.symm.trans k) (by decide),fun _=>⟨rfl,rfl⟩,fun _=>⟨rfl,rfl,rfl,rfl⟩,fun k=>absurd h3 k⟩
theorem ST {Y P:Nat→Nat→Int} {i:Nat} {k a b c d e f:Int} (ha:pA a) (hb:pA b) (hc:pA c) (hd:pA d) (he:pA e) (hf:pA f):fP Y (i2 P i [k,a,b,c,d,e,f]) i:=by
 unfold fP;simp only [x9]
 exact ⟨fun _=>⟨ha,hb⟩,fun _=>⟨hc,hd,he,hf⟩⟩
theorem Fp {a b:Int} (h:Bool.not (f9 a b)=false):a≤b:=(n4 _ _).1 (by cases e:f9 a b <;> rw [e] at h <;> first|rfl|cases h)
def QP (n:Nat) (Y:Nat→Nat→Int) (oX oY:Int→Int→Int) (x y:Int) (k k1:Ps):AV→Hp→Prop:=fun v H =>
 (∃ e:Int,v=.tup [.nils,.int .i64 e]∧H.nx=k∧¬ e=0) ∨
 (∃ P,v=.tup [.sa k 0 n 7,.int .i64 0]∧H.nx=k1∧H.hp.get k=some (o7 n P true false)∧(∀ j,j < n→I5 Y oX oY x y P j)∧(∀ j,j < n→fP Y P j)∧Y2 n Y)
end Go.Proofs.Ytoahnefofelglaa.gm
end
