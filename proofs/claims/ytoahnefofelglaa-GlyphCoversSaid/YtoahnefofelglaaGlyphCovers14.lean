/- A part of the proof of GlyphCovers; no condition. -/
import Derived.Test.YtoahnefofelglaaGlyphCovers13
import Derived.Test.YtoahnefofelglaaGlyphCovers12
set_option linter.unusedVariables false
set_option linter.unusedSimpArgs false
set_option linter.unusedSectionVars false
noncomputable section
section
namespace Go.Proofs.Ytoahnefofelglaa.gm
open Go Go.AM
theorem gB (x y:Int):W5 0 0 0 0 x y=0:=by
 unfold W5 cQ
 rw [if_neg (by omega),if_neg (by omega)]
theorem kT (F:Nat→Nat→Int) (x y:Int):wn F 0 x y=0:=by
 show 0+W5 0 0 0 0 x y=0
 rw [gB];rfl
theorem M5 {n:Nat} {F:Nat→Nat→Int} (hok:u2 n F) (hn:0 < n):F 0 0=1:=by
 have h:=(hok.2 0 hn).2.2
 by_cases e:F 0 0=1
 ·exact e
 ·exact absurd rfl (h e)
theorem Ti {lx ly hx hy x y:Int} (ho:x < lx∨hx < x∨y < ly∨hy≤y):∃ g:Int→Int,∀ ax ay bx b:Int,(lx≤ax∧ax≤hx∧ly≤ay∧ay≤hy)→(lx≤bx∧bx≤hx∧ly≤b∧b≤hy)→W5 ax ay bx b x y=g b - g ay:=by
 have up:∀ ax ay bx b:Int,hx < x∨y < ly∨hy≤y→(lx≤ax∧ax≤hx∧ly≤ay∧ay≤hy)→(lx≤bx∧bx≤hx∧ly≤b∧b≤hy)→cQ ax ay bx b x y=0:=fun ax ay bx b h ha hb=>by
  unfold cQ
  refine if_neg (fun k=>?_)
  obtain ⟨k1,k2,k3⟩:=k
  rcases h with h|h|h
  ·have d1:(bx - ax) * (y - ay)≤(x - ax) * (y - ay):=Int.mul_le_mul_of_nonneg_right (by omega) (by omega)
   have d2:(x - ax) * (y - ay)≤(x - ax) * (b - ay):=Int.mul_le_mul_of_nonneg_left (by omega) (by omega)
   rw [Int.mul_comm (x - ax) (b - ay)] at d2
   omega
  ·omega
  ·omega
 have lf:∀ ax ay bx b:Int,x < lx→(lx≤ax∧ax≤hx∧ly≤ay∧ay≤hy)→(lx≤bx∧bx≤hx∧ly≤b∧b≤hy)→ay≤y→y < b→(b - ay) * (x - ax) < (bx - ax) * (y - ay):=fun ax ay bx b h ha hb h1 h2=>by
  have e:∀ D u dy v:Int,0≤u→u < dy→v < 0→v < D→dy * v < D * u:=fun D u dy v h1 h2 h3 h4=>by
   by_cases hD:0≤D
   ·have a1:0≤D * u:=Int.mul_nonneg hD h1
    have a2:dy * v≤1 * v:=Int.mul_le_mul_of_nonpos_right (by omega) (by omega)
    omega
   ·have a1:D * dy≤D * u:=Int.mul_le_mul_of_nonpos_left (by omega) (by omega)
    have a2:(v+1) * dy≤D * dy:=Int.mul_le_mul_of_nonneg_right (by omega) (by omega)
    rw [Int.add_mul,Int.one_mul,Int.mul_comm v dy] at a2
    omega
  exact e _ _ _ _ (by omega) (by omega) (by omega) (by omega)
 by_cases h:hx < x∨y < ly∨hy≤y
 ·refine ⟨fun _=>0,fun ax ay bx b ha hb=>?_⟩
  unfold W5
  split
  ·rw [up _ _ _ _ h hb ha];try rfl
  ·rw [up _ _ _ _ h ha hb];try rfl
 ·have hl:x < lx:=by omega
  refine ⟨fun z=>if y < z then 1 else 0,fun ax ay bx b ha hb=>?_⟩
  show W5 ax ay bx b x y=(if y < b then 1 else 0) - (if y < ay then 1 else 0)
  unfold W5 cQ
  by_cases h1:b < ay
  ·rw [if_pos h1]
   by_cases h2:b≤y∧y < ay
   ·rw [if_pos ⟨h2.1,h2.2,lf _ _ _ _ hl hb ha h2.1 h2.2⟩,if_neg (by omega),if_pos h2.2]
   ·rw [if_neg (fun k=>h2 ⟨k.1,k.2.1⟩)]
    split <;> split <;> omega
  ·rw [if_neg h1]
   by_cases h2:ay≤y∧y < b
   ·rw [if_pos ⟨h2.1,h2.2,lf _ _ _ _ hl ha hb h2.1 h2.2⟩,if_pos h2.2,if_neg (by omega)];rfl
   ·rw [if_neg (fun k=>h2 ⟨k.1,k.2.1⟩)]
    split <;> split <;> omega
theorem LY {F:Nat→Nat→Int} {N:Nat} {lx ly hx hy x y:Int} (hok:u2 N F) (hfl:∀ j,j < N→F j 0≠3) (hB:Ge F N lx ly hx hy) (ho:x < lx∨hx < x∨y < ly∨hy≤y):wn F N x y=0:=by
 obtain ⟨g,hg⟩:=Ti ho
 by_cases hN:N=0
 ·subst hN;exact kT F x y
 have hm:=M5 hok (by omega)
 have key:∀ i,i < N→(lx≤qX F (i+1)∧qX F (i+1)≤hx∧ly≤pE F (i+1)∧pE F (i+1)≤hy)∧(lx≤fX F (i+1)∧fX F (i+1)≤hx∧ly≤eA F (i+1)∧eA F (i+1)≤hy)∧Fz F x y (i+1)=g (eA F (i+1)) - g (pE F (i+1)):=by
  intro i
  induction i with
  | zero =>
    intro hi
    have b:=hB 0 hi (by omega)
    rw [Z7,Z8,Z9,aA,fY,if_pos hm,if_pos hm,if_pos (.inl hm),if_pos (.inl hm),if_neg (by omega)]
    refine ⟨b,b,?_⟩
    show 0+W5 0 0 0 0 x y=_
    rw [gB];omega
  | succ i ih =>
    intro hi
    obtain ⟨h1,h2,h3⟩:=ih (by omega)
    have hk:=(hok.2 (i+1) hi).1.1
    have h3':=hfl (i+1) hi
    rw [Z7 F (i+1),Z8 F (i+1),Z9 F (i+1),aA F (i+1),fY F x y (i+1)]
    rcases (show F (i+1) 0=1∨F (i+1) 0=2∨F (i+1) 0=4 by omega) with e|e|e
    ·have b:=hB (i+1) hi (by omega)
     rw [if_pos e,if_pos e,if_pos (.inl e),if_pos (.inl e),if_neg (by omega),hg _ _ _ _ h2 h1]
     exact ⟨b,b,by omega⟩
    ·have b:=hB (i+1) hi (by omega)
     rw [if_neg (by omega),if_neg (by omega),if_pos (.inr e),if_pos (.inr e),if_pos e,hg _ _ _ _ h2 b]
     exact ⟨h1,b,by omega⟩
    ·rw [if_neg (by omega),if_neg (by omega),if_neg (by omega),if_neg (by omega),if_neg (by omega),if_neg (by omega),if_neg (by omega),hg _ _ _ _ h2 h1]
     exact ⟨h1,h1,by omega⟩
 obtain ⟨h1,h2,h3⟩:=key (N - 1) (by omega)
 rw [show N - 1+1=N from by omega] at h1 h2 h3
 unfold wn
 rw [h3,hg _ _ _ _ h2 h1];omega
theorem iT (ax ay bx b x y dx dy:Int):W5 (ax+dx) (ay+dy) (bx+dx) (b+dy) (x+dx) (y+dy)=W5 ax ay bx b x y:=by
 unfold W5 cQ
 rw [show b+dy - (ay+dy)=b - ay by omega,show x+dx - (ax+dx)=x - ax by omega,show bx+dx - (ax+dx)=bx - ax by omega,show y+dy - (ay+dy)=y - ay by omega,
  show ay+dy - (b+dy)=ay - b by omega,show x+dx - (bx+dx)=x - bx by omega,show ax+dx - (bx+dx)=ax - bx by omega,show y+dy - (b+dy)=y - b by omega]
 simp only [Int.add_le_add_iff_right,Int.add_lt_add_iff_right]
def WF (F G:Nat→Nat→Int) (n:Nat) (dx dy:Int):Prop:=∀ j,j < n→G j 0=F j 0∧(F j 0≠4→G j 1=F j 1+dx∧G j 2=F j 2+dy)∧(F j 0=3→G j 3=F j 3+dx∧G j 4=F j 4+dy∧G j 5=F j 5+dx∧G j 6=F j 6+dy)
section
variable {F G:Nat→Nat→Int} {n:Nat} {dx dy:Int} (hok:u2 n F) (hs:WF F G n dx dy)
include hok hs
theorem gC:∀ i,i < n→(qX G (i+1)=qX F (i+1)+dx∧pE G (i+1)=pE F (i+1)+dy)∧(fX G (i+1)=fX F (i+1)+dx∧eA G (i+1)=eA F (i+1)+dy):=by
 intro i
 induction i with
 | zero =>
   intro hi
   have hm:=M5 hok hi
   obtain ⟨g0,g1,_⟩:=hs 0 hi
   have g1:=g1 (by omega)
   rw [Z7,Z7,Z8,Z8,Z9,Z9,aA,aA,g0,if_pos hm,if_pos hm,if_pos hm,if_pos hm,if_pos (.inl hm),if_pos (.inl hm),if_pos (.inl hm),if_pos (.inl hm)]
   exact ⟨g1,g1⟩
 | succ i ih =>
   intro hi
   obtain ⟨h1,h2⟩:=ih (by omega)
   obtain ⟨g0,g1,g3⟩:=hs (i+1) hi
   have hk:=(hok.2 (i+1) hi).1.1
   rw [Z7 G (i+1),Z7 F (i+1),Z8 G (i+1),Z8 F (i+1),Z9 G (i+1),Z9 F (i+1),aA G (i+1),aA F (i+1),g0]
   constructor
   ·split
    ·rename_i e;have:=g1 (by omega);omega
    ·omega
   ·split
    ·rename_i e;have:=g1 (by omega);omega
    ·split
     ·rename_i e;have:=g3 e;omega
     ·omega
theorem Tj (hfl:∀ j,j < n→F j 0≠3) (x y:Int):wn G n (x+dx) (y+dy)=wn F n x y:=by
 by_cases hN:n=0
 ·subst hN;rw [kT,kT]
 have hm:=M5 hok (by omega)
 have key:∀ i,i < n→Fz G (x+dx) (y+dy) (i+1)=Fz F x y (i+1):=by
  intro i
  induction i with
  | zero =>
    intro hi
    obtain ⟨g0,_,_⟩:=hs 0 hi
    rw [fY,fY,g0,if_neg (by omega),if_neg (by omega)]
    show 0+W5 0 0 0 0 _ _=0+W5 0 0 0 0 _ _
    rw [gB,gB]
  | succ i ih =>
    intro hi
    obtain ⟨h1,h2⟩:=gC hok hs i (by omega)
    obtain ⟨g0,g1,_⟩:=hs (i+1) hi
    rw [fY G _ _ (i+1),fY F _ _ (i+1),ih (by omega),g0,h1.1,h1.2,h2.1,h2.2]
    congr 1
    split
    ·rename_i e
     have:=g1 (by omega)
     rw [this.1,this.2,iT]
    ·rw [iT]
 obtain ⟨h1,h2⟩:=gC hok hs (n - 1) (by omega)
 have h3:=key (n - 1) (by omega)
 rw [show n - 1+1=n from by omega] at h1 h2 h3
 unfold wn
 rw [h3,h1.1,h1.2,h2.1,h2.2,iT]
theorem rB {i:Nat} (hi:i < n):N9 G i=N9 F i:=by
 obtain ⟨g0,g1,g3⟩:=hs i hi
 unfold N9
 rw [g0]
 split
 ·rename_i e
  have hi0:i≠0:=fun h=>by subst h;have:=M5 hok hi;omega
  obtain ⟨_,h2⟩:=gC hok hs (i - 1) (by omega)
  rw [show i - 1+1=i from by omega] at h2
  have g1:=g1 (by omega)
  have g3:=g3 e
  rw [h2.1,h2.2,g1.1,g1.2,g3.1,g3.2.1,g3.2.2.1,g3.2.2.2]
  unfold jX
  congr 2 <;> congr 1 <;> congr 1 <;> omega
 ·rfl
theorem cD:∀ i,i≤n→v8 G i=v8 F i
 | 0,_=>rfl
 | i+1,h=>by rw [O4,O4,cD i (by omega),rB hok hs (by omega)]
end
theorem rC {m j a b c e:Int} (hm:1≤m) (d:Int):Gc m j (a+d) (b+d) (c+d) (e+d)=Gc m j a b c e+d:=by
 have hs:=xG m j
 have hm3:1≤m * m * m:=by
  have p2:1 * 1≤m * m:=Int.mul_le_mul hm hm (by decide) (by omega)
  have p3:1 * 1≤m * m * m:=Int.mul_le_mul (by omega) hm (by decide) (by omega)
  omega
 unfold Gc Sx
 simp only [m8,j7] at *
 generalize (m - j) * (m - j) * (m - j)=x0 at *
 generalize 3 * (m - j) * (m - j) * j=x1 at *
 generalize 3 * (m - j) * j * j=x2 at *
 generalize j * j * j=x3 at *
 generalize m * m * m=y at *
 have e1:y+2 * x0 * (a+d)+2 * x1 * (b+d)+2 * x2 * (c+d)+2 * x3 * (e+d)=(y+2 * x0 * a+2 * x1 * b+2 * x2 * c+2 * x3 * e)+d * (2 * y):=by
  subst hs
  simp only [Int.mul_add,Int.add_mul,Int.mul_assoc,Int.mul_comm d]
  omega
 rw [e1,Int.add_mul_ediv_right _ _ (by omega)]
section
variable {P Q F G:Nat→Nat→Int} {n N:Nat} {dx dy:Int} (hok:u2 n P) (hs:WF P Q n dx dy) (hN:(N:Int)=v8 P n) (hF:z7 P F n) (hG:z7 Q G n)
include hok hs hN hF hG
theorem Cf:WF F G N dx dy:=fun j hj=>by
 obtain ⟨i,r,h1,h2,rfl⟩:=idx_of hN j hj
 have hc:=rB hok hs h1
 have ho:=cD hok hs i (by omega)
 obtain ⟨g0,g1,g3⟩:=hs i h1
 have G':=fun c Ut=>hG i h1 r (by rw [hc];exact h2) c Ut
 rw [ho] at G'
 have F':=fun c Ut=>hF i h1 r h2 c Ut
 rw [G' 0 (by omega),G' 1 (by omega),G' 2 (by omega),F' 0 (by omega),F' 1 (by omega),F' 2 (by omega)]
 have hk:=(hok.2 i h1).1.1
 by_cases e:P i 0=3
 ·have hi0:i≠0:=fun h=>by subst h;have:=M5 hok h1;omega
  obtain ⟨_,w2⟩:=gC hok hs (i - 1) (by omega)
  rw [show i - 1+1=i from by omega] at w2
  have g1:=g1 (by omega)
  have g3:=g3 e
  have hp:jX (fX Q i) (eA Q i) (Q i 1) (Q i 2) (Q i 3) (Q i 4) (Q i 5) (Q i 6)=jX (fX P i) (eA P i) (P i 1) (P i 2) (P i 3) (P i 4) (P i 5) (P i 6):=by
   unfold N9 at hc
   rw [if_pos (by omega),if_pos e] at hc
   exact hc
  have hb:=oA (fX P i) (eA P i) (P i 1) (P i 2) (P i 3) (P i 4) (P i 5) (P i 6)
  unfold iR
  rw [if_pos (by omega:Q i 0=3),if_pos (by omega:Q i 0=3),if_pos (by omega:Q i 0=3),if_pos e,if_pos e,if_pos e]
  refine ⟨rfl,fun _=>⟨?_,?_⟩,fun h=>by have h:(2:Int)=3:=h;omega⟩
  ·show Gc _ _ _ _ _ _=Gc _ _ _ _ _ _+dx
   rw [hp,w2.1,g1.1,g3.1,g3.2.2.1,rC hb.1]
  ·show Gc _ _ _ _ _ _=Gc _ _ _ _ _ _+dy
   rw [hp,w2.2,g1.2,g3.2.1,g3.2.2.2,rC hb.1]
 ·unfold iR
  rw [if_neg (by omega:¬ Q i 0=3),if_neg (by omega:¬ Q i 0=3),if_neg (by omega:¬ Q i 0=3),if_neg e,if_neg e,if_neg e]
  exact ⟨g0,g1,fun h=>absurd h e⟩
end
def Tk (kx:Int) (ky:Int) (kw:Int) (kh:Int) (l:List Nat) (a:Int) (b:Int):St:=⟨o4 (d9 En 12 [(.agg [(zi kx),(zi ky),(zi kw),(zi kh),(.str l)]),(zi a),(zi b)] false),[],[],.h,0⟩
theorem TX (kx:Int) (ky:Int) (kw:Int) (kh:Int) (l:List Nat) (a:Int) (b:Int):d9 En 12 [(.agg [(zi kx),(zi ky),(zi kw),(zi kh),(.str l)]),(zi a),(zi b)] false=some (Tk kx ky kw kh l a b).f:=by kernel_rfl
abbrev yG (b ky kw a kx:Int):Int:=(Int.add (Int.mul (Int.sub b ky) kw) (Int.sub a kx))
abbrev jZ (a kx b ky:Int):Bool:=(a6 (a6 (a6 (f8 (Int.sub a kx)) (a6 (f8 (Int.sub b ky)) true)) (a6 (a6 (c9 ky ky) true) (a6 (a6 (c9 kx kx) true) true))) true)
abbrev Uw (a kx:Int) (zz:Bool):Bool:=(a6 (Bool.not (i4 (Int.sub a kx) (0))) zz)
abbrev Ju (b ky:Int) (zz:Bool):Bool:=(a6 (Bool.not (i4 (Int.sub b ky) (0))) zz)
abbrev WG (kh b ky kw a kx:Int) (zz:Bool):Bool:=(a6 (Bool.not (f9 kh (Int.sub b ky))) (a6 (a6 (f8 (Int.mul (Int.sub b ky) kw)) (a6 (f8 (yG b ky kw a kx)) true)) zz))
def S6 (kx ky kw kh:Int) (l:List Nat) (a b:Int):Bool:=decide (0≤a - kx∧0≤b - ky∧a - kx < kw∧b - ky < kh∧(b - ky) * kw+(a - kx) < (y8 l:Int)∧jS l ((b - ky) * kw+(a - kx)).toNat=35)
theorem xI {kx ky kw kh a b:Int} {l:List Nat} (h:¬ (0≤a - kx∧0≤b - ky∧a - kx < kw∧b - ky < kh∧(b - ky) * kw+(a - kx) < (y8 l:Int)∧jS l ((b - ky) * kw+(a - kx)).toNat=35)):false=S6 kx ky kw kh l a b:=
 (decide_eq_false h).symm
theorem TY {kx ky kw kh a b:Int} {l:List Nat} (h:0≤a - kx∧0≤b - ky∧a - kx < kw∧b - ky < kh∧(b - ky) * kw+(a - kx) < (y8 l:Int)) :
 Nat.beq (jS l (Int.toNat (Int.add (Int.mul (Int.sub b ky) kw) (Int.sub a kx)))) 35=S6 kx ky kw kh l a b:=by
 unfold S6
 rw [i9]
 exact decide_eq_decide.2 ⟨fun e=>⟨h.1,h.2.1,h.2.2.1,h.2.2.2.1,h.2.2.2.2,e⟩,fun e=>e.2.2.2.2.2⟩
def ZU (kx ky kw kh:Int) (l:List Nat) (a b:Int):AV→Hp→Prop:=fun v H=>∃ c:Bool,v=.bool c∧H.nx=.h∧c=S6 kx ky kw kh l a b
theorem LZ {kx ky kw kh a b:Int} {l:List Nat} (hkx : -2000≤kx∧kx≤2000) (hky : -2000≤ky∧ky≤2000) (ha : -2000≤a∧a≤2000) (hb : -2000≤b∧b≤2000) (hkw:0≤kw∧kw≤256) (hkh:0≤kh∧kh≤256):a7 En 0 (Tk kx ky kw kh l a b) (ZU kx ky kw kh l a b):=by
 have m1 : -(4000 * 256)≤Int.mul (Int.sub b ky) kw∧Int.mul (Int.sub b ky) kw≤4000 * 256:=fZ (by simp only [j7];omega) (by omega)
 have hl:=x4 l
 have m2:0≤b - ky→0≤Int.mul (Int.sub b ky) kw:=fun h=>Int.mul_nonneg h hkw.1
 rcases ct (Int.sub a kx) (0) with ⟨b1,b1p⟩|⟨b1,b1p⟩
 ·rcases ct (Int.sub b ky) (0) with ⟨b2,b2p⟩|⟨b2,b2p⟩
  ·rcases cl kw (Int.sub a kx) with ⟨b3,b3p⟩|⟨b3,b3p⟩
   ·rcases cl kh (Int.sub b ky) with ⟨b4,b4p⟩|⟨b4,b4p⟩
    ·rcases cl (.ofNat (List.length l)) (Int.add (Int.mul (Int.sub b ky) kw) (Int.sub a kx)) with ⟨b5,b5p⟩|⟨b5,b5p⟩
     ·refine A5 s9 0 [(13,19,false),(4,23,false),(6,29,false),(6,35,false),(12,46,false)] 18 ((a6 (jZ a kx b ky) (Uw a kx (Ju b ky (a6 (Bool.not (f9 kw (Int.sub a kx))) (WG kh b ky kw a kx (a6 (Bool.not (f9 (.ofNat (List.length l)) (yG b ky kw a kx))) (a6 (f8 (Int.mul (Int.sub b ky) kw)) (a6 (f8 (yG b ky kw a kx)) (a6 (a6 (a6 (f9 (0) (yG b ky kw a kx)) (Nat.ble (Nat.succ (Int.toNat (yG b ky kw a kx))) (y8 l))) true) true)))))))))) [] (.bool (Nat.beq (jS l (Int.toNat (Int.add (Int.mul (Int.sub b ky) kw) (Int.sub a kx)))) 35)) [] .h (by (try simp only [b1,b2,b3,b4,b5,gS,yG,jZ,Uw,Ju,WG]);(try simp only [gT] at *);try omega) ?_
      exact ⟨_,rfl,rfl,TY (by simp only [j7,m8,j8,Bk] at *;omega)⟩
     refine A5 s9 0 [(13,19,false),(4,23,false),(6,29,false),(6,35,false),(12,46,true)] 7 ((a6 (jZ a kx b ky) (Uw a kx (Ju b ky (a6 (Bool.not (f9 kw (Int.sub a kx))) (WG kh b ky kw a kx (a6 (f9 (.ofNat (List.length l)) (yG b ky kw a kx)) true))))))) [] (.bool false) [] .h (by (try simp only [b1,b2,b3,b4,b5,gS,yG,jZ,Uw,Ju,WG]);(try simp only [gT] at *);try omega) ?_
     exact ⟨_,rfl,rfl,xI (fun h=>by simp only [j7,m8,j8,Bk] at *;omega)⟩
    refine A5 s9 0 [(13,19,false),(4,23,false),(6,29,false),(6,35,true)] 19 ((a6 (jZ a kx b ky) (Uw a kx (Ju b ky (a6 (Bool.not (f9 kw (Int.sub a kx))) (a6 (f9 kh (Int.sub b ky)) true)))))) [] (.bool false) [] .h (by (try simp only [b1,b2,b3,b4,gS,jZ,Uw,Ju]);(try simp only [gT] at *);try omega) ?_
    exact ⟨_,rfl,rfl,xI (fun h=>by simp only [j7,m8,j8,Bk] at *;omega)⟩
   refine A5 s9 0 [(13,19,false),(4,23,false),(6,29,true)] 25 ((a6 (jZ a kx b ky) (Uw a kx (Ju b ky (a6 (f9 kw (Int.sub a kx)) true))))) [] (.bool false) [] .h (by (try simp only [b1,b2,b3,gS,jZ,Uw,Ju]);(try simp only [gT] at *);try omega) ?_
   exact ⟨_,rfl,rfl,xI (fun h=>by simp only [j7,m8,j8,Bk] at *;omega)⟩
  refine A5 s9 0 [(13,19,false),(4,23,true)] 31 ((a6 (jZ a kx b ky) (Uw a kx (a6 (i4 (Int.sub b ky) (0)) true)))) [] (.bool false) [] .h (by (try simp only [b1,b2,gS,jZ,Uw]);(try simp only [gT] at *);try omega) ?_
  exact ⟨_,rfl,rfl,xI (fun h=>by simp only [j7,m8,j8,Bk] at *;omega)⟩
 refine A5 s9 0 [(13,19,true)] 35 ((a6 (jZ a kx b ky) (a6 (i4 (Int.sub a kx) (0)) true))) [] (.bool false) [] .h (by (try simp only [b1,gS,jZ]);(try simp only [gT] at *);try omega) ?_
 exact ⟨_,rfl,rfl,xI (fun h=>by simp only [j7,m8,j8,Bk] at *;omega)⟩
theorem xJ {x:AV} {m:Nat} (hx:Mk x=some m):∀ {l:List AV} {r:List Nat},pS l=some r→pS (l++[x])=some (r++[m])
 | [],r,h=>by
   cases h
   show (Option.rec none (fun n=>Option.rec none (fun t=>some (n::t)) (pS [])) (Mk x):Option (List Nat))=_
   rw [hx];rfl
 | y :: l,r,h=>by
   have h':(Option.rec none (fun n=>Option.rec none (fun t=>some (n::t)) (pS l)) (Mk y):Option (List Nat))=some r:=h
   show (Option.rec none (fun n=>Option.rec none (fun t=>some (n::t)) (pS (l++[x]))) (Mk y):Option (List Nat))=_
   cases hy:Mk y with
   | none=>rw [hy] at h';cases h'
   | some b =>
     rw [hy] at h'
     have h':(Option.rec none (fun t=>some (b::t)) (pS l):Option (List Nat))=some r:=h'
     cases hl:pS l with
     | none=>rw [hl] at h';cases h'
     | some t =>
       rw [hl] at h';cases h'
       rw [xJ hx hl];rfl
theorem MA {z:Int} (h:0≤z∧z≤255):Mk (.int .u8 z)=some z.toNat:=by
 obtain ⟨m,rfl⟩:∃ m:Nat,z=Int.ofNat m:=⟨z.toNat,by show z=(z.toNat:Int);omega⟩
 have:Nat.blt m 256=true:=by rw [f6];exact decide_eq_true (by have:(m:Int)≤255:=h.2;omega)
 show (Bool.rec none (some m) (Nat.blt m 256):Option Nat)=_
 rw [this];rfl
theorem oH {B:Nat→Nat→Int} (hB:∀ j k,0≤B j k∧B j k≤255):∀ n,pS (i7 (a8 [.u8] B) n)=some ((List.range n).map fun j=>(B j 0).toNat)
 | 0=>rfl
 | n+1=>by
   rw [List.range_succ,List.map_append]
   exact xJ (MA (hB n 0)) (oH hB n)
section
variable {B:Nat→Nat→Int} (hB:∀ j k,0≤B j k∧B j k≤255)
include hB
theorem MB (n:Nat):QS n (a8 [.u8] B)=true:=by unfold QS;rw [oH hB n]
theorem Tl (n:Nat):CZ n (a8 [.u8] B)=(List.range n).map fun j=>(B j 0).toNat:=by unfold CZ;rw [oH hB n]
theorem BX (n:Nat):y8 (CZ n (a8 [.u8] B))=n:=by rw [x4,Tl hB];simp
theorem MC {n j:Nat} (hj:j < n):jS (CZ n (a8 [.u8] B)) j=(B j 0).toNat:=by
 unfold jS
 rw [H8,Tl hB,List.getElem?_map,List.getElem?_range hj]
 rfl
end
def MD (kx kw:Int) (j:Nat):Int:=Int.add (Int.mul (Int.add kx (Int.tmod (Int.ofNat j) kw)) 16) 8
def ME (ky kw:Int) (j:Nat):Int:=Int.add (Int.mul (Int.add ky (Int.tdiv (Int.ofNat j) kw)) 16) 8
def Cg (F:Nat→Nat→Int) (N:Nat) (kx ky kw:Int) (j:Nat):Nat:=Bool.rec 46 35 (S5 F N (MD kx kw j) (ME ky kw j))
theorem ZC {j:Nat} {k:Int} (hk:1≤k):0≤Int.tmod (Int.ofNat j) k∧Int.tmod (Int.ofNat j) k < k:=by
 rw [Int.tmod_eq_emod_of_nonneg (show (0:Int)≤Int.ofNat j from Int.natCast_nonneg j)]
 exact ⟨Int.emod_nonneg _ (by omega),Int.emod_lt_of_pos _ (by omega)⟩
theorem ZD {j:Nat} {k h:Int} (hk:1≤k) (hj:Int.ofNat j < Int.mul k h):0≤Int.tdiv (Int.ofNat j) k∧Int.tdiv (Int.ofNat j) k < h:=by
 have hj0:(0:Int)≤Int.ofNat j:=Int.natCast_nonneg j
 rw [Int.tdiv_eq_ediv_of_nonneg hj0]
 refine ⟨Int.ediv_nonneg hj0 (by omega),Int.ediv_lt_of_lt_mul (by omega) ?_⟩
 rw [Int.mul_comm];exact hj
theorem BY {F:Nat→Nat→Int} {N:Nat} {lx ly hx hy kx ky kw kh:Int} {l:List Nat} (hok:u2 N F) (hfl:∀ j,j < N→F j 0≠3) (hB:Ge F N lx ly hx hy) (ekx:kx=lx / 16) (eky:ky=ly / 16) (ekw:kw=hx / 16 - lx / 16+1) (ekh:kh=hy / 16 - ly / 16+1)
 (hkw:1≤kw) (hl:(y8 l:Int)=kw * kh) (hb:∀ j:Nat,(j:Int) < kw * kh→jS l j=Cg F N kx ky kw j) (a b:Int):S6 kx ky kw kh l a b=S5 F N (16 * a+8) (16 * b+8):=by
 by_cases h:0≤a - kx∧0≤b - ky∧a - kx < kw∧b - ky < kh
 ·obtain ⟨h1,h2,h3,h4⟩:=h
  have m1:0≤(b - ky) * kw:=Int.mul_nonneg h2 (by omega)
  have m2:(b - ky+1) * kw≤kh * kw:=Int.mul_le_mul_of_nonneg_right (by omega) (by omega)
  rw [Int.add_mul,Int.one_mul,Int.mul_comm kh kw] at m2
  have hidx:(b - ky) * kw+(a - kx) < kw * kh:=by omega
  have hz:Int.ofNat ((b - ky) * kw+(a - kx)).toNat=(b - ky) * kw+(a - kx):=by show (((b - ky) * kw+(a - kx)).toNat:Int)=_;omega
  have e1:Int.tmod (Int.ofNat ((b - ky) * kw+(a - kx)).toNat) kw=a - kx:=by
   rw [hz,Int.tmod_eq_emod_of_nonneg (by omega),Int.add_comm,Int.add_mul_emod_self_right,Int.emod_eq_of_lt h1 h3]
  have e2:Int.tdiv (Int.ofNat ((b - ky) * kw+(a - kx)).toNat) kw=b - ky:=by
   rw [hz,Int.tdiv_eq_ediv_of_nonneg (by omega),Int.add_comm,Int.add_mul_ediv_right _ _ (by omega),Int.ediv_eq_zero_of_lt h1 h3];omega
  have hv:=hb ((b - ky) * kw+(a - kx)).toNat (by omega)
  have ex:MD kx kw ((b - ky) * kw+(a - kx)).toNat=16 * a+8:=by unfold MD;rw [e1];simp only [j8,m8];omega
  have ey:ME ky kw ((b - ky) * kw+(a - kx)).toNat=16 * b+8:=by unfold ME;rw [e2];simp only [j8,m8];omega
  unfold Cg at hv
  rw [ex,ey] at hv
  unfold S6
  cases hi:S5 F N (16 * a+8) (16 * b+8) with
  | true=>rw [hi] at hv;exact decide_eq_true ⟨h1,h2,h3,h4,by omega,hv⟩
  | false=>rw [hi] at hv;exact decide_eq_false (fun k=>by have:=k.2.2.2.2.2;rw [hv] at this;exact absurd this (by decide))
 ·have hi:S5 F N (16 * a+8) (16 * b+8)=false:=by
   unfold S5
   rw [LY hok hfl hB (by omega)];rfl
  rw [hi]
  exact decide_eq_false (fun k=>h ⟨k.1,k.2.1,k.2.2.1,k.2.2.2.1⟩)
theorem Tn (a b:Int):S6 0 0 0 0 [] a b=false:=decide_eq_false (fun k=>by have:=k.1;have:=k.2.2.1;omega)
theorem To (F:Nat→Nat→Int) (x y:Int):S5 F 0 x y=false:=by unfold S5;rw [kT];rfl
def dZ (n:Nat) (Y:Nat→Nat→Int) (oX oY:Int→Int→Int):AV→Hp→Prop:=fun v H =>
 (∃ e:Int,v=.tup [.agg [.int .i64 0,.int .i64 0,.int .i64 0,.int .i64 0,.str []],.int .i64 e]∧H.nx=.i .h∧c9 e 0=false) ∨
 (∃ (kx ky kw kh:Int) (l:List Nat),v=.tup [.agg [.int .i64 kx,.int .i64 ky,.int .i64 kw,.int .i64 kh,.str l],.int .i64 0]∧H.nx=.i .h∧((-512≤kx∧kx≤512)∧(-512≤ky∧ky≤512)∧(0≤kw∧kw≤256)∧(0≤kh∧kh≤256)) ∧
  ∃ (P:Nat→Nat→Int) (N:Nat) (F:Nat→Nat→Int),u2 n P∧(∀ j,j < n→I5 Y oX oY 0 0 P j)∧(N:Int)=v8 P n∧N≤300∧z7 P F n∧(∀ j k,-8192≤F j k∧F j k≤8192)∧∀ a b,S6 kx ky kw kh l a b=S5 F N (16 * a+8) (16 * b+8))
section
variable (n:Nat) (Y:Nat→Nat→Int) (ex sty:Bool) (sd wd:Int) (m:Nat) (V:Nat→Bool) (S:Nat→Nat→Int) (sex ssty:Bool) (mA mB mC mD mE mF e_1:Int) (P_1 P:Nat→Nat→Int) (e_2:Int) (P_2:Nat→Nat→Int) (e_3:Int) (P_3:Nat→Nat→Int) (e_4:Int) (P_4:Nat→Nat→Int) (N_5:Nat) (F_5:Nat→Nat→Int) (oe_5:Bool) (lx_6 ly_6 hx_6 hy_6:Int) (N:Nat) (F:Nat→Nat→Int) (oe:Bool) (kx ky kw kh:Int) (mm:Nat) (B:Nat→Nat→Int) (be:Bool)
def FN:St:=⟨o4 (d9 En 8 [(.agg [(zi sd),(zi wd),(.sa .h 0 n 7),(.sa J1 0 m 3)]),(az [mA,mB,mC,mD,mE,mF])] false),[],(zs [(o7 n Y ex sty),(o3 m V S sex ssty)]),J2,2⟩
def FO:St:=⟨o4 (d9 En 8 [(.agg [(zi sd),(zi wd),(.sa .h 0 n 7),.nils]),(az [mA,mB,mC,mD,mE,mF])] false),[],[(.h,(o7 n Y ex sty))],J2,2⟩
def FP:St:=⟨o4 (d9 En 8 [(.agg [(zi sd),(zi wd),.nils,(.sa .h 0 m 3)]),(az [mA,mB,mC,mD,mE,mF])] false),[],[(.h,(o3 m V S sex ssty))],J2,2⟩
def FQ:St:=⟨o4 (d9 En 8 [(.agg [(zi sd),(zi wd),.nils,.nils]),(az [mA,mB,mC,mD,mE,mF])] false),[],[],J2,2⟩
def TZ:St:=⟨cf (P5 n Y ex sty sd wd m V S sex ssty mA mB mC mD mE mF (0) (0)) J4 [.h,J1],[(fr 8 108 (ts [4,5,12,13,14,15,84,85,86,87,88,89,90,91,92,93,94,95,96,97,98,99,100,101,102,103,104] [.ptr J2 0,.ptr J3 0,.tup [],.tup [],.tup [],.tup [],.tup [],.tup [],.tup [],.tup [],.tup [],.tup [],.tup [],.tup [],.tup [],.tup [],.tup [],.tup [],.tup [],.tup [],.tup [],.tup [],.tup [],.tup [],.tup [],.tup [],.tup []]) [rA En 8 (pb 6) 2,cA En 8 (pb 7)])],(zs [(o7 n Y ex sty),(o3 m V S sex ssty),(ce 42 [(zi (0)),(zi (0)),(zi (0)),(zi (0)),(.str [])]),(zc 43 [0])]),J4,2⟩
def Tp:St:=⟨(fr 8 108 (ts [4,5,6,12,13,14,15,84,85,86,87,88,89,90,91,92,93,94,95,96,97,98,99,100,101,102,103,104] [.ptr J2 0,.ptr J3 0,.ptr J4 0,.tup [],.tup [],.tup [],.tup [],.tup [],.tup [],.tup [],.tup [],.tup [],.tup [],.tup [],.tup [],.tup [],.tup [],.tup [],.tup [],.tup [],.tup [],.tup [],.tup [],.tup [],.tup [],.tup [],.tup [],.tup []]) [cA En 8 (pb 60),cA En 8 (pb 61),cA En 8 (pb 31)]),[],[(J2,(ce 42 [(zi (0)),(zi (0)),(zi (0)),(zi (0)),(.str [])])),(J3,(zc 43 [0])),(J4,(ce 33 [(.sa J5 0 n 7)])),(J5,(o7 n P true false))],J6,2⟩
def UA:St:=⟨cf (K8 n Y ex sty sd wd mA mB mC mD mE mF (0) (0)) J4 [.h],[(fr 8 108 (ts [4,5,12,13,14,15,84,85,86,87,88,89,90,91,92,93,94,95,96,97,98,99,100,101,102,103,104] [.ptr J2 0,.ptr J3 0,.tup [],.tup [],.tup [],.tup [],.tup [],.tup [],.tup [],.tup [],.tup [],.tup [],.tup [],.tup [],.tup [],.tup [],.tup [],.tup [],.tup [],.tup [],.tup [],.tup [],.tup [],.tup [],.tup [],.tup [],.tup []]) [rA En 8 (pb 6) 2,cA En 8 (pb 7)])],[(.h,(o7 n Y ex sty)),(J2,(ce 42 [(zi (0)),(zi (0)),(zi (0)),(zi (0)),(.str [])])),(J3,(zc 43 [0]))],J4,2⟩
def UB:St:=⟨cf (D9 sd wd m V S sex ssty mA mB mC mD mE mF (0) (0)) J4 [.h],[(fr 8 108 (ts [4,5,12,13,14,15,84,85,86,87,88,89,90,91,92,93,94,95,96,97,98,99,100,101,102,103,104] [.ptr J2 0,.ptr J3 0,.tup [],.tup [],.tup [],.tup [],.tup [],.tup [],.tup [],.tup [],.tup [],.tup [],.tup [],.tup [],.tup [],.tup [],.tup [],.tup [],.tup [],.tup [],.tup [],.tup [],.tup [],.tup [],.tup [],.tup [],.tup []]) [rA En 8 (pb 6) 2,cA En 8 (pb 7)])],[(.h,(o3 m V S sex ssty)),(J2,(ce 42 [(zi (0)),(zi (0)),(zi (0)),(zi (0)),(.str [])])),(J3,(zc 43 [0]))],J4,2⟩
def UC:St:=⟨cf (z6 sd wd mA mB mC mD mE mF (0) (0)) J4 [],[(fr 8 108 (ts [4,5,12,13,14,15,84,85,86,87,88,89,90,91,92,93,94,95,96,97,98,99,100,101,102,103,104] [.ptr J2 0,.ptr J3 0,.tup [],.tup [],.tup [],.tup [],.tup [],.tup [],.tup [],.tup [],.tup [],.tup [],.tup [],.tup [],.tup [],.tup [],.tup [],.tup [],.tup [],.tup [],.tup [],.tup [],.tup [],.tup [],.tup [],.tup [],.tup []]) [rA En 8 (pb 6) 2,cA En 8 (pb 7)])],[(J2,(ce 42 [(zi (0)),(zi (0)),(zi (0)),(zi (0)),(.str [])])),(J3,(zc 43 [0]))],J4,2⟩
def UD:St:=⟨cf (Cc n P true false) J6 [J2],[(fr 8 108 (ts [4,5,6,12,13,14,15,84,85,86,87,88,89,90,91,92,93,94,95,96,97,98,99,100,101,102,103,104] [.ptr J3 0,.ptr J4 0,.ptr J5 0,.tup [],.tup [],.tup [],.tup [],.tup [],.tup [],.tup [],.tup [],.tup [],.tup [],.tup [],.tup [],.tup [],.tup [],.tup [],.tup [],.tup [],.tup [],.tup [],.tup [],.tup [],.tup [],.tup [],.tup [],.tup []]) [rA En 8 (pb 60) 1,cA En 8 (pb 61),cA En 8 (pb 31)])],[(J2,(o7 n P true false)),(J3,(ce 42 [(zi (0)),(zi (0)),(zi (0)),(zi (0)),(.str [])])),(J4,(zc 43 [0])),(J5,(ce 33 [(.sa J2 0 n 7)]))],J6,2⟩
def UE:St:=⟨cf (LQ N_5 F_5 oe_5 false) J6 [J2],[(fr 8 108 (ts [4,5,6,12,13,14,15,84,85,86,87,88,89,90,91,92,93,94,95,96,97,98,99,100,101,102,103,104] [.ptr J3 0,.ptr J4 0,.ptr J5 0,.tup [],.tup [],.tup [],.tup [],.tup [],.tup [],.tup [],.tup [],.tup [],.tup [],.tup [],.tup [],.tup [],.tup [],.tup [],.tup [],.tup [],.tup [],.tup [],.tup [],.tup [],.tup [],.tup [],.tup [],.tup []]) [rA En 8 (pb 62) 1,cA En 8 (pb 63)])],[(J2,(o7 N_5 F_5 oe_5 false)),(J3,(ce 42 [(zi (0)),(zi (0)),(zi (0)),(zi (0)),(.str [])])),(J4,(zc 43 [0])),(J5,(ce 33 [(.sa J2 0 N_5 7)]))],J6,2⟩
def UF:St:=⟨(fr 39 30 (ts [0,1,8,9] [.yl J2,.ptr J3 0,zi (Int.mul kw kh),zi (0)]) [cA En 39 (pb 12),lA En 39 (pb 12),.blk 0]),[⟨8,108,(ts [4,5,10,11] [.ptr J4 0,.ptr J5 0,.ptr J6 0,.ptr J7 0]),[.inRF J2,.blk 0,cA En 8 (pb 4095)],[.mark J8],.run,false,false,none⟩],[(J2,(.loop .ready (none) 8 108 (ts [4,5,6,10,11,84,85] [.ptr J4 0,.ptr J5 0,.ptr J9 0,.ptr J6 0,.ptr J7 0,.tup [],.tup []]) [84,85] (U3 (A8 En 8) [1,1,1,1,1,1,1,1,1,1,0,1,0,0]) (U3 (A8 En 8) [1,1,1,1,1,1,1,1,1,1,0,1,0,1]) J8)),(J3,(ce 42 [(zi kx),(zi ky),(zi kw),(zi kh),(.str [])])),(J4,(ce 42 [(zi (0)),(zi (0)),(zi (0)),(zi (0)),(.str [])])),(J5,(zc 43 [0])),(J6,(ce 42 [(zi kx),(zi ky),(zi kw),(zi kh),(.str [])])),(J7,(ce 79 [.nilp,.nils])),(J8,(.dfr false)),(J9,(ce 33 [(.sa nQ 0 N 7)])),(nQ,(o7 N F oe false))],Ko,2⟩
def Jv:St:=⟨(fr 39 30 (ts [0,1,8,9] [.yl J2,.ptr J3 0,zi (Int.mul kw kh),zn (Nat.succ mm)]) [cA En 39 (pb 12),lA En 39 (pb 12),.blk 0]),[⟨8,108,(ts [4,5,10,11] [.ptr J4 0,.ptr J5 0,.ptr J6 0,.ptr J7 0]),[.inRF J2,.blk 0,cA En 8 (pb 4095)],[.mark J8],.run,false,false,none⟩],[(J2,(.loop .ready (none) 8 108 (ts [4,5,6,10,11,84,85] [.ptr J4 0,.ptr J5 0,.ptr J9 0,.ptr J6 0,.ptr J7 0,.tup [],.tup []]) [84,85] (U3 (A8 En 8) [1,1,1,1,1,1,1,1,1,1,0,1,0,0]) (U3 (A8 En 8) [1,1,1,1,1,1,1,1,1,1,0,1,0,1]) J8)),(J3,(ce 42 [(zi kx),(zi ky),(zi kw),(zi kh),(.str [])])),(J4,(ce 42 [(zi (0)),(zi (0)),(zi (0)),(zi (0)),(.str [])])),(J5,(zc 43 [0])),(J6,(ce 42 [(zi kx),(zi ky),(zi kw),(zi kh),(.str [])])),(J7,(ce 79 [(.ptr J7 0),(.sa nQ 0 (Nat.succ mm) 1)])),(J8,(.dfr false)),(J9,(ce 33 [(.sa Ko 0 N 7)])),(nQ,(.arr (Nat.succ mm) 1 (a8 [.u8] B) none 5 be false)),(Ko,(o7 N F oe false))],ON,2⟩
end
abbrev Kt (kw:Int):Bool:=(Bool.not (c9 kw (0)))
abbrev PF (kx kw:Int):Int:=(Int.add (Int.mul (Int.add kx (Int.tmod (0) kw)) (16)) (8))
abbrev PG (ky kw:Int):Int:=(Int.add (Int.mul (Int.add ky (Int.tdiv (0) kw)) (16)) (8))
abbrev FS (kw ky kx:Int):Bool:=(a6 (a6 (c9 kw kw) true) (a6 (a6 (c9 ky ky) true) (a6 (a6 (c9 kw kw) true) (a6 (a6 (c9 kx kx) true) true))))
abbrev PH (lx_6 ly_6:Int):Bool:=(a6 (a6 (f8 lx_6) (a6 (f8 ly_6) true)) (a6 (a6 (c9 ly_6 ly_6) (a6 (c9 ly_6 ly_6) true)) (a6 (a6 (c9 lx_6 lx_6) true) true)))
abbrev WH (kx kw ky:Int):Bool:=(a6 (a6 (f9 (-16384) (PF kx kw)) (f9 (PF kx kw) (16384))) (a6 (a6 (f9 (-16384) (PG ky kw)) (f9 (PG ky kw) (16384))) true))
theorem Gf {a b:Int} (ha:1≤a∧a≤256) (hb:1≤b∧b≤256):1≤Int.mul a b∧Int.mul a b≤65536:=by
 have h1:=S4 (a:=a) (b:=b) (A:=256) (B:=256) (by omega) (by omega)
 have h2:1 * 1≤a * b:=Int.mul_le_mul ha.1 hb.1 (by decide) (by omega)
 exact ⟨by show 1≤a * b;omega,h1.2⟩
theorem Ch {z:Int} (h:0≤z∧z≤255):∀ j k:Nat,0≤(fun (_ kk:Nat)=>List.getD [z] kk 0) j k∧(fun (_ kk:Nat)=>List.getD [z] kk 0) j k≤255:=fun _ k=>by
 match k with
 | 0=>exact h
 | k+1=>exact ⟨Int.le_refl 0,(by decide:(0:Int)≤255)⟩
theorem UG {B:Nat→Nat→Int} (hB:∀ j k,0≤B j k∧B j k≤255) {z:Int} (h:0≤z∧z≤255) (i:Nat):∀ j k,0≤i2 B i [z] j k∧i2 B i [z] j k≤255:=fun j k=>by
 by_cases e:j=i
 ·subst e;rw [x9];exact Ch h 0 k
 rw [N1 _ _ _ e];exact hB j k
section
variable {n:Nat} {Y:Nat→Nat→Int} {ex:Bool} {sty:Bool} {sd:Int} {wd:Int} {m:Nat} {V:Nat→Bool} {S:Nat→Nat→Int} {sex:Bool} {ssty:Bool} {mA:Int} {mB:Int} {mC:Int} {mD:Int} {mE:Int} {mF:Int} {N:Nat} {F:Nat→Nat→Int} {oe:Bool} {kx ky kw kh:Int} {Q:AV→Hp→Prop} (hN:N≤300) (hF:∀ j k,-8192≤F j k∧F j k≤8192) (hok:u2 N F) (hfl:∀ j,j < N→F j 0≠3) (hkx : -512≤kx∧kx≤512) (hky : -512≤ky∧ky≤512) (hkw:1≤kw∧kw≤256) (hkh:1≤kh∧kh≤256) (hxw:kx+kw≤513) (hyh:ky+kh≤513) (hfin:∀ (l:List Nat) (H:Hp),(y8 l:Int)=kw * kh→(∀ j:Nat,(j:Int) < kw * kh→jS l j=Cg F N kx ky kw j)→H.nx=.i .h→Q (.tup [.agg [.int .i64 kx,.int .i64 ky,.int .i64 kw,.int .i64 kh,.str l],.int .i64 0]) H)
include hN hF hok hfl hkx hky hkw hkh hxw hyh hfin
theorem Tq (d:Nat):∀ (mm:Nat) (B:Nat→Nat→Int) (be:Bool),(kw * kh - mm).toNat=d→(mm:Int)+1≤kw * kh→(∀ j k,0≤B j k∧B j k≤255)→(∀ j,j < mm+1→(B j 0).toNat=Cg F N kx ky kw j)→a7 En 2 (Jv N F oe kx ky kw kh mm B be) Q:=by
 have hpo:K9 N (a8 R7 F)=true:=oD hN (fun j k=>by have:=hF j k;omega) hok hfl
 have hwh:1≤Int.mul kw kh∧Int.mul kw kh≤65536:=Gf hkw hkh
 induction d using Nat.strongRecOn with
 | ind d IH =>
   intro mm B be hd hm hB hbits
   have hokB:=MB hB (Nat.succ mm)
   have ih:∀ z:Int,0≤z∧z≤255→z.toNat=Cg F N kx ky kw (mm+1)→(mm:Int)+1 < kw * kh→a7 En 2 (Jv N F oe kx ky kw kh (Nat.succ mm) (i2 B (Nat.succ mm) [z]) false) Q:=fun z hz hv hlt =>
    IH (kw * kh - (mm+1:Nat)).toNat (by omega) (mm+1) _ false rfl (by omega) (UG hB hz _) (fun j hj=>by
     by_cases e:j=mm+1
     ·subst e;rw [x9];exact hv
     rw [N1 _ _ _ e];exact hbits j (by omega))
   clear IH
   rcases ct (.ofNat (Nat.succ mm)) (Int.mul kw kh) with ⟨b1,b1p⟩|⟨b1,b1p⟩
   ·refine A5 (D1 true) 2 [(5,10,false)] 29 (a6 (Bool.not (i4 (.ofNat (Nat.succ mm)) (Int.mul kw kh))) (a6 (a6 (a6 (a6 (a6 (a6 (Nat.beq (Nat.succ mm) (Nat.succ mm)) (a6 (Nat.ble (Nat.succ mm) 4611686018427387904) (QS (Nat.succ mm) (a8 [.u8] B)))) true) true) true) (a6 (a6 (Nat.beq (Nat.succ mm) (Nat.succ mm)) (a6 (Nat.beq (Nat.succ mm) (Nat.succ mm)) true)) (a6 (a6 (a6 (Nat.beq (Nat.succ mm) (Nat.succ mm)) true) (a6 (a6 (Nat.beq (Nat.succ mm) (Nat.succ mm)) true) true)) (a6 (a6 (a6 (Nat.beq (Nat.succ mm) (Nat.succ mm)) true) true) true)))) true)) [.h,J1] (.tup [(.agg [(zi kx),(zi ky),(zi kw),(zi kh),(.str (CZ (Nat.succ mm) (a8 [.u8] B)))]),(zi (0))]) [] J2 (by (try simp only [b1,hpo,hokB,gS]);(try simp only [gT] at *);try omega) ?_
    exact hfin _ _ (by rw [BX hB];simp only [m8,Bk] at *;omega) (fun j hj=>by rw [MC hB (by simp only [m8,Bk] at *;omega)];exact hbits j (by simp only [m8,Bk] at *;omega)) rfl
   have hd1:0≤Int.tmod (.ofNat (Nat.succ mm)) kw∧Int.tmod (.ofNat (Nat.succ mm)) kw < kw:=ZC (j:=mm+1) hkw.1
   have hd2:0≤Int.tdiv (.ofNat (Nat.succ mm)) kw∧Int.tdiv (.ofNat (Nat.succ mm)) kw < kh:=ZD (j:=mm+1) (h:=kh) hkw.1 b1p
   have hv:∀ b:Bool,T1 N (a8 R7 F) (Int.add (Int.mul (Int.add kx (Int.tmod (.ofNat (Nat.succ mm)) kw)) (16)) (8)) (Int.add (Int.mul (Int.add ky (Int.tdiv (.ofNat (Nat.succ mm)) kw)) (16)) (8))=b→Cg F N kx ky kw (mm+1)=Bool.rec 46 35 b:=fun b h=>by rw [← h,tW];rfl
   cases hins:T1 N (a8 R7 F) (Int.add (Int.mul (Int.add kx (Int.tmod (.ofNat (Nat.succ mm)) kw)) (16)) (8)) (Int.add (Int.mul (Int.add ky (Int.tdiv (.ofNat (Nat.succ mm)) kw)) (16)) (8))
   ·have hvv:=hv _ hins
    refine I9 (D1 false) 0 2 [(5,10,true)] 19 ((a6 (i4 (.ofNat (Nat.succ mm)) (Int.mul kw kh)) (a6 (a6 (a6 (Kt kw) (a6 (f8 (Int.add kx (Int.tmod (.ofNat (Nat.succ mm)) kw))) (a6 (a6 (Kt kw) (f8 (Int.tdiv (.ofNat (Nat.succ mm)) kw))) (a6 (f8 (Int.add ky (Int.tdiv (.ofNat (Nat.succ mm)) kw))) (a6 (a6 (f8 (Int.mul (Int.add kx (Int.tmod (.ofNat (Nat.succ mm)) kw)) (16))) (a6 (f8 (Int.add (Int.mul (Int.add kx (Int.tmod (.ofNat (Nat.succ mm)) kw)) (16)) (8))) (a6 (f8 (Int.mul (Int.add ky (Int.tdiv (.ofNat (Nat.succ mm)) kw)) (16))) (a6 (f8 (Int.add (Int.mul (Int.add ky (Int.tdiv (.ofNat (Nat.succ mm)) kw)) (16)) (8))) (a6 (a6 (a6 (Bool.not (T1 N (a8 R7 F) (Int.add (Int.mul (Int.add kx (Int.tmod (.ofNat (Nat.succ mm)) kw)) (16)) (8)) (Int.add (Int.mul (Int.add ky (Int.tdiv (.ofNat (Nat.succ mm)) kw)) (16)) (8)))) (a6 (Nat.beq N N) (a6 (K9 N (a8 R7 F)) (a6 (a6 (f9 (-16384) (Int.add (Int.mul (Int.add kx (Int.tmod (.ofNat (Nat.succ mm)) kw)) (16)) (8))) (f9 (Int.add (Int.mul (Int.add kx (Int.tmod (.ofNat (Nat.succ mm)) kw)) (16)) (8)) (16384))) (a6 (a6 (f9 (-16384) (Int.add (Int.mul (Int.add ky (Int.tdiv (.ofNat (Nat.succ mm)) kw)) (16)) (8))) (f9 (Int.add (Int.mul (Int.add ky (Int.tdiv (.ofNat (Nat.succ mm)) kw)) (16)) (8)) (16384))) true))))) true) (a6 (a6 (a6 (Nat.beq (Nat.succ mm) (Nat.succ mm)) (Bool.and (Nat.ble (Nat.mul (Nat.add (Nat.mul 2 (Nat.add (Nat.succ mm) 1)) 768) 1) 1099511627776) (Nat.ble (Nat.add (Nat.succ mm) 1) 1099511627776))) true) true)))))) true))))) (FS kw ky kx)) (a6 (a6 (f9 (-9223372036854775808) (.ofNat (Nat.add (Nat.succ mm) 1))) (Nat.ble (Nat.add (Nat.succ mm) 1) 9223372036854775807)) true)))) (Jv N F oe kx ky kw kh (Nat.succ mm) (i2 B (Nat.succ mm) [(46)]) false) [.h,J1,J2,J3,J4,J5,J6,J7,J8,J9,VJ,Ko] [0,1,8,9] [[4,5,10,11]] ⟨R5 [4,5,6,10,11,84,85] (by kernel_rfl),.inl (by kernel_rfl),.inl (by kernel_rfl),.inl (by kernel_rfl),.inl (by kernel_rfl),.inl (by kernel_rfl),.inl (by kernel_rfl),.inl (by kernel_rfl),f7 (by kernel_rfl) rfl (by kernel_rfl),.inl (by kernel_rfl),trivial⟩ (by (try simp only [b1,hins,hpo,hokB,gS,Kt,FS]);(try simp only [gT] at *);try omega) ?_
    exact ih (46) (by decide) hvv.symm (by simp only [m8,Bk] at *;omega)
   have hvv:=hv _ hins
   refine I9 (D1 true) 0 2 [(5,10,true)] 19 ((a6 (i4 (.ofNat (Nat.succ mm)) (Int.mul kw kh)) (a6 (a6 (a6 (Kt kw) (a6 (f8 (Int.add kx (Int.tmod (.ofNat (Nat.succ mm)) kw))) (a6 (a6 (Kt kw) (f8 (Int.tdiv (.ofNat (Nat.succ mm)) kw))) (a6 (f8 (Int.add ky (Int.tdiv (.ofNat (Nat.succ mm)) kw))) (a6 (a6 (f8 (Int.mul (Int.add kx (Int.tmod (.ofNat (Nat.succ mm)) kw)) (16))) (a6 (f8 (Int.add (Int.mul (Int.add kx (Int.tmod (.ofNat (Nat.succ mm)) kw)) (16)) (8))) (a6 (f8 (Int.mul (Int.add ky (Int.tdiv (.ofNat (Nat.succ mm)) kw)) (16))) (a6 (f8 (Int.add (Int.mul (Int.add ky (Int.tdiv (.ofNat (Nat.succ mm)) kw)) (16)) (8))) (a6 (a6 (a6 (T1 N (a8 R7 F) (Int.add (Int.mul (Int.add kx (Int.tmod (.ofNat (Nat.succ mm)) kw)) (16)) (8)) (Int.add (Int.mul (Int.add ky (Int.tdiv (.ofNat (Nat.succ mm)) kw)) (16)) (8))) (a6 (Nat.beq N N) (a6 (K9 N (a8 R7 F)) (a6 (a6 (f9 (-16384) (Int.add (Int.mul (Int.add kx (Int.tmod (.ofNat (Nat.succ mm)) kw)) (16)) (8))) (f9 (Int.add (Int.mul (Int.add kx (Int.tmod (.ofNat (Nat.succ mm)) kw)) (16)) (8)) (16384))) (a6 (a6 (f9 (-16384) (Int.add (Int.mul (Int.add ky (Int.tdiv (.ofNat (Nat.succ mm)) kw)) (16)) (8))) (f9 (Int.add (Int.mul (Int.add ky (Int.tdiv (.ofNat (Nat.succ mm)) kw)) (16)) (8)) (16384))) true))))) true) (a6 (a6 (a6 (Nat.beq (Nat.succ mm) (Nat.succ mm)) (Bool.and (Nat.ble (Nat.mul (Nat.add (Nat.mul 2 (Nat.add (Nat.succ mm) 1)) 768) 1) 1099511627776) (Nat.ble (Nat.add (Nat.succ mm) 1) 1099511627776))) true) true)))))) true))))) (FS kw ky kx)) (a6 (a6 (f9 (-9223372036854775808) (.ofNat (Nat.add (Nat.succ mm) 1))) (Nat.ble (Nat.add (Nat.succ mm) 1) 9223372036854775807)) true)))) (Jv N F oe kx ky kw kh (Nat.succ mm) (i2 B (Nat.succ mm) [(35)]) false) [.h,J1,J2,J3,J4,J5,J6,J7,J8,J9,VJ,Ko] [0,1,8,9] [[4,5,10,11]] ⟨R5 [4,5,6,10,11,84,85] (by kernel_rfl),.inl (by kernel_rfl),.inl (by kernel_rfl),.inl (by kernel_rfl),.inl (by kernel_rfl),.inl (by kernel_rfl),.inl (by kernel_rfl),.inl (by kernel_rfl),f7 (by kernel_rfl) rfl (by kernel_rfl),.inl (by kernel_rfl),trivial⟩ (by (try simp only [b1,hins,hpo,hokB,gS,Kt,FS]);(try simp only [gT] at *);try omega) ?_
   exact ih (35) (by decide) hvv.symm (by simp only [m8,Bk] at *;omega)
theorem MF:a7 En 2 (UF N F oe kx ky kw kh) Q:=by
 have hpo:K9 N (a8 R7 F)=true:=oD hN (fun j k=>by have:=hF j k;omega) hok hfl
 have hwh:1≤Int.mul kw kh∧Int.mul kw kh≤65536:=Gf hkw hkh
 rcases ct (0) (Int.mul kw kh) with ⟨b1,b1p⟩|⟨b1,b1p⟩
 ·refine A5 (D1 true) 2 [(5,10,false)] 29 (a6 (Bool.not (i4 (0) (Int.mul kw kh))) true) [.h,J1] (.tup [(.agg [(zi kx),(zi ky),(zi kw),(zi kh),(.str [])]),(zi (0))]) [] J2 (by (try simp only [b1,hpo,gS]);(try simp only [gT] at *);try omega) ?_
  exact absurd hwh.1 (by simp only [m8] at *;omega)
 have hd1:0≤Int.tmod (0) kw∧Int.tmod (0) kw < kw:=ZC (j:=0) hkw.1
 have hd2:0≤Int.tdiv (0) kw∧Int.tdiv (0) kw < kh:=ZD (j:=0) (h:=kh) hkw.1 b1p
 have hv:∀ b:Bool,T1 N (a8 R7 F) (Int.add (Int.mul (Int.add kx (Int.tmod (0) kw)) (16)) (8)) (Int.add (Int.mul (Int.add ky (Int.tdiv (0) kw)) (16)) (8))=b→Cg F N kx ky kw (0)=Bool.rec 46 35 b:=fun b h=>by rw [← h,tW];rfl
 cases hins:T1 N (a8 R7 F) (Int.add (Int.mul (Int.add kx (Int.tmod (0) kw)) (16)) (8)) (Int.add (Int.mul (Int.add ky (Int.tdiv (0) kw)) (16)) (8))
 ·have hvv:=hv _ hins
  refine I9 (D1 false) 0 2 [(5,10,true)] 19 ((a6 (i4 (0) (Int.mul kw kh)) (a6 (a6 (a6 (Kt kw) (a6 (f8 (Int.add kx (Int.tmod (0) kw))) (a6 (a6 (Kt kw) (f8 (Int.tdiv (0) kw))) (a6 (f8 (Int.add ky (Int.tdiv (0) kw))) (a6 (a6 (f8 (Int.mul (Int.add kx (Int.tmod (0) kw)) (16))) (a6 (f8 (PF kx kw)) (a6 (f8 (Int.mul (Int.add ky (Int.tdiv (0) kw)) (16))) (a6 (f8 (PG ky kw)) (a6 (a6 (a6 (Bool.not (T1 N (a8 R7 F) (Int.add (Int.mul (Int.add kx (Int.tmod (0) kw)) (16)) (8)) (Int.add (Int.mul (Int.add ky (Int.tdiv (0) kw)) (16)) (8)))) (a6 (Nat.beq N N) (a6 (K9 N (a8 R7 F)) (WH kx kw ky)))) true) true))))) true))))) (FS kw ky kx)) true))) (Jv N F oe kx ky kw kh 0 (fun _ kk=>List.getD [(46)] kk 0) false) [.h,J1,J2,J3,J4,J5,J6,J7,J8,J9,ON,nQ] [0,1,8,9] [[4,5,10,11]] ⟨R5 [4,5,6,10,11,84,85] (by kernel_rfl),.inl (by kernel_rfl),.inl (by kernel_rfl),.inl (by kernel_rfl),.inl (by kernel_rfl),.inl (by kernel_rfl),.inl (by kernel_rfl),.inl (by kernel_rfl),.inl (by kernel_rfl),.inl (by kernel_rfl),trivial⟩ (by (try simp only [b1,hins,hpo,gS,Kt,PF,PG,FS,WH]);(try simp only [gT] at *);try omega) ?_
  exact Tq hN hF hok hfl hkx hky hkw hkh hxw hyh hfin _ 0 (fun _ kk=>List.getD [(46)] kk 0) false rfl (by simp only [m8] at *;omega) (Ch (by decide)) (fun j hj=>by obtain rfl:j=0:=(by omega);exact hvv.symm)
 have hvv:=hv _ hins
 refine I9 (D1 true) 0 2 [(5,10,true)] 19 ((a6 (i4 (0) (Int.mul kw kh)) (a6 (a6 (a6 (Kt kw) (a6 (f8 (Int.add kx (Int.tmod (0) kw))) (a6 (a6 (Kt kw) (f8 (Int.tdiv (0) kw))) (a6 (f8 (Int.add ky (Int.tdiv (0) kw))) (a6 (a6 (f8 (Int.mul (Int.add kx (Int.tmod (0) kw)) (16))) (a6 (f8 (PF kx kw)) (a6 (f8 (Int.mul (Int.add ky (Int.tdiv (0) kw)) (16))) (a6 (f8 (PG ky kw)) (a6 (a6 (a6 (T1 N (a8 R7 F) (Int.add (Int.mul (Int.add kx (Int.tmod (0) kw)) (16)) (8)) (Int.add (Int.mul (Int.add ky (Int.tdiv (0) kw)) (16)) (8))) (a6 (Nat.beq N N) (a6 (K9 N (a8 R7 F)) (WH kx kw ky)))) true) true))))) true))))) (FS kw ky kx)) true))) (Jv N F oe kx ky kw kh 0 (fun _ kk=>List.getD [(35)] kk 0) false) [.h,J1,J2,J3,J4,J5,J6,J7,J8,J9,ON,nQ] [0,1,8,9] [[4,5,10,11]] ⟨R5 [4,5,6,10,11,84,85] (by kernel_rfl),.inl (by kernel_rfl),.inl (by kernel_rfl),.inl (by kernel_rfl),.inl (by kernel_rfl),.inl (by kernel_rfl),.inl (by kernel_rfl),.inl (by kernel_rfl),.inl (by kernel_rfl),.inl (by kernel_rfl),trivial⟩ (by (try simp only [b1,hins,hpo,gS,Kt,PF,PG,FS,WH]);(try simp only [gT] at *);try omega) ?_
 exact Tq hN hF hok hfl hkx hky hkw hkh hxw hyh hfin _ 0 (fun _ kk=>List.getD [(35)] kk 0) false rfl (by simp only [m8] at *;omega) (Ch (by decide)) (fun j hj=>by obtain rfl:j=0:=(by omega);exact hvv.symm)
end
theorem MG {n:Nat} (h:Nat.beq n 0=false):1≤n:=by
 cases n with
 | zero=>cases h
 | succ n=>omega
section
variable {n:Nat} {Y:Nat→Nat→Int} {ex:Bool} {sty:Bool} {sd:Int} {wd:Int} {m:Nat} {V:Nat→Bool} {S:Nat→Nat→Int} {sex:Bool} {ssty:Bool} {mA:Int} {mB:Int} {mC:Int} {mD:Int} {mE:Int} {mF:Int}
theorem tY {P:Nat→Nat→Int} {oX oY:Int→Int→Int} (hn:n≤300) (hP:∀ j k,-8192≤P j k∧P j k≤8192) (hok:u2 n P) (hr:∀ j,j < n→I5 Y oX oY 0 0 P j):a7 En 2 (Tp n P) (dZ n Y oX oY):=by
 refine J0 (D1 true) 2 [] 3 true (UD n P) [.h,J1,J5,J2,J3,J4] [[4,5,6,12,13,14,15,84,85,86,87,88,89,90,91,92,93,94,95,96,97,98,99,100,101,102,103,104]] rfl ?_
 refine ca (Cc n P true false) [J2] (Ce (n:=n) (P:=P) (ex:=true) (sty:=false) hn hP hok) (fun v' H' q=>?_)
 rcases q with ⟨rfl,hnx5,hq_5⟩|⟨N_5,F_5,oe_5,rfl,hnx5,ho0_5,hNo_5,hN_5,hL_5,hF_5⟩
 ·skip
  refine ⟨(.tup [.nils,(zi (26))]),[],J6,(by kernel_rfl),(by rw [hnx5];kernel_rfl),trivial,(by kernel_rfl),?_⟩
  refine A5 (D1 true) 2 [] 26 true [.h,J1] (.tup [(.agg [(zi (0)),(zi (0)),(zi (0)),(zi (0)),(.str [])]),(zi (26))]) [] J2 rfl ?_
  exact .inl ⟨26,rfl,rfl,rfl⟩
 skip
 refine ⟨(.tup [(.sa J6 0 N_5 7),(zi (0))]),[(J6,(o7 N_5 F_5 oe_5 false))],J7,(by kernel_rfl),(by rw [hnx5];kernel_rfl),⟨⟨J1,_,(Nat.le_of_ble_eq_true (by kernel_rfl)),(by show _=_;kernel_rfl),ho0_5,(by show _=_;kernel_rfl)⟩,trivial⟩,(by kernel_rfl),?_⟩
 have hokF:=tX hNo_5 hL_5 hok hF_5 hN_5
 have hflF:=oG hNo_5 hL_5
 rcases cb N_5 0 with ⟨b1,b1p⟩|⟨b1,b1p⟩
 ·refine J0 (D1 true) 2 [(16,37,false)] 6 (a6 (Bool.not (Nat.beq N_5 0)) true) (UE N_5 F_5 oe_5) [.h,J1,J6,J3,J4,J5] [[4,5,6,12,13,14,15,84,85,86,87,88,89,90,91,92,93,94,95,96,97,98,99,100,101,102,103,104]] (by (try simp only [b1,gS]);(try simp only [gT] at *);try omega) ?_
  have hN1:1≤N_5:=MG b1
  refine ca (LQ N_5 F_5 oe_5 false) [J2] (LW (n:=N_5) (F:=F_5) (ex:=oe_5) (sty:=false) hN_5 hN1 hF_5 hokF hflF) (fun v' H' q=>?_)
  rcases q with ⟨lx_6,ly_6,hx_6,hy_6,rfl,hnx6,hb_6,hB_6⟩
  have hb6:=hb_6
  unfold BW at hb6
  have f1:c8 lx_6 (16)=lx_6 / 16:=rfl
  have f2:c8 ly_6 (16)=ly_6 / 16:=rfl
  have f3:c8 hx_6 (16)=hx_6 / 16:=rfl
  have f4:c8 hy_6 (16)=hy_6 / 16:=rfl
  have hin:=hB_6 0 hN1 (by rw [M5 hokF hN1];decide)
  have f5:=fZ (x:=Int.add (Int.sub (c8 hx_6 (16)) (c8 lx_6 (16))) (1)) (y:=Int.add (Int.sub (c8 hy_6 (16)) (c8 ly_6 (16))) (1)) (A:=1100) (B:=1100) (by simp only [j8,j7];omega) (by simp only [j8,j7];omega)
  refine ⟨(.tup [(az [lx_6,ly_6]),(az [hx_6,hy_6]),(zi (0))]),[],J6,(by kernel_rfl),(by rw [hnx6];kernel_rfl),trivial,(by kernel_rfl),?_⟩
  rcases ct (256) (Int.add (Int.sub (c8 hx_6 (16)) (c8 lx_6 (16))) (1)) with ⟨b2,b2p⟩|⟨b2,b2p⟩
  ·rcases ct (256) (Int.add (Int.sub (c8 hy_6 (16)) (c8 ly_6 (16))) (1)) with ⟨b3,b3p⟩|⟨b3,b3p⟩
   ·refine I9 (D1 true) 0 2 [(29,76,false),(5,80,false)] 37 ((a6 (a6 (PH lx_6 ly_6) (a6 (a6 (a6 (f8 hx_6) (a6 (f8 (Int.sub (c8 hx_6 (16)) (c8 lx_6 (16)))) (a6 (f8 (Int.add (Int.sub (c8 hx_6 (16)) (c8 lx_6 (16))) (1))) (a6 (f8 hy_6) (a6 (f8 (Int.sub (c8 hy_6 (16)) (c8 ly_6 (16)))) (a6 (f8 (Int.add (Int.sub (c8 hy_6 (16)) (c8 ly_6 (16))) (1))) true)))))) (a6 (a6 (c9 (c8 ly_6 (16)) (c8 ly_6 (16))) (a6 (c9 (c8 ly_6 (16)) (c8 ly_6 (16))) (a6 (c9 (c8 ly_6 (16)) (c8 ly_6 (16))) true))) (a6 (a6 (c9 hy_6 hy_6) (a6 (c9 hy_6 hy_6) true)) (a6 (a6 (c9 (c8 lx_6 (16)) (c8 lx_6 (16))) (a6 (c9 (c8 lx_6 (16)) (c8 lx_6 (16))) (a6 (c9 (c8 lx_6 (16)) (c8 lx_6 (16))) true))) (a6 (a6 (c9 hx_6 hx_6) true) true))))) true)) (a6 (Bool.not (i4 (256) (Int.add (Int.sub (c8 hx_6 (16)) (c8 lx_6 (16))) (1)))) (a6 (Bool.not (i4 (256) (Int.add (Int.sub (c8 hy_6 (16)) (c8 ly_6 (16))) (1)))) (a6 (f8 (Int.mul (Int.add (Int.sub (c8 hx_6 (16)) (c8 lx_6 (16))) (1)) (Int.add (Int.sub (c8 hy_6 (16)) (c8 ly_6 (16))) (1)))) true))))) (UF N_5 F_5 oe_5 (c8 lx_6 (16)) (c8 ly_6 (16)) (Int.add (Int.sub (c8 hx_6 (16)) (c8 lx_6 (16))) (1)) (Int.add (Int.sub (c8 hy_6 (16)) (c8 ly_6 (16))) (1))) [.h,J1,ON,nQ,J3,J4,J8,J9,Ko,J5,J2] [0,1,8,9] [[4,5,10,11]] ⟨R5 [4,5,6,10,11,84,85] (by kernel_rfl),.inl (by kernel_rfl),.inl (by kernel_rfl),.inl (by kernel_rfl),.inl (by kernel_rfl),.inl (by kernel_rfl),.inl (by kernel_rfl),.inl (by kernel_rfl),.inl (by kernel_rfl),trivial⟩ (by (try simp only [b1,b2,b3,gS,PH]);(try simp only [gT] at *);try omega) ?_
    exact MF hN_5 hF_5 hokF hflF (by simp only [j8,j7] at *;omega) (by simp only [j8,j7] at *;omega) (by simp only [j8,j7] at *;omega) (by simp only [j8,j7] at *;omega) (by simp only [j8,j7] at *;omega) (by simp only [j8,j7] at *;omega) (fun l H hl hb hnx=>.inr ⟨_,_,_,_,l,rfl,hnx,(by simp only [j8,j7] at *;omega),P,N_5,F_5,hok,hr,hNo_5,hN_5,hL_5,hF_5,BY hokF hflF hB_6 f1 f2 (by simp only [j8,j7] at *;omega) (by simp only [j8,j7] at *;omega) (by simp only [j8,j7] at *;omega) hl hb⟩)
   refine A5 (D1 true) 2 [(29,76,false),(5,80,true)] 9 ((a6 (a6 (PH lx_6 ly_6) (a6 (a6 (a6 (f8 hx_6) (a6 (f8 (Int.sub (c8 hx_6 (16)) (c8 lx_6 (16)))) (a6 (f8 (Int.add (Int.sub (c8 hx_6 (16)) (c8 lx_6 (16))) (1))) (a6 (f8 hy_6) (a6 (f8 (Int.sub (c8 hy_6 (16)) (c8 ly_6 (16)))) (a6 (f8 (Int.add (Int.sub (c8 hy_6 (16)) (c8 ly_6 (16))) (1))) true)))))) (a6 (a6 (c9 (c8 ly_6 (16)) (c8 ly_6 (16))) (a6 (c9 (c8 ly_6 (16)) (c8 ly_6 (16))) (a6 (c9 (c8 ly_6 (16)) (c8 ly_6 (16))) true))) (a6 (a6 (c9 hy_6 hy_6) (a6 (c9 hy_6 hy_6) true)) (a6 (a6 (c9 (c8 lx_6 (16)) (c8 lx_6 (16))) (a6 (c9 (c8 lx_6 (16)) (c8 lx_6 (16))) (a6 (c9 (c8 lx_6 (16)) (c8 lx_6 (16))) true))) (a6 (a6 (c9 hx_6 hx_6) true) true))))) true)) (a6 (Bool.not (i4 (256) (Int.add (Int.sub (c8 hx_6 (16)) (c8 lx_6 (16))) (1)))) (a6 (i4 (256) (Int.add (Int.sub (c8 hy_6 (16)) (c8 ly_6 (16))) (1))) true)))) [.h,J1] (.tup [(.agg [(zi (0)),(zi (0)),(zi (0)),(zi (0)),(.str [])]),(zi (26))]) [] J2 (by (try simp only [b1,b2,b3,gS,PH]);(try simp only [gT] at *);try omega) ?_
   exact .inl ⟨26,rfl,rfl,rfl⟩
  refine A5 (D1 true) 2 [(29,76,true)] 14 ((a6 (a6 (PH lx_6 ly_6) (a6 (a6 (a6 (f8 hx_6) (a6 (f8 (Int.sub (c8 hx_6 (16)) (c8 lx_6 (16)))) (a6 (f8 (Int.add (Int.sub (c8 hx_6 (16)) (c8 lx_6 (16))) (1))) (a6 (f8 hy_6) (a6 (f8 (Int.sub (c8 hy_6 (16)) (c8 ly_6 (16)))) (a6 (f8 (Int.add (Int.sub (c8 hy_6 (16)) (c8 ly_6 (16))) (1))) true)))))) (a6 (a6 (c9 (c8 ly_6 (16)) (c8 ly_6 (16))) (a6 (c9 (c8 ly_6 (16)) (c8 ly_6 (16))) (a6 (c9 (c8 ly_6 (16)) (c8 ly_6 (16))) true))) (a6 (a6 (c9 hy_6 hy_6) (a6 (c9 hy_6 hy_6) true)) (a6 (a6 (c9 (c8 lx_6 (16)) (c8 lx_6 (16))) (a6 (c9 (c8 lx_6 (16)) (c8 lx_6 (16))) (a6 (c9 (c8 lx_6 (16)) (c8 lx_6 (16))) true))) (a6 (a6 (c9 hx_6 hx_6) true) true))))) true)) (a6 (i4 (256) (Int.add (Int.sub (c8 hx_6 (16)) (c8 lx_6 (16))) (1))) true))) [.h,J1] (.tup [(.agg [(zi (0)),(zi (0)),(zi (0)),(zi (0)),(.str [])]),(zi (26))]) [] J2 (by (try simp only [b1,b2,gS,PH]);(try simp only [gT] at *);try omega) ?_
  exact .inl ⟨26,rfl,rfl,rfl⟩
 refine A5 (D1 true) 2 [(16,37,true)] 10 (a6 (Nat.beq N_5 0) true) [.h,J1] (.tup [(.agg [(zi (0)),(zi (0)),(zi (0)),(zi (0)),(.str [])]),(zi (0))]) [] J2 (by (try simp only [b1,gS]);(try simp only [gT] at *);try omega) ?_
 have hN0:=Nat.eq_of_beq_eq_true b1
 exact .inr ⟨0,0,0,0,[],rfl,rfl,⟨by omega,by omega,by omega,by omega⟩,P,N_5,F_5,hok,hr,hNo_5,hN_5,hL_5,hF_5,fun a b=>by rw [Tn,hN0,To]⟩
theorem Gg {oX oY:Int→Int→Int} (hpa:∀ (x y:Int),(-128≤x∧x≤127)→(-128≤y∧y≤127)→a7 En 2 (P5 n Y ex sty sd wd m V S sex ssty mA mB mC mD mE mF x y) (QR n Y oX oY x y J2 J3)):a7 En 2 (FN n Y ex sty sd wd m V S sex ssty mA mB mC mD mE mF) (dZ n Y oX oY):=by
 refine J0 (D1 true) 2 [] 12 true (TZ n Y ex sty sd wd m V S sex ssty mA mB mC mD mE mF) [.h,J1,J4,J5] [[4,5,12,13,14,15,84,85,86,87,88,89,90,91,92,93,94,95,96,97,98,99,100,101,102,103,104]] rfl ?_
 refine ca (P5 n Y ex sty sd wd m V S sex ssty mA mB mC mD mE mF (0) (0)) [.h,J1] (hpa (x:=(0)) (y:=(0)) (by decide) (by decide)) (fun v' H' q=>?_)
 rcases q with ⟨e_1,rfl,hnx1,he_1⟩|⟨P_1,rfl,hnx1,ho0_1,hb_1,hk_1,hr_1⟩
 ·skip
  refine ⟨(.tup [.nils,(zi e_1)]),[],J4,(by kernel_rfl),(by rw [hnx1];kernel_rfl),trivial,(by kernel_rfl),?_⟩
  refine A5 (D1 true) 2 [(13,23,true)] 10 (a6 (Bool.not (c9 e_1 (0))) true) [.h,J1] (.tup [(.agg [(zi (0)),(zi (0)),(zi (0)),(zi (0)),(.str [])]),(zi e_1)]) [] J2 (by (try simp only [he_1,gS]);(try simp only [gT] at *);try omega) ?_
  exact .inl ⟨_,rfl,rfl,he_1⟩
 skip
 refine ⟨(.tup [(.sa J4 0 n 7),(zi (0))]),[(J4,(o7 n P_1 true false))],J5,(by kernel_rfl),(by rw [hnx1];kernel_rfl),⟨⟨J2,_,(Nat.le_of_ble_eq_true (by kernel_rfl)),(by show _=_;kernel_rfl),ho0_1,(by show _=_;kernel_rfl)⟩,trivial⟩,(by kernel_rfl),?_⟩
 refine Z1 (D1 true) 2 [] 17 true (Tp n P_1) [.h,J1,J2,J3,J5,J4] [4,5,6,12,13,14,15,84,85,86,87,88,89,90,91,92,93,94,95,96,97,98,99,100,101,102,103,104] [] rfl ?_
 exact tY hk_1.1 hb_1 hk_1 hr_1
theorem kU {oX oY:Int→Int→Int} (hpa:∀ (x y:Int),(-128≤x∧x≤127)→(-128≤y∧y≤127)→a7 En 1 (K8 n Y ex sty sd wd mA mB mC mD mE mF x y) (QR n Y oX oY x y J1 J2)):a7 En 2 (FO n Y ex sty sd wd mA mB mC mD mE mF) (dZ n Y oX oY):=by
 refine J0 (D1 true) 2 [] 12 true (UA n Y ex sty sd wd mA mB mC mD mE mF) [.h,J1,J4,J5] [[4,5,12,13,14,15,84,85,86,87,88,89,90,91,92,93,94,95,96,97,98,99,100,101,102,103,104]] rfl ?_
 refine ca (K8 n Y ex sty sd wd mA mB mC mD mE mF (0) (0)) [.h] (hpa (x:=(0)) (y:=(0)) (by decide) (by decide)) (fun v' H' q=>?_)
 rcases q with ⟨e_2,rfl,hnx2,he_2⟩|⟨P_2,rfl,hnx2,ho0_2,hb_2,hk_2,hr_2⟩
 ·skip
  refine ⟨(.tup [.nils,(zi e_2)]),[],J4,(by kernel_rfl),(by rw [hnx2];kernel_rfl),trivial,(by kernel_rfl),?_⟩
  refine A5 (D1 true) 2 [(13,23,true)] 10 (a6 (Bool.not (c9 e_2 (0))) true) [.h,J1] (.tup [(.agg [(zi (0)),(zi (0)),(zi (0)),(zi (0)),(.str [])]),(zi e_2)]) [] J2 (by (try simp only [he_2,gS]);(try simp only [gT] at *);try omega) ?_
  exact .inl ⟨_,rfl,rfl,he_2⟩
 skip
 refine ⟨(.tup [(.sa J4 0 n 7),(zi (0))]),[(J4,(o7 n P_2 true false))],J5,(by kernel_rfl),(by rw [hnx2];kernel_rfl),⟨⟨J1,_,(Nat.le_of_ble_eq_true (by kernel_rfl)),(by show _=_;kernel_rfl),ho0_2,(by show _=_;kernel_rfl)⟩,trivial⟩,(by kernel_rfl),?_⟩
 refine Z1 (D1 true) 2 [] 17 true (Tp n P_2) [.h,J1,J2,J3,J5,J4] [4,5,6,12,13,14,15,84,85,86,87,88,89,90,91,92,93,94,95,96,97,98,99,100,101,102,103,104] [] rfl ?_
 exact tY hk_2.1 hb_2 hk_2 hr_2
theorem kV {oX oY:Int→Int→Int} (hpa:∀ (x y:Int),(-128≤x∧x≤127)→(-128≤y∧y≤127)→a7 En 1 (D9 sd wd m V S sex ssty mA mB mC mD mE mF x y) (QR n Y oX oY x y J1 J2)):a7 En 2 (FP sd wd m V S sex ssty mA mB mC mD mE mF) (dZ n Y oX oY):=by
 refine J0 (D1 true) 2 [] 12 true (UB sd wd m V S sex ssty mA mB mC mD mE mF) [.h,J1,J4,J5] [[4,5,12,13,14,15,84,85,86,87,88,89,90,91,92,93,94,95,96,97,98,99,100,101,102,103,104]] rfl ?_
 refine ca (D9 sd wd m V S sex ssty mA mB mC mD mE mF (0) (0)) [.h] (hpa (x:=(0)) (y:=(0)) (by decide) (by decide)) (fun v' H' q=>?_)
 rcases q with ⟨e_3,rfl,hnx3,he_3⟩|⟨P_3,rfl,hnx3,ho0_3,hb_3,hk_3,hr_3⟩
 ·skip
  refine ⟨(.tup [.nils,(zi e_3)]),[],J4,(by kernel_rfl),(by rw [hnx3];kernel_rfl),trivial,(by kernel_rfl),?_⟩
  refine A5 (D1 true) 2 [(13,23,true)] 10 (a6 (Bool.not (c9 e_3 (0))) true) [.h,J1] (.tup [(.agg [(zi (0)),(zi (0)),(zi (0)),(zi (0)),(.str [])]),(zi e_3)]) [] J2 (by (try simp only [he_3,gS]);(try simp only [gT] at *);try omega) ?_
  exact .inl ⟨_,rfl,rfl,he_3⟩
 skip
 refine ⟨(.tup [(.sa J4 0 n 7),(zi (0))]),[(J4,(o7 n P_3 true false))],J5,(by kernel_rfl),(by rw [hnx3];kernel_rfl),⟨⟨J1,_,(Nat.le_of_ble_eq_true (by kernel_rfl)),(by show _=_;kernel_rfl),ho0_3,(by show _=_;kernel_rfl)⟩,trivial⟩,(by kernel_rfl),?_⟩
 refine Z1 (D1 true) 2 [] 17 true (Tp n P_3) [.h,J1,J2,J3,J5,J4] [4,5,6,12,13,14,15,84,85,86,87,88,89,90,91,92,93,94,95,96,97,98,99,100,101,102,103,104] [] rfl ?_
 exact tY hk_3.1 hb_3 hk_3 hr_3
theorem U0 {oX oY:Int→Int→Int} (hpa:∀ (x y:Int),(-128≤x∧x≤127)→(-128≤y∧y≤127)→a7 En 0 (z6 sd wd mA mB mC mD mE mF x y) (QR n Y oX oY x y (.h) J1)):a7 En 2 (FQ sd wd mA mB mC mD mE mF) (dZ n Y oX oY):=by
 refine J0 (D1 true) 2 [] 12 true (UC sd wd mA mB mC mD mE mF) [.h,J1,J4,J5] [[4,5,12,13,14,15,84,85,86,87,88,89,90,91,92,93,94,95,96,97,98,99,100,101,102,103,104]] rfl ?_
 refine ca (z6 sd wd mA mB mC mD mE mF (0) (0)) [] (hpa (x:=(0)) (y:=(0)) (by decide) (by decide)) (fun v' H' q=>?_)
 rcases q with ⟨e_4,rfl,hnx4,he_4⟩|⟨P_4,rfl,hnx4,ho0_4,hb_4,hk_4,hr_4⟩
 ·skip
  refine ⟨(.tup [.nils,(zi e_4)]),[],J4,(by kernel_rfl),(by rw [hnx4];kernel_rfl),trivial,(by kernel_rfl),?_⟩
  refine A5 (D1 true) 2 [(13,23,true)] 10 (a6 (Bool.not (c9 e_4 (0))) true) [.h,J1] (.tup [(.agg [(zi (0)),(zi (0)),(zi (0)),(zi (0)),(.str [])]),(zi e_4)]) [] J2 (by (try simp only [he_4,gS]);(try simp only [gT] at *);try omega) ?_
  exact .inl ⟨_,rfl,rfl,he_4⟩
 skip
 refine ⟨(.tup [(.sa J4 0 n 7),(zi (0))]),[(J4,(o7 n P_4 true false))],J5,(by kernel_rfl),(by rw [hnx4];kernel_rfl),⟨⟨.h,_,(Nat.le_of_ble_eq_true (by kernel_rfl)),(by show _=_;kernel_rfl),ho0_4,(by show _=_;kernel_rfl)⟩,trivial⟩,(by kernel_rfl),?_⟩
 refine Z1 (D1 true) 2 [] 17 true (Tp n P_4) [.h,J1,J2,J3,J5,J4] [4,5,6,12,13,14,15,84,85,86,87,88,89,90,91,92,93,94,95,96,97,98,99,100,101,102,103,104] [] rfl ?_
 exact tY hk_4.1 hb_4 hk_4 hr_4
end
def MH (args:List AV) (H:Hp):Option (Bool × AV × Hp):=match args with
 | [.sa k e n z,.bool false,.agg [.int .i64 x,.int .i64 y]]=>(match T.get k H.hp with
   | some (.arr n' z' g none el ex sty)=>some (a6 (Nat.beq e 0) (a6 (Nat.beq z 7) (a6 (Nat.beq z' 7) (a6 (Nat.beq el 63) (a6 (Nat.beq n n') (a6 (K9 n g) (a6 (oB x) (a6 (oB y) (H6 En.ng 1 H.nx.idx 0 1 H.fl [k])))))))),.tup [.bool (T1 n g x y),.int .i64 0],H)
   | _=>none)
 | _=>none
def Tr (z:Int):Bool:=a6 (f9 (-2000) z) (f9 z 2000)
def MI (z:Int):Bool:=a6 (f9 0 z) (f9 z 256)
theorem kW {z:Int} (h:Tr z=true) : -2000≤z∧z≤2000:=⟨(n4 _ _).1 (a9.1 h).1,(n4 _ _).1 (a9.1 h).2⟩
theorem Gh {z:Int} (h:MI z=true):0≤z∧z≤256:=⟨(n4 _ _).1 (a9.1 h).1,(n4 _ _).1 (a9.1 h).2⟩
def MJ (args:List AV) (H:Hp):Option (Bool × AV × Hp):=match args with
 | [.agg [.int .i64 kx,.int .i64 ky,.int .i64 kw,.int .i64 kh,.str l],.int .i64 a,.int .i64 b] =>
   some (a6 (Tr kx) (a6 (Tr ky) (a6 (MI kw) (a6 (MI kh) (a6 (Tr a) (Tr b))))),.bool (S6 kx ky kw kh l a b),H)
 | _=>none
def ZE:M8:=fun f args H=>Bool.rec (Bool.rec (TL f args H) (MJ args H) (Nat.beq f 1000012)) (MH args H) (Nat.beq f 1000011)
theorem BZ {kx ky kw kh a b:Int} {l:List Nat}:∀ x ∈ [AV.agg [.int .i64 kx,.int .i64 ky,.int .i64 kw,.int .i64 kh,.str l],.int .i64 a,.int .i64 b],vN En.ng x=true:=by
 intro x hx
 rcases List.mem_cons.1 hx with rfl|hx
 ·rfl
 rcases List.mem_cons.1 hx with rfl|hx
 ·rfl
 rcases List.mem_cons.1 hx with rfl|hx
 ·rfl
 cases hx
theorem j9:q9 ZE En:=fun f args v H S' h γ w s hH ho=>by
 unfold ZE at h
 cases hf:Nat.beq f 1000011 with
 | false =>
   rw [hf] at h
   dsimp only at h
   cases hf2:Nat.beq f 1000012 with
   | false=>rw [hf2] at h;exact s9 f args v H S' h γ w s hH ho
   | true =>
     rw [hf2] at h
     have ef:=Nat.eq_of_beq_eq_true hf2
     subst ef
     have h:MJ args H=some (true,v,S'):=h
     have ho:O7 En γ H w s (.call 12 args):=ho
     unfold MJ at h
     split at h <;> try (cases h;done)
     rename_i kx ky kw kh l a b _ _
     injection h with h
     injection h with h1 h2
     injection h2 with h2 h3
     subst h3 h2
     obtain ⟨g1,h1⟩:=a9.1 h1
     obtain ⟨g2,h1⟩:=a9.1 h1
     obtain ⟨g3,h1⟩:=a9.1 h1
     obtain ⟨g4,h1⟩:=a9.1 h1
     obtain ⟨g5,g6⟩:=a9.1 h1
     have hm:i6 En 0 (Tk kx ky kw kh l a b).f [] (Tk kx ky kw kh l a b).S _:=LZ (kW g1) (kW g2) (kW g5) (kW g6) (Gh g3) (Gh g4)
     rw [show (0:Nat)=En.ng from Iy.symm,show (Tk kx ky kw kh l a b).S=H0 En from by kernel_rfl] at hm
     exact dQ cY (TX kx ky kw kh l a b) (cW.of_endsN (y7 (TX kx ky kw kh l a b) BZ) rfl (hm.mono (fun v1 S1 q=>by obtain ⟨c,q1,_,q3⟩:=q;rw [q1,q3]))) H γ w s hH ho
 | true =>
   rw [hf] at h
   have ef:=Nat.eq_of_beq_eq_true hf
   subst ef
   have h:MH args H=some (true,v,S'):=h
   have ho:O7 En γ H w s (.call 11 args):=ho
   unfold MH at h
   split at h <;> try (cases h;done)
   rename_i k e n z x y _ _
   split at h <;> try (cases h;done)
   rename_i n' z' g el ex sty hb
   injection h with h
   injection h with h1 h2
   injection h2 with h2 h3
   subst h3
   obtain ⟨g1,h1⟩:=a9.1 h1
   obtain ⟨g2,h1⟩:=a9.1 h1
   obtain ⟨g3,h1⟩:=a9.1 h1
   obtain ⟨g4,h1⟩:=a9.1 h1
   obtain ⟨g5,h1⟩:=a9.1 h1
   obtain ⟨g6,h1⟩:=a9.1 h1
   obtain ⟨g7,h1⟩:=a9.1 h1
   obtain ⟨g8,g9⟩:=a9.1 h1
   have e1:=Nat.eq_of_beq_eq_true g1
   have e2:=Nat.eq_of_beq_eq_true g2
   have e3:=Nat.eq_of_beq_eq_true g3
   have e4:=Nat.eq_of_beq_eq_true g4
   have e5:=Nat.eq_of_beq_eq_true g5
   subst e1 e2 e3 e4 e5
   unfold K9 at g6
   obtain ⟨F,rfl,hn,hF,hok,hfl⟩:=jV.1 g6
   have key:∀ (q:Nat),q=En.ng→H6 q 1 H.nx.idx 0 1 H.fl [k]=true→∃ fr',F8 En.P s w fr'∧∀ c bot,∃ γ' v' w',Steps En.P (lone fr' (c::bot) w) (lone (c.finish v') bot w')∧VR γ' v v'∧HR γ' En.ng H w'∧j6 H γ w H γ' w':=fun q hq hkeys=>by
    subst hq
    have hm:i6 En (iS n F ex sty x y).S.nx.idx (iS n F ex sty x y).f [] (iS n F ex sty x y).S _:=Tc (by omega) (N2 g7) (N2 g8) hF hok hfl
    refine bK cY (f:=11) (t:=[k]) (f0:=(iS n F ex sty x y).f) (H:=(iS n F ex sty x y).S) (os:=(iS n F ex sty x y).os) (show d9 En 11 [.sa k 0 n 7,.bool false,.agg [.int .i64 x,.int .i64 y]] false=some (o4 (d9 En 11 [.sa k 0 n 7,.bool false,.agg [.int .i64 x,.int .i64 y]] false)) from by kernel_rfl) hkeys rfl ⟨?_,trivial⟩ (by kernel_rfl) ?_ hm (fun v1 H' q=>?_) γ w s hH ho
    ·exact hb
    ·kernel_rfl
    ·obtain ⟨b',q1,q2,q3⟩:=q
     refine ⟨q2,?_⟩
     rw [q1,← h2,q3,← tV];rfl
   exact key En.ng rfl g9
section
variable (nd:Nat) (D:Nat→Nat→Int) (dx dy:Bool) (de md:Nat) (T:Nat→Nat→Int) (tx ty:Bool) (te:Nat) (n0 n1 n2 n3:Int) (up:Bool) (x y:Int) (nq:Nat) (Q:Nat→Nat→Int) (qx qy:Bool) (qe n:Nat) (Y:Nat→Nat→Int) (ex sty:Bool) (sd wd:Int) (m:Nat) (V:Nat→Bool) (S:Nat→Nat→Int) (sex ssty:Bool) (mA mB mC mD mE mF e_19 e_20:Int) (P_20:Nat→Nat→Int) (kx_19 ky_19 kw_19 kh_19:Int) (l_19:List Nat) (e_21:Int) (P_21:Nat→Nat→Int) (kx ky kw kh:Int) (l:List Nat) (P:Nat→Nat→Int) (e_22 e_23:Int) (P_23:Nat→Nat→Int) (kx_22 ky_22 kw_22 kh_22:Int) (l_22:List Nat) (e_24:Int) (P_24:Nat→Nat→Int) (e_25 e_26:Int) (P_26:Nat→Nat→Int) (kx_25 ky_25 kw_25 kh_25:Int) (l_25:List Nat) (e_27:Int) (P_27:Nat→Nat→Int) (e_28 e_29:Int) (P_29:Nat→Nat→Int) (kx_28 ky_28 kw_28 kh_28:Int) (l_28:List Nat) (e_30:Int) (P_30:Nat→Nat→Int) (e_31 e_32:Int) (P_32:Nat→Nat→Int) (kx_31 ky_31 kw_31 kh_31:Int) (l_31:List Nat) (e_33:Int) (P_33:Nat→Nat→Int) (e_34 e_35:Int) (P_35:Nat→Nat→Int) (kx_34 ky_34 kw_34 kh_34:Int) (l_34:List Nat) (e_36:Int) (P_36:Nat→Nat→Int) (e_37 e_38:Int) (P_38:Nat→Nat→Int) (kx_37 ky_37 kw_37 kh_37:Int) (l_37:List Nat) (e_39:Int) (P_39:Nat→Nat→Int) (e_40 e_41:Int) (P_41:Nat→Nat→Int) (kx_40 ky_40 kw_40 kh_40:Int) (l_40:List Nat) (e_42:Int) (P_42:Nat→Nat→Int) (N_43:Nat) (F_43:Nat→Nat→Int) (oe_43:Bool) (N:Nat) (F:Nat→Nat→Int) (oe:Bool) (i N_44:Nat) (F_44:Nat→Nat→Int) (oe_44:Bool)
def r5:St:=⟨o4 (d9 En 5 [] false),[],[],.h,0⟩
def bP:St:=FN n Y ex sty sd wd m V S sex ssty mA mB mC mD mE mF
def U7:St:=FO n Y ex sty sd wd mA mB mC mD mE mF
def U8:St:=FP sd wd m V S sex ssty mA mB mC mD mE mF
def I8:St:=FQ sd wd mA mB mC mD mE mF
def xK:St:=⟨o4 (d9 En 3 [(.agg [(.sa .h 0 nd 7),(.sa J1 0 md 2)]),(.agg [(.int .i16 n0),(.int .i16 n1),(.int .i16 n2),(.int .i16 n3)]),(.bool up),(.agg [(.int .i8 x),(.int .i8 y)]),(.sa J2 0 nq 2)] false),[],(zs [(.arr nd 7 (a8 RD D) none de dx dy),(.arr md 2 (a8 [.u8,.u8] T) none te tx ty),(.arr nq 2 (a8 [.i8,.i8] Q) none qe qx qy)]),J3,3⟩
def Ts:St:=⟨o4 (d9 En 3 [(.agg [(.sa .h 0 nd 7),(.sa J1 0 md 2)]),(.agg [(.int .i16 n0),(.int .i16 n1),(.int .i16 n2),(.int .i16 n3)]),(.bool up),(.agg [(.int .i8 x),(.int .i8 y)]),(.sa J2 0 nq 2)] false),[],(zs [(.arr nd 7 (a8 RD D) none de dx dy),(.arr md 2 (a8 [.u8,.u8] T) none te tx ty),(.arr nq 2 (a8 [.i8,.i8] Q) none qe qx qy)]),J3,3⟩
def Tt:St:=⟨o4 (d9 En 3 [(.agg [(.sa .h 0 nd 7),(.sa J1 0 md 2)]),(.agg [(.int .i16 n0),(.int .i16 n1),(.int .i16 n2),(.int .i16 n3)]),(.bool up),(.agg [(.int .i8 x),(.int .i8 y)]),(.sa J2 0 nq 2)] false),[],(zs [(.arr nd 7 (a8 RD D) none de dx dy),(.arr md 2 (a8 [.u8,.u8] T) none te tx ty),(.arr nq 2 (a8 [.i8,.i8] Q) none qe qx qy)]),J3,3⟩
def Tu:St:=⟨o4 (d9 En 3 [(.agg [(.sa .h 0 nd 7),(.sa J1 0 md 2)]),(.agg [(.int .i16 n0),(.int .i16 n1),(.int .i16 n2),(.int .i16 n3)]),(.bool up),(.agg [(.int .i8 x),(.int .i8 y)]),(.sa J2 0 nq 2)] false),[],(zs [(.arr nd 7 (a8 RD D) none de dx dy),(.arr md 2 (a8 [.u8,.u8] T) none te tx ty),(.arr nq 2 (a8 [.i8,.i8] Q) none qe qx qy)]),J3,3⟩
def xL:St:=⟨o4 (d9 En 3 [(.agg [(.sa .h 0 nd 7),.nils]),(.agg [(.int .i16 n0),(.int .i16 n1),(.int .i16 n2),(.int .i16 n3)]),(.bool up),(.agg [(.int .i8 x),(.int .i8 y)]),(.sa J2 0 nq 2)] false),[],[(.h,(.arr nd 7 (a8 RD D) none de dx dy)),(J2,(.arr nq 2 (a8 [.i8,.i8] Q) none qe qx qy))],J3,3⟩
def Tv:St:=⟨o4 (d9 En 3 [(.agg [(.sa .h 0 nd 7),.nils]),(.agg [(.int .i16 n0),(.int .i16 n1),(.int .i16 n2),(.int .i16 n3)]),(.bool up),(.agg [(.int .i8 x),(.int .i8 y)]),(.sa J2 0 nq 2)] false),[],[(.h,(.arr nd 7 (a8 RD D) none de dx dy)),(J2,(.arr nq 2 (a8 [.i8,.i8] Q) none qe qx qy))],J3,3⟩
def xM:St:=⟨o4 (d9 En 3 [(.agg [.nils,(.sa J1 0 md 2)]),(.agg [(.int .i16 n0),(.int .i16 n1),(.int .i16 n2),(.int .i16 n3)]),(.bool up),(.agg [(.int .i8 x),(.int .i8 y)]),(.sa J2 0 nq 2)] false),[],[(J1,(.arr md 2 (a8 [.u8,.u8] T) none te tx ty)),(J2,(.arr nq 2 (a8 [.i8,.i8] Q) none qe qx qy))],J3,3⟩
def Tw:St:=⟨o4 (d9 En 3 [(.agg [.nils,(.sa J1 0 md 2)]),(.agg [(.int .i16 n0),(.int .i16 n1),(.int .i16 n2),(.int .i16 n3)]),(.bool up),(.agg [(.int .i8 x),(.int .i8 y)]),(.sa J2 0 nq 2)] false),[],[(J1,(.arr md 2 (a8 [.u8,.u8] T) none te tx ty)),(J2,(.arr nq 2 (a8 [.i8,.i8] Q) none qe qx qy))],J3,3⟩
def xN:St:=⟨o4 (d9 En 3 [(.agg [.nils,.nils]),(.agg [(.int .i16 n0),(.int .i16 n1),(.int .i16 n2),(.int .i16 n3)]),(.bool up),(.agg [(.int .i8 x),(.int .i8 y)]),(.sa J2 0 nq 2)] false),[],[(J2,(.arr nq 2 (a8 [.i8,.i8] Q) none qe qx qy))],J3,3⟩
def xO:St:=⟨o4 (d9 En 3 [(.agg [(.sa .h 0 nd 7),(.sa J1 0 md 2)]),(.agg [(.int .i16 n0),(.int .i16 n1),(.int .i16 n2),(.int .i16 n3)]),(.bool up),(.agg [(.int .i8 x),(.int .i8 y)]),.nils] false),[],(zs [(.arr nd 7 (a8 RD D) none de dx dy),(.arr md 2 (a8 [.u8,.u8] T) none te tx ty)]),J3,3⟩
def Tx:St:=⟨o4 (d9 En 3 [(.agg [(.sa .h 0 nd 7),(.sa J1 0 md 2)]),(.agg [(.int .i16 n0),(.int .i16 n1),(.int .i16 n2),(.int .i16 n3)]),(.bool up),(.agg [(.int .i8 x),(.int .i8 y)]),.nils] false),[],(zs [(.arr nd 7 (a8 RD D) none de dx dy),(.arr md 2 (a8 [.u8,.u8] T) none te tx ty)]),J3,3⟩
def Ty:St:=⟨o4 (d9 En 3 [(.agg [(.sa .h 0 nd 7),(.sa J1 0 md 2)]),(.agg [(.int .i16 n0),(.int .i16 n1),(.int .i16 n2),(.int .i16 n3)]),(.bool up),(.agg [(.int .i8 x),(.int .i8 y)]),.nils] false),[],(zs [(.arr nd 7 (a8 RD D) none de dx dy),(.arr md 2 (a8 [.u8,.u8] T) none te tx ty)]),J3,3⟩
def Tz:St:=⟨o4 (d9 En 3 [(.agg [(.sa .h 0 nd 7),(.sa J1 0 md 2)]),(.agg [(.int .i16 n0),(.int .i16 n1),(.int .i16 n2),(.int .i16 n3)]),(.bool up),(.agg [(.int .i8 x),(.int .i8 y)]),.nils] false),[],(zs [(.arr nd 7 (a8 RD D) none de dx dy),(.arr md 2 (a8 [.u8,.u8] T) none te tx ty)]),J3,3⟩
def xP:St:=⟨o4 (d9 En 3 [(.agg [(.sa .h 0 nd 7),.nils]),(.agg [(.int .i16 n0),(.int .i16 n1),(.int .i16 n2),(.int .i16 n3)]),(.bool up),(.agg [(.int .i8 x),(.int .i8 y)]),.nils] false),[],[(.h,(.arr nd 7 (a8 RD D) none de dx dy))],J3,3⟩
def Ua:St:=⟨o4 (d9 En 3 [(.agg [(.sa .h 0 nd 7),.nils]),(.agg [(.int .i16 n0),(.int .i16 n1),(.int .i16 n2),(.int .i16 n3)]),(.bool up),(.agg [(.int .i8 x),(.int .i8 y)]),.nils] false),[],[(.h,(.arr nd 7 (a8 RD D) none de dx dy))],J3,3⟩
def xQ:St:=⟨o4 (d9 En 3 [(.agg [.nils,(.sa J1 0 md 2)]),(.agg [(.int .i16 n0),(.int .i16 n1),(.int .i16 n2),(.int .i16 n3)]),(.bool up),(.agg [(.int .i8 x),(.int .i8 y)]),.nils] false),[],[(J1,(.arr md 2 (a8 [.u8,.u8] T) none te tx ty))],J3,3⟩
def Ub:St:=⟨o4 (d9 En 3 [(.agg [.nils,(.sa J1 0 md 2)]),(.agg [(.int .i16 n0),(.int .i16 n1),(.int .i16 n2),(.int .i16 n3)]),(.bool up),(.agg [(.int .i8 x),(.int .i8 y)]),.nils] false),[],[(J1,(.arr md 2 (a8 [.u8,.u8] T) none te tx ty))],J3,3⟩
def xR:St:=⟨o4 (d9 En 3 [(.agg [.nils,.nils]),(.agg [(.int .i16 n0),(.int .i16 n1),(.int .i16 n2),(.int .i16 n3)]),(.bool up),(.agg [(.int .i8 x),(.int .i8 y)]),.nils] false),[],[],J3,3⟩
def UH:St:=⟨cf r5 J6 [],[(fr 3 143 (ts [2,4,5,6,8] [.bool up,.sa J2 0 nq 2,.ptr J3 0,.ptr J4 0,.ptr J5 0]) [rA En 3 (pb 12) 0,cA En 3 (pb 13),cA En 3 (pb 7)])],(zs [(.arr nd 7 (a8 RD D) none de dx dy),(.arr md 2 (a8 [.u8,.u8] T) none te tx ty),(.arr nq 2 (a8 [.i8,.i8] Q) none qe qx qy),(ce 25 [(.sa .h 0 nd 7),(.sa J1 0 md 2)]),(ce 27 [(.int .i16 n0),(.int .i16 n1),(.int .i16 n2),(.int .i16 n3)]),(ce 29 [(.int .i8 x),(.int .i8 y)])]),J6,3⟩
def gD:St:=⟨(fr 3 143 (ts [4,8,11,12] [.sa J2 0 nq 2,.ptr J3 0,.ptr J4 0,.ptr J5 0]) [cA En 3 (pb 30),cA En 3 (pb 31)]),[],[(J2,(.arr nq 2 (a8 [.i8,.i8] Q) none qe qx qy)),(J3,(ce 29 [(.int .i8 x),(.int .i8 y)])),(J4,(ce 36 [(zi (0)),(zi (500)),.nils,.nils])),(J5,(zc 39 [mA,mB,mC,mD,mE,mF]))],J6,3⟩
def UI:St:=⟨cf r5 J6 [],[(fr 3 143 (ts [2,4,5,6,8] [.bool up,.sa J2 0 nq 2,.ptr J3 0,.ptr J4 0,.ptr J5 0]) [rA En 3 (pb 12) 0,cA En 3 (pb 13),cA En 3 (pb 7)])],(zs [(.arr nd 7 (a8 RD D) none de dx dy),(.arr md 2 (a8 [.u8,.u8] T) none te tx ty),(.arr nq 2 (a8 [.i8,.i8] Q) none qe qx qy),(ce 25 [(.sa .h 0 nd 7),(.sa J1 0 md 2)]),(ce 27 [(.int .i16 n0),(.int .i16 n1),(.int .i16 n2),(.int .i16 n3)]),(ce 29 [(.int .i8 x),(.int .i8 y)])]),J6,3⟩
def tZ:St:=⟨(fr 3 143 (ts [4,8,11,12] [.sa J2 0 nq 2,.ptr J3 0,.ptr J4 0,.ptr J5 0]) [cA En 3 (pb 30),cA En 3 (pb 31)]),[],[(J2,(.arr nq 2 (a8 [.i8,.i8] Q) none qe qx qy)),(J3,(ce 29 [(.int .i8 x),(.int .i8 y)])),(J4,(ce 36 [(zi (0)),(zi (500)),(.sa J6 0 n 7),.nils])),(J5,(zc 39 [mA,mB,mC,mD,mE,mF])),(J6,(o7 n Y false false))],J7,3⟩
def UJ:St:=⟨cf r5 J6 [],[(fr 3 143 (ts [2,4,5,6,8] [.bool up,.sa J2 0 nq 2,.ptr J3 0,.ptr J4 0,.ptr J5 0]) [rA En 3 (pb 12) 0,cA En 3 (pb 13),cA En 3 (pb 7)])],(zs [(.arr nd 7 (a8 RD D) none de dx dy),(.arr md 2 (a8 [.u8,.u8] T) none te tx ty),(.arr nq 2 (a8 [.i8,.i8] Q) none qe qx qy),(ce 25 [(.sa .h 0 nd 7),(.sa J1 0 md 2)]),(ce 27 [(.int .i16 n0),(.int .i16 n1),(.int .i16 n2),(.int .i16 n3)]),(ce 29 [(.int .i8 x),(.int .i8 y)])]),J6,3⟩
def uA:St:=⟨(fr 3 143 (ts [4,8,11,12] [.sa J2 0 nq 2,.ptr J3 0,.ptr J4 0,.ptr J5 0]) [cA En 3 (pb 30),cA En 3 (pb 31)]),[],[(J2,(.arr nq 2 (a8 [.i8,.i8] Q) none qe qx qy)),(J3,(ce 29 [(.int .i8 x),(.int .i8 y)])),(J4,(ce 36 [(zi (0)),(zi (500)),.nils,(.sa J6 0 m 3)])),(J5,(zc 39 [mA,mB,mC,mD,mE,mF])),(J6,(o3 m V S false false))],J7,3⟩
def UK:St:=⟨cf r5 J6 [],[(fr 3 143 (ts [2,4,5,6,8] [.bool up,.sa J2 0 nq 2,.ptr J3 0,.ptr J4 0,.ptr J5 0]) [rA En 3 (pb 12) 0,cA En 3 (pb 13),cA En 3 (pb 7)])],(zs [(.arr nd 7 (a8 RD D) none de dx dy),(.arr md 2 (a8 [.u8,.u8] T) none te tx ty),(.arr nq 2 (a8 [.i8,.i8] Q) none qe qx qy),(ce 25 [(.sa .h 0 nd 7),(.sa J1 0 md 2)]),(ce 27 [(.int .i16 n0),(.int .i16 n1),(.int .i16 n2),(.int .i16 n3)]),(ce 29 [(.int .i8 x),(.int .i8 y)])]),J6,3⟩
def Gi:St:=⟨(fr 3 143 (ts [4,8,11,12] [.sa J2 0 nq 2,.ptr J3 0,.ptr J4 0,.ptr J5 0]) [cA En 3 (pb 30),cA En 3 (pb 31)]),[],[(J2,(.arr nq 2 (a8 [.i8,.i8] Q) none qe qx qy)),(J3,(ce 29 [(.int .i8 x),(.int .i8 y)])),(J4,(ce 36 [(zi (0)),(zi (500)),(.sa J6 0 n 7),(.sa J7 0 m 3)])),(J5,(zc 39 [mA,mB,mC,mD,mE,mF])),(J6,(o7 n Y false false)),(J7,(o3 m V S false false))],J8,3⟩
def UL:St:=⟨cf r5 J6 [],[(fr 3 143 (ts [2,4,5,6,8] [.bool up,.sa J2 0 nq 2,.ptr J3 0,.ptr J4 0,.ptr J5 0]) [rA En 3 (pb 12) 0,cA En 3 (pb 13),cA En 3 (pb 7)])],[(.h,(.arr nd 7 (a8 RD D) none de dx dy)),(J2,(.arr nq 2 (a8 [.i8,.i8] Q) none qe qx qy)),(J3,(ce 25 [(.sa .h 0 nd 7),.nils])),(J4,(ce 27 [(.int .i16 n0),(.int .i16 n1),(.int .i16 n2),(.int .i16 n3)])),(J5,(ce 29 [(.int .i8 x),(.int .i8 y)]))],J6,3⟩
def UM:St:=⟨cf r5 J6 [],[(fr 3 143 (ts [2,4,5,6,8] [.bool up,.sa J2 0 nq 2,.ptr J3 0,.ptr J4 0,.ptr J5 0]) [rA En 3 (pb 12) 0,cA En 3 (pb 13),cA En 3 (pb 7)])],[(.h,(.arr nd 7 (a8 RD D) none de dx dy)),(J2,(.arr nq 2 (a8 [.i8,.i8] Q) none qe qx qy)),(J3,(ce 25 [(.sa .h 0 nd 7),.nils])),(J4,(ce 27 [(.int .i16 n0),(.int .i16 n1),(.int .i16 n2),(.int .i16 n3)])),(J5,(ce 29 [(.int .i8 x),(.int .i8 y)]))],J6,3⟩
def UN:St:=⟨cf r5 J6 [],[(fr 3 143 (ts [2,4,5,6,8] [.bool up,.sa J2 0 nq 2,.ptr J3 0,.ptr J4 0,.ptr J5 0]) [rA En 3 (pb 12) 0,cA En 3 (pb 13),cA En 3 (pb 7)])],[(J1,(.arr md 2 (a8 [.u8,.u8] T) none te tx ty)),(J2,(.arr nq 2 (a8 [.i8,.i8] Q) none qe qx qy)),(J3,(ce 25 [.nils,(.sa J1 0 md 2)])),(J4,(ce 27 [(.int .i16 n0),(.int .i16 n1),(.int .i16 n2),(.int .i16 n3)])),(J5,(ce 29 [(.int .i8 x),(.int .i8 y)]))],J6,3⟩
def UO:St:=⟨cf r5 J6 [],[(fr 3 143 (ts [2,4,5,6,8] [.bool up,.sa J2 0 nq 2,.ptr J3 0,.ptr J4 0,.ptr J5 0]) [rA En 3 (pb 12) 0,cA En 3 (pb 13),cA En 3 (pb 7)])],[(J1,(.arr md 2 (a8 [.u8,.u8] T) none te tx ty)),(J2,(.arr nq 2 (a8 [.i8,.i8] Q) none qe qx qy)),(J3,(ce 25 [.nils,(.sa J1 0 md 2)])),(J4,(ce 27 [(.int .i16 n0),(.int .i16 n1),(.int .i16 n2),(.int .i16 n3)])),(J5,(ce 29 [(.int .i8 x),(.int .i8 y)]))],J6,3⟩
def UP:St:=⟨cf r5 J6 [],[(fr 3 143 (ts [2,4,5,6,8] [.bool up,.sa J2 0 nq 2,.ptr J3 0,.ptr J4 0,.ptr J5 0]) [rA En 3 (pb 12) 0,cA En 3 (pb 13),cA En 3 (pb 7)])],[(J2,(.arr nq 2 (a8 [.i8,.i8] Q) none qe qx qy)),(J3,(ce 25 [.nils,.nils])),(J4,(ce 27 [(.int .i16 n0),(.int .i16 n1),(.int .i16 n2),(.int .i16 n3)])),(J5,(ce 29 [(.int .i8 x),(.int .i8 y)]))],J6,3⟩
def MK:St:=⟨cf r5 J6 [],[(fr 3 143 (ts [2,4,5,6,8] [.bool up,.nils,.ptr J3 0,.ptr J4 0,.ptr J5 0]) [rA En 3 (pb 12) 0,cA En 3 (pb 13),cA En 3 (pb 7)])],[(.h,(.arr nd 7 (a8 RD D) none de dx dy)),(J1,(.arr md 2 (a8 [.u8,.u8] T) none te tx ty)),(J3,(ce 25 [(.sa .h 0 nd 7),(.sa J1 0 md 2)])),(J4,(ce 27 [(.int .i16 n0),(.int .i16 n1),(.int .i16 n2),(.int .i16 n3)])),(J5,(ce 29 [(.int .i8 x),(.int .i8 y)]))],J6,3⟩
def gE:St:=⟨(fr 3 143 (ts [4,8,11,12] [.nils,.ptr J3 0,.ptr J4 0,.ptr J5 0]) [cA En 3 (pb 30),cA En 3 (pb 31)]),[],[(J3,(ce 29 [(.int .i8 x),(.int .i8 y)])),(J4,(ce 36 [(zi (0)),(zi (500)),.nils,.nils])),(J5,(zc 39 [mA,mB,mC,mD,mE,mF]))],J6,3⟩
def ML:St:=⟨cf r5 J6 [],[(fr 3 143 (ts [2,4,5,6,8] [.bool up,.nils,.ptr J3 0,.ptr J4 0,.ptr J5 0]) [rA En 3 (pb 12) 0,cA En 3 (pb 13),cA En 3 (pb 7)])],[(.h,(.arr nd 7 (a8 RD D) none de dx dy)),(J1,(.arr md 2 (a8 [.u8,.u8] T) none te tx ty)),(J3,(ce 25 [(.sa .h 0 nd 7),(.sa J1 0 md 2)])),(J4,(ce 27 [(.int .i16 n0),(.int .i16 n1),(.int .i16 n2),(.int .i16 n3)])),(J5,(ce 29 [(.int .i8 x),(.int .i8 y)]))],J6,3⟩
def uB:St:=⟨(fr 3 143 (ts [4,8,11,12] [.nils,.ptr J3 0,.ptr J4 0,.ptr J5 0]) [cA En 3 (pb 30),cA En 3 (pb 31)]),[],[(J3,(ce 29 [(.int .i8 x),(.int .i8 y)])),(J4,(ce 36 [(zi (0)),(zi (500)),(.sa J6 0 n 7),.nils])),(J5,(zc 39 [mA,mB,mC,mD,mE,mF])),(J6,(o7 n Y false false))],J7,3⟩
def MM:St:=⟨cf r5 J6 [],[(fr 3 143 (ts [2,4,5,6,8] [.bool up,.nils,.ptr J3 0,.ptr J4 0,.ptr J5 0]) [rA En 3 (pb 12) 0,cA En 3 (pb 13),cA En 3 (pb 7)])],[(.h,(.arr nd 7 (a8 RD D) none de dx dy)),(J1,(.arr md 2 (a8 [.u8,.u8] T) none te tx ty)),(J3,(ce 25 [(.sa .h 0 nd 7),(.sa J1 0 md 2)])),(J4,(ce 27 [(.int .i16 n0),(.int .i16 n1),(.int .i16 n2),(.int .i16 n3)])),(J5,(ce 29 [(.int .i8 x),(.int .i8 y)]))],J6,3⟩
def uC:St:=⟨(fr 3 143 (ts [4,8,11,12] [.nils,.ptr J3 0,.ptr J4 0,.ptr J5 0]) [cA En 3 (pb 30),cA En 3 (pb 31)]),[],[(J3,(ce 29 [(.int .i8 x),(.int .i8 y)])),(J4,(ce 36 [(zi (0)),(zi (500)),.nils,(.sa J6 0 m 3)])),(J5,(zc 39 [mA,mB,mC,mD,mE,mF])),(J6,(o3 m V S false false))],J7,3⟩
def MN:St:=⟨cf r5 J6 [],[(fr 3 143 (ts [2,4,5,6,8] [.bool up,.nils,.ptr J3 0,.ptr J4 0,.ptr J5 0]) [rA En 3 (pb 12) 0,cA En 3 (pb 13),cA En 3 (pb 7)])],[(.h,(.arr nd 7 (a8 RD D) none de dx dy)),(J1,(.arr md 2 (a8 [.u8,.u8] T) none te tx ty)),(J3,(ce 25 [(.sa .h 0 nd 7),(.sa J1 0 md 2)])),(J4,(ce 27 [(.int .i16 n0),(.int .i16 n1),(.int .i16 n2),(.int .i16 n3)])),(J5,(ce 29 [(.int .i8 x),(.int .i8 y)]))],J6,3⟩
def Gj:St:=⟨(fr 3 143 (ts [4,8,11,12] [.nils,.ptr J3 0,.ptr J4 0,.ptr J5 0]) [cA En 3 (pb 30),cA En 3 (pb 31)]),[],[(J3,(ce 29 [(.int .i8 x),(.int .i8 y)])),(J4,(ce 36 [(zi (0)),(zi (500)),(.sa J6 0 n 7),(.sa J7 0 m 3)])),(J5,(zc 39 [mA,mB,mC,mD,mE,mF])),(J6,(o7 n Y false false)),(J7,(o3 m V S false false))],J8,3⟩
def MO:St:=⟨cf r5 J6 [],[(fr 3 143 (ts [2,4,5,6,8] [.bool up,.nils,.ptr J3 0,.ptr J4 0,.ptr J5 0]) [rA En 3 (pb 12) 0,cA En 3 (pb 13),cA En 3 (pb 7)])],[(.h,(.arr nd 7 (a8 RD D) none de dx dy)),(J3,(ce 25 [(.sa .h 0 nd 7),.nils])),(J4,(ce 27 [(.int .i16 n0),(.int .i16 n1),(.int .i16 n2),(.int .i16 n3)])),(J5,(ce 29 [(.int .i8 x),(.int .i8 y)]))],J6,3⟩
def MP:St:=⟨cf r5 J6 [],[(fr 3 143 (ts [2,4,5,6,8] [.bool up,.nils,.ptr J3 0,.ptr J4 0,.ptr J5 0]) [rA En 3 (pb 12) 0,cA En 3 (pb 13),cA En 3 (pb 7)])],[(.h,(.arr nd 7 (a8 RD D) none de dx dy)),(J3,(ce 25 [(.sa .h 0 nd 7),.nils])),(J4,(ce 27 [(.int .i16 n0),(.int .i16 n1),(.int .i16 n2),(.int .i16 n3)])),(J5,(ce 29 [(.int .i8 x),(.int .i8 y)]))],J6,3⟩
def MQ:St:=⟨cf r5 J6 [],[(fr 3 143 (ts [2,4,5,6,8] [.bool up,.nils,.ptr J3 0,.ptr J4 0,.ptr J5 0]) [rA En 3 (pb 12) 0,cA En 3 (pb 13),cA En 3 (pb 7)])],[(J1,(.arr md 2 (a8 [.u8,.u8] T) none te tx ty)),(J3,(ce 25 [.nils,(.sa J1 0 md 2)])),(J4,(ce 27 [(.int .i16 n0),(.int .i16 n1),(.int .i16 n2),(.int .i16 n3)])),(J5,(ce 29 [(.int .i8 x),(.int .i8 y)]))],J6,3⟩
def MS:St:=⟨cf r5 J6 [],[(fr 3 143 (ts [2,4,5,6,8] [.bool up,.nils,.ptr J3 0,.ptr J4 0,.ptr J5 0]) [rA En 3 (pb 12) 0,cA En 3 (pb 13),cA En 3 (pb 7)])],[(J1,(.arr md 2 (a8 [.u8,.u8] T) none te tx ty)),(J3,(ce 25 [.nils,(.sa J1 0 md 2)])),(J4,(ce 27 [(.int .i16 n0),(.int .i16 n1),(.int .i16 n2),(.int .i16 n3)])),(J5,(ce 29 [(.int .i8 x),(.int .i8 y)]))],J6,3⟩
def MT:St:=⟨cf r5 J6 [],[(fr 3 143 (ts [2,4,5,6,8] [.bool up,.nils,.ptr J3 0,.ptr J4 0,.ptr J5 0]) [rA En 3 (pb 12) 0,cA En 3 (pb 13),cA En 3 (pb 7)])],[(J3,(ce 25 [.nils,.nils])),(J4,(ce 27 [(.int .i16 n0),(.int .i16 n1),(.int .i16 n2),(.int .i16 n3)])),(J5,(ce 29 [(.int .i8 x),(.int .i8 y)]))],J6,3⟩
def MU:St:=⟨cf (I8 (0) (500) mA mB mC mD mE mF) J6 [.h,J1],[(fr 3 143 (ts [4,8,11,12] [.sa J2 0 nq 2,.ptr J3 0,.ptr J4 0,.ptr J5 0]) [rA En 3 (pb 30) 2,cA En 3 (pb 31)])],[(J2,(.arr nq 2 (a8 [.i8,.i8] Q) none qe qx qy)),(J3,(ce 29 [(.int .i8 x),(.int .i8 y)])),(J4,(ce 36 [(zi (0)),(zi (500)),.nils,.nils])),(J5,(zc 39 [mA,mB,mC,mD,mE,mF]))],J6,3⟩
def MV:St:=⟨cf (z6 (0) (500) mA mB mC mD mE mF x y) J5 [],[(fr 3 143 (ts [4,8,13,14] [.sa J2 0 nq 2,.ptr J3 0,.ptr J4 0,zi e_19]) [rA En 3 (pb 62) 8,cA En 3 (pb 63)])],[(J2,(.arr nq 2 (a8 [.i8,.i8] Q) none qe qx qy)),(J3,(ce 29 [(.int .i8 x),(.int .i8 y)])),(J4,(ce 42 [(zi (0)),(zi (0)),(zi (0)),(zi (0)),(.str [])]))],J5,3⟩
def MW:St:=⟨cf (z6 (0) (500) mA mB mC mD mE mF x y) J5 [],[(fr 3 143 (ts [4,8,13,14] [.sa J2 0 nq 2,.ptr J3 0,.ptr J4 0,zi (0)]) [rA En 3 (pb 62) 8,cA En 3 (pb 63)])],[(J2,(.arr nq 2 (a8 [.i8,.i8] Q) none qe qx qy)),(J3,(ce 29 [(.int .i8 x),(.int .i8 y)])),(J4,(ce 42 [(zi kx_19),(zi ky_19),(zi kw_19),(zi kh_19),(.str l_19)]))],J5,3⟩
def xS:St:=⟨(fr 3 143 (ts [4,8,13,15] [.sa J2 0 nq 2,.ptr J3 0,.ptr J4 0,.sa J5 0 n 7]) [cA En 3 (pb 254),cA En 3 (pb 255)]),[],[(J2,(.arr nq 2 (a8 [.i8,.i8] Q) none qe qx qy)),(J3,(ce 29 [(.int .i8 x),(.int .i8 y)])),(J4,(ce 42 [(zi kx),(zi ky),(zi kw),(zi kh),(.str l)])),(J5,(o7 n P true false))],J6,3⟩
def MX:St:=⟨cf (U7 n Y false false (0) (500) mA mB mC mD mE mF) J7 [J3,.h],[(fr 3 143 (ts [4,8,11,12] [.sa J2 0 nq 2,.ptr J4 0,.ptr J5 0,.ptr J6 0]) [rA En 3 (pb 30) 2,cA En 3 (pb 31)])],[(J2,(.arr nq 2 (a8 [.i8,.i8] Q) none qe qx qy)),(J3,(o7 n Y false false)),(J4,(ce 29 [(.int .i8 x),(.int .i8 y)])),(J5,(ce 36 [(zi (0)),(zi (500)),(.sa J3 0 n 7),.nils])),(J6,(zc 39 [mA,mB,mC,mD,mE,mF]))],J7,3⟩
def MY:St:=⟨cf (K8 n Y false false (0) (500) mA mB mC mD mE mF x y) J6 [J3],[(fr 3 143 (ts [4,8,13,14] [.sa J2 0 nq 2,.ptr J4 0,.ptr J5 0,zi e_22]) [rA En 3 (pb 62) 8,cA En 3 (pb 63)])],[(J2,(.arr nq 2 (a8 [.i8,.i8] Q) none qe qx qy)),(J3,(o7 n Y false false)),(J4,(ce 29 [(.int .i8 x),(.int .i8 y)])),(J5,(ce 42 [(zi (0)),(zi (0)),(zi (0)),(zi (0)),(.str [])]))],J6,3⟩
def MZ:St:=⟨cf (K8 n Y false false (0) (500) mA mB mC mD mE mF x y) J6 [J3],[(fr 3 143 (ts [4,8,13,14] [.sa J2 0 nq 2,.ptr J4 0,.ptr J5 0,zi (0)]) [rA En 3 (pb 62) 8,cA En 3 (pb 63)])],[(J2,(.arr nq 2 (a8 [.i8,.i8] Q) none qe qx qy)),(J3,(o7 n Y false false)),(J4,(ce 29 [(.int .i8 x),(.int .i8 y)])),(J5,(ce 42 [(zi kx_22),(zi ky_22),(zi kw_22),(zi kh_22),(.str l_22)]))],J6,3⟩
def NA:St:=⟨cf (U8 (0) (500) m V S false false mA mB mC mD mE mF) J7 [J3,.h],[(fr 3 143 (ts [4,8,11,12] [.sa J2 0 nq 2,.ptr J4 0,.ptr J5 0,.ptr J6 0]) [rA En 3 (pb 30) 2,cA En 3 (pb 31)])],[(J2,(.arr nq 2 (a8 [.i8,.i8] Q) none qe qx qy)),(J3,(o3 m V S false false)),(J4,(ce 29 [(.int .i8 x),(.int .i8 y)])),(J5,(ce 36 [(zi (0)),(zi (500)),.nils,(.sa J3 0 m 3)])),(J6,(zc 39 [mA,mB,mC,mD,mE,mF]))],J7,3⟩
def NB:St:=⟨cf (D9 (0) (500) m V S false false mA mB mC mD mE mF x y) J6 [J3],[(fr 3 143 (ts [4,8,13,14] [.sa J2 0 nq 2,.ptr J4 0,.ptr J5 0,zi e_25]) [rA En 3 (pb 62) 8,cA En 3 (pb 63)])],[(J2,(.arr nq 2 (a8 [.i8,.i8] Q) none qe qx qy)),(J3,(o3 m V S false false)),(J4,(ce 29 [(.int .i8 x),(.int .i8 y)])),(J5,(ce 42 [(zi (0)),(zi (0)),(zi (0)),(zi (0)),(.str [])]))],J6,3⟩
def NC:St:=⟨cf (D9 (0) (500) m V S false false mA mB mC mD mE mF x y) J6 [J3],[(fr 3 143 (ts [4,8,13,14] [.sa J2 0 nq 2,.ptr J4 0,.ptr J5 0,zi (0)]) [rA En 3 (pb 62) 8,cA En 3 (pb 63)])],[(J2,(.arr nq 2 (a8 [.i8,.i8] Q) none qe qx qy)),(J3,(o3 m V S false false)),(J4,(ce 29 [(.int .i8 x),(.int .i8 y)])),(J5,(ce 42 [(zi kx_25),(zi ky_25),(zi kw_25),(zi kh_25),(.str l_25)]))],J6,3⟩
def ND:St:=⟨cf (bP n Y false false (0) (500) m V S false false mA mB mC mD mE mF) J8 [J3,J4],[(fr 3 143 (ts [4,8,11,12] [.sa J2 0 nq 2,.ptr J5 0,.ptr J6 0,.ptr J7 0]) [rA En 3 (pb 30) 2,cA En 3 (pb 31)])],[(J2,(.arr nq 2 (a8 [.i8,.i8] Q) none qe qx qy)),(J3,(o7 n Y false false)),(J4,(o3 m V S false false)),(J5,(ce 29 [(.int .i8 x),(.int .i8 y)])),(J6,(ce 36 [(zi (0)),(zi (500)),(.sa J3 0 n 7),(.sa J4 0 m 3)])),(J7,(zc 39 [mA,mB,mC,mD,mE,mF]))],J8,3⟩
def NE:St:=⟨cf (P5 n Y false false (0) (500) m V S false false mA mB mC mD mE mF x y) J7 [J3,J4],[(fr 3 143 (ts [4,8,13,14] [.sa J2 0 nq 2,.ptr J5 0,.ptr J6 0,zi e_28]) [rA En 3 (pb 62) 8,cA En 3 (pb 63)])],[(J2,(.arr nq 2 (a8 [.i8,.i8] Q) none qe qx qy)),(J3,(o7 n Y false false)),(J4,(o3 m V S false false)),(J5,(ce 29 [(.int .i8 x),(.int .i8 y)])),(J6,(ce 42 [(zi (0)),(zi (0)),(zi (0)),(zi (0)),(.str [])]))],J7,3⟩
def NF:St:=⟨cf (P5 n Y false false (0) (500) m V S false false mA mB mC mD mE mF x y) J7 [J3,J4],[(fr 3 143 (ts [4,8,13,14] [.sa J2 0 nq 2,.ptr J5 0,.ptr J6 0,zi (0)]) [rA En 3 (pb 62) 8,cA En 3 (pb 63)])],[(J2,(.arr nq 2 (a8 [.i8,.i8] Q) none qe qx qy)),(J3,(o7 n Y false false)),(J4,(o3 m V S false false)),(J5,(ce 29 [(.int .i8 x),(.int .i8 y)])),(J6,(ce 42 [(zi kx_28),(zi ky_28),(zi kw_28),(zi kh_28),(.str l_28)]))],J7,3⟩
def NG:St:=⟨cf (I8 (0) (500) mA mB mC mD mE mF) J6 [.h,J1],[(fr 3 143 (ts [4,8,11,12] [.nils,.ptr J3 0,.ptr J4 0,.ptr J5 0]) [rA En 3 (pb 30) 2,cA En 3 (pb 31)])],[(J3,(ce 29 [(.int .i8 x),(.int .i8 y)])),(J4,(ce 36 [(zi (0)),(zi (500)),.nils,.nils])),(J5,(zc 39 [mA,mB,mC,mD,mE,mF]))],J6,3⟩
def NH:St:=⟨cf (z6 (0) (500) mA mB mC mD mE mF x y) J5 [],[(fr 3 143 (ts [4,8,13,14] [.nils,.ptr J3 0,.ptr J4 0,zi e_31]) [rA En 3 (pb 62) 8,cA En 3 (pb 63)])],[(J3,(ce 29 [(.int .i8 x),(.int .i8 y)])),(J4,(ce 42 [(zi (0)),(zi (0)),(zi (0)),(zi (0)),(.str [])]))],J5,3⟩
def NI:St:=⟨cf (z6 (0) (500) mA mB mC mD mE mF x y) J5 [],[(fr 3 143 (ts [4,8,13,14] [.nils,.ptr J3 0,.ptr J4 0,zi (0)]) [rA En 3 (pb 62) 8,cA En 3 (pb 63)])],[(J3,(ce 29 [(.int .i8 x),(.int .i8 y)])),(J4,(ce 42 [(zi kx_31),(zi ky_31),(zi kw_31),(zi kh_31),(.str l_31)]))],J5,3⟩
def xU:St:=⟨(fr 3 143 (ts [4,8,13,15] [.nils,.ptr J3 0,.ptr J4 0,.sa J5 0 n 7]) [cA En 3 (pb 254),cA En 3 (pb 255)]),[],[(J3,(ce 29 [(.int .i8 x),(.int .i8 y)])),(J4,(ce 42 [(zi kx),(zi ky),(zi kw),(zi kh),(.str l)])),(J5,(o7 n P true false))],J6,3⟩
def NJ:St:=⟨cf (U7 n Y false false (0) (500) mA mB mC mD mE mF) J7 [J3,.h],[(fr 3 143 (ts [4,8,11,12] [.nils,.ptr J4 0,.ptr J5 0,.ptr J6 0]) [rA En 3 (pb 30) 2,cA En 3 (pb 31)])],[(J3,(o7 n Y false false)),(J4,(ce 29 [(.int .i8 x),(.int .i8 y)])),(J5,(ce 36 [(zi (0)),(zi (500)),(.sa J3 0 n 7),.nils])),(J6,(zc 39 [mA,mB,mC,mD,mE,mF]))],J7,3⟩
def NK:St:=⟨cf (K8 n Y false false (0) (500) mA mB mC mD mE mF x y) J6 [J3],[(fr 3 143 (ts [4,8,13,14] [.nils,.ptr J4 0,.ptr J5 0,zi e_34]) [rA En 3 (pb 62) 8,cA En 3 (pb 63)])],[(J3,(o7 n Y false false)),(J4,(ce 29 [(.int .i8 x),(.int .i8 y)])),(J5,(ce 42 [(zi (0)),(zi (0)),(zi (0)),(zi (0)),(.str [])]))],J6,3⟩
def NL:St:=⟨cf (K8 n Y false false (0) (500) mA mB mC mD mE mF x y) J6 [J3],[(fr 3 143 (ts [4,8,13,14] [.nils,.ptr J4 0,.ptr J5 0,zi (0)]) [rA En 3 (pb 62) 8,cA En 3 (pb 63)])],[(J3,(o7 n Y false false)),(J4,(ce 29 [(.int .i8 x),(.int .i8 y)])),(J5,(ce 42 [(zi kx_34),(zi ky_34),(zi kw_34),(zi kh_34),(.str l_34)]))],J6,3⟩
def NM:St:=⟨cf (U8 (0) (500) m V S false false mA mB mC mD mE mF) J7 [J3,.h],[(fr 3 143 (ts [4,8,11,12] [.nils,.ptr J4 0,.ptr J5 0,.ptr J6 0]) [rA En 3 (pb 30) 2,cA En 3 (pb 31)])],[(J3,(o3 m V S false false)),(J4,(ce 29 [(.int .i8 x),(.int .i8 y)])),(J5,(ce 36 [(zi (0)),(zi (500)),.nils,(.sa J3 0 m 3)])),(J6,(zc 39 [mA,mB,mC,mD,mE,mF]))],J7,3⟩
def NN:St:=⟨cf (D9 (0) (500) m V S false false mA mB mC mD mE mF x y) J6 [J3],[(fr 3 143 (ts [4,8,13,14] [.nils,.ptr J4 0,.ptr J5 0,zi e_37]) [rA En 3 (pb 62) 8,cA En 3 (pb 63)])],[(J3,(o3 m V S false false)),(J4,(ce 29 [(.int .i8 x),(.int .i8 y)])),(J5,(ce 42 [(zi (0)),(zi (0)),(zi (0)),(zi (0)),(.str [])]))],J6,3⟩
def NO:St:=⟨cf (D9 (0) (500) m V S false false mA mB mC mD mE mF x y) J6 [J3],[(fr 3 143 (ts [4,8,13,14] [.nils,.ptr J4 0,.ptr J5 0,zi (0)]) [rA En 3 (pb 62) 8,cA En 3 (pb 63)])],[(J3,(o3 m V S false false)),(J4,(ce 29 [(.int .i8 x),(.int .i8 y)])),(J5,(ce 42 [(zi kx_37),(zi ky_37),(zi kw_37),(zi kh_37),(.str l_37)]))],J6,3⟩
def NP:St:=⟨cf (bP n Y false false (0) (500) m V S false false mA mB mC mD mE mF) J8 [J3,J4],[(fr 3 143 (ts [4,8,11,12] [.nils,.ptr J5 0,.ptr J6 0,.ptr J7 0]) [rA En 3 (pb 30) 2,cA En 3 (pb 31)])],[(J3,(o7 n Y false false)),(J4,(o3 m V S false false)),(J5,(ce 29 [(.int .i8 x),(.int .i8 y)])),(J6,(ce 36 [(zi (0)),(zi (500)),(.sa J3 0 n 7),(.sa J4 0 m 3)])),(J7,(zc 39 [mA,mB,mC,mD,mE,mF]))],J8,3⟩
def NQ:St:=⟨cf (P5 n Y false false (0) (500) m V S false false mA mB mC mD mE mF x y) J7 [J3,J4],[(fr 3 143 (ts [4,8,13,14] [.nils,.ptr J5 0,.ptr J6 0,zi e_40]) [rA En 3 (pb 62) 8,cA En 3 (pb 63)])],[(J3,(o7 n Y false false)),(J4,(o3 m V S false false)),(J5,(ce 29 [(.int .i8 x),(.int .i8 y)])),(J6,(ce 42 [(zi (0)),(zi (0)),(zi (0)),(zi (0)),(.str [])]))],J7,3⟩
def NR:St:=⟨cf (P5 n Y false false (0) (500) m V S false false mA mB mC mD mE mF x y) J7 [J3,J4],[(fr 3 143 (ts [4,8,13,14] [.nils,.ptr J5 0,.ptr J6 0,zi (0)]) [rA En 3 (pb 62) 8,cA En 3 (pb 63)])],[(J3,(o7 n Y false false)),(J4,(o3 m V S false false)),(J5,(ce 29 [(.int .i8 x),(.int .i8 y)])),(J6,(ce 42 [(zi kx_40),(zi ky_40),(zi kw_40),(zi kh_40),(.str l_40)]))],J7,3⟩
def NS:St:=⟨cf (Cc n P true false) J6 [J3],[(fr 3 143 (ts [4,8,13] [.sa J2 0 nq 2,.ptr J4 0,.ptr J5 0]) [rA En 3 (pb 254) 1,cA En 3 (pb 255)])],[(J2,(.arr nq 2 (a8 [.i8,.i8] Q) none qe qx qy)),(J3,(o7 n P true false)),(J4,(ce 29 [(.int .i8 x),(.int .i8 y)])),(J5,(ce 42 [(zi kx),(zi ky),(zi kw),(zi kh),(.str l)]))],J6,3⟩
def Gk:St:=⟨(fr 3 143 (ts [4,8,13,15,17] [.sa J2 0 nq 2,.ptr J3 0,.ptr J4 0,.sa J5 0 N 7,zn i]) [cA En 3 (pb 8180),lA En 3 (pb 8180),.blk 0,cA En 3 (pb 1023)]),[],[(J2,(.arr nq 2 (a8 [.i8,.i8] Q) none qe qx qy)),(J3,(ce 29 [(.int .i8 x),(.int .i8 y)])),(J4,(ce 42 [(zi kx),(zi ky),(zi kw),(zi kh),(.str l)])),(J5,(o7 N F oe false))],J6,3⟩
def NT:St:=⟨cf (Cc n P true false) J6 [J3],[(fr 3 143 (ts [4,8,13] [.nils,.ptr J4 0,.ptr J5 0]) [rA En 3 (pb 254) 1,cA En 3 (pb 255)])],[(J3,(o7 n P true false)),(J4,(ce 29 [(.int .i8 x),(.int .i8 y)])),(J5,(ce 42 [(zi kx),(zi ky),(zi kw),(zi kh),(.str l)]))],J6,3⟩
def FT:St:=⟨(fr 3 143 (ts [4,8,13,15,17] [.nils,.ptr J3 0,.ptr J4 0,.sa J5 0 N 7,zi (0)]) [cA En 3 (pb 8180),lA En 3 (pb 8180),.blk 0,cA En 3 (pb 1023)]),[],[(J3,(ce 29 [(.int .i8 x),(.int .i8 y)])),(J4,(ce 42 [(zi kx),(zi ky),(zi kw),(zi kh),(.str l)])),(J5,(o7 N F oe false))],J6,3⟩
end
end Go.Proofs.Ytoahnefofelglaa.gm
end
