/- A part of the proof of GlyphCovers; no condition. -/
import Derived.Test.YtoahnefofelglaaGlyphCovers08
set_option linter.unusedVariables false
set_option linter.unusedSimpArgs false
set_option linter.unusedSectionVars false
noncomputable section
section
namespace Go.Proofs.Ytoahnefofelglaa.gm
open Go Go.AM
abbrev uE (i m:Nat):Bool:=(Nat.ble (Nat.succ i) m)
abbrev JJ (O:Nat→Nat→Int):Int:=(Int.add (O 0 1) (O 0 2))
abbrev JK (j k:Nat):Bool:=(Nat.ble (Nat.succ (Nat.succ j)) k)
abbrev RY (q:Nat):Nat:=(Int.toNat (Int.sub (.ofNat (Nat.succ q)) (1)))
abbrev qR (j:Nat):Nat:=(Int.toNat (Int.sub (.ofNat (Nat.succ j)) (1)))
abbrev VL (O:Nat→Nat→Int):Bool:=(a6 (c9 (O 0 1) (O 0 1)) (a6 (c9 (O 0 1) (O 0 1)) true))
abbrev RZ (O:Nat→Nat→Int) (sc:Int):Int:=(Int.fdiv (Int.add (Int.add (Int.mul (O 0 1) sc) (0)) (32768)) (65536))
abbrev DS (i m:Nat):Bool:=(a6 (a6 (uE i m) true) (a6 (a6 (a6 (uE i m) true) true) true))
abbrev Fd (i:Nat):Bool:=(a6 (a6 (f9 (-9223372036854775808) (.ofNat (Nat.add i 1))) (Nat.ble (Nat.add i 1) 9223372036854775807)) true)
abbrev OQ (O:Nat→Nat→Int) (sc:Int):Int:=(Int.sub (Int.fdiv (Int.add (Int.add (Int.mul (JJ O) sc) (0)) (32768)) (65536)) (RZ O sc))
abbrev Yb (O:Nat→Nat→Int) (j:Nat):Int:=(d7 (i4 (O (Nat.succ j) 1) (O (qR j) 1)) (-1) (d7 (i4 (O (qR j) 1) (O (Nat.succ j) 1)) (1) (0)))
abbrev Yc (O:Nat→Nat→Int) (j:Nat):Int:=(d7 (i4 (O (Nat.succ j) 2) (O (qR j) 2)) (-1) (d7 (i4 (O (qR j) 2) (O (Nat.succ j) 2)) (1) (0)))
abbrev fM (i m:Nat) (zz:Bool):Bool:=(a6 (uE i m) (a6 (DS i m) zz))
section
variable {Z:Nat→Nat→Int} {A:Int} (hA:0≤A) (h:∀ j k,-A≤Z j k∧Z j k≤A) (i:Nat) {x y:Int} (hx : -A≤x∧x≤A) (hy : -A≤y∧y≤A)
include hA h i hx hy
theorem nS:∀ j k,-A≤i2 Z i [x,y] j k∧i2 Z i [x,y] j k≤A:=
 M9 hA h i (fun z hz=>by
  rcases List.mem_cons.1 hz with rfl|hz
  ·exact hx
  rcases List.mem_cons.1 hz with rfl|hz
  ·exact hy
  cases hz)
theorem wW:∀ j k,-A≤i2 Z i (0::[x,y]) j k∧i2 Z i (0::[x,y]) j k≤A:=
 M9 hA h i (fun z hz=>by
  rcases List.mem_cons.1 hz with rfl|hz
  ·omega
  rcases List.mem_cons.1 hz with rfl|hz
  ·exact hx
  rcases List.mem_cons.1 hz with rfl|hz
  ·exact hy
  cases hz)
end
def G0 (m:Nat) (V:Nat→Bool) (Y:Nat→Nat→Int):Prop:=∀ i j,i < j→j < m→V i=V j→Y i 1+Y i 2 < Y j 1
def Fe (V:Nat→Bool) (Y:Nat→Nat→Int) (vert:Bool) (i k:Nat) (O:Nat→Nat→Int):Prop:=
 (∀ j,j < k→∃ f,f < i∧V f=vert∧O j 1=Y f 1∧O j 2=Y f 2)∧(∀ j,j+1 < k→O j 1+O j 2 < O (j+1) 1)
theorem Fe.push {m:Nat} {V:Nat→Bool} {Y:Nat→Nat→Int} {vert:Bool} {i k:Nat} {O:Nat→Nat→Int} (h:Fe V Y vert i k O) (hs:G0 m V Y) (hi:i < m) (hv:V i=vert):Fe V Y vert (i+1) (k+1) (i2 O k (0::[Y i 1,Y i 2])):=by
 have hne:∀ j c,j≠k→i2 O k (0::[Y i 1,Y i 2]) j c=O j c:=fun j c e=>N1 _ _ _ e
 refine ⟨fun j hj=>?_,fun j hj=>?_⟩
 ·by_cases e:j=k
  ·subst e;exact ⟨i,by omega,hv,x9 ..,x9 ..⟩
  obtain ⟨f,h1,h2,h3,h4⟩:=h.1 j (by omega)
  exact ⟨f,by omega,h2,by rw [hne j 1 e];exact h3,by rw [hne j 2 e];exact h4⟩
 rw [hne j 1 (by omega),hne j 2 (by omega)]
 by_cases e:j+1=k
 ·rw [e]
  obtain ⟨f,h1,h2,h3,h4⟩:=h.1 j (by omega)
  rw [h3,h4,x9]
  exact hs f i h1 hi (h2.trans hv.symm)
 rw [hne (j+1) 1 e];exact h.2 j (by omega)
theorem Fe.skip {V:Nat→Bool} {Y:Nat→Nat→Int} {vert:Bool} {i k:Nat} {O:Nat→Nat→Int} (h:Fe V Y vert i k O):Fe V Y vert (i+1) k O:=
 ⟨fun j hj=>by obtain ⟨f,h1,h2,h3,h4⟩:=h.1 j hj;exact ⟨f,by omega,h2,h3,h4⟩,h.2⟩
def DT (m:Nat) (Y:Nat→Nat→Int):Prop:=∀ i,i < m→1≤Y i 2
def QF (m:Nat) (V:Nat→Bool) (vert:Bool) (sc:Int):AV→Hp→Prop:=fun v H =>
 (v=.tup [.agg [.int .i64 0,.int .i64 0,.nils],.int .i64 2]∧H.nx=.o .h)∨(v=.tup [.agg [.int .i64 sc,.int .i64 0,.nils],.int .i64 0]∧H.nx=.o .h∧∀ i,i < m→V i≠vert) ∨
 (∃ (q:Nat) (K:Nat→Nat→Int),v=.tup [.agg [.int .i64 sc,.int .i64 0,.sa J1 0 (Nat.succ q) 2],.int .i64 0]∧H.nx=.i .h∧H.hp.get J1=some (.arr (Nat.succ q) 2 (a8 [.i64,.i64] K) none 159 false false) ∧
  q≤100∧(∀ j k,-1000000000000≤K j k∧K j k≤1000000000000))
theorem ZO {K:Nat→Nat→Int} {A:Int} (h:∀ a c,-A≤K a c∧K a c≤A) (hA:A≤1000000000000):∀ a c,-1000000000000≤K a c∧K a c≤1000000000000:=fun a c=>by
 have:=h a c;omega
theorem px {u w sc lo:Int} (hsc:1≤sc∧sc≤16777216) (hu : -32000≤u∧u≤32000) (hw : -64000≤w∧w≤64000) {A:Int} (hlo : -A≤lo∧lo≤A) (hA:100000000≤A) :
 (-(A+50000000)≤d7 (i4 (Int.mul (Int.fdiv (Int.add (Int.fdiv (Int.add (Int.add (Int.mul u sc) (0)) (32768)) (65536)) (8)) (16)) (16)) lo) lo (Int.mul (Int.fdiv (Int.add (Int.fdiv (Int.add (Int.add (Int.mul u sc) (0)) (32768)) (65536)) (8)) (16)) (16)) ∧
  d7 (i4 (Int.mul (Int.fdiv (Int.add (Int.fdiv (Int.add (Int.add (Int.mul u sc) (0)) (32768)) (65536)) (8)) (16)) (16)) lo) lo (Int.mul (Int.fdiv (Int.add (Int.fdiv (Int.add (Int.add (Int.mul u sc) (0)) (32768)) (65536)) (8)) (16)) (16))≤A+50000000) ∧
 (-(50000000)≤Int.mul (Int.fdiv (Int.add (Int.fdiv (Int.add (Int.add (Int.mul u sc) (0)) (32768)) (65536)) (8)) (16)) (16)∧Int.mul (Int.fdiv (Int.add (Int.fdiv (Int.add (Int.add (Int.mul u sc) (0)) (32768)) (65536)) (8)) (16)) (16)≤50000000) ∧
 (-(50000000)≤Int.fdiv (Int.add (Int.add (Int.mul w sc) (0)) (32768)) (65536)∧Int.fdiv (Int.add (Int.add (Int.mul w sc) (0)) (32768)) (65536)≤50000000):=by
 have h1:=V7 (u:=u) 32000 hsc hu
 have h2:=V7 (u:=w) 64000 hsc hw
 simp only [j8,j7,m8,q8,X9,Q0,m5] at *
 refine ⟨?_,?_,?_⟩ <;> omega
section
variable {m:Nat} {V:Nat→Bool} {Y:Nat→Nat→Int} {ex sty vert:Bool} {sc:Int} {k:Nat} {W:Nat→Bool} {O:Nat→Nat→Int} (hm8:m≤8) (hY:∀ j k,-32000≤Y j k∧Y j k≤32000) (hsc:1≤sc∧sc≤16777216) (hown:∀ j,j+1 < k→O j 1+O j 2 < O (j+1) 1) (hO:∀ j k,-32000≤O j k∧O j k≤32000) (hL:∀ j,j < k→1≤O j 2) (hk8:k≤8)
include hm8 hY hsc hown hO hL hk8
theorem JL (d:Nat) :
 ∀ (j:Nat) (zv:Bool) (zA zL:Int) (q:Nat) (K:Nat→Nat→Int),k - j=d→j≤k→1≤j→q+1=2 * j→(-32000≤zA∧zA≤32000)→(1≤zL∧zL≤32000)→(j < k→zA+zL < O j 1)→(∀ a c,-(200000000 * (j:Int))≤K a c∧K a c≤200000000 * (j:Int)) →
 a7 En 1 (Rn m V Y ex sty sc j k W O zv zA zL q K) (QF m V vert sc):=by
 induction d using Nat.strongRecOn with
 | ind d IH =>
   intro j zv zA zL q K hd hj hj1 hq hlA hlL hl hKj
   have hK:=ZO hKj (by omega)
   have hz1:c9 zL (0)=false:=off (E2 _ _) (by omega)
   have hz2':j < k→f9 (O j 1) (Int.add zA zL)=false:=fun h=>off (n4 _ _) (by have:=hl h;simp only [j8];omega)
   have ih:j < k→a7 En 1 (Rn m V Y ex sty sc (Nat.add j 1) k W O (W j) (O j 1) (O j 2) (Nat.add (Nat.succ q) 1) (i2 (i2 K (Nat.succ q) [(O j 1),(d7 (i4 (Int.mul (Int.fdiv (Int.add (Int.fdiv (Int.add (Int.add (Int.mul (O j 1) sc) (0)) (32768)) (65536)) (8)) (16)) (16)) (K (Int.toNat (Int.sub (.ofNat (Nat.succ q)) (1))) 1)) (K (Int.toNat (Int.sub (.ofNat (Nat.succ q)) (1))) 1) (Int.mul (Int.fdiv (Int.add (Int.fdiv (Int.add (Int.add (Int.mul (O j 1) sc) (0)) (32768)) (65536)) (8)) (16)) (16)))]) (Nat.succ (Nat.succ q)) [(Int.add (O j 1) (O j 2)),(Int.add (d7 (i4 (Int.mul (Int.fdiv (Int.add (Int.fdiv (Int.add (Int.add (Int.mul (O j 1) sc) (0)) (32768)) (65536)) (8)) (16)) (16)) (K (Int.toNat (Int.sub (.ofNat (Nat.succ q)) (1))) 1)) (K (Int.toNat (Int.sub (.ofNat (Nat.succ q)) (1))) 1) (Int.mul (Int.fdiv (Int.add (Int.fdiv (Int.add (Int.add (Int.mul (O j 1) sc) (0)) (32768)) (65536)) (8)) (16)) (16))) (d7 (i4 (16) (Int.mul (Int.fdiv (Int.add (Int.sub (Int.fdiv (Int.add (Int.add (Int.mul (Int.add (O j 1) (O j 2)) sc) (0)) (32768)) (65536)) (Int.fdiv (Int.add (Int.add (Int.mul (O j 1) sc) (0)) (32768)) (65536))) (8)) (16)) (16))) (Int.mul (Int.fdiv (Int.add (Int.sub (Int.fdiv (Int.add (Int.add (Int.mul (Int.add (O j 1) (O j 2)) sc) (0)) (32768)) (65536)) (Int.fdiv (Int.add (Int.add (Int.mul (O j 1) sc) (0)) (32768)) (65536))) (8)) (16)) (16)) (16)))])) (QF m V vert sc):=fun hjk=>by
    have b1:=hO j 1
    have b2:=hO j 2
    have b3:=hL j hjk
    have b4 : -64000≤Int.add (O j 1) (O j 2)∧Int.add (O j 1) (O j 2)≤64000:=by simp only [j8];omega
    obtain ⟨p1,p2,p3⟩:=px (u:=O j 1) (w:=Int.add (O j 1) (O j 2)) hsc b1 b4 (hKj (Int.toNat (Int.sub (Int.ofNat (Nat.succ q)) (1))) 1) (by omega)
    obtain ⟨_,_,p4⟩:=px (u:=O j 1) (w:=O j 1) hsc b1 (by omega) (hKj 0 1) (by omega)
    refine IH (k - (j+1)) (by omega) (j+1) _ _ _ _ _ rfl (by omega) (by omega) (by simp only [Re,DP];omega) b1 ⟨b3,by omega⟩ (fun h=>hown j h) ?_
    have e1:200000000 * ((j+1:Nat):Int)=200000000 * (j:Int)+200000000:=by omega
    rw [e1]
    refine nS (by omega) (nS (by omega) (fun a c=>by have:=hKj a c;omega) _ ?_ ?_) _ ?_ ?_
    ·omega
    ·revert p1;intro p1;omega
    ·omega
    generalize d7 (i4 (Int.mul (Int.fdiv (Int.add (Int.fdiv (Int.add (Int.add (Int.mul (O j 1) sc) (0)) (32768)) (65536)) (8)) (16)) (16)) (K (Int.toNat (Int.sub (Int.ofNat (Nat.succ q)) (1))) 1)) (K (Int.toNat (Int.sub (Int.ofNat (Nat.succ q)) (1))) 1) (Int.mul (Int.fdiv (Int.add (Int.fdiv (Int.add (Int.add (Int.mul (O j 1) sc) (0)) (32768)) (65536)) (8)) (16)) (16))=L at *
    generalize Int.fdiv (Int.add (Int.add (Int.mul (Int.add (O j 1) (O j 2)) sc) (0)) (32768)) (65536)=B at *
    generalize Int.fdiv (Int.add (Int.add (Int.mul (O j 1) sc) (0)) (32768)) (65536)=A at *
    simp only [j8,j7,m8,q8,X9,Q0,m5] at *
    omega
   clear IH
   rcases T6 (Nat.succ j) k with ⟨b1,b1p⟩|⟨b1,b1p⟩
   ·refine fi 1 [(5,10,false)] 18 (a6 (Bool.not (Nat.ble (Nat.succ j) k)) true) [.h,J9] (.tup [(.agg [(zi sc),(zi (0)),(.sa J1 0 (Nat.succ q) 2)]),(zi (0))]) [(J1,(.arr (Nat.succ q) 2 (a8 [.i64,.i64] K) none 159 false false))] J2 (by have:=hO j 1;(try simp only [b1,gS]);(try simp only [gT] at *);try omega) ?_
    exact .inr (.inr ⟨q,K,rfl,rfl,rfl,by omega,hK⟩)
   have hz2:=hz2' (by omega)
   refine t8 9 1 [(5,10,true),(18,16,true),(10,25,false)] 96 ((a6 (Nat.ble (Nat.succ j) k) (a6 (a6 (a6 (Nat.ble (Nat.succ j) k) true) (a6 (a6 (a6 (Nat.ble (Nat.succ j) k) true) true) true)) (a6 (Bool.not (Bool.and (P6 zv false) (Bool.and (c9 zA (0)) (Bool.and (c9 zL (0)) true)))) (a6 (a6 (f8 (Int.add zA zL)) true) (a6 (Bool.not (f9 (O j 1) (Int.add zA zL))) (a6 (a6 (a6 (a6 (a6 (a6 (f8 (Int.mul (O j 1) sc)) (a6 (f8 (Int.add (Int.mul (O j 1) sc) (0))) (a6 (f8 (Int.add (Int.add (Int.mul (O j 1) sc) (0)) (32768))) true))) (a6 (a6 (c9 sc sc) true) true)) true) (a6 (f8 (Int.add (O j 1) (O j 2))) (a6 (a6 (a6 (a6 (f8 (Int.mul (Int.add (O j 1) (O j 2)) sc)) (a6 (f8 (Int.add (Int.mul (Int.add (O j 1) (O j 2)) sc) (0))) (a6 (f8 (Int.add (Int.add (Int.mul (Int.add (O j 1) (O j 2)) sc) (0)) (32768))) true))) (a6 (a6 (c9 sc sc) true) true)) true) true))) (a6 (a6 (c9 (O j 2) (O j 2)) (a6 (c9 (O j 2) (O j 2)) true)) (a6 (a6 (c9 (O j 1) (O j 1)) (a6 (c9 (O j 1) (O j 1)) true)) (a6 (a6 (c9 (O j 1) (O j 1)) true) true)))) (a6 (f8 (Int.add (Int.fdiv (Int.add (Int.add (Int.mul (O j 1) sc) (0)) (32768)) (65536)) (8))) (a6 (f8 (Int.mul (Int.fdiv (Int.add (Int.fdiv (Int.add (Int.add (Int.mul (O j 1) sc) (0)) (32768)) (65536)) (8)) (16)) (16))) (a6 (f8 (Int.sub (.ofNat (Nat.succ q)) (1))) (a6 (a6 (a6 (f9 (0) (Int.sub (.ofNat (Nat.succ q)) (1))) (Nat.ble (Nat.succ (RY q)) (Nat.succ q))) true) (a6 (a6 (a6 (Nat.ble (Nat.succ (RY q)) (Nat.succ q)) true) true) (a6 (a6 (a6 (f8 (Int.add (O j 1) (O j 2))) (a6 (f8 (Int.sub (Int.fdiv (Int.add (Int.add (Int.mul (Int.add (O j 1) (O j 2)) sc) (0)) (32768)) (65536)) (Int.fdiv (Int.add (Int.add (Int.mul (O j 1) sc) (0)) (32768)) (65536)))) (a6 (a6 (f8 (Int.add (Int.sub (Int.fdiv (Int.add (Int.add (Int.mul (Int.add (O j 1) (O j 2)) sc) (0)) (32768)) (65536)) (Int.fdiv (Int.add (Int.add (Int.mul (O j 1) sc) (0)) (32768)) (65536))) (8))) (a6 (f8 (Int.mul (Int.fdiv (Int.add (Int.sub (Int.fdiv (Int.add (Int.add (Int.mul (Int.add (O j 1) (O j 2)) sc) (0)) (32768)) (65536)) (Int.fdiv (Int.add (Int.add (Int.mul (O j 1) sc) (0)) (32768)) (65536))) (8)) (16)) (16))) true)) (a6 (f8 (Int.add (d7 (i4 (Int.mul (Int.fdiv (Int.add (Int.fdiv (Int.add (Int.add (Int.mul (O j 1) sc) (0)) (32768)) (65536)) (8)) (16)) (16)) (K (RY q) 1)) (K (RY q) 1) (Int.mul (Int.fdiv (Int.add (Int.fdiv (Int.add (Int.add (Int.mul (O j 1) sc) (0)) (32768)) (65536)) (8)) (16)) (16))) (d7 (i4 (16) (Int.mul (Int.fdiv (Int.add (Int.sub (Int.fdiv (Int.add (Int.add (Int.mul (Int.add (O j 1) (O j 2)) sc) (0)) (32768)) (65536)) (Int.fdiv (Int.add (Int.add (Int.mul (O j 1) sc) (0)) (32768)) (65536))) (8)) (16)) (16))) (Int.mul (Int.fdiv (Int.add (Int.sub (Int.fdiv (Int.add (Int.add (Int.mul (Int.add (O j 1) (O j 2)) sc) (0)) (32768)) (65536)) (Int.fdiv (Int.add (Int.add (Int.mul (O j 1) sc) (0)) (32768)) (65536))) (8)) (16)) (16)) (16)))) (a6 (a6 (a6 (a6 (Nat.beq (Nat.succ q) (Nat.succ q)) (Bool.and (Nat.ble (Nat.mul (Nat.add (Nat.mul 2 (Nat.add (Nat.succ q) 2)) 768) 16) 1099511627776) (Nat.ble (Nat.add (Nat.succ q) 2) 1099511627776))) true) true) true))))) (a6 (a6 (c9 (O j 2) (O j 2)) (a6 (c9 (O j 2) (O j 2)) true)) (a6 (a6 (c9 (O j 1) (O j 1)) (a6 (c9 (O j 1) (O j 1)) true)) (a6 (a6 (c9 (O j 1) (O j 1)) (a6 (c9 (O j 1) (O j 1)) true)) (a6 (a6 (a6 (Nat.beq (Nat.succ q) (Nat.succ q)) true) (a6 (a6 (Nat.beq (Nat.succ q) (Nat.succ q)) true) true)) true))))) (a6 (a6 (f9 (-9223372036854775808) (.ofNat (Nat.add j 1))) (Nat.ble (Nat.add j 1) 9223372036854775807)) true)))))))))))))) (Rn m V Y ex sty sc (Nat.add j 1) k W O (W j) (O j 1) (O j 2) (Nat.add (Nat.succ q) 1) (i2 (i2 K (Nat.succ q) [(O j 1),(d7 (i4 (Int.mul (Int.fdiv (Int.add (Int.fdiv (Int.add (Int.add (Int.mul (O j 1) sc) (0)) (32768)) (65536)) (8)) (16)) (16)) (K (Int.toNat (Int.sub (.ofNat (Nat.succ q)) (1))) 1)) (K (Int.toNat (Int.sub (.ofNat (Nat.succ q)) (1))) 1) (Int.mul (Int.fdiv (Int.add (Int.fdiv (Int.add (Int.add (Int.mul (O j 1) sc) (0)) (32768)) (65536)) (8)) (16)) (16)))]) (Nat.succ (Nat.succ q)) [(Int.add (O j 1) (O j 2)),(Int.add (d7 (i4 (Int.mul (Int.fdiv (Int.add (Int.fdiv (Int.add (Int.add (Int.mul (O j 1) sc) (0)) (32768)) (65536)) (8)) (16)) (16)) (K (Int.toNat (Int.sub (.ofNat (Nat.succ q)) (1))) 1)) (K (Int.toNat (Int.sub (.ofNat (Nat.succ q)) (1))) 1) (Int.mul (Int.fdiv (Int.add (Int.fdiv (Int.add (Int.add (Int.mul (O j 1) sc) (0)) (32768)) (65536)) (8)) (16)) (16))) (d7 (i4 (16) (Int.mul (Int.fdiv (Int.add (Int.sub (Int.fdiv (Int.add (Int.add (Int.mul (Int.add (O j 1) (O j 2)) sc) (0)) (32768)) (65536)) (Int.fdiv (Int.add (Int.add (Int.mul (O j 1) sc) (0)) (32768)) (65536))) (8)) (16)) (16))) (Int.mul (Int.fdiv (Int.add (Int.sub (Int.fdiv (Int.add (Int.add (Int.mul (Int.add (O j 1) (O j 2)) sc) (0)) (32768)) (65536)) (Int.fdiv (Int.add (Int.add (Int.mul (O j 1) sc) (0)) (32768)) (65536))) (8)) (16)) (16)) (16)))])) [.h,J1,J2,J3,J4,J5,J6,J7,J8,YU] [0,3,7,8,9] [[8,9,10]] ⟨Xm (by kernel_rfl) rfl rfl (by kernel_rfl),trivial⟩ (by have:=n7 (hO j);have:=hK (Int.toNat (Int.sub (.ofNat (Nat.succ q)) (1))) 1;have:=V7 (u:=(O j 1)) 32000 hsc (by have:=hO j 1;(try simp only [j8,j7] at *);omega);have:=V7 (u:=(Int.add (O j 1) (O j 2))) 64000 hsc (by have:=hO j 1;have:=hO j 2;(try simp only [j8,j7] at *);omega);(try simp only [hz1,hz2,b1,gS,RY]);(try simp only [gT] at *);try omega) ?_
   exact ih (by omega)
theorem Yd (hk1:1≤k) :
 a7 En 1 (Rn m V Y ex sty sc 1 k W O (W 0) (O 0 1) (O 0 2) 1 (i2 (fun _ kk=>List.getD [(O 0 1),(Int.mul (Int.fdiv (Int.add (Int.fdiv (Int.add (Int.add (Int.mul (O 0 1) sc) (0)) (32768)) (65536)) (8)) (16)) (16))] kk 0) 1 [(Int.add (O 0 1) (O 0 2)),(Int.add (Int.mul (Int.fdiv (Int.add (Int.fdiv (Int.add (Int.add (Int.mul (O 0 1) sc) (0)) (32768)) (65536)) (8)) (16)) (16)) (d7 (i4 (16) (Int.mul (Int.fdiv (Int.add (Int.sub (Int.fdiv (Int.add (Int.add (Int.mul (Int.add (O 0 1) (O 0 2)) sc) (0)) (32768)) (65536)) (Int.fdiv (Int.add (Int.add (Int.mul (O 0 1) sc) (0)) (32768)) (65536))) (8)) (16)) (16))) (Int.mul (Int.fdiv (Int.add (Int.sub (Int.fdiv (Int.add (Int.add (Int.mul (Int.add (O 0 1) (O 0 2)) sc) (0)) (32768)) (65536)) (Int.fdiv (Int.add (Int.add (Int.mul (O 0 1) sc) (0)) (32768)) (65536))) (8)) (16)) (16)) (16)))])) (QF m V vert sc):=by
 have b1:=hO 0 1
 have b2:=hO 0 2
 have b3:=hL 0 (by omega)
 have b4 : -64000≤Int.add (O 0 1) (O 0 2)∧Int.add (O 0 1) (O 0 2)≤64000:=by simp only [j8];omega
 obtain ⟨_,p2,p3⟩:=px (u:=O 0 1) (w:=Int.add (O 0 1) (O 0 2)) (lo:=0) (A:=100000000) hsc b1 b4 (by omega) (by omega)
 obtain ⟨_,_,p4⟩:=px (u:=O 0 1) (w:=O 0 1) (lo:=0) (A:=100000000) hsc b1 (by omega) (by omega) (by omega)
 refine JL hm8 hY hsc hown hO hL hk8 (k - 1) 1 _ _ _ _ _ rfl (by omega) (by omega) (by omega) b1 ⟨b3,by omega⟩ (fun h=>hown 0 h) ?_
 have e1:200000000 * ((1:Nat):Int)=200000000:=by omega
 rw [e1]
 have b5:∀ a c,-200000000≤(fun (_:Nat) kk=>List.getD [O 0 1,Int.mul (Int.fdiv (Int.add (Int.fdiv (Int.add (Int.add (Int.mul (O 0 1) sc) (0)) (32768)) (65536)) (8)) (16)) (16)] kk 0) a c∧(fun (_:Nat) kk=>List.getD [O 0 1,Int.mul (Int.fdiv (Int.add (Int.fdiv (Int.add (Int.add (Int.mul (O 0 1) sc) (0)) (32768)) (65536)) (8)) (16)) (16)] kk 0) a c≤200000000:=by
  intro a c
  match c with
  | 0=>show -200000000≤O 0 1∧O 0 1≤200000000;omega
  | 1=>show -200000000≤Int.mul _ _∧Int.mul _ _≤200000000;omega
  | c+2=>show -200000000≤(0:Int)∧(0:Int)≤200000000;omega
 refine nS (by omega) b5 _ ?_ ?_
 ·omega
 generalize Int.mul (Int.fdiv (Int.add (Int.fdiv (Int.add (Int.add (Int.mul (O 0 1) sc) (0)) (32768)) (65536)) (8)) (16)) (16)=L at *
 generalize Int.fdiv (Int.add (Int.add (Int.mul (Int.add (O 0 1) (O 0 2)) sc) (0)) (32768)) (65536)=B at *
 generalize Int.fdiv (Int.add (Int.add (Int.mul (O 0 1) sc) (0)) (32768)) (65536)=A at *
 simp only [j8,j7,m8,q8,X9,Q0,m5] at *
 omega
theorem JM (hk1:1≤k) (d:Nat) :
 ∀ (j:Nat),k - j=d→j+1≤k→a7 En 1 (Ya m V Y ex sty sc j k W O) (QF m V vert sc):=by
 induction d using Nat.strongRecOn with
 | ind d IH =>
   intro j hd hj
   have ih:∀ i,j < i→i+1≤k→a7 En 1 (Ya m V Y ex sty sc i k W O) (QF m V vert sc):=fun i h1 h2=>IH (k - i) (by omega) i rfl h2
   clear IH
   have hown:(∀ j,j+1 < k→O j 1+O j 2 < O (j+1) 1)∧(∀ j,j+1 < k→O j 1+O j 2 < O (j+1) 1):=⟨hown,hown⟩
   rcases T6 (Nat.succ (Nat.succ j)) k with ⟨b1,b1p⟩|⟨b1,b1p⟩
   ·refine t8 9 1 [(7,14,false),(40,10,true)] 110 ((a6 (Bool.not (JK j k)) (a6 (Nat.ble 1 k) (a6 (a6 (Nat.ble 1 k) true) (a6 (a6 (a6 (Nat.ble 1 k) true) true) (a6 (a6 (a6 (a6 (a6 (a6 (f8 (Int.mul (O 0 1) sc)) (a6 (f8 (Int.add (Int.mul (O 0 1) sc) (0))) (a6 (f8 (Int.add (Int.add (Int.mul (O 0 1) sc) (0)) (32768))) true))) (a6 (a6 (c9 sc sc) true) true)) true) (a6 (f8 (JJ O)) (a6 (a6 (a6 (a6 (f8 (Int.mul (JJ O) sc)) (a6 (f8 (Int.add (Int.mul (JJ O) sc) (0))) (a6 (f8 (Int.add (Int.add (Int.mul (JJ O) sc) (0)) (32768))) true))) (a6 (a6 (c9 sc sc) true) true)) true) true))) (a6 (a6 (c9 (O 0 2) (O 0 2)) (a6 (c9 (O 0 2) (O 0 2)) true)) (a6 (VL O) (a6 (a6 (c9 (O 0 1) (O 0 1)) true) true)))) (a6 (f8 (Int.add (RZ O sc) (8))) (a6 (f8 (Int.mul (Int.fdiv (Int.add (RZ O sc) (8)) (16)) (16))) (a6 (a6 (a6 (f8 (JJ O)) (a6 (f8 (OQ O sc)) (a6 (a6 (f8 (Int.add (OQ O sc) (8))) (a6 (f8 (Int.mul (Int.fdiv (Int.add (OQ O sc) (8)) (16)) (16))) true)) (a6 (f8 (Int.add (Int.mul (Int.fdiv (Int.add (RZ O sc) (8)) (16)) (16)) (d7 (i4 (16) (Int.mul (Int.fdiv (Int.add (OQ O sc) (8)) (16)) (16))) (Int.mul (Int.fdiv (Int.add (OQ O sc) (8)) (16)) (16)) (16)))) true)))) (a6 (a6 (c9 (O 0 2) (O 0 2)) (a6 (c9 (O 0 2) (O 0 2)) true)) (a6 (VL O) (a6 (VL O) true)))) true))))))))) (Rn m V Y ex sty sc 1 k W O (W 0) (O 0 1) (O 0 2) 1 (i2 (fun _ kk=>List.getD [(O 0 1),(Int.mul (Int.fdiv (Int.add (Int.fdiv (Int.add (Int.add (Int.mul (O 0 1) sc) (0)) (32768)) (65536)) (8)) (16)) (16))] kk 0) 1 [(Int.add (O 0 1) (O 0 2)),(Int.add (Int.mul (Int.fdiv (Int.add (Int.fdiv (Int.add (Int.add (Int.mul (O 0 1) sc) (0)) (32768)) (65536)) (8)) (16)) (16)) (d7 (i4 (16) (Int.mul (Int.fdiv (Int.add (Int.sub (Int.fdiv (Int.add (Int.add (Int.mul (Int.add (O 0 1) (O 0 2)) sc) (0)) (32768)) (65536)) (Int.fdiv (Int.add (Int.add (Int.mul (O 0 1) sc) (0)) (32768)) (65536))) (8)) (16)) (16))) (Int.mul (Int.fdiv (Int.add (Int.sub (Int.fdiv (Int.add (Int.add (Int.mul (Int.add (O 0 1) (O 0 2)) sc) (0)) (32768)) (65536)) (Int.fdiv (Int.add (Int.add (Int.mul (O 0 1) sc) (0)) (32768)) (65536))) (8)) (16)) (16)) (16)))])) [.h,J7,J8,J1,J3,J4,J6,J2,J5,VJ] [0,3,7,8,9] [[8,9,10]] ⟨f7 (by kernel_rfl) rfl (by kernel_rfl),trivial⟩ (by have:=n7 (hO 0);have:=hO (Int.toNat (Int.sub (.ofNat (Nat.succ j)) (1))) 1;have:=hO (Nat.succ j) 1;have:=V7 (u:=(O 0 1)) 32000 hsc (by have:=hO 0 1;(try simp only [j8,j7] at *);omega);have:=V7 (u:=(Int.add (O 0 1) (O 0 2))) 64000 hsc (by have:=hO 0 1;have:=hO 0 2;(try simp only [j8,j7] at *);omega);(try simp only [b1,gS,JJ,JK,VL,RZ,OQ]);(try simp only [gT] at *);try omega) ?_
    exact Yd hm8 hY hsc hown.1 hO hL hk8 hk1
   have e0:Int.toNat (Int.sub (Int.ofNat (Nat.succ j)) (1))=j:=by simp only [j7,Bk];omega
   have o1:=hown.2 j (by omega)
   have o2:=hL j (by omega)
   have hs1:i4 (O (Int.toNat (Int.sub (Int.ofNat (Nat.succ j)) (1))) 1) (O (Nat.succ j) 1)=true:=by rw [e0];exact (m5 _ _).2 (by show O j 1 < O (j+1) 1;omega)
   have hs2:i4 (O (Nat.succ j) 1) (O (Int.toNat (Int.sub (Int.ofNat (Nat.succ j)) (1))) 1)=false:=by rw [e0];exact off (m5 _ _) (by show ¬ O (j+1) 1 < O j 1;omega)
   refine ar 1 [(7,14,true),(14,34,false)] 9 ((a6 (JK j k) (a6 (a6 (a6 (a6 (a6 (JK j k) true) (a6 (a6 (a6 (JK j k) true) true) (a6 (f8 (Int.sub (.ofNat (Nat.succ j)) (1))) (a6 (a6 (a6 (f9 (0) (Int.sub (.ofNat (Nat.succ j)) (1))) (Nat.ble (Nat.succ (qR j)) k)) true) (a6 (a6 (a6 (Nat.ble (Nat.succ (qR j)) k) true) true) (a6 (a6 (a6 (a6 (aL (Bool.not (c9 (Yb O j) (0))) true (aL (Bool.not (c9 (Yc O j) (0))) true true)) true) (a6 (a6 (c9 (O (qR j) 2) (O (qR j) 2)) (a6 (c9 (O (qR j) 2) (O (qR j) 2)) true)) (a6 (a6 (c9 (O (Nat.succ j) 2) (O (Nat.succ j) 2)) (a6 (c9 (O (Nat.succ j) 2) (O (Nat.succ j) 2)) true)) (a6 (a6 (c9 (O (qR j) 1) (O (qR j) 1)) true) (a6 (a6 (c9 (O (Nat.succ j) 1) (O (Nat.succ j) 1)) true) true))))) true) true)))))) (a6 (a6 (a6 (a6 (a6 (Nat.ble (Nat.succ (qR j)) k) true) true) (a6 (P6 (W (qR j)) (W (qR j))) (a6 (c9 (O (qR j) 1) (O (qR j) 1)) (a6 (c9 (O (qR j) 2) (O (qR j) 2)) true)))) true) (a6 (a6 (a6 (a6 (a6 (JK j k) true) true) (a6 (P6 (W (Nat.succ j)) (W (Nat.succ j))) (a6 (c9 (O (Nat.succ j) 1) (O (Nat.succ j) 1)) (a6 (c9 (O (Nat.succ j) 2) (O (Nat.succ j) 2)) true)))) true) true))) true) (a6 (Bool.not (i4 (d7 (Bool.not (c9 (Yb O j) (0))) (Yb O j) (d7 (Bool.not (c9 (Yc O j) (0))) (Yc O j) (0))) (0))) (a6 (a6 (f9 (-9223372036854775808) (.ofNat (Nat.add (Nat.succ j) 1))) (Nat.ble (Nat.add (Nat.succ j) 1) 9223372036854775807)) true))))) (Ya m V Y ex sty sc (Nat.succ j) k W O) [.h,J1,J2,J3,J4,J5] [0,1,2,3,8] [[],[],[5],[8,9,10,14,58,59,60,61]] (by have:=n7 (hO (Nat.succ j));have:=hO (Int.toNat (Int.sub (.ofNat (Nat.succ j)) (1))) 1;have:=hO (Int.toNat (Int.sub (.ofNat (Nat.succ j)) (1))) 2;(try simp only [hs1,hs2,b1,gS,JK,qR,Yb,Yc]);(try simp only [gT] at *);try omega) ?_
   exact ih (j+1) (by omega) (by omega)
end
theorem Fe.own {V:Nat→Bool} {Y:Nat→Nat→Int} {vert:Bool} {i k:Nat} {O:Nat→Nat→Int} (h:Fe V Y vert i k O):∀ j,j+1 < k→O j 1+O j 2 < O (j+1) 1:=h.2
theorem JN {m:Nat} {V:Nat→Bool} {Y:Nat→Nat→Int} {ex sty vert:Bool} {sc:Int} (hm8:m≤8) (hY:∀ j k,-32000≤Y j k∧Y j k≤32000) (hsc:1≤sc∧sc≤16777216) (hs:G0 m V Y) (hL:DT m Y) (d:Nat):∀ (i k:Nat) (W:Nat→Bool) (O:Nat→Nat→Int),m - i=d→i≤m→Fe V Y vert i k O→(∀ j k,-32000≤O j k∧O j k≤32000)→1≤k→k≤i →
 a7 En 1 (Rm m V Y ex sty vert sc i k W O) (QF m V vert sc):=by
 induction d using Nat.strongRecOn with
 | ind d IH =>
   intro i k W O hd hi hown hO hk1 hki
   have ih:∀ k' W' O',i < m→Fe V Y vert (i+1) k' O'→(∀ j k,-32000≤O' j k∧O' j k≤32000)→1≤k'→k'≤i+1→a7 En 1 (Rm m V Y ex sty vert sc (Nat.add i 1) k' W' O') (QF m V vert sc):=fun k' W' O' h1 h2 h3 h4 h5 =>
    IH (m - (i+1)) (by omega) (i+1) k' W' O' rfl (by omega) h2 h3 h4 h5
   clear IH
   rcases T6 (Nat.succ i) m with ⟨b1,b1p⟩|⟨b1,b1p⟩
   ·refine ac 1 [(5,11,false)] 18 ((a6 (Bool.not (uE i m)) true)) (RX m V Y ex sty sc k W O) [.h,J4,J1,J2,J3,J5] [[1,7,8],[5],[8,9,10,14,58,59,60,61]] (by (try simp only [b1,gS,uE]);(try simp only [gT] at *);try omega) ?_
    refine ca (Ri (wr .u64 (.ofNat k))) [] (Rj (x:=(wr .u64 (.ofNat k))) (by first|exact wN (by omega)|omega)) (fun v' H' q=>?_)
    rcases q with ⟨e_2,rfl,hnx2⟩
    refine ⟨(zi e_2),[],J6,(by kernel_rfl),(by rw [hnx2];kernel_rfl),trivial,(by kernel_rfl),?_⟩
    refine ar 1 [(26,25,true)] 16 (a6 (a6 (f8 (Int.sub (.ofNat k) (0))) true) (a6 (f9 (Int.sub (.ofNat k) (0)) (12)) true)) (Ya m V Y ex sty sc 0 k W O) [.h,J1,J2,J3,J4,J5] [0,1,2,3,8] [[],[],[5],[8,9,10,14,58,59,60,61]] (by (try simp only [b1,gS]);(try simp only [gT] at *);try omega) ?_
    exact JM hm8 hY hsc (Fe.own hown) hO (fun j hj=>by obtain ⟨f,h1,_,_,h4⟩:=hown.1 j hj;rw [h4];exact hL f (by omega)) (by omega) hk1 (k - 0) 0 rfl (by omega)
   cases b2:(P6 (V i) vert)
   ·have b2p:=tM (N6 _ _) b2
    refine ar 1 [(5,11,true),(18,17,false)] 8 ((fM i m (a6 (Bool.not (P6 (V i) vert)) (Fd i)))) (Rm m V Y ex sty vert sc (Nat.add i 1) k W O) [.h,J1,J2,J3,J4,J5] [1,5,8,9,10] [[8,9,10,14,58,59,60,61]] (by (try simp only [b1,b2,gS,uE,DS,Fd,fM]);(try simp only [gT] at *);try omega) ?_
    exact ih k W O (by omega) (Fe.skip hown) hO hk1 (by omega)
   have b2p:=tL (N6 _ _) b2
   refine t8 4 1 [(5,11,true),(18,17,true)] 14 ((fM i m (a6 (P6 (V i) vert) (a6 (a6 (a6 (Nat.beq k k) (Bool.and (Nat.ble (Nat.mul (Nat.add (Nat.mul 2 (Nat.add k 1)) 768) 24) 1099511627776) (Nat.ble (Nat.add k 1) 1099511627776))) true) (Fd i))))) (Rm m V Y ex sty vert sc (Nat.add i 1) (Nat.add k 1) (G6 W k (V i)) (i2 O k (0::[(Y i 1),(Y i 2)]))) [.h,J1,J2,J3,J8,J5] [1,5,8,9,10] [[8,9,10,14,58,59,60,61]] ⟨C2 (by kernel_rfl) rfl (by kernel_rfl),.inl (by kernel_rfl),trivial⟩ (by (try simp only [b1,b2,gS,uE,DS,Fd,fM]);(try simp only [gT] at *);try omega) ?_
   exact ih (k+1) _ _ (by omega) (Fe.push hown hs (by omega) b2p) (wW (by decide) hO k (hY i 1) (hY i 2)) (by omega) (by omega)
theorem XV {V:Nat→Bool} {Y:Nat→Nat→Int} {vert:Bool} {i:Nat} (h:V i=vert):Fe V Y vert (i+1) 1 (fun _ kk=>List.getD [0,Y i 1,Y i 2] kk 0):=
 ⟨fun j hj=>⟨i,by omega,h,rfl,rfl⟩,fun j hj=>by omega⟩
theorem OS {Y:Nat→Nat→Int} (hY:∀ j k,-32000≤Y j k∧Y j k≤32000) (i:Nat):∀ (j k:Nat),-32000≤(fun (_:Nat) kk=>List.getD [0,Y i 1,Y i 2] kk 0) j k∧(fun (_:Nat) kk=>List.getD [0,Y i 1,Y i 2] kk 0) j k≤32000:=by
 intro j k
 match k with
 | 0=>show -32000≤(0:Int)∧(0:Int)≤32000;omega
 | 1=>exact hY i 1
 | 2=>exact hY i 2
 | k+3=>show -32000≤(0:Int)∧(0:Int)≤32000;omega
section
variable {m:Nat} {V:Nat→Bool} {Y:Nat→Nat→Int} {ex sty vert:Bool} {sc:Int} (hm8:m≤8) (hY:∀ j k,-32000≤Y j k∧Y j k≤32000) (hsc:1≤sc∧sc≤16777216) (hs:G0 m V Y)
include hm8 hY hsc hs
theorem JO (hL:DT m Y) (d:Nat):∀ (i:Nat),m - i=d→i≤m→(∀ a,a < i→V a≠vert)→a7 En 1 (Xz m V Y ex sty vert sc i) (QF m V vert sc):=by
 induction d using Nat.strongRecOn with
 | ind d IH =>
   intro i hd hi hnv
   have ih:i < m→V i≠vert→a7 En 1 (Xz m V Y ex sty vert sc (Nat.add i 1)) (QF m V vert sc):=fun h1 h2=>IH (m - (i+1)) (by omega) (i+1) rfl (by omega) (fun a ha=>by
    by_cases e:a=i
    ·subst e;exact h2
    exact hnv a (by omega))
   clear IH
   rcases T6 (Nat.succ i) m with ⟨b1,b1p⟩|⟨b1,b1p⟩
   ·refine ac 1 [(5,11,false)] 18 ((a6 (Bool.not (uE i m)) true)) (RW m V Y ex sty sc) [.h,J1,J2,J3,J4] [[1,7,8],[5],[8,9,10,14,58,59,60,61]] (by (try simp only [b1,gS,uE]);(try simp only [gT] at *);try omega) ?_
    refine ca (Ri (0)) [] (Rj (x:=(0)) (by first|exact wN (by omega)|omega)) (fun v' H' q=>?_)
    rcases q with ⟨e_1,rfl,hnx1⟩
    refine ⟨(zi e_1),[],J5,(by kernel_rfl),(by rw [hnx1];kernel_rfl),trivial,(by kernel_rfl),?_⟩
    refine fi 1 [] 107 true [.h] (.tup [(.agg [(zi sc),(zi (0)),.nils]),(zi (0))]) [] J1 rfl ?_
    exact .inr (.inl ⟨rfl,rfl,fun a ha=>hnv a (by omega)⟩)
   cases b2:(P6 (V i) vert)
   ·have b2p:=tM (N6 _ _) b2
    refine ar 1 [(5,11,true),(18,17,false)] 8 ((fM i m (a6 (Bool.not (P6 (V i) vert)) (Fd i)))) (Xz m V Y ex sty vert sc (Nat.add i 1)) [.h,J1,J2,J3,J4] [1,5,8,9,10] [[8,9,10,14,58,59,60,61]] (by (try simp only [b1,b2,gS,uE,DS,Fd,fM]);(try simp only [gT] at *);try omega) ?_
    exact ih (by omega) b2p
   have b2p:=tL (N6 _ _) b2
   refine ar 1 [(5,11,true),(18,17,true)] 14 ((fM i m (a6 (P6 (V i) vert) (Fd i)))) (Rm m V Y ex sty vert sc (Nat.add i 1) 1 (fun _=>(V i)) (fun _ kk=>List.getD [0,(Y i 1),(Y i 2)] kk 0)) [.h,J1,J2,J3,J7,J4] [1,5,8,9,10] [[8,9,10,14,58,59,60,61]] (by (try simp only [b1,b2,gS,uE,DS,Fd,fM]);(try simp only [gT] at *);try omega) ?_
   exact JN hm8 hY hsc hs hL (m - (i+1)) (i+1) 1 _ _ rfl (by omega) (XV b2p) (OS hY i) (by omega) (by omega)
theorem JP (d:Nat):∀ (i:Nat) (ok:Bool),m - i=d→i≤m→(ok=true→∀ j,j < i→1≤Y j 2)→a7 En 1 (Jh m V Y ex sty vert sc i ok) (QF m V vert sc):=by
 induction d using Nat.strongRecOn with
 | ind d IH =>
   intro i ok hd hi hg
   have ih:∀ (f:Bool),i < m→(f=true→ok=true∧1≤Y i 2)→a7 En 1 (Jh m V Y ex sty vert sc (Nat.add i 1) f) (QF m V vert sc):=fun f h1 h2 =>
    IH (m - (i+1)) (by omega) (i+1) f rfl (by omega) (fun e j hj=>by
     obtain ⟨g1,g2⟩:=h2 e
     by_cases e2:j=i
     ·subst e2;exact g2
     exact hg g1 j (by omega))
   clear IH
   rcases T6 (Nat.succ i) m with ⟨b1,b1p⟩|⟨b1,b1p⟩
   ·rcases Km ok with b2|b2
    ·have b2p:=b2
     refine fi 1 [(5,29,false),(8,53,true)] 9 ((a6 (Bool.not (uE i m)) (a6 (Bool.not ok) true))) [.h] (.tup [(.agg [(zi (0)),(zi (0)),.nils]),(zi (2))]) [] J1 (by (try simp only [b1,b2,gS,uE]);(try simp only [gT] at *);try omega) ?_
     exact .inl ⟨rfl,rfl⟩
    have b2p:=b2
    refine ar 1 [(5,29,false),(8,53,false)] 25 ((a6 (Bool.not (uE i m)) (a6 (Bool.not (Bool.not ok)) true))) (Xz m V Y ex sty vert sc 0) [.h,J4,J1,J2,J3] [1,5,8,9,10] [[8,9,10,14,58,59,60,61]] (by (try simp only [b1,b2,gS,uE]);(try simp only [gT] at *);try omega) ?_
    exact JO hm8 hY hsc hs (fun a ha=>hg b2 a (by omega)) (m - 0) 0 rfl (by omega) (fun a ha=>by omega)
   rcases Km ok with b3|b3
   ·have b3p:=b3
    refine ar 1 [(5,29,true),(14,33,false)] 25 ((fM i m (a6 (Bool.not ok) (Fd i)))) (Jh m V Y ex sty vert sc (Nat.add i 1) false) [.h,J1,J2,J3] [0,1,8,9,10,11,14,26,27,28,58,59,60,61] [] (by (try simp only [b1,b3,gS,uE,DS,Fd,fM]);(try simp only [gT] at *);try omega) ?_
    exact ih false (by omega) (fun e=>absurd e (by decide))
   have b3p:=b3
   rcases cl (1) (Y i 2) with ⟨b4,b4p⟩|⟨b4,b4p⟩
   ·refine ar 1 [(5,29,true),(14,33,true),(13,10,false)] 30 ((fM i m (a6 ok (a6 (Bool.not (f9 (1) (Y i 2))) (Fd i))))) (Jh m V Y ex sty vert sc (Nat.add i 1) false) [.h,J1,J2,J3] [0,1,8,9,10,11,14,26,27,28,58,59,60,61] [] (by have:=hY i 2;(try simp only [b1,b3,b4,gS,uE,DS,Fd,fM]);(try simp only [gT] at *);try omega) ?_
    exact ih false (by omega) (fun e=>absurd e (by decide))
   refine ar 1 [(5,29,true),(14,33,true),(13,10,true),(10,38,true),(21,10,true),(14,43,true),(24,10,true)] 21 ((fM i m (a6 ok (a6 (f9 (1) (Y i 2)) (a6 (f9 (Y i 2) (64000)) (a6 (f9 (-32000) (Y i 1)) (a6 (f9 (Y i 1) (32000)) (a6 (a6 (f8 (Int.add (Y i 1) (Y i 2))) true) (a6 (f9 (-32000) (Int.add (Y i 1) (Y i 2))) (Fd i)))))))))) (Jh m V Y ex sty vert sc (Nat.add i 1) (f9 (Int.add (Y i 1) (Y i 2)) (32000))) [.h,J1,J2,J3] [0,1,8,9,10,11,14,26,27,28,58,59,60,61] [] (by have:=n7 (hY i);(try simp only [b1,b3,b4,gS,uE,DS,Fd,fM]);(try simp only [gT] at *);try omega) ?_
   exact ih _ (by omega) (fun _=>⟨b3,b4p⟩)
theorem O2:a7 En 1 (O1 m V Y ex sty vert sc) (QF m V vert sc):=by
 refine ar 1 [(12,17,false),(38,10,true),(9,9,true)] 40 (a6 (Bool.not (Nat.ble 41 m)) (a6 (f9 (1) sc) (a6 (f9 sc (16777216)) true))) (Jh m V Y ex sty vert sc 0 true) [.h,J1,J3,J2] [0,1,8,9,10,11,14,26,27,28,58,59,60,61] [] (by (try simp only [gS]);(try simp only [gT] at *);try omega) ?_
 exact JP hm8 hY hsc hs (m - 0) 0 true rfl (by omega) (fun _ j hj=>by omega)
end
section
variable (q:Nat) (K:Nat→Nat→Int) (ex sty:Bool) (sc:Int) (i:Nat) (zF zT:Int)
def JQ:St:=⟨o4 (d9 En 71 [(.agg [(zi sc),(zi (0)),(.sa .h 0 (Nat.succ q) 2)])] false),[],[(.h,(.arr (Nat.succ q) 2 (a8 [.i64,.i64] K) none 159 ex sty))],J1,1⟩
def Ye:St:=⟨(fr 71 65 (ts [4,28,29,30] [.ptr J1 0,.sa .h 0 (Nat.succ q) 2,zn (Nat.succ q),zn i]) [cA En 71 (pb 500),lA En 71 (pb 500),.blk 0,cA En 71 (pb 63)]),[],(zs [(.arr (Nat.succ q) 2 (a8 [.i64,.i64] K) none 159 ex sty),(zc 159 [zF,zT])]),J2,1⟩
end
abbrev Ff (i q:Nat):Bool:=(Nat.ble (Nat.succ i) (Nat.succ q))
abbrev Yf (K:Nat→Nat→Int) (i:Nat):Bool:=(Bool.not (Bool.not (f9 (K i 0) (32000))))
abbrev DU (zT:Int) (i:Nat) (K:Nat→Nat→Int):Bool:=(f9 (Int.add zT (Int.tmod (.ofNat i) (2))) (K i 1))
abbrev DV (zT:Int) (i:Nat):Bool:=(a6 (f8 (Int.add zT (Int.tmod (.ofNat i) (2)))) true)
abbrev DW (q:Nat):Bool:=(Bool.not (c9 (Int.tmod (.ofNat (Nat.succ q)) (2)) (0)))
abbrev JR (i q:Nat):Bool:=(a6 (a6 (Ff i q) true) (a6 (a6 (a6 (Ff i q) true) true) true))
abbrev Kr (i q:Nat) (zz:Bool):Bool:=(a6 (Ff i q) (a6 (JR i q) zz))
abbrev Ut (zT:Int) (i:Nat) (K:Nat→Nat→Int) (zz:Bool):Bool:=(a6 (DU zT i K) (a6 (Bool.not (Bool.not (f9 (K i 1) (1099511627776)))) zz))
abbrev OT (sc:Int) (zz:Bool):Bool:=(a6 (f9 (1) sc) (a6 (f9 sc (16777216)) zz))
def Yg (q:Nat) (K:Nat→Nat→Int):Prop:=∀ i,i < q+1→(-32000≤K i 0∧K i 0≤32000)∧(0 < i→K (i - 1) 0 < K i 0)
def QH (q:Nat) (K:Nat→Nat→Int):AV→Hp→Prop:=fun v H=>∃ e:Int,v=.int .i64 e∧H.nx=J1∧(e=0→Yg q K)
section
variable {q:Nat} {K:Nat→Nat→Int} {ex sty:Bool} {sc:Int} (hq:q≤100) (hK:∀ j k,-1000000000000≤K j k∧K j k≤1000000000000) (hsc:1≤sc∧sc≤16777216)
include hq hK hsc
theorem JS (d:Nat):∀ (i:Nat) (zF zT:Int),q+1 - i=d→i≤q+1→(-40000≤zF∧zF≤40000)→(-1099511627776≤zT∧zT≤1099511627776)→(0 < i→zF=K (i - 1) 0)→(∀ j,j < i→(-32000≤K j 0∧K j 0≤32000)∧(0 < j→K (j - 1) 0 < K j 0)) →
 a7 En 1 (Ye q K ex sty i zF zT) (QH q K):=by
 induction d using Nat.strongRecOn with
 | ind d IH =>
   intro i zF zT hd hi hzF hzT hz hg
   have ih:i < q+1→(-32000≤K i 0∧K i 0≤32000)∧zF < K i 0→a7 En 1 (Ye q K ex sty (Nat.add i 1) (K i 0) (K i 1)) (QH q K):=fun h1 h2 =>
    IH (q+1 - (i+1)) (by omega) (i+1) _ _ rfl (by omega) (by omega) (by have:=hK i 1;omega) (fun _=>rfl) (fun j hj=>by
     by_cases e:j=i
     ·subst e;exact ⟨h2.1,fun h0=>by have:=hz h0;omega⟩
     exact hg j (by omega))
   clear IH
   rcases T6 (Nat.succ i) (Nat.succ q) with ⟨b1,b1p⟩|⟨b1,b1p⟩
   ·refine fi 1 [(5,31,false)] 8 ((a6 (Bool.not (Ff i q)) true)) [.h] (zi (0)) [] J1 (by (try simp only [b1,gS,Ff]);(try simp only [gT] at *);try omega) ?_
    exact ⟨0,rfl,rfl,fun _ j hj=>hg j (by omega)⟩
   rcases cl (-32000) (K i 0) with ⟨b2,b2p⟩|⟨b2,b2p⟩
   ·refine fi 1 [(5,31,true),(37,10,false)] 45 ((Kr i q (a6 (Bool.not (f9 (-32000) (K i 0))) true))) [.h] (zi (440)) [] J1 (by have:=hK i 0;(try simp only [b1,b2,gS,Ff,JR,Kr]);(try simp only [gT] at *);try omega) ?_
    exact ⟨440,rfl,rfl,fun h=>absurd h (by decide)⟩
   rcases cl (K i 0) (32000) with ⟨b3,b3p⟩|⟨b3,b3p⟩
   ·refine fi 1 [(5,31,true),(37,10,true),(14,39,true)] 31 ((Kr i q (a6 (f9 (-32000) (K i 0)) (a6 (Bool.not (f9 (K i 0) (32000))) true)))) [.h] (zi (440)) [] J1 (by have:=hK i 0;(try simp only [b1,b2,b3,gS,Ff,JR,Kr]);(try simp only [gT] at *);try omega) ?_
    exact ⟨440,rfl,rfl,fun h=>absurd h (by decide)⟩
   rcases cl (Int.add zT (Int.tmod (.ofNat i) (2))) (K i 1) with ⟨b4,b4p⟩|⟨b4,b4p⟩
   ·refine fi 1 [(5,31,true),(37,10,true),(14,39,false),(18,10,false)] 31 ((Kr i q (a6 (f9 (-32000) (K i 0)) (a6 (Yf K i) (a6 (DV zT i) (a6 (Bool.not (DU zT i K)) true)))))) [.h] (zi (440)) [] J1 (by have:=n7 (hK i);have:=o8 (.ofNat i) (k:=2) (by decide);(try simp only [b1,b2,b3,b4,gS,Ff,Yf,DU,DV,JR,Kr]);(try simp only [gT] at *);try omega) ?_
    exact ⟨440,rfl,rfl,fun h=>absurd h (by decide)⟩
   rcases ci (Int.tmod (K i 1) (16)) (0) with ⟨b5,b5p⟩|⟨b5,b5p⟩
   ·refine fi 1 [(5,31,true),(37,10,true),(14,39,false),(18,10,true),(11,50,false),(6,56,true)] 14 ((Kr i q (a6 (f9 (-32000) (K i 0)) (a6 (Yf K i) (a6 (DV zT i) (Ut zT i K (a6 (Bool.not (c9 (Int.tmod (K i 1) (16)) (0))) true))))))) [.h] (zi (440)) [] J1 (by have:=n7 (hK i);have:=o8 (K i 1) (k:=16) (by decide);have:=o8 (.ofNat i) (k:=2) (by decide);(try simp only [b1,b2,b3,b4,b5,gS,Ff,Yf,DU,DV,JR,Kr,Ut]);(try simp only [gT] at *);try omega) ?_
    exact ⟨440,rfl,rfl,fun h=>absurd h (by decide)⟩
   rcases cl (K i 0) zF with ⟨b6,b6p⟩|⟨b6,b6p⟩
   ·refine ar 1 [(5,31,true),(37,10,true),(14,39,false),(18,10,true),(11,50,false),(6,56,false),(7,62,false)] 12 ((Kr i q (a6 (f9 (-32000) (K i 0)) (a6 (Yf K i) (a6 (DV zT i) (Ut zT i K (a6 (Bool.not (Bool.not (c9 (Int.tmod (K i 1) (16)) (0)))) (a6 (Bool.not (f9 (K i 0) zF)) (a6 (a6 (f9 (-9223372036854775808) (.ofNat (Nat.add i 1))) (Nat.ble (Nat.add i 1) 9223372036854775807)) true))))))))) (Ye q K ex sty (Nat.add i 1) (K i 0) (K i 1)) [.h,J1] [4,28,29,30] [] (by have:=n7 (hK i);have:=o8 (K i 1) (k:=16) (by decide);have:=o8 (.ofNat i) (k:=2) (by decide);(try simp only [b1,b2,b3,b4,b5,b6,gS,Ff,Yf,DU,DV,JR,Kr,Ut]);(try simp only [gT] at *);try omega) ?_
    exact ih (by omega) ⟨⟨b2p,b3p⟩,by omega⟩
   refine fi 1 [(5,31,true),(37,10,true),(14,39,false),(18,10,true),(11,50,false),(6,56,false),(7,62,true)] 7 ((Kr i q (a6 (f9 (-32000) (K i 0)) (a6 (Yf K i) (a6 (DV zT i) (Ut zT i K (a6 (Bool.not (Bool.not (c9 (Int.tmod (K i 1) (16)) (0)))) (a6 (f9 (K i 0) zF) true)))))))) [.h] (zi (440)) [] J1 (by have:=n7 (hK i);have:=o8 (K i 1) (k:=16) (by decide);have:=o8 (.ofNat i) (k:=2) (by decide);(try simp only [b1,b2,b3,b4,b5,b6,gS,Ff,Yf,DU,DV,JR,Kr,Ut]);(try simp only [gT] at *);try omega) ?_
   exact ⟨440,rfl,rfl,fun h=>absurd h (by decide)⟩
theorem JT:a7 En 1 (JQ q K ex sty sc) (QH q K):=by
 rcases ci (Int.tmod (.ofNat (Nat.succ q)) (2)) (0) with ⟨b1,b1p⟩|⟨b1,b1p⟩
 ·refine fi 1 [(39,10,true),(9,9,true),(38,20,true)] 13 ((OT sc (a6 (DW q) true))) [.h] (zi (440)) [] J1 (by have:=o8 (.ofNat (Nat.succ q)) (k:=2) (by decide);(try simp only [b1,gS,DW,OT]);(try simp only [gT] at *);try omega) ?_
  exact ⟨440,rfl,rfl,fun h=>absurd h (by decide)⟩
 rcases T6 81 (Nat.succ q) with ⟨b2,b2p⟩|⟨b2,b2p⟩
 ·refine ar 1 [(39,10,true),(9,9,true),(38,20,false),(6,25,false)] 18 ((OT sc (a6 (Bool.not (DW q)) (a6 (Bool.not (Nat.ble 81 (Nat.succ q))) true)))) (Ye q K ex sty 0 (-32001) (-1099511627776)) [.h,J3] [4,28,29,30] [] (by have:=o8 (.ofNat (Nat.succ q)) (k:=2) (by decide);(try simp only [b1,b2,gS,DW,OT]);(try simp only [gT] at *);try omega) ?_
  exact JS hq hK hsc (q+1 - 0) 0 _ _ rfl (by omega) (by omega) (by omega) (fun h=>by omega) (fun j hj=>by omega)
 refine fi 1 [(39,10,true),(9,9,true),(38,20,false),(6,25,true)] 7 ((OT sc (a6 (Bool.not (DW q)) (a6 (Nat.ble 81 (Nat.succ q)) true)))) [.h] (zi (440)) [] J1 (by have:=o8 (.ofNat (Nat.succ q)) (k:=2) (by decide);(try simp only [b1,b2,gS,DW,OT]);(try simp only [gT] at *);try omega) ?_
 exact ⟨440,rfl,rfl,fun h=>absurd h (by decide)⟩
end
section
variable (q:Nat) (K:Nat→Nat→Int) (ex sty:Bool) (sc u e_1:Int) (i:Nat)
def XW:St:=⟨o4 (d9 En 60 [(.agg [(zi sc),(zi (0)),(.sa .h 0 (Nat.succ q) 2)]),(zi u)] false),[],[(.h,(.arr (Nat.succ q) 2 (a8 [.i64,.i64] K) none 159 ex sty))],J1,1⟩
def SA:St:=⟨cf (JQ q K ex sty sc) J3 [.h],[(fr 60 115 (ts [2,3] [.ptr J1 0,.ptr J2 0]) [rA En 60 (pb 12) 1,cA En 60 (pb 13),cA En 60 (pb 7)])],(zs [(.arr (Nat.succ q) 2 (a8 [.i64,.i64] K) none 159 ex sty),(ce 115 [(zi sc),(zi (0)),(.sa .h 0 (Nat.succ q) 2)]),(zc 3 [u])]),J3,1⟩
def Yh:St:=⟨(fr 72 20 (ts [0,1,5] [.sa .h 0 (Nat.succ q) 2,.fn 73 [] [(.ptr J1 0)],zn i]) [cA En 72 (pb 216),lA En 72 (pb 216),.blk 0,cA En 72 (pb 55),sA En 72 [1,0]]),[(fr 60 115 (ts [3,7,8] [.ptr J1 0,.ptr J2 0,zn (Nat.succ q)]) [rA En 60 (pb 254) 6,cA En 60 (pb 255)])],(zs [(.arr (Nat.succ q) 2 (a8 [.i64,.i64] K) none 159 ex sty),(zc 3 [u]),(ce 142 [(zi sc),(zi (0)),(.sa .h 0 (Nat.succ q) 2)])]),J3,1⟩
end
abbrev Fg (i q:Nat):Bool:=(Nat.ble (Nat.succ i) (Nat.succ q))
abbrev Bm (K:Nat→Nat→Int) (i:Nat):Int:=(K (Int.toNat (Int.sub (.ofNat i) (1))) 0)
abbrev Ks (K:Nat→Nat→Int) (i:Nat):Int:=(K (Int.toNat (Int.sub (.ofNat i) (1))) 1)
abbrev tN (q:Nat):Nat:=(Int.toNat (Int.sub (.ofNat (Nat.succ q)) (1)))
abbrev OU (u sc:Int):Int:=(Int.fdiv (Int.add (Int.add (Int.mul u sc) (0)) (32768)) (65536))
abbrev VM (i q:Nat):Bool:=(Nat.ble (Nat.succ (Int.toNat (Int.sub (.ofNat i) (1)))) (Nat.succ q))
abbrev JU (i q:Nat):Bool:=(a6 (a6 (Fg i q) true) (a6 (a6 (a6 (Fg i q) true) true) true))
abbrev VN (u sc:Int):Bool:=(a6 (a6 (a6 (f8 (Int.mul u sc)) (a6 (f8 (Int.add (Int.mul u sc) (0))) (a6 (f8 (Int.add (Int.add (Int.mul u sc) (0)) (32768))) true))) (a6 (a6 (c9 sc sc) true) true)) true)
def QM:AV→Hp→Prop:=fun v H=>∃ r e:Int,v=.tup [.int .i64 r,.int .i64 e]∧H.nx=J1∧(-1000000000000000000≤r∧r≤1000000000000000000)
theorem DX {q:Nat} {K:Nat→Nat→Int} {sc:Int} (h:Yg q K) (hsc:1≤sc∧sc≤16777216) :
 ((-32000≤K (Int.toNat (Int.sub (Int.ofNat (Nat.succ q)) (1))) 0∧K (Int.toNat (Int.sub (Int.ofNat (Nat.succ q)) (1))) 0≤32000)∧(-32000≤K 0 0∧K 0 0≤32000)) ∧
 (-(32000 * 16777216)≤Int.mul (K (Int.toNat (Int.sub (Int.ofNat (Nat.succ q)) (1))) 0) sc∧Int.mul (K (Int.toNat (Int.sub (Int.ofNat (Nat.succ q)) (1))) 0) sc≤32000 * 16777216) ∧
 (-(32000 * 16777216)≤Int.mul (K 0 0) sc∧Int.mul (K 0 0) sc≤32000 * 16777216):=by
 have h1:=(h (Int.toNat (Int.sub (Int.ofNat (Nat.succ q)) (1))) (by simp only [j7,Bk];omega)).1
 have h2:=(h 0 (by omega)).1
 exact ⟨⟨h1,h2⟩,V7 32000 hsc h1,V7 32000 hsc h2⟩
theorem iP {x y A B:Int} (hx : -A≤x∧x≤A) (hy : -B≤y∧y≤B) : -(A * B)≤x * y∧x * y≤A * B:=by
 have h1:x.natAbs≤A.natAbs:=by omega
 have h2:y.natAbs≤B.natAbs:=by omega
 have h3:(x * y).natAbs≤A.natAbs * B.natAbs:=by rw [Int.natAbs_mul];exact Nat.mul_le_mul h1 h2
 have hA:(A.natAbs:Int)=A:=by omega
 have hB:(B.natAbs:Int)=B:=by omega
 have h4:((A.natAbs * B.natAbs:Nat):Int)=A * B:=by rw [Int.natCast_mul,hA,hB]
 omega
theorem SB (x d:Int) {C:Int} (h : -C≤x∧x≤C) : -C≤Int.tdiv x d∧Int.tdiv x d≤C:=by
 have h1:=Int.natAbs_tdiv x d
 have h2:x.natAbs.div d.natAbs≤x.natAbs:=Nat.div_le_self _ _
 rw [← h1] at h2
 omega
theorem DY {q:Nat} {K:Nat→Nat→Int} {u:Int} (hu : -32000≤u∧u≤32000) (h:Yg q K) (hK:∀ j k,-1000000000000≤K j k∧K j k≤1000000000000) {i:Nat} (h0:0 < i) (hi:i < q+1) :
 (K (Int.toNat (Int.sub (Int.ofNat i) (1))) 0 < K i 0∧(-32000≤K (Int.toNat (Int.sub (Int.ofNat i) (1))) 0∧K (Int.toNat (Int.sub (Int.ofNat i) (1))) 0≤32000)∧(-32000≤K i 0∧K i 0≤32000)) ∧
 (-(64000 * 2000000000000)≤Int.mul (Int.sub u (K (Int.toNat (Int.sub (Int.ofNat i) (1))) 0)) (Int.sub (K i 1) (K (Int.toNat (Int.sub (Int.ofNat i) (1))) 1))∧Int.mul (Int.sub u (K (Int.toNat (Int.sub (Int.ofNat i) (1))) 0)) (Int.sub (K i 1) (K (Int.toNat (Int.sub (Int.ofNat i) (1))) 1))≤64000 * 2000000000000) ∧
 (-(64000 * 2000000000000)≤Int.tdiv (Int.mul (Int.sub u (K (Int.toNat (Int.sub (Int.ofNat i) (1))) 0)) (Int.sub (K i 1) (K (Int.toNat (Int.sub (Int.ofNat i) (1))) 1))) (Int.sub (K i 0) (K (Int.toNat (Int.sub (Int.ofNat i) (1))) 0)) ∧
  Int.tdiv (Int.mul (Int.sub u (K (Int.toNat (Int.sub (Int.ofNat i) (1))) 0)) (Int.sub (K i 1) (K (Int.toNat (Int.sub (Int.ofNat i) (1))) 1))) (Int.sub (K i 0) (K (Int.toNat (Int.sub (Int.ofNat i) (1))) 0))≤64000 * 2000000000000):=by
 have e:Int.toNat (Int.sub (Int.ofNat i) (1))=i - 1:=by simp only [j7,Bk];omega
 rw [e]
 have h1:=h i hi
 have h2:=h (i - 1) (by omega)
 have h3:=hK i 1
 have h4:=hK (i - 1) 1
 have h5:=iP (x:=u - K (i - 1) 0) (y:=K i 1 - K (i - 1) 1) (A:=64000) (B:=2000000000000) (by omega) (by omega)
 exact ⟨⟨h1.2 h0,h2.1,h1.1⟩,h5,SB _ _ h5⟩
section
variable {q:Nat} {K:Nat→Nat→Int} {ex sty:Bool} {sc u:Int} (hq:q≤100) (hK:∀ j k,-1000000000000≤K j k∧K j k≤1000000000000) (hsc:1≤sc∧sc≤16777216) (hu : -32000≤u∧u≤32000)
include hq hK hsc hu
theorem JV (hkn:Yg q K) (d:Nat):∀ (i:Nat),q+1 - i=d→i≤q+1→a7 En 1 (Yh q K ex sty sc u i) QM:=by
 induction d using Nat.strongRecOn with
 | ind d IH =>
   intro i hd hi
   have ih:i < q+1→a7 En 1 (Yh q K ex sty sc u (Nat.add i 1)) QM:=fun h1=>IH (q+1 - (i+1)) (by omega) (i+1) rfl (by omega)
   clear IH
   rcases T6 (Nat.succ i) (Nat.succ q) with ⟨b1,b1p⟩|⟨b1,b1p⟩
   ·refine fi 1 [(8,9,false),(17,44,true),(5,48,false),(21,94,true)] 17 ((a6 (Bool.not (Fg i q)) (a6 (Nat.ble 1 i) (a6 (Bool.not (Fg i q)) (a6 (Nat.beq i (Nat.succ q)) (a6 (f8 (Int.sub (.ofNat (Nat.succ q)) (1))) (a6 (a6 (a6 (f9 (0) (Int.sub (.ofNat (Nat.succ q)) (1))) (Nat.ble (Nat.succ (tN q)) (Nat.succ q))) true) (a6 (a6 (a6 (Nat.ble (Nat.succ (tN q)) (Nat.succ q)) true) true) (a6 (a6 (a6 (VN u sc) (a6 (a6 (a6 (a6 (f8 (Int.mul (K (tN q) 0) sc)) (a6 (f8 (Int.add (Int.mul (K (tN q) 0) sc) (0))) (a6 (f8 (Int.add (Int.add (Int.mul (K (tN q) 0) sc) (0)) (32768))) true))) (a6 (a6 (c9 sc sc) true) true)) true) (a6 (f8 (Int.sub (OU u sc) (Int.fdiv (Int.add (Int.add (Int.mul (K (tN q) 0) sc) (0)) (32768)) (65536)))) (a6 (f8 (Int.add (Int.sub (OU u sc) (Int.fdiv (Int.add (Int.add (Int.mul (K (tN q) 0) sc) (0)) (32768)) (65536))) (K (tN q) 1))) true)))) (a6 (a6 (c9 (K (tN q) 1) (K (tN q) 1)) (a6 (c9 (K (tN q) 1) (K (tN q) 1)) (a6 (c9 (K (tN q) 1) (K (tN q) 1)) true))) (a6 (a6 (c9 (K (tN q) 0) (K (tN q) 0)) (a6 (c9 (K (tN q) 0) (K (tN q) 0)) true)) (a6 (a6 (c9 u u) true) true)))) true))))))))) [.h] (.tup [(zi (Int.add (Int.sub (Int.fdiv (Int.add (Int.add (Int.mul u sc) (0)) (32768)) (65536)) (Int.fdiv (Int.add (Int.add (Int.mul (K (Int.toNat (Int.sub (.ofNat (Nat.succ q)) (1))) 0) sc) (0)) (32768)) (65536))) (K (Int.toNat (Int.sub (.ofNat (Nat.succ q)) (1))) 1))),(zi (0))]) [] J1 (by have:=hK (Int.toNat (Int.sub (.ofNat (Nat.succ q)) (1))) 0;have:=hK (Int.toNat (Int.sub (.ofNat (Nat.succ q)) (1))) 1;have:=V7 (u:=(K (Int.toNat (Int.sub (.ofNat (Nat.succ q)) (1))) 0)) 1000000000000 hsc (by have:=hK (Int.toNat (Int.sub (.ofNat (Nat.succ q)) (1))) 0;(try simp only [j8,j7] at *);omega);have ex1:=DX hkn hsc;have exu:=V7 (u:=u) 32000 hsc (by omega);(try have ex2:=DY hu hkn hK (i:=i) (by omega) (by omega));(try simp only [b1,gS,Fg,tN,OU,VN]);(try simp only [gT] at *);try omega) ?_
    exact ⟨_,_,rfl,rfl,by first|decide|(have ex1:=DX hkn hsc;have exu:=V7 (u:=u) 32000 hsc (by omega);(try have ex2:=DY hu hkn hK (i:=i) (by omega) (by omega));have:=hK (Int.toNat (Int.sub (.ofNat i) (1))) 1;have:=hK (Int.toNat (Int.sub (.ofNat (Nat.succ q)) (1))) 1;have:=hK 0 1;simp only [j8,j7,m8,X9,Q0] at *;omega)⟩
   rcases cl (K i 0) u with ⟨b2,b2p⟩|⟨b2,b2p⟩
   ·rcases T6 1 i with ⟨b3,b3p⟩|⟨b3,b3p⟩
    ·refine fi 1 [(8,9,true),(29,18,true),(17,44,false),(26,94,false)] 6 ((a6 (Fg i q) (a6 (JU i q) (a6 (Bool.not (f9 (K i 0) u)) (a6 (Bool.not (Nat.ble 1 i)) (a6 (Bool.not (Nat.beq i (Nat.succ q))) (a6 (a6 (a6 (VN u sc) (a6 (a6 (a6 (a6 (f8 (Int.mul (K 0 0) sc)) (a6 (f8 (Int.add (Int.mul (K 0 0) sc) (0))) (a6 (f8 (Int.add (Int.add (Int.mul (K 0 0) sc) (0)) (32768))) true))) (a6 (a6 (c9 sc sc) true) true)) true) (a6 (f8 (Int.sub (OU u sc) (Int.fdiv (Int.add (Int.add (Int.mul (K 0 0) sc) (0)) (32768)) (65536)))) (a6 (f8 (Int.add (Int.sub (OU u sc) (Int.fdiv (Int.add (Int.add (Int.mul (K 0 0) sc) (0)) (32768)) (65536))) (K 0 1))) true)))) (a6 (a6 (c9 (K 0 1) (K 0 1)) (a6 (c9 (K 0 1) (K 0 1)) (a6 (c9 (K 0 1) (K 0 1)) true))) (a6 (a6 (c9 (K 0 0) (K 0 0)) (a6 (c9 (K 0 0) (K 0 0)) true)) (a6 (a6 (c9 u u) true) true)))) true))))))) [.h] (.tup [(zi (Int.add (Int.sub (Int.fdiv (Int.add (Int.add (Int.mul u sc) (0)) (32768)) (65536)) (Int.fdiv (Int.add (Int.add (Int.mul (K 0 0) sc) (0)) (32768)) (65536))) (K 0 1))),(zi (0))]) [] J1 (by have:=n7 (hK 0);have:=hK i 0;have:=V7 (u:=(K 0 0)) 1000000000000 hsc (by have:=hK 0 0;(try simp only [j8,j7] at *);omega);have ex1:=DX hkn hsc;have exu:=V7 (u:=u) 32000 hsc (by omega);(try have ex2:=DY hu hkn hK (i:=i) (by omega) (by omega));(try simp only [b1,b2,b3,gS,Fg,OU,JU,VN]);(try simp only [gT] at *);try omega) ?_
     exact ⟨_,_,rfl,rfl,by first|decide|(have ex1:=DX hkn hsc;have exu:=V7 (u:=u) 32000 hsc (by omega);(try have ex2:=DY hu hkn hK (i:=i) (by omega) (by omega));have:=hK (Int.toNat (Int.sub (.ofNat i) (1))) 1;have:=hK (Int.toNat (Int.sub (.ofNat (Nat.succ q)) (1))) 1;have:=hK 0 1;simp only [j8,j7,m8,X9,Q0] at *;omega)⟩
    refine fi 1 [(8,9,true),(29,18,true),(17,44,true),(5,48,true)] 7 ((a6 (Fg i q) (a6 (JU i q) (a6 (Bool.not (f9 (K i 0) u)) (a6 (Nat.ble 1 i) (a6 (Fg i q) (a6 (a6 (a6 (f8 (Int.sub (.ofNat i) (1))) (a6 (a6 (a6 (f9 (0) (Int.sub (.ofNat i) (1))) (VM i q)) true) (a6 (a6 (a6 (VM i q) true) true) (JU i q)))) (a6 (a6 (a6 (a6 (a6 (Fg i q) true) true) (a6 (c9 (K i 0) (K i 0)) (a6 (c9 (K i 1) (K i 1)) true))) (a6 (a6 (a6 (a6 (Fg i q) true) true) (a6 (c9 (K i 0) (K i 0)) (a6 (c9 (K i 1) (K i 1)) true))) true)) (a6 (a6 (a6 (Nat.beq (Nat.succ q) (Nat.succ q)) true) (a6 (a6 (Nat.beq (Nat.succ q) (Nat.succ q)) true) true)) (a6 (a6 (a6 (a6 (a6 (VM i q) true) true) (a6 (c9 (Bm K i) (Bm K i)) (a6 (c9 (Ks K i) (Ks K i)) true))) true) (a6 (a6 (a6 (Nat.beq (Nat.succ q) (Nat.succ q)) true) true) true))))) (a6 (a6 (a6 (f8 (Int.sub u (Bm K i))) (a6 (f8 (Int.sub (K i 1) (Ks K i))) (a6 (f8 (Int.mul (Int.sub u (Bm K i)) (Int.sub (K i 1) (Ks K i)))) (a6 (f8 (Int.sub (K i 0) (Bm K i))) (a6 (a6 (Bool.not (c9 (Int.sub (K i 0) (Bm K i)) (0))) (f8 (Int.tdiv (Int.mul (Int.sub u (Bm K i)) (Int.sub (K i 1) (Ks K i))) (Int.sub (K i 0) (Bm K i))))) (a6 (f8 (Int.add (Ks K i) (Int.tdiv (Int.mul (Int.sub u (Bm K i)) (Int.sub (K i 1) (Ks K i))) (Int.sub (K i 0) (Bm K i))))) true)))))) (a6 (a6 (c9 (Bm K i) (Bm K i)) true) (a6 (a6 (c9 (K i 0) (K i 0)) true) (a6 (a6 (c9 (Ks K i) (Ks K i)) true) (a6 (a6 (c9 (K i 1) (K i 1)) true) (a6 (a6 (c9 (Bm K i) (Bm K i)) true) (a6 (a6 (c9 u u) true) (a6 (a6 (c9 (Ks K i) (Ks K i)) true) true)))))))) true)))))))) [.h] (.tup [(zi (Int.add (K (Int.toNat (Int.sub (.ofNat i) (1))) 1) (Int.tdiv (Int.mul (Int.sub u (K (Int.toNat (Int.sub (.ofNat i) (1))) 0)) (Int.sub (K i 1) (K (Int.toNat (Int.sub (.ofNat i) (1))) 1))) (Int.sub (K i 0) (K (Int.toNat (Int.sub (.ofNat i) (1))) 0))))),(zi (0))]) [] J1 (by have:=hK (Int.toNat (Int.sub (.ofNat i) (1))) 1;have:=hK (Int.toNat (Int.sub (.ofNat i) (1))) 0;have:=n7 (hK i);have ex1:=DX hkn hsc;have exu:=V7 (u:=u) 32000 hsc (by omega);(try have ex2:=DY hu hkn hK (i:=i) (by omega) (by omega));(try simp only [b1,b2,b3,gS,Fg,Bm,Ks,VM,JU]);(try simp only [gT] at *);try omega) ?_
    exact ⟨_,_,rfl,rfl,by first|decide|(have ex1:=DX hkn hsc;have exu:=V7 (u:=u) 32000 hsc (by omega);(try have ex2:=DY hu hkn hK (i:=i) (by omega) (by omega));have:=hK (Int.toNat (Int.sub (.ofNat i) (1))) 1;have:=hK (Int.toNat (Int.sub (.ofNat (Nat.succ q)) (1))) 1;have:=hK 0 1;simp only [j8,j7,m8,X9,Q0] at *;omega)⟩
   refine ar 1 [(8,9,true),(29,18,false)] 9 ((a6 (Fg i q) (a6 (JU i q) (a6 (Bool.not (Bool.not (f9 (K i 0) u))) (a6 (a6 (f9 (-9223372036854775808) (.ofNat (Nat.add i 1))) (Nat.ble (Nat.add i 1) 9223372036854775807)) true))))) (Yh q K ex sty sc u (Nat.add i 1)) [.h,J1,J2] [0,1,5] [[3,7,8]] (by have:=hK i 0;have ex1:=DX hkn hsc;have exu:=V7 (u:=u) 32000 hsc (by omega);(try have ex2:=DY hu hkn hK (i:=i) (by omega) (by omega));(try simp only [b1,b2,gS,Fg,JU]);(try simp only [gT] at *);try omega) ?_
   exact ih (by omega)
theorem JW:a7 En 1 (XW q K ex sty sc u) QM:=by
 refine ac 1 [] 12 true (SA q K ex sty sc u) [.h,J1,J2] [[2,3]] rfl ?_
 refine ca (JQ q K ex sty sc) [.h] (JT (q:=q) (K:=K) (ex:=ex) (sty:=sty) (sc:=sc) hq hK hsc) (fun v' H' q=>?_)
 rcases q with ⟨e_1,rfl,hnx1,hqc_1⟩
 refine ⟨(zi e_1),[],J3,(by kernel_rfl),(by rw [hnx1];kernel_rfl),trivial,(by kernel_rfl),?_⟩
 rcases ci e_1 (0) with ⟨b1,b1p⟩|⟨b1,b1p⟩
 ·refine fi 1 [(7,16,true)] 9 (a6 (Bool.not (c9 e_1 (0))) true) [.h] (.tup [(zi (0)),(zi e_1)]) [] J1 (by (try simp only [b1,gS]);(try simp only [gT] at *);try omega) ?_
  exact ⟨_,_,rfl,rfl,by first|decide|(have ex1:=DX hkn hsc;have exu:=V7 (u:=u) 32000 hsc (by omega);(try have ex2:=DY hu hkn hK (i:=i) (by omega) (by omega));have:=hK (Int.toNat (Int.sub (.ofNat i) (1))) 1;have:=hK (Int.toNat (Int.sub (.ofNat (Nat.succ q)) (1))) 1;have:=hK 0 1;simp only [j8,j7,m8,X9,Q0] at *;omega)⟩
 refine ar 1 [(7,16,false),(25,10,true),(14,20,false),(25,31,false)] 25 (a6 (Bool.not (Bool.not (c9 e_1 (0)))) (a6 (f9 (-32000) u) (a6 (Bool.not (Bool.not (f9 u (32000)))) (a6 (Bool.not (Nat.beq (Nat.succ q) 0)) true)))) (Yh q K ex sty sc u 0) [.h,J2,J3] [0,1,5] [[3,7,8]] (by (try simp only [b1,gS]);(try simp only [gT] at *);try omega) ?_
 exact JV hq hK hsc hu (hqc_1 b1p) (q+1 - 0) 0 rfl (by omega)
end
def Ji (sc:Int) (u:Int):St:=⟨o4 (d9 En 60 [(.agg [(zi sc),(zi (0)),.nils]),(zi u)] false),[],[],.h,0⟩
theorem SC (sc:Int) (u:Int):d9 En 60 [(.agg [(zi sc),(zi (0)),.nils]),(zi u)] false=some (Ji sc u).f:=by kernel_rfl
section
def ZP:AV→Hp→Prop:=fun v H=>∃ r:Int,v=.tup [.int .i64 r,.int .i64 0]∧H.nx=.h∧(-1000000000000000000≤r∧r≤1000000000000000000)
theorem JX {sc u:Int} (hsc:1≤sc∧sc≤16777216) (hu : -32000≤u∧u≤32000):a7 En 0 (Ji sc u) ZP:=by
 refine fi 0 [(51,10,true),(9,9,true),(107,10,true),(14,20,false)] 44 (a6 (f9 (1) sc) (a6 (f9 sc (16777216)) (a6 (f9 (-32000) u) (a6 (Bool.not (Bool.not (f9 u (32000)))) (a6 (a6 (a6 (f8 (Int.mul u sc)) (a6 (f8 (Int.add (Int.mul u sc) (0))) (a6 (f8 (Int.add (Int.add (Int.mul u sc) (0)) (32768))) true))) (a6 (a6 (c9 sc sc) true) true)) true))))) [] (.tup [(zi (Int.fdiv (Int.add (Int.add (Int.mul u sc) (0)) (32768)) (65536))),(zi (0))]) [] .h (by have:=V7 (u:=u) 32000 hsc hu;(try simp only [gS]);(try simp only [gT] at *);try omega) ?_
 exact ⟨_,rfl,rfl,by have:=V7 (u:=u) 32000 hsc hu;simp only [j8,j7,m8,X9,Q0] at *;omega⟩
theorem jV {p:Prop} : @decide p (Classical.propDecidable p)=true↔p:=@decide_eq_true_iff p (Classical.propDecidable p)
def dA (n:Nat) (f:Nat→List AV):Bool:=@decide _ (Classical.propDecidable (∃ q K,n=q+1∧f=a8 [.i64,.i64] K∧q≤100∧∀ j k,-1000000000000≤K j k∧K j k≤1000000000000))
theorem nT {q:Nat} {K:Nat→Nat→Int} (hq:q≤100) (hK:∀ j k,-1000000000000≤K j k∧K j k≤1000000000000):dA (Nat.succ q) (a8 [.i64,.i64] K)=true:=by
 unfold dA;exact jV.2 ⟨q,K,rfl,rfl,hq,hK⟩
def nU (n:Nat) (f:Nat→List AV) (ex sty:Bool) (sc u:Int):St:=⟨o4 (d9 En 60 [.agg [.int .i64 sc,.int .i64 0,.sa .h 0 n 2],.int .i64 u] false),[],[(.h,.arr n 2 f none 159 ex sty)],.o .h,1⟩
def nV (n:Nat) (f:Nat→List AV) (ex sty:Bool) (sc u:Int) (p:Int × Int):Prop:=
 a7 En 1 (nU n f ex sty sc u) (fun v H=>v=.tup [.int .i64 p.1,.int .i64 p.2]∧H.nx=.o .h)∧-1000000000000000000≤p.1∧p.1≤1000000000000000000
open Classical in
section
variable (n:Nat) (f:Nat→List AV) (ex sty:Bool) (sc u:Int)
include n f ex sty sc u
def Ro:Int × Int:=if h:∃ p,nV n f ex sty sc u p then Classical.choose h else (0,0)
def oT:Int:=(Ro n f ex sty sc u).1
def wX:Int:=(Ro n f ex sty sc u).2
end
theorem Fh {n:Nat} {f:Nat→List AV} {ex sty:Bool} {sc u:Int} (h:∃ p,nV n f ex sty sc u p):nV n f ex sty sc u (Ro n f ex sty sc u):=by
 unfold Ro;rw [dif_pos h];exact Classical.choose_spec h
theorem C7 (n:Nat) (f:Nat→List AV) (ex sty:Bool) (sc u:Int) : -1000000000000000000≤oT n f ex sty sc u∧oT n f ex sty sc u≤1000000000000000000:=by
 unfold oT
 by_cases h:∃ p,nV n f ex sty sc u p
 ·exact (Fh h).2
 unfold Ro;rw [dif_neg h];decide
theorem XX {n:Nat} {f:Nat→List AV} {ex sty:Bool} {sc u:Int} (h:dA n f=true) (hsc:1≤sc∧sc≤16777216) (hu : -32000≤u∧u≤32000):∃ p,nV n f ex sty sc u p:=by
 unfold dA at h
 obtain ⟨q,K,rfl,rfl,hq,hK⟩:=jV.1 h
 obtain ⟨v,S',⟨r,e,h1,h2,h3⟩,h4⟩:=JW (ex:=ex) (sty:=sty) hq hK hsc hu
 exact ⟨(r,e),⟨v,S',⟨h1,h2⟩,h4⟩,h3⟩
def SD (sc u r:Int):Prop:=a7 En 0 (Ji sc u) (fun v H=>v=.tup [.int .i64 r,.int .i64 0]∧H.nx=.h)∧-1000000000000000000≤r∧r≤1000000000000000000
open Classical in
def oU (sc u:Int):Int:=if h:∃ r,SD sc u r then Classical.choose h else 0
theorem Fi {sc u:Int} (h:∃ r,SD sc u r):SD sc u (oU sc u):=by
 unfold oU;rw [dif_pos h];exact Classical.choose_spec h
theorem Q3 (sc u:Int) : -1000000000000000000≤oU sc u∧oU sc u≤1000000000000000000:=by
 by_cases h:∃ r,SD sc u r
 ·exact (Fi h).2
 unfold oU;rw [dif_neg h];decide
theorem SE {sc u:Int} (hsc:1≤sc∧sc≤16777216) (hu : -32000≤u∧u≤32000):∃ r,SD sc u r:=by
 obtain ⟨v,S',⟨r,h1,h2,h3⟩,h4⟩:=JX hsc hu
 exact ⟨r,⟨v,S',⟨h1,h2⟩,h4⟩,h3⟩
def JY (args:List AV) (H:Hp):Option (Bool × AV × Hp):=match args with
 | [.agg [.int .i64 sc,.int .i64 off,.sa b e n z],.int .i64 u]=>(match T.get b H.hp with
   | some (.arr n' z' g none el ex sty)=>some ((a6 (c9 off 0) (a6 (Nat.beq e 0) (a6 (Nat.beq z 2) (a6 (Nat.beq z' 2) (a6 (Nat.beq el 159) (a6 (Nat.beq n n') (a6 (dA n g) (a6 (f9 1 sc) (a6 (f9 sc 16777216) (a6 (f9 (-32000) u) (a6 (f9 u 32000) (H6 En.ng 1 H.nx.idx 0 1 H.fl [b])))))))))))),.tup [.int .i64 (oT n g ex sty sc u),.int .i64 (wX n g ex sty sc u)],H)
   | _=>none)
 | [.agg [.int .i64 sc,.int .i64 off,.nils],.int .i64 u]=>some ((a6 (c9 off 0) (a6 (f9 1 sc) (a6 (f9 sc 16777216) (a6 (f9 (-32000) u) (f9 u 32000))))),.tup [.int .i64 (oU sc u),.int .i64 0],H)
 | _=>none
def YV:M8:=fun f args H=>Bool.rec (tb f args H) (JY args H) (Nat.beq f 60)
theorem Fj:q9 YV En:=fun f args v H S' h γ w s hH ho=>by
 unfold YV at h
 cases hf:Nat.beq f 60 with
 | false=>rw [hf] at h;exact V9 f args v H S' h γ w s hH ho
 | true =>
   rw [hf] at h
   have ef:=Nat.eq_of_beq_eq_true hf
   subst ef
   have h:JY args H=some (true,v,S'):=h
   unfold JY at h
   split at h
   ·rename_i sc off b e n z u xx
    split at h
    ·rename_i n' z' g el ex sty hb
     injection h with h
     injection h with h1 h2
     injection h2 with h2 h3
     subst h2 h3
     obtain ⟨g1,h1⟩:=a9.1 h1
     obtain ⟨g2,h1⟩:=a9.1 h1
     obtain ⟨g3,h1⟩:=a9.1 h1
     obtain ⟨g4,h1⟩:=a9.1 h1
     obtain ⟨g5,h1⟩:=a9.1 h1
     obtain ⟨g6,h1⟩:=a9.1 h1
     obtain ⟨g7,h1⟩:=a9.1 h1
     obtain ⟨g8,h1⟩:=a9.1 h1
     obtain ⟨g9,h1⟩:=a9.1 h1
     obtain ⟨g10,h1⟩:=a9.1 h1
     obtain ⟨g11,g12⟩:=a9.1 h1
     have e1:=(E2 _ _).1 g1
     have e2:=Nat.eq_of_beq_eq_true g2
     have e3:=Nat.eq_of_beq_eq_true g3
     have e4:=Nat.eq_of_beq_eq_true g4
     have e5:=Nat.eq_of_beq_eq_true g5
     have e6:=Nat.eq_of_beq_eq_true g6
     subst e1 e2 e3 e4 e5 e6
     obtain ⟨m1,_⟩:=Fh (XX (ex:=ex) (sty:=sty) g7 ⟨(n4 _ _).1 g8,(n4 _ _).1 g9⟩ ⟨(n4 _ _).1 g10,(n4 _ _).1 g11⟩)
     have key:∀ (k:Nat),k=En.ng→H6 k 1 H.nx.idx 0 1 H.fl [b]=true→∃ fr',F8 En.P s w fr'∧∀ c bot,∃ γ' v' w',Steps En.P (lone fr' (c::bot) w) (lone (c.finish v') bot w')∧VR γ' (.tup [.int .i64 (oT n g ex sty sc u),.int .i64 (wX n g ex sty sc u)]) v'∧HR γ' En.ng H w'∧j6 H γ w H γ' w':=fun k hk hkeys=>by
      subst hk
      have hm:i6 En (nU n g ex sty sc u).S.nx.idx (nU n g ex sty sc u).f [] (nU n g ex sty sc u).S _:=m1
      refine bK cY (f:=60) (t:=[b]) (f0:=(nU n g ex sty sc u).f) (H:=(nU n g ex sty sc u).S) (os:=(nU n g ex sty sc u).os) (show d9 En 60 [.agg [.int .i64 sc,.int .i64 0,.sa b 0 n 2],.int .i64 u] false=some (o4 (d9 En 60 [.agg [.int .i64 sc,.int .i64 0,.sa b 0 n 2],.int .i64 u] false)) from by kernel_rfl) hkeys rfl ⟨?_,trivial⟩ (by kernel_rfl) ?_ hm (fun v1 H' q=>?_) γ w s hH ho
      ·show T.get (r7 En.ng 1 H.nx.idx [b] .h) H.hp=some (w8 (r7 En.ng 1 H.nx.idx [b]) (.arr n 2 g none 159 ex sty))
       rw [show r7 En.ng 1 H.nx.idx [b] .h=b from by kernel_rfl,show w8 (r7 En.ng 1 H.nx.idx [b]) (.arr n 2 g none 159 ex sty)=.arr n 2 (fun j=>F5 (r7 En.ng 1 H.nx.idx [b]) (g j)) none 159 ex sty from by kernel_rfl]
       unfold dA at g7
       obtain ⟨q,K,_,rfl,_,_⟩:=jV.1 g7
       exact hb
      ·kernel_rfl
      obtain ⟨q1,q2⟩:=q
      exact ⟨q2,by rw [q1];rfl⟩
     exact key En.ng rfl g12
    cases h
   ·rename_i sc off u xx
    injection h with h
    injection h with h1 h2
    injection h2 with h2 h3
    subst h2 h3
    obtain ⟨g1,h1⟩:=a9.1 h1
    obtain ⟨g2,h1⟩:=a9.1 h1
    obtain ⟨g3,h1⟩:=a9.1 h1
    obtain ⟨g4,g5⟩:=a9.1 h1
    have e1:=(E2 _ _).1 g1
    subst e1
    obtain ⟨m1,_⟩:=Fi (SE ⟨(n4 _ _).1 g2,(n4 _ _).1 g3⟩ ⟨(n4 _ _).1 g4,(n4 _ _).1 g5⟩)
    have hm:i6 En 0 (Ji sc u).f [] (Ji sc u).S _:=m1
    rw [show (0:Nat)=En.ng from Iy.symm,show (Ji sc u).S=H0 En from by kernel_rfl] at hm
    exact dQ cY (SC sc u) (cW.of_endsN (y7 (SC sc u) (by intro x hx;cases hx with|head=>rfl|tail _ hx=>cases hx with|head=>rfl|tail _ hx=>cases hx)) rfl (hm.mono (fun v S' q=>q.1))) H γ w s hH ho
   cases h
end
def SH (mA:Int) (mB:Int) (mC:Int) (mD:Int) (mE:Int) (mF:Int) (px:Int) (py:Int):St:=⟨o4 (d9 En 43 [(.ptr .h 0),(az [px,py])] false),[],[(.h,(ce 123 [(zi mA),(zi mB),(zi mC),(zi mD),(zi mE),(zi mF),(zi (0)),(zi (0)),.nils,(zi (0)),(zi (0)),.nils]))],J1,1⟩
def DZ (mA:Int) (mB:Int) (mC:Int) (mD:Int) (mE:Int) (mF:Int) (sx:Int) (sy:Int) (px:Int) (py:Int):St:=⟨o4 (d9 En 44 [(.ptr .h 0),(az [px,py])] false),[],[(.h,(ce 123 [(zi mA),(zi mB),(zi mC),(zi mD),(zi mE),(zi mF),(zi sx),(zi (0)),.nils,(zi sy),(zi (0)),.nils]))],J1,1⟩
def EA (mA:Int) (mB:Int) (mC:Int) (mD:Int) (mE:Int) (mF:Int) (sx:Int) (sy:Int) (q2:Nat) (K2:Nat→Nat→Int) (xb:Bool) (yb:Bool) (px:Int) (py:Int):St:=⟨o4 (d9 En 44 [(.ptr .h 0),(az [px,py])] false),[],(zs [(ce 123 [(zi mA),(zi mB),(zi mC),(zi mD),(zi mE),(zi mF),(zi sx),(zi (0)),.nils,(zi sy),(zi (0)),(.sa J1 0 (Nat.succ q2) 2)]),(.arr (Nat.succ q2) 2 (a8 [.i64,.i64] K2) none 159 xb yb)]),J2,2⟩

def EB (mA:Int) (mB:Int) (mC:Int) (mD:Int) (mE:Int) (mF:Int) (sx:Int) (sy:Int) (q:Nat) (K:Nat→Nat→Int) (xa:Bool) (ya:Bool) (q2:Nat) (K2:Nat→Nat→Int) (xb:Bool) (yb:Bool) (px:Int) (py:Int):St:=⟨o4 (d9 En 44 [(.ptr .h 0),(az [px,py])] false),[],(zs [(ce 123 [(zi mA),(zi mB),(zi mC),(zi mD),(zi mE),(zi mF),(zi sx),(zi (0)),(.sa J1 0 (Nat.succ q) 2),(zi sy),(zi (0)),(.sa J2 0 (Nat.succ q2) 2)]),(.arr (Nat.succ q) 2 (a8 [.i64,.i64] K) none 159 xa ya),(.arr (Nat.succ q2) 2 (a8 [.i64,.i64] K2) none 159 xb yb)]),J3,3⟩
abbrev VO (px sx:Int) (q:Nat):Bool:=(a6 (a6 (c9 px px) true) (a6 (a6 (a6 (c9 sx sx) (a6 (a6 (Nat.beq (Nat.succ q) (Nat.succ q)) true) true)) true) true))
abbrev VP (py sy:Int) (q2:Nat):Bool:=(a6 (a6 (c9 py py) true) (a6 (a6 (a6 (c9 sy sy) (a6 (a6 (Nat.beq (Nat.succ q2) (Nat.succ q2)) true) true)) true) true))
abbrev VQ (sx px:Int):Bool:=(a6 (a6 (a6 (f9 (1) sx) (a6 (f9 sx (16777216)) (a6 (f9 (-32000) px) (f9 px (32000))))) true) (a6 (a6 (c9 px px) true) (a6 (a6 (a6 (c9 sx sx) true) true) true)))
section
variable {mA:Int} {mB:Int} {mC:Int} {mD:Int} {mE:Int} {mF:Int}
theorem tO {px:Int} {py:Int} (hmA : -2000000≤mA∧mA≤2000000) (hmB : -2000000≤mB∧mB≤2000000) (hmC : -2000000≤mC∧mC≤2000000) (hmD : -2000000≤mD∧mD≤2000000) (hpx : -32000≤px∧px≤32000) (hpy : -32000≤py∧py≤32000):a7 En 1 (SH mA mB mC mD mE mF px py) (fun v H=>∃ a b e:Int,v=.tup [.agg [.int .i64 a,.int .i64 b],.int .i64 e]∧H.nx=.o .h∧(-1000000000000000000≤a∧a≤1000000000000000000)∧(-1000000000000000000≤b∧b≤1000000000000000000)):=by
 refine fi 1 [] 10 (a6 (a6 (a6 (f8 (Int.mul mA px)) (a6 (f8 (Int.mul mC py)) (a6 (f8 (Int.add (Int.mul mA px) (Int.mul mC py))) (a6 (f8 (Int.add (Int.add (Int.mul mA px) (Int.mul mC py)) (2048000))) (a6 (f8 (Int.add (Int.add (Int.mul mA px) (Int.mul mC py)) (2048000))) (a6 (f8 (Int.mul mB px)) (a6 (f8 (Int.mul mD py)) (a6 (f8 (Int.add (Int.mul mB px) (Int.mul mD py))) (a6 (f8 (Int.add (Int.add (Int.mul mB px) (Int.mul mD py)) (2048000))) (a6 (f8 (Int.add (Int.add (Int.mul mB px) (Int.mul mD py)) (2048000))) true)))))))))) (a6 (a6 (c9 py py) (a6 (c9 py py) true)) (a6 (a6 (c9 mD mD) (a6 (c9 mD mD) true)) (a6 (a6 (c9 px px) (a6 (c9 px px) true)) (a6 (a6 (c9 mB mB) (a6 (c9 mB mB) true)) (a6 (a6 (c9 py py) true) (a6 (a6 (c9 mC mC) true) (a6 (a6 (c9 px px) true) (a6 (a6 (c9 mA mA) true) true))))))))) true) [.h] (.tup [(az [c8 (Int.add (Int.add (Int.mul mA px) (Int.mul mC py)) (2048000)) (4096000),c8 (Int.add (Int.add (Int.mul mB px) (Int.mul mD py)) (2048000)) (4096000)]),(zi (0))]) [] J1 (by have:=iP (x:=mA) (y:=px) hmA hpx;have:=iP (x:=mB) (y:=px) hmB hpx;have:=iP (x:=mC) (y:=py) hmC hpy;have:=iP (x:=mD) (y:=py) hmD hpy;(try simp only [gS]);(try simp only [gT] at *);try omega) ?_
 exact ⟨_,_,_,rfl,rfl,by have:=iP (x:=mA) (y:=px) hmA hpx;have:=iP (x:=mB) (y:=px) hmB hpx;have:=iP (x:=mC) (y:=py) hmC hpy;have:=iP (x:=mD) (y:=py) hmD hpy;simp only [j8,m8] at *;unfold c8;omega,by have:=iP (x:=mA) (y:=px) hmA hpx;have:=iP (x:=mB) (y:=px) hmB hpx;have:=iP (x:=mC) (y:=py) hmC hpy;have:=iP (x:=mD) (y:=py) hmD hpy;simp only [j8,m8] at *;unfold c8;omega⟩
theorem Fk {sx:Int} {sy:Int} {px:Int} {py:Int} (hsx:1≤sx∧sx≤16777216) (hsy:1≤sy∧sy≤16777216) (hpx : -32000≤px∧px≤32000) (hpy : -32000≤py∧py≤32000):a7 En 1 (DZ mA mB mC mD mE mF sx sy px py) (fun v H=>∃ a b e:Int,v=.tup [.agg [.int .i64 a,.int .i64 b],.int .i64 e]∧H.nx=.o .h∧(-1000000000000000000≤a∧a≤1000000000000000000)∧(-1000000000000000000≤b∧b≤1000000000000000000)):=by
 refine A5 Fj 1 [] 30 ((a6 (VQ sx px) (a6 (a6 (a6 (a6 (f9 (1) sy) (a6 (f9 sy (16777216)) (a6 (f9 (-32000) py) (f9 py (32000))))) true) (a6 (a6 (c9 py py) true) (a6 (a6 (a6 (c9 sy sy) true) true) true))) (a6 (f8 (Int.sub (0) (oU sy py))) true)))) [.h] (.tup [(az [oU sx px,Int.sub (0) (oU sy py)]),(zi (0))]) [] J1 (by have:=Q3 sx px;have:=Q3 sy py;(try simp only [gS,VQ]);(try simp only [gT] at *);try omega) ?_
 exact ⟨_,_,_,rfl,rfl,by have:=Q3 sx px;have:=Q3 sy py;(try simp only [H3,j7] at *);omega,by have:=Q3 sx px;have:=Q3 sy py;(try simp only [H3,j7] at *);omega⟩
theorem Fl {sx:Int} {sy:Int} {q2:Nat} {K2:Nat→Nat→Int} {xb:Bool} {yb:Bool} {px:Int} {py:Int} (hsx:1≤sx∧sx≤16777216) (hsy:1≤sy∧sy≤16777216) (hq2:q2≤100) (hK2:∀ j k,-1000000000000≤K2 j k∧K2 j k≤1000000000000) (hpx : -32000≤px∧px≤32000) (hpy : -32000≤py∧py≤32000):a7 En 2 (EA mA mB mC mD mE mF sx sy q2 K2 xb yb px py) (fun v H=>∃ a b e:Int,v=.tup [.agg [.int .i64 a,.int .i64 b],.int .i64 e]∧H.nx=.i .h∧(-1000000000000000000≤a∧a≤1000000000000000000)∧(-1000000000000000000≤b∧b≤1000000000000000000)):=by
 have hk2:=nT hq2 hK2
 refine A5 Fj 2 [] 30 ((a6 (VQ sx px) (a6 (a6 (a6 (a6 (Nat.beq (Nat.succ q2) (Nat.succ q2)) (a6 (dA (Nat.succ q2) (a8 [.i64,.i64] K2)) (a6 (f9 (1) sy) (a6 (f9 sy (16777216)) (a6 (f9 (-32000) py) (a6 (f9 py (32000)) true)))))) true) (VP py sy q2)) (a6 (f8 (Int.sub (0) (oT (Nat.succ q2) (a8 [.i64,.i64] K2) xb yb sy py))) true)))) [.h,J1] (.tup [(az [oU sx px,Int.sub (0) (oT (Nat.succ q2) (a8 [.i64,.i64] K2) xb yb sy py)]),(zi (wX (Nat.succ q2) (a8 [.i64,.i64] K2) xb yb sy py))]) [] J2 (by have:=Q3 sx px;have:=C7 (Nat.succ q2) (a8 [.i64,.i64] K2) xb yb sy py;(try simp only [hk2,gS,VP,VQ]);(try simp only [gT] at *);try omega) ?_
 exact ⟨_,_,_,rfl,rfl,by have:=Q3 sx px;have:=C7 (Nat.succ q2) (a8 [.i64,.i64] K2) xb yb sy py;(try simp only [H3,j7] at *);omega,by have:=Q3 sx px;have:=C7 (Nat.succ q2) (a8 [.i64,.i64] K2) xb yb sy py;(try simp only [H3,j7] at *);omega⟩
theorem Fm {sx:Int} {sy:Int} {q:Nat} {K:Nat→Nat→Int} {xa:Bool} {ya:Bool} {q2:Nat} {K2:Nat→Nat→Int} {xb:Bool} {yb:Bool} {px:Int} {py:Int} (hsx:1≤sx∧sx≤16777216) (hsy:1≤sy∧sy≤16777216) (hq:q≤100) (hK:∀ j k,-1000000000000≤K j k∧K j k≤1000000000000) (hq2:q2≤100) (hK2:∀ j k,-1000000000000≤K2 j k∧K2 j k≤1000000000000) (hpx : -32000≤px∧px≤32000) (hpy : -32000≤py∧py≤32000):a7 En 3 (EB mA mB mC mD mE mF sx sy q K xa ya q2 K2 xb yb px py) (fun v H=>∃ a b e:Int,v=.tup [.agg [.int .i64 a,.int .i64 b],.int .i64 e]∧H.nx=.o J1∧(-1000000000000000000≤a∧a≤1000000000000000000)∧(-1000000000000000000≤b∧b≤1000000000000000000)):=by
 have hk1:=nT hq hK
 have hk2:=nT hq2 hK2
 rcases ci (wX (Nat.succ q) (a8 [.i64,.i64] K) xa ya sx px) (0) with ⟨b1,b1p⟩|⟨b1,b1p⟩
 ·refine A5 Fj 3 [(14,20,true)] 10 ((a6 (a6 (a6 (a6 (a6 (Nat.beq (Nat.succ q) (Nat.succ q)) (a6 (dA (Nat.succ q) (a8 [.i64,.i64] K)) (a6 (f9 (1) sx) (a6 (f9 sx (16777216)) (a6 (f9 (-32000) px) (a6 (f9 px (32000)) true)))))) true) (VO px sx q)) true) (a6 (Bool.not (c9 (wX (Nat.succ q) (a8 [.i64,.i64] K) xa ya sx px) (0))) true))) [.h,J1,J2] (.tup [(az [0,0]),(zi (wX (Nat.succ q) (a8 [.i64,.i64] K) xa ya sx px))]) [] J3 (by have:=C7 (Nat.succ q) (a8 [.i64,.i64] K) xa ya sx px;have:=C7 (Nat.succ q2) (a8 [.i64,.i64] K2) xb yb sy py;(try simp only [hk1,hk2,b1,gS,VO]);(try simp only [gT] at *);try omega) ?_
  exact ⟨_,_,_,rfl,rfl,by have:=C7 (Nat.succ q) (a8 [.i64,.i64] K) xa ya sx px;have:=C7 (Nat.succ q2) (a8 [.i64,.i64] K2) xb yb sy py;(try simp only [H3,j7] at *);omega,by have:=C7 (Nat.succ q) (a8 [.i64,.i64] K) xa ya sx px;have:=C7 (Nat.succ q2) (a8 [.i64,.i64] K2) xb yb sy py;(try simp only [H3,j7] at *);omega⟩
 refine A5 Fj 3 [(14,20,false)] 16 ((a6 (a6 (a6 (a6 (a6 (Nat.beq (Nat.succ q) (Nat.succ q)) (a6 (dA (Nat.succ q) (a8 [.i64,.i64] K)) (a6 (f9 (1) sx) (a6 (f9 sx (16777216)) (a6 (f9 (-32000) px) (a6 (f9 px (32000)) true)))))) true) (VO px sx q)) true) (a6 (Bool.not (Bool.not (c9 (wX (Nat.succ q) (a8 [.i64,.i64] K) xa ya sx px) (0)))) (a6 (a6 (a6 (a6 (Nat.beq (Nat.succ q2) (Nat.succ q2)) (a6 (dA (Nat.succ q2) (a8 [.i64,.i64] K2)) (a6 (f9 (1) sy) (a6 (f9 sy (16777216)) (a6 (f9 (-32000) py) (a6 (f9 py (32000)) true)))))) true) (VP py sy q2)) (a6 (f8 (Int.sub (0) (oT (Nat.succ q2) (a8 [.i64,.i64] K2) xb yb sy py))) true))))) [.h,J1,J2] (.tup [(az [oT (Nat.succ q) (a8 [.i64,.i64] K) xa ya sx px,Int.sub (0) (oT (Nat.succ q2) (a8 [.i64,.i64] K2) xb yb sy py)]),(zi (wX (Nat.succ q2) (a8 [.i64,.i64] K2) xb yb sy py))]) [] J3 (by have:=C7 (Nat.succ q) (a8 [.i64,.i64] K) xa ya sx px;have:=C7 (Nat.succ q2) (a8 [.i64,.i64] K2) xb yb sy py;(try simp only [hk1,hk2,b1,gS,VO,VP]);(try simp only [gT] at *);try omega) ?_
 exact ⟨_,_,_,rfl,rfl,by have:=C7 (Nat.succ q) (a8 [.i64,.i64] K) xa ya sx px;have:=C7 (Nat.succ q2) (a8 [.i64,.i64] K2) xb yb sy py;(try simp only [H3,j7] at *);omega,by have:=C7 (Nat.succ q) (a8 [.i64,.i64] K) xa ya sx px;have:=C7 (Nat.succ q2) (a8 [.i64,.i64] K2) xb yb sy py;(try simp only [H3,j7] at *);omega⟩
end
section
variable (n:Nat) (Y:Nat→Nat→Int) (ex sty:Bool) (sd wd:Int) (m:Nat) (V:Nat→Bool) (S:Nat→Nat→Int) (sex ssty:Bool) (i:Nat) (fine:Bool) (Z:Nat→Nat→Int) (e_1:Int) (q_3:Nat) (K_3:Nat→Nat→Int) (q_2:Nat) (K_2:Nat→Nat→Int) (q_4:Nat) (K_4:Nat→Nat→Int)
def Yi:St:=⟨o4 (d9 En 17 [(.agg [(zi sd),(zi wd),(.sa .h 0 n 7),(.sa J1 0 m 3)])] false),[],(zs [(o7 n Y ex sty),(o3 m V S sex ssty)]),J2,2⟩
def B7:St:=⟨(fr 17 94 (ts [1,3,4,22,23,24] [.ptr J2 0,.sa J3 0 n 7,.bool fine,.sa .h 0 n 7,zn n,zn i]) [cA En 17 (pb 244),lA En 17 (pb 244),.blk 0,cA En 17 (pb 31)]),[],(zs [(o7 n Y ex sty),(o3 m V S sex ssty),(ce 36 [(zi sd),(zi wd),(.sa .h 0 n 7),(.sa J1 0 m 3)]),(o7 n Z true false)]),J4,2⟩
def SI:St:=⟨cf (dS n Z true false) J4 [J2],[(fr 17 94 (ts [1,75] [.ptr J3 0,.bool false]) [rA En 17 (pb 124) 4,cA En 17 (pb 125),cA En 17 (pb 63)])],(zs [(o7 n Y ex sty),(o3 m V S sex ssty),(o7 n Z true false),(ce 36 [(zi sd),(zi wd),(.sa .h 0 n 7),(.sa J1 0 m 3)])]),J4,2⟩
def SJ:St:=⟨cf (O1 m V S sex ssty true (1)) J3 [J1],[(fr 17 94 (ts [1,80,81] [.ptr J2 0,.agg [(.bool true),(.bool false)],zi (0)]) [rA En 17 (pb 64818) 3,cA En 17 (pb 64819),.blk 5,cA En 17 (pb 8103),lA En 17 (pb 1012),.blk 4,cA En 17 (pb 127)])],(zs [(o7 n Y ex sty),(o3 m V S sex ssty),(ce 36 [(zi sd),(zi wd),(.sa .h 0 n 7),(.sa J1 0 m 3)])]),J3,2⟩
def SK:St:=⟨cf (O1 m V S sex ssty false (1)) J3 [J1],[(fr 17 94 (ts [1,80,81] [.ptr J2 0,.agg [(.bool true),(.bool false)],zi (1)]) [rA En 17 (pb 64818) 3,cA En 17 (pb 64819),.blk 5,cA En 17 (pb 8103),lA En 17 (pb 1012),.blk 4,cA En 17 (pb 127)])],(zs [(o7 n Y ex sty),(o3 m V S sex ssty),(ce 36 [(zi sd),(zi wd),(.sa .h 0 n 7),(.sa J1 0 m 3)])]),J3,2⟩
def SL:St:=⟨cf (O1 m V S sex ssty false (1)) J3 [J1],[(fr 17 94 (ts [1,80,81] [.ptr J2 0,.agg [(.bool true),(.bool false)],zi (1)]) [rA En 17 (pb 64818) 3,cA En 17 (pb 64819),.blk 5,cA En 17 (pb 8103),lA En 17 (pb 1012),.blk 4,cA En 17 (pb 127)])],(zs [(o7 n Y ex sty),(o3 m V S sex ssty),(ce 36 [(zi sd),(zi wd),(.sa .h 0 n 7),(.sa J1 0 m 3)])]),J3,2⟩
end
end Go.Proofs.Ytoahnefofelglaa.gm
end
