/- A part of the proof of GlyphMoves; no condition. -/
import Derived.Test.YtoahnefofelglaaGlyphMoves08
set_option linter.unusedVariables false
set_option linter.unusedSimpArgs false
set_option linter.unusedSectionVars false
section
namespace Go.Proofs.Ytoahnefofelglaa.gm
open Go Go.AM
noncomputable abbrev ft0 (i m:Nat):Bool:=(Nat.ble (Nat.succ i) m)
noncomputable abbrev ft1 (O:Nat→Nat→Int):Int:=(Int.add (O 0 1) (O 0 2))
noncomputable abbrev ft2 (j k:Nat):Bool:=(Nat.ble (Nat.succ (Nat.succ j)) k)
noncomputable abbrev ft3 (q:Nat):Nat:=(Int.toNat (Int.sub (.ofNat (Nat.succ q)) (1)))
noncomputable abbrev ft4 (j:Nat):Nat:=(Int.toNat (Int.sub (.ofNat (Nat.succ j)) (1)))
noncomputable abbrev ft5 (O:Nat→Nat→Int):Bool:=(band (ieq (O 0 1) (O 0 1)) (band (ieq (O 0 1) (O 0 1)) true))
noncomputable abbrev ft6 (O:Nat→Nat→Int) (sc:Int):Int:=(Int.fdiv (Int.add (Int.add (Int.mul (O 0 1) sc) (0)) (32768)) (65536))
noncomputable abbrev ft7 (i m:Nat):Bool:=(band (band (ft0 i m) true) (band (band (band (ft0 i m) true) true) true))
noncomputable abbrev ft8 (i:Nat):Bool:=(band (band (ile (-9223372036854775808) (.ofNat (Nat.add i 1))) (Nat.ble (Nat.add i 1) 9223372036854775807)) true)
noncomputable abbrev ft9 (O:Nat→Nat→Int) (sc:Int):Int:=(Int.sub (Int.fdiv (Int.add (Int.add (Int.mul (ft1 O) sc) (0)) (32768)) (65536)) (ft6 O sc))
noncomputable abbrev ft10 (O:Nat→Nat→Int) (j:Nat):Int:=(iite (ilt (O (Nat.succ j) 1) (O (ft4 j) 1)) (-1) (iite (ilt (O (ft4 j) 1) (O (Nat.succ j) 1)) (1) (0)))
noncomputable abbrev ft11 (O:Nat→Nat→Int) (j:Nat):Int:=(iite (ilt (O (Nat.succ j) 2) (O (ft4 j) 2)) (-1) (iite (ilt (O (ft4 j) 2) (O (Nat.succ j) 2)) (1) (0)))
noncomputable abbrev ft12 (i m:Nat) (zz:Bool):Bool:=(band (ft0 i m) (band (ft7 i m) zz))
section
variable {Z:Nat→Nat→Int} {A:Int} (hA:0≤A) (h:∀ j k,-A≤Z j k∧Z j k≤A) (i:Nat) {x y:Int} (hx : -A≤x∧x≤A) (hy : -A≤y∧y≤A)
include hA h i hx hy
theorem updR_bd2:∀ j k,-A≤updR Z i [x,y] j k∧updR Z i [x,y] j k≤A:=
  updR_bd hA h i (fun z hz=>by
    rcases List.mem_cons.1 hz with rfl|hz
    · exact hx
    rcases List.mem_cons.1 hz with rfl|hz
    · exact hy
    cases hz)
theorem updR_bd3:∀ j k,-A≤updR Z i (0::[x,y]) j k∧updR Z i (0::[x,y]) j k≤A:=
  updR_bd hA h i (fun z hz=>by
    rcases List.mem_cons.1 hz with rfl|hz
    · omega
    rcases List.mem_cons.1 hz with rfl|hz
    · exact hx
    rcases List.mem_cons.1 hz with rfl|hz
    · exact hy
    cases hz)
end
def Sorted (m:Nat) (V:Nat→Bool) (Y:Nat→Nat→Int):Prop:=∀ i j,i < j→j < m→V i=V j→Y i 1+Y i 2 < Y j 1
def Own (V:Nat→Bool) (Y:Nat→Nat→Int) (vert:Bool) (i k:Nat) (O:Nat→Nat→Int):Prop:=
  (∀ j,j < k→∃ f,f < i∧V f=vert∧O j 1=Y f 1∧O j 2=Y f 2)∧(∀ j,j+1 < k→O j 1+O j 2 < O (j+1) 1)
theorem Own.push {m:Nat} {V:Nat→Bool} {Y:Nat→Nat→Int} {vert:Bool} {i k:Nat} {O:Nat→Nat→Int} (h:Own V Y vert i k O) (hs:Sorted m V Y) (hi:i < m) (hv:V i=vert):Own V Y vert (i+1) (k+1) (updR O k (0::[Y i 1,Y i 2])):=by
  have hne:∀ j c,j≠k→updR O k (0::[Y i 1,Y i 2]) j c=O j c:=fun j c e=>updR_ne _ _ _ e
  refine ⟨fun j hj=>?_,fun j hj=>?_⟩
  · by_cases e:j=k
    · subst e;exact ⟨i,by omega,hv,updR_at ..,updR_at ..⟩
    obtain ⟨f,h1,h2,h3,h4⟩:=h.1 j (by omega)
    exact ⟨f,by omega,h2,by rw [hne j 1 e];exact h3,by rw [hne j 2 e];exact h4⟩
  rw [hne j 1 (by omega),hne j 2 (by omega)]
  by_cases e:j+1=k
  · rw [e]
    obtain ⟨f,h1,h2,h3,h4⟩:=h.1 j (by omega)
    rw [h3,h4,updR_at]
    exact hs f i h1 hi (h2.trans hv.symm)
  rw [hne (j+1) 1 e];exact h.2 j (by omega)
theorem Own.skip {V:Nat→Bool} {Y:Nat→Nat→Int} {vert:Bool} {i k:Nat} {O:Nat→Nat→Int} (h:Own V Y vert i k O):Own V Y vert (i+1) k O:=
  ⟨fun j hj=>by obtain ⟨f,h1,h2,h3,h4⟩:=h.1 j hj;exact ⟨f,by omega,h2,h3,h4⟩,h.2⟩
def Long1 (m:Nat) (Y:Nat→Nat→Int):Prop:=∀ i,i < m→1≤Y i 2
def QF (m:Nat) (V:Nat→Bool) (vert:Bool) (sc:Int):AV→Hp→Prop:=fun v H =>
  (v=.tup [.agg [.int .i64 0,.int .i64 0,.nils],.int .i64 2]∧H.nx=.o .h)∨(v=.tup [.agg [.int .i64 sc,.int .i64 0,.nils],.int .i64 0]∧H.nx=.o .h∧∀ i,i < m→V i≠vert) ∨
  (∃ (q:Nat) (K:Nat→Nat→Int),v=.tup [.agg [.int .i64 sc,.int .i64 0,.sa J1 0 (Nat.succ q) 2],.int .i64 0]∧H.nx=.i .h∧H.hp.get J1=some (.arr (Nat.succ q) 2 (rowK [.i64,.i64] K) none 159 false false) ∧
    q≤100∧(∀ j k,-1000000000000≤K j k∧K j k≤1000000000000))
theorem kbd {K:Nat→Nat→Int} {A:Int} (h:∀ a c,-A≤K a c∧K a c≤A) (hA:A≤1000000000000):∀ a c,-1000000000000≤K a c∧K a c≤1000000000000:=fun a c=>by
  have:=h a c;omega
theorem px {u w sc lo:Int} (hsc:1≤sc∧sc≤16777216) (hu : -32000≤u∧u≤32000) (hw : -64000≤w∧w≤64000) {A:Int} (hlo : -A≤lo∧lo≤A) (hA:100000000≤A) :
    (-(A+50000000)≤iite (ilt (Int.mul (Int.fdiv (Int.add (Int.fdiv (Int.add (Int.add (Int.mul u sc) (0)) (32768)) (65536)) (8)) (16)) (16)) lo) lo (Int.mul (Int.fdiv (Int.add (Int.fdiv (Int.add (Int.add (Int.mul u sc) (0)) (32768)) (65536)) (8)) (16)) (16)) ∧
      iite (ilt (Int.mul (Int.fdiv (Int.add (Int.fdiv (Int.add (Int.add (Int.mul u sc) (0)) (32768)) (65536)) (8)) (16)) (16)) lo) lo (Int.mul (Int.fdiv (Int.add (Int.fdiv (Int.add (Int.add (Int.mul u sc) (0)) (32768)) (65536)) (8)) (16)) (16))≤A+50000000) ∧
    (-(50000000)≤Int.mul (Int.fdiv (Int.add (Int.fdiv (Int.add (Int.add (Int.mul u sc) (0)) (32768)) (65536)) (8)) (16)) (16)∧Int.mul (Int.fdiv (Int.add (Int.fdiv (Int.add (Int.add (Int.mul u sc) (0)) (32768)) (65536)) (8)) (16)) (16)≤50000000) ∧
    (-(50000000)≤Int.fdiv (Int.add (Int.add (Int.mul w sc) (0)) (32768)) (65536)∧Int.fdiv (Int.add (Int.add (Int.mul w sc) (0)) (32768)) (65536)≤50000000):=by
  have h1:=mulb (u:=u) 32000 hsc hu
  have h2:=mulb (u:=w) 64000 hsc hw
  simp only [iAdd,iSub,iMul,iite_if,fdiv16,fdiv64k,ilt_iff] at *
  refine ⟨?_,?_,?_⟩ <;> omega
section
variable {m:Nat} {V:Nat→Bool} {Y:Nat→Nat→Int} {ex sty vert:Bool} {sc:Int} {k:Nat} {W:Nat→Bool} {O:Nat→Nat→Int} (hm8:m≤8) (hY:∀ j k,-32000≤Y j k∧Y j k≤32000) (hsc:1≤sc∧sc≤16777216) (hown:∀ j,j+1 < k→O j 1+O j 2 < O (j+1) 1) (hO:∀ j k,-32000≤O j k∧O j k≤32000) (hL:∀ j,j < k→1≤O j 2) (hk8:k≤8)
include hm8 hY hsc hown hO hL hk8
theorem ftz_ok (d:Nat) :
    ∀ (j:Nat) (zv:Bool) (zA zL:Int) (q:Nat) (K:Nat→Nat→Int),k - j=d→j≤k→1≤j→q+1=2 * j→(-32000≤zA∧zA≤32000)→(1≤zL∧zL≤32000)→(j < k→zA+zL < O j 1)→(∀ a c,-(200000000 * (j:Int))≤K a c∧K a c≤200000000 * (j:Int)) →
    EndsX En 1 (ftzX m V Y ex sty sc j k W O zv zA zL q K) (QF m V vert sc):=by
  induction d using Nat.strongRecOn with
  | ind d IH =>
    intro j zv zA zL q K hd hj hj1 hq hlA hlL hl hKj
    have hK:=kbd hKj (by omega)
    have hz1:ieq zL (0)=false:=off (ieq_iff _ _) (by omega)
    have hz2':j < k→ile (O j 1) (Int.add zA zL)=false:=fun h=>off (ile_iff _ _) (by have:=hl h;simp only [iAdd];omega)
    have ih:j < k→EndsX En 1 (ftzX m V Y ex sty sc (Nat.add j 1) k W O (W j) (O j 1) (O j 2) (Nat.add (Nat.succ q) 1) (updR (updR K (Nat.succ q) [(O j 1),(iite (ilt (Int.mul (Int.fdiv (Int.add (Int.fdiv (Int.add (Int.add (Int.mul (O j 1) sc) (0)) (32768)) (65536)) (8)) (16)) (16)) (K (Int.toNat (Int.sub (.ofNat (Nat.succ q)) (1))) 1)) (K (Int.toNat (Int.sub (.ofNat (Nat.succ q)) (1))) 1) (Int.mul (Int.fdiv (Int.add (Int.fdiv (Int.add (Int.add (Int.mul (O j 1) sc) (0)) (32768)) (65536)) (8)) (16)) (16)))]) (Nat.succ (Nat.succ q)) [(Int.add (O j 1) (O j 2)),(Int.add (iite (ilt (Int.mul (Int.fdiv (Int.add (Int.fdiv (Int.add (Int.add (Int.mul (O j 1) sc) (0)) (32768)) (65536)) (8)) (16)) (16)) (K (Int.toNat (Int.sub (.ofNat (Nat.succ q)) (1))) 1)) (K (Int.toNat (Int.sub (.ofNat (Nat.succ q)) (1))) 1) (Int.mul (Int.fdiv (Int.add (Int.fdiv (Int.add (Int.add (Int.mul (O j 1) sc) (0)) (32768)) (65536)) (8)) (16)) (16))) (iite (ilt (16) (Int.mul (Int.fdiv (Int.add (Int.sub (Int.fdiv (Int.add (Int.add (Int.mul (Int.add (O j 1) (O j 2)) sc) (0)) (32768)) (65536)) (Int.fdiv (Int.add (Int.add (Int.mul (O j 1) sc) (0)) (32768)) (65536))) (8)) (16)) (16))) (Int.mul (Int.fdiv (Int.add (Int.sub (Int.fdiv (Int.add (Int.add (Int.mul (Int.add (O j 1) (O j 2)) sc) (0)) (32768)) (65536)) (Int.fdiv (Int.add (Int.add (Int.mul (O j 1) sc) (0)) (32768)) (65536))) (8)) (16)) (16)) (16)))])) (QF m V vert sc):=fun hjk=>by
      have b1:=hO j 1
      have b2:=hO j 2
      have b3:=hL j hjk
      have b4 : -64000≤Int.add (O j 1) (O j 2)∧Int.add (O j 1) (O j 2)≤64000:=by simp only [iAdd];omega
      obtain ⟨p1,p2,p3⟩:=px (u:=O j 1) (w:=Int.add (O j 1) (O j 2)) hsc b1 b4 (hKj (Int.toNat (Int.sub (Int.ofNat (Nat.succ q)) (1))) 1) (by omega)
      obtain ⟨_,_,p4⟩:=px (u:=O j 1) (w:=O j 1) hsc b1 (by omega) (hKj 0 1) (by omega)
      refine IH (k - (j+1)) (by omega) (j+1) _ _ _ _ _ rfl (by omega) (by omega) (by simp only [nAdd,nSucc];omega) b1 ⟨b3,by omega⟩ (fun h=>hown j h) ?_
      have e1:200000000 * ((j+1:Nat):Int)=200000000 * (j:Int)+200000000:=by omega
      rw [e1]
      refine updR_bd2 (by omega) (updR_bd2 (by omega) (fun a c=>by have:=hKj a c;omega) _ ?_ ?_) _ ?_ ?_
      · omega
      · revert p1;intro p1;omega
      · omega
      generalize iite (ilt (Int.mul (Int.fdiv (Int.add (Int.fdiv (Int.add (Int.add (Int.mul (O j 1) sc) (0)) (32768)) (65536)) (8)) (16)) (16)) (K (Int.toNat (Int.sub (Int.ofNat (Nat.succ q)) (1))) 1)) (K (Int.toNat (Int.sub (Int.ofNat (Nat.succ q)) (1))) 1) (Int.mul (Int.fdiv (Int.add (Int.fdiv (Int.add (Int.add (Int.mul (O j 1) sc) (0)) (32768)) (65536)) (8)) (16)) (16))=L at *
      generalize Int.fdiv (Int.add (Int.add (Int.mul (Int.add (O j 1) (O j 2)) sc) (0)) (32768)) (65536)=B at *
      generalize Int.fdiv (Int.add (Int.add (Int.mul (O j 1) sc) (0)) (32768)) (65536)=A at *
      simp only [iAdd,iSub,iMul,iite_if,fdiv16,fdiv64k,ilt_iff] at *
      omega
    clear IH
    rcases ce_ (Nat.succ j) k with ⟨b1,b1p⟩|⟨b1,b1p⟩
    · refine fi 1 [(5,10,false)] 18 (band (Bool.not (Nat.ble (Nat.succ j) k)) true) [.h,J9] (.tup [(.agg [(zi sc),(zi (0)),(.sa J1 0 (Nat.succ q) 2)]),(zi (0))]) [(J1,(.arr (Nat.succ q) 2 (rowK [.i64,.i64] K) none 159 false false))] J2 (by have:=hO j 1;(try simp only [b1,gS]);(try simp only [gT] at *);try omega) ?_
      exact .inr (.inr ⟨q,K,rfl,rfl,rfl,by omega,hK⟩)
    have hz2:=hz2' (by omega)
    refine arF 9 1 [(5,10,true),(18,16,true),(10,25,false)] 96 ((band (Nat.ble (Nat.succ j) k) (band (band (band (Nat.ble (Nat.succ j) k) true) (band (band (band (Nat.ble (Nat.succ j) k) true) true) true)) (band (Bool.not (Bool.and (beqB zv false) (Bool.and (ieq zA (0)) (Bool.and (ieq zL (0)) true)))) (band (band (r64 (Int.add zA zL)) true) (band (Bool.not (ile (O j 1) (Int.add zA zL))) (band (band (band (band (band (band (r64 (Int.mul (O j 1) sc)) (band (r64 (Int.add (Int.mul (O j 1) sc) (0))) (band (r64 (Int.add (Int.add (Int.mul (O j 1) sc) (0)) (32768))) true))) (band (band (ieq sc sc) true) true)) true) (band (r64 (Int.add (O j 1) (O j 2))) (band (band (band (band (r64 (Int.mul (Int.add (O j 1) (O j 2)) sc)) (band (r64 (Int.add (Int.mul (Int.add (O j 1) (O j 2)) sc) (0))) (band (r64 (Int.add (Int.add (Int.mul (Int.add (O j 1) (O j 2)) sc) (0)) (32768))) true))) (band (band (ieq sc sc) true) true)) true) true))) (band (band (ieq (O j 2) (O j 2)) (band (ieq (O j 2) (O j 2)) true)) (band (band (ieq (O j 1) (O j 1)) (band (ieq (O j 1) (O j 1)) true)) (band (band (ieq (O j 1) (O j 1)) true) true)))) (band (r64 (Int.add (Int.fdiv (Int.add (Int.add (Int.mul (O j 1) sc) (0)) (32768)) (65536)) (8))) (band (r64 (Int.mul (Int.fdiv (Int.add (Int.fdiv (Int.add (Int.add (Int.mul (O j 1) sc) (0)) (32768)) (65536)) (8)) (16)) (16))) (band (r64 (Int.sub (.ofNat (Nat.succ q)) (1))) (band (band (band (ile (0) (Int.sub (.ofNat (Nat.succ q)) (1))) (Nat.ble (Nat.succ (ft3 q)) (Nat.succ q))) true) (band (band (band (Nat.ble (Nat.succ (ft3 q)) (Nat.succ q)) true) true) (band (band (band (r64 (Int.add (O j 1) (O j 2))) (band (r64 (Int.sub (Int.fdiv (Int.add (Int.add (Int.mul (Int.add (O j 1) (O j 2)) sc) (0)) (32768)) (65536)) (Int.fdiv (Int.add (Int.add (Int.mul (O j 1) sc) (0)) (32768)) (65536)))) (band (band (r64 (Int.add (Int.sub (Int.fdiv (Int.add (Int.add (Int.mul (Int.add (O j 1) (O j 2)) sc) (0)) (32768)) (65536)) (Int.fdiv (Int.add (Int.add (Int.mul (O j 1) sc) (0)) (32768)) (65536))) (8))) (band (r64 (Int.mul (Int.fdiv (Int.add (Int.sub (Int.fdiv (Int.add (Int.add (Int.mul (Int.add (O j 1) (O j 2)) sc) (0)) (32768)) (65536)) (Int.fdiv (Int.add (Int.add (Int.mul (O j 1) sc) (0)) (32768)) (65536))) (8)) (16)) (16))) true)) (band (r64 (Int.add (iite (ilt (Int.mul (Int.fdiv (Int.add (Int.fdiv (Int.add (Int.add (Int.mul (O j 1) sc) (0)) (32768)) (65536)) (8)) (16)) (16)) (K (ft3 q) 1)) (K (ft3 q) 1) (Int.mul (Int.fdiv (Int.add (Int.fdiv (Int.add (Int.add (Int.mul (O j 1) sc) (0)) (32768)) (65536)) (8)) (16)) (16))) (iite (ilt (16) (Int.mul (Int.fdiv (Int.add (Int.sub (Int.fdiv (Int.add (Int.add (Int.mul (Int.add (O j 1) (O j 2)) sc) (0)) (32768)) (65536)) (Int.fdiv (Int.add (Int.add (Int.mul (O j 1) sc) (0)) (32768)) (65536))) (8)) (16)) (16))) (Int.mul (Int.fdiv (Int.add (Int.sub (Int.fdiv (Int.add (Int.add (Int.mul (Int.add (O j 1) (O j 2)) sc) (0)) (32768)) (65536)) (Int.fdiv (Int.add (Int.add (Int.mul (O j 1) sc) (0)) (32768)) (65536))) (8)) (16)) (16)) (16)))) (band (band (band (band (Nat.beq (Nat.succ q) (Nat.succ q)) (Bool.and (Nat.ble (Nat.mul (Nat.add (Nat.mul 2 (Nat.add (Nat.succ q) 2)) 768) 16) 1099511627776) (Nat.ble (Nat.add (Nat.succ q) 2) 1099511627776))) true) true) true))))) (band (band (ieq (O j 2) (O j 2)) (band (ieq (O j 2) (O j 2)) true)) (band (band (ieq (O j 1) (O j 1)) (band (ieq (O j 1) (O j 1)) true)) (band (band (ieq (O j 1) (O j 1)) (band (ieq (O j 1) (O j 1)) true)) (band (band (band (Nat.beq (Nat.succ q) (Nat.succ q)) true) (band (band (Nat.beq (Nat.succ q) (Nat.succ q)) true) true)) true))))) (band (band (ile (-9223372036854775808) (.ofNat (Nat.add j 1))) (Nat.ble (Nat.add j 1) 9223372036854775807)) true)))))))))))))) (ftzX m V Y ex sty sc (Nat.add j 1) k W O (W j) (O j 1) (O j 2) (Nat.add (Nat.succ q) 1) (updR (updR K (Nat.succ q) [(O j 1),(iite (ilt (Int.mul (Int.fdiv (Int.add (Int.fdiv (Int.add (Int.add (Int.mul (O j 1) sc) (0)) (32768)) (65536)) (8)) (16)) (16)) (K (Int.toNat (Int.sub (.ofNat (Nat.succ q)) (1))) 1)) (K (Int.toNat (Int.sub (.ofNat (Nat.succ q)) (1))) 1) (Int.mul (Int.fdiv (Int.add (Int.fdiv (Int.add (Int.add (Int.mul (O j 1) sc) (0)) (32768)) (65536)) (8)) (16)) (16)))]) (Nat.succ (Nat.succ q)) [(Int.add (O j 1) (O j 2)),(Int.add (iite (ilt (Int.mul (Int.fdiv (Int.add (Int.fdiv (Int.add (Int.add (Int.mul (O j 1) sc) (0)) (32768)) (65536)) (8)) (16)) (16)) (K (Int.toNat (Int.sub (.ofNat (Nat.succ q)) (1))) 1)) (K (Int.toNat (Int.sub (.ofNat (Nat.succ q)) (1))) 1) (Int.mul (Int.fdiv (Int.add (Int.fdiv (Int.add (Int.add (Int.mul (O j 1) sc) (0)) (32768)) (65536)) (8)) (16)) (16))) (iite (ilt (16) (Int.mul (Int.fdiv (Int.add (Int.sub (Int.fdiv (Int.add (Int.add (Int.mul (Int.add (O j 1) (O j 2)) sc) (0)) (32768)) (65536)) (Int.fdiv (Int.add (Int.add (Int.mul (O j 1) sc) (0)) (32768)) (65536))) (8)) (16)) (16))) (Int.mul (Int.fdiv (Int.add (Int.sub (Int.fdiv (Int.add (Int.add (Int.mul (Int.add (O j 1) (O j 2)) sc) (0)) (32768)) (65536)) (Int.fdiv (Int.add (Int.add (Int.mul (O j 1) sc) (0)) (32768)) (65536))) (8)) (16)) (16)) (16)))])) [.h,J1,J2,J3,J4,J5,J6,J7,J8,J14] [0,3,7,8,9] [[8,9,10]] ⟨oeFold2 (by kernel_rfl) rfl rfl (by kernel_rfl),trivial⟩ (by have:=hh7 (hO j);have:=hK (Int.toNat (Int.sub (.ofNat (Nat.succ q)) (1))) 1;have:=mulb (u:=(O j 1)) 32000 hsc (by have:=hO j 1;(try simp only [iAdd,iSub] at *);omega);have:=mulb (u:=(Int.add (O j 1) (O j 2))) 64000 hsc (by have:=hO j 1;have:=hO j 2;(try simp only [iAdd,iSub] at *);omega);(try simp only [hz1,hz2,b1,gS,ft3]);(try simp only [gT] at *);try omega) ?_
    exact ih (by omega)
theorem ftz0_ok (hk1:1≤k) :
    EndsX En 1 (ftzX m V Y ex sty sc 1 k W O (W 0) (O 0 1) (O 0 2) 1 (updR (fun _ kk=>List.getD [(O 0 1),(Int.mul (Int.fdiv (Int.add (Int.fdiv (Int.add (Int.add (Int.mul (O 0 1) sc) (0)) (32768)) (65536)) (8)) (16)) (16))] kk 0) 1 [(Int.add (O 0 1) (O 0 2)),(Int.add (Int.mul (Int.fdiv (Int.add (Int.fdiv (Int.add (Int.add (Int.mul (O 0 1) sc) (0)) (32768)) (65536)) (8)) (16)) (16)) (iite (ilt (16) (Int.mul (Int.fdiv (Int.add (Int.sub (Int.fdiv (Int.add (Int.add (Int.mul (Int.add (O 0 1) (O 0 2)) sc) (0)) (32768)) (65536)) (Int.fdiv (Int.add (Int.add (Int.mul (O 0 1) sc) (0)) (32768)) (65536))) (8)) (16)) (16))) (Int.mul (Int.fdiv (Int.add (Int.sub (Int.fdiv (Int.add (Int.add (Int.mul (Int.add (O 0 1) (O 0 2)) sc) (0)) (32768)) (65536)) (Int.fdiv (Int.add (Int.add (Int.mul (O 0 1) sc) (0)) (32768)) (65536))) (8)) (16)) (16)) (16)))])) (QF m V vert sc):=by
  have b1:=hO 0 1
  have b2:=hO 0 2
  have b3:=hL 0 (by omega)
  have b4 : -64000≤Int.add (O 0 1) (O 0 2)∧Int.add (O 0 1) (O 0 2)≤64000:=by simp only [iAdd];omega
  obtain ⟨_,p2,p3⟩:=px (u:=O 0 1) (w:=Int.add (O 0 1) (O 0 2)) (lo:=0) (A:=100000000) hsc b1 b4 (by omega) (by omega)
  obtain ⟨_,_,p4⟩:=px (u:=O 0 1) (w:=O 0 1) (lo:=0) (A:=100000000) hsc b1 (by omega) (by omega) (by omega)
  refine ftz_ok hm8 hY hsc hown hO hL hk8 (k - 1) 1 _ _ _ _ _ rfl (by omega) (by omega) (by omega) b1 ⟨b3,by omega⟩ (fun h=>hown 0 h) ?_
  have e1:200000000 * ((1:Nat):Int)=200000000:=by omega
  rw [e1]
  have b5:∀ a c,-200000000≤(fun (_:Nat) kk=>List.getD [O 0 1,Int.mul (Int.fdiv (Int.add (Int.fdiv (Int.add (Int.add (Int.mul (O 0 1) sc) (0)) (32768)) (65536)) (8)) (16)) (16)] kk 0) a c∧(fun (_:Nat) kk=>List.getD [O 0 1,Int.mul (Int.fdiv (Int.add (Int.fdiv (Int.add (Int.add (Int.mul (O 0 1) sc) (0)) (32768)) (65536)) (8)) (16)) (16)] kk 0) a c≤200000000:=by
    intro a c
    match c with
    | 0=>show -200000000≤O 0 1∧O 0 1≤200000000;omega
    | 1=>show -200000000≤Int.mul _ _∧Int.mul _ _≤200000000;omega
    | c+2=>show -200000000≤(0:Int)∧(0:Int)≤200000000;omega
  refine updR_bd2 (by omega) b5 _ ?_ ?_
  · omega
  generalize Int.mul (Int.fdiv (Int.add (Int.fdiv (Int.add (Int.add (Int.mul (O 0 1) sc) (0)) (32768)) (65536)) (8)) (16)) (16)=L at *
  generalize Int.fdiv (Int.add (Int.add (Int.mul (Int.add (O 0 1) (O 0 2)) sc) (0)) (32768)) (65536)=B at *
  generalize Int.fdiv (Int.add (Int.add (Int.mul (O 0 1) sc) (0)) (32768)) (65536)=A at *
  simp only [iAdd,iSub,iMul,iite_if,fdiv16,fdiv64k,ilt_iff] at *
  omega
theorem fts_ok (hk1:1≤k) (d:Nat) :
    ∀ (j:Nat),k - j=d→j+1≤k→EndsX En 1 (ftsX m V Y ex sty sc j k W O) (QF m V vert sc):=by
  induction d using Nat.strongRecOn with
  | ind d IH =>
    intro j hd hj
    have ih:∀ i,j < i→i+1≤k→EndsX En 1 (ftsX m V Y ex sty sc i k W O) (QF m V vert sc):=fun i h1 h2=>IH (k - i) (by omega) i rfl h2
    clear IH
    have hown:(∀ j,j+1 < k→O j 1+O j 2 < O (j+1) 1)∧(∀ j,j+1 < k→O j 1+O j 2 < O (j+1) 1):=⟨hown,hown⟩
    rcases ce_ (Nat.succ (Nat.succ j)) k with ⟨b1,b1p⟩|⟨b1,b1p⟩
    · refine arF 9 1 [(7,14,false),(40,10,true)] 110 ((band (Bool.not (ft2 j k)) (band (Nat.ble 1 k) (band (band (Nat.ble 1 k) true) (band (band (band (Nat.ble 1 k) true) true) (band (band (band (band (band (band (r64 (Int.mul (O 0 1) sc)) (band (r64 (Int.add (Int.mul (O 0 1) sc) (0))) (band (r64 (Int.add (Int.add (Int.mul (O 0 1) sc) (0)) (32768))) true))) (band (band (ieq sc sc) true) true)) true) (band (r64 (ft1 O)) (band (band (band (band (r64 (Int.mul (ft1 O) sc)) (band (r64 (Int.add (Int.mul (ft1 O) sc) (0))) (band (r64 (Int.add (Int.add (Int.mul (ft1 O) sc) (0)) (32768))) true))) (band (band (ieq sc sc) true) true)) true) true))) (band (band (ieq (O 0 2) (O 0 2)) (band (ieq (O 0 2) (O 0 2)) true)) (band (ft5 O) (band (band (ieq (O 0 1) (O 0 1)) true) true)))) (band (r64 (Int.add (ft6 O sc) (8))) (band (r64 (Int.mul (Int.fdiv (Int.add (ft6 O sc) (8)) (16)) (16))) (band (band (band (r64 (ft1 O)) (band (r64 (ft9 O sc)) (band (band (r64 (Int.add (ft9 O sc) (8))) (band (r64 (Int.mul (Int.fdiv (Int.add (ft9 O sc) (8)) (16)) (16))) true)) (band (r64 (Int.add (Int.mul (Int.fdiv (Int.add (ft6 O sc) (8)) (16)) (16)) (iite (ilt (16) (Int.mul (Int.fdiv (Int.add (ft9 O sc) (8)) (16)) (16))) (Int.mul (Int.fdiv (Int.add (ft9 O sc) (8)) (16)) (16)) (16)))) true)))) (band (band (ieq (O 0 2) (O 0 2)) (band (ieq (O 0 2) (O 0 2)) true)) (band (ft5 O) (band (ft5 O) true)))) true))))))))) (ftzX m V Y ex sty sc 1 k W O (W 0) (O 0 1) (O 0 2) 1 (updR (fun _ kk=>List.getD [(O 0 1),(Int.mul (Int.fdiv (Int.add (Int.fdiv (Int.add (Int.add (Int.mul (O 0 1) sc) (0)) (32768)) (65536)) (8)) (16)) (16))] kk 0) 1 [(Int.add (O 0 1) (O 0 2)),(Int.add (Int.mul (Int.fdiv (Int.add (Int.fdiv (Int.add (Int.add (Int.mul (O 0 1) sc) (0)) (32768)) (65536)) (8)) (16)) (16)) (iite (ilt (16) (Int.mul (Int.fdiv (Int.add (Int.sub (Int.fdiv (Int.add (Int.add (Int.mul (Int.add (O 0 1) (O 0 2)) sc) (0)) (32768)) (65536)) (Int.fdiv (Int.add (Int.add (Int.mul (O 0 1) sc) (0)) (32768)) (65536))) (8)) (16)) (16))) (Int.mul (Int.fdiv (Int.add (Int.sub (Int.fdiv (Int.add (Int.add (Int.mul (Int.add (O 0 1) (O 0 2)) sc) (0)) (32768)) (65536)) (Int.fdiv (Int.add (Int.add (Int.mul (O 0 1) sc) (0)) (32768)) (65536))) (8)) (16)) (16)) (16)))])) [.h,J7,J8,J1,J3,J4,J6,J2,J5,J13] [0,3,7,8,9] [[8,9,10]] ⟨oeFold (by kernel_rfl) rfl (by kernel_rfl),trivial⟩ (by have:=hh7 (hO 0);have:=hO (Int.toNat (Int.sub (.ofNat (Nat.succ j)) (1))) 1;have:=hO (Nat.succ j) 1;have:=mulb (u:=(O 0 1)) 32000 hsc (by have:=hO 0 1;(try simp only [iAdd,iSub] at *);omega);have:=mulb (u:=(Int.add (O 0 1) (O 0 2))) 64000 hsc (by have:=hO 0 1;have:=hO 0 2;(try simp only [iAdd,iSub] at *);omega);(try simp only [b1,gS,ft1,ft2,ft5,ft6,ft9]);(try simp only [gT] at *);try omega) ?_
      exact ftz0_ok hm8 hY hsc hown.1 hO hL hk8 hk1
    have e0:Int.toNat (Int.sub (Int.ofNat (Nat.succ j)) (1))=j:=by simp only [iSub,ofN];omega
    have o1:=hown.2 j (by omega)
    have o2:=hL j (by omega)
    have hs1:ilt (O (Int.toNat (Int.sub (Int.ofNat (Nat.succ j)) (1))) 1) (O (Nat.succ j) 1)=true:=by rw [e0];exact (ilt_iff _ _).2 (by show O j 1 < O (j+1) 1;omega)
    have hs2:ilt (O (Nat.succ j) 1) (O (Int.toNat (Int.sub (Int.ofNat (Nat.succ j)) (1))) 1)=false:=by rw [e0];exact off (ilt_iff _ _) (by show ¬ O (j+1) 1 < O j 1;omega)
    refine ar 1 [(7,14,true),(14,34,false)] 9 ((band (ft2 j k) (band (band (band (band (band (ft2 j k) true) (band (band (band (ft2 j k) true) true) (band (r64 (Int.sub (.ofNat (Nat.succ j)) (1))) (band (band (band (ile (0) (Int.sub (.ofNat (Nat.succ j)) (1))) (Nat.ble (Nat.succ (ft4 j)) k)) true) (band (band (band (Nat.ble (Nat.succ (ft4 j)) k) true) true) (band (band (band (band (bite (Bool.not (ieq (ft10 O j) (0))) true (bite (Bool.not (ieq (ft11 O j) (0))) true true)) true) (band (band (ieq (O (ft4 j) 2) (O (ft4 j) 2)) (band (ieq (O (ft4 j) 2) (O (ft4 j) 2)) true)) (band (band (ieq (O (Nat.succ j) 2) (O (Nat.succ j) 2)) (band (ieq (O (Nat.succ j) 2) (O (Nat.succ j) 2)) true)) (band (band (ieq (O (ft4 j) 1) (O (ft4 j) 1)) true) (band (band (ieq (O (Nat.succ j) 1) (O (Nat.succ j) 1)) true) true))))) true) true)))))) (band (band (band (band (band (Nat.ble (Nat.succ (ft4 j)) k) true) true) (band (beqB (W (ft4 j)) (W (ft4 j))) (band (ieq (O (ft4 j) 1) (O (ft4 j) 1)) (band (ieq (O (ft4 j) 2) (O (ft4 j) 2)) true)))) true) (band (band (band (band (band (ft2 j k) true) true) (band (beqB (W (Nat.succ j)) (W (Nat.succ j))) (band (ieq (O (Nat.succ j) 1) (O (Nat.succ j) 1)) (band (ieq (O (Nat.succ j) 2) (O (Nat.succ j) 2)) true)))) true) true))) true) (band (Bool.not (ilt (iite (Bool.not (ieq (ft10 O j) (0))) (ft10 O j) (iite (Bool.not (ieq (ft11 O j) (0))) (ft11 O j) (0))) (0))) (band (band (ile (-9223372036854775808) (.ofNat (Nat.add (Nat.succ j) 1))) (Nat.ble (Nat.add (Nat.succ j) 1) 9223372036854775807)) true))))) (ftsX m V Y ex sty sc (Nat.succ j) k W O) [.h,J1,J2,J3,J4,J5] [0,1,2,3,8] [[],[],[5],[8,9,10,14,58,59,60,61]] (by have:=hh7 (hO (Nat.succ j));have:=hO (Int.toNat (Int.sub (.ofNat (Nat.succ j)) (1))) 1;have:=hO (Int.toNat (Int.sub (.ofNat (Nat.succ j)) (1))) 2;(try simp only [hs1,hs2,b1,gS,ft2,ft4,ft10,ft11]);(try simp only [gT] at *);try omega) ?_
    exact ih (j+1) (by omega) (by omega)
end
theorem Own.own {V:Nat→Bool} {Y:Nat→Nat→Int} {vert:Bool} {i k:Nat} {O:Nat→Nat→Int} (h:Own V Y vert i k O):∀ j,j+1 < k→O j 1+O j 2 < O (j+1) 1:=h.2
theorem fta_ok {m:Nat} {V:Nat→Bool} {Y:Nat→Nat→Int} {ex sty vert:Bool} {sc:Int} (hm8:m≤8) (hY:∀ j k,-32000≤Y j k∧Y j k≤32000) (hsc:1≤sc∧sc≤16777216) (hs:Sorted m V Y) (hL:Long1 m Y) (d:Nat):∀ (i k:Nat) (W:Nat→Bool) (O:Nat→Nat→Int),m - i=d→i≤m→Own V Y vert i k O→(∀ j k,-32000≤O j k∧O j k≤32000)→1≤k→k≤i →
    EndsX En 1 (ftaX m V Y ex sty vert sc i k W O) (QF m V vert sc):=by
  induction d using Nat.strongRecOn with
  | ind d IH =>
    intro i k W O hd hi hown hO hk1 hki
    have ih:∀ k' W' O',i < m→Own V Y vert (i+1) k' O'→(∀ j k,-32000≤O' j k∧O' j k≤32000)→1≤k'→k'≤i+1→EndsX En 1 (ftaX m V Y ex sty vert sc (Nat.add i 1) k' W' O') (QF m V vert sc):=fun k' W' O' h1 h2 h3 h4 h5 =>
      IH (m - (i+1)) (by omega) (i+1) k' W' O' rfl (by omega) h2 h3 h4 h5
    clear IH
    rcases ce_ (Nat.succ i) m with ⟨b1,b1p⟩|⟨b1,b1p⟩
    · refine ac 1 [(5,11,false)] 18 ((band (Bool.not (ft0 i m)) true)) (fte2X m V Y ex sty sc k W O) [.h,J4,J1,J2,J3,J5] [[1,7,8],[5],[8,9,10,14,58,59,60,61]] (by (try simp only [b1,gS,ft0]);(try simp only [gT] at *);try omega) ?_
      refine ca (blmX (wr .u64 (.ofNat k))) [] (blm_ok (x:=(wr .u64 (.ofNat k))) (by first|exact wr_small (by omega)|omega)) (fun v' H' q=>?_)
      rcases q with ⟨e_2,rfl,hnx2⟩
      refine ⟨(zi e_2),[],J6,(by kernel_rfl),(by rw [hnx2];kernel_rfl),trivial,(by kernel_rfl),?_⟩
      refine ar 1 [(26,25,true)] 16 (band (band (r64 (Int.sub (.ofNat k) (0))) true) (band (ile (Int.sub (.ofNat k) (0)) (12)) true)) (ftsX m V Y ex sty sc 0 k W O) [.h,J1,J2,J3,J4,J5] [0,1,2,3,8] [[],[],[5],[8,9,10,14,58,59,60,61]] (by (try simp only [b1,gS]);(try simp only [gT] at *);try omega) ?_
      exact fts_ok hm8 hY hsc (Own.own hown) hO (fun j hj=>by obtain ⟨f,h1,_,_,h4⟩:=hown.1 j hj;rw [h4];exact hL f (by omega)) (by omega) hk1 (k - 0) 0 rfl (by omega)
    cases b2:(beqB (V i) vert)
    · have b2p:=of_f (beqB_iff _ _) b2
      refine ar 1 [(5,11,true),(18,17,false)] 8 ((ft12 i m (band (Bool.not (beqB (V i) vert)) (ft8 i)))) (ftaX m V Y ex sty vert sc (Nat.add i 1) k W O) [.h,J1,J2,J3,J4,J5] [1,5,8,9,10] [[8,9,10,14,58,59,60,61]] (by (try simp only [b1,b2,gS,ft0,ft7,ft8,ft12]);(try simp only [gT] at *);try omega) ?_
      exact ih k W O (by omega) (Own.skip hown) hO hk1 (by omega)
    have b2p:=of_t (beqB_iff _ _) b2
    refine arF 4 1 [(5,11,true),(18,17,true)] 14 ((ft12 i m (band (beqB (V i) vert) (band (band (band (Nat.beq k k) (Bool.and (Nat.ble (Nat.mul (Nat.add (Nat.mul 2 (Nat.add k 1)) 768) 24) 1099511627776) (Nat.ble (Nat.add k 1) 1099511627776))) true) (ft8 i))))) (ftaX m V Y ex sty vert sc (Nat.add i 1) (Nat.add k 1) (updV W k (V i)) (updR O k (0::[(Y i 1),(Y i 2)]))) [.h,J1,J2,J3,J8,J5] [1,5,8,9,10] [[8,9,10,14,58,59,60,61]] ⟨oeFoldV (by kernel_rfl) rfl (by kernel_rfl),.inl (by kernel_rfl),trivial⟩ (by (try simp only [b1,b2,gS,ft0,ft7,ft8,ft12]);(try simp only [gT] at *);try omega) ?_
    exact ih (k+1) _ _ (by omega) (Own.push hown hs (by omega) b2p) (updR_bd3 (by decide) hO k (hY i 1) (hY i 2)) (by omega) (by omega)
theorem own1 {V:Nat→Bool} {Y:Nat→Nat→Int} {vert:Bool} {i:Nat} (h:V i=vert):Own V Y vert (i+1) 1 (fun _ kk=>List.getD [0,Y i 1,Y i 2] kk 0):=
  ⟨fun j hj=>⟨i,by omega,h,rfl,rfl⟩,fun j hj=>by omega⟩
theorem ob1 {Y:Nat→Nat→Int} (hY:∀ j k,-32000≤Y j k∧Y j k≤32000) (i:Nat):∀ (j k:Nat),-32000≤(fun (_:Nat) kk=>List.getD [0,Y i 1,Y i 2] kk 0) j k∧(fun (_:Nat) kk=>List.getD [0,Y i 1,Y i 2] kk 0) j k≤32000:=by
  intro j k
  match k with
  | 0=>show -32000≤(0:Int)∧(0:Int)≤32000;omega
  | 1=>exact hY i 1
  | 2=>exact hY i 2
  | k+3=>show -32000≤(0:Int)∧(0:Int)≤32000;omega
section
variable {m:Nat} {V:Nat→Bool} {Y:Nat→Nat→Int} {ex sty vert:Bool} {sc:Int} (hm8:m≤8) (hY:∀ j k,-32000≤Y j k∧Y j k≤32000) (hsc:1≤sc∧sc≤16777216) (hs:Sorted m V Y)
include hm8 hY hsc hs
theorem ftn_ok (hL:Long1 m Y) (d:Nat):∀ (i:Nat),m - i=d→i≤m→(∀ a,a < i→V a≠vert)→EndsX En 1 (ftnX m V Y ex sty vert sc i) (QF m V vert sc):=by
  induction d using Nat.strongRecOn with
  | ind d IH =>
    intro i hd hi hnv
    have ih:i < m→V i≠vert→EndsX En 1 (ftnX m V Y ex sty vert sc (Nat.add i 1)) (QF m V vert sc):=fun h1 h2=>IH (m - (i+1)) (by omega) (i+1) rfl (by omega) (fun a ha=>by
      by_cases e:a=i
      · subst e;exact h2
      exact hnv a (by omega))
    clear IH
    rcases ce_ (Nat.succ i) m with ⟨b1,b1p⟩|⟨b1,b1p⟩
    · refine ac 1 [(5,11,false)] 18 ((band (Bool.not (ft0 i m)) true)) (fte1X m V Y ex sty sc) [.h,J1,J2,J3,J4] [[1,7,8],[5],[8,9,10,14,58,59,60,61]] (by (try simp only [b1,gS,ft0]);(try simp only [gT] at *);try omega) ?_
      refine ca (blmX (0)) [] (blm_ok (x:=(0)) (by first|exact wr_small (by omega)|omega)) (fun v' H' q=>?_)
      rcases q with ⟨e_1,rfl,hnx1⟩
      refine ⟨(zi e_1),[],J5,(by kernel_rfl),(by rw [hnx1];kernel_rfl),trivial,(by kernel_rfl),?_⟩
      refine fi 1 [] 107 true [.h] (.tup [(.agg [(zi sc),(zi (0)),.nils]),(zi (0))]) [] J1 rfl ?_
      exact .inr (.inl ⟨rfl,rfl,fun a ha=>hnv a (by omega)⟩)
    cases b2:(beqB (V i) vert)
    · have b2p:=of_f (beqB_iff _ _) b2
      refine ar 1 [(5,11,true),(18,17,false)] 8 ((ft12 i m (band (Bool.not (beqB (V i) vert)) (ft8 i)))) (ftnX m V Y ex sty vert sc (Nat.add i 1)) [.h,J1,J2,J3,J4] [1,5,8,9,10] [[8,9,10,14,58,59,60,61]] (by (try simp only [b1,b2,gS,ft0,ft7,ft8,ft12]);(try simp only [gT] at *);try omega) ?_
      exact ih (by omega) b2p
    have b2p:=of_t (beqB_iff _ _) b2
    refine ar 1 [(5,11,true),(18,17,true)] 14 ((ft12 i m (band (beqB (V i) vert) (ft8 i)))) (ftaX m V Y ex sty vert sc (Nat.add i 1) 1 (fun _=>(V i)) (fun _ kk=>List.getD [0,(Y i 1),(Y i 2)] kk 0)) [.h,J1,J2,J3,J7,J4] [1,5,8,9,10] [[8,9,10,14,58,59,60,61]] (by (try simp only [b1,b2,gS,ft0,ft7,ft8,ft12]);(try simp only [gT] at *);try omega) ?_
    exact fta_ok hm8 hY hsc hs hL (m - (i+1)) (i+1) 1 _ _ rfl (by omega) (own1 b2p) (ob1 hY i) (by omega) (by omega)
theorem fth_ok (d:Nat):∀ (i:Nat) (ok:Bool),m - i=d→i≤m→(ok=true→∀ j,j < i→1≤Y j 2)→EndsX En 1 (fthX m V Y ex sty vert sc i ok) (QF m V vert sc):=by
  induction d using Nat.strongRecOn with
  | ind d IH =>
    intro i ok hd hi hg
    have ih:∀ (f:Bool),i < m→(f=true→ok=true∧1≤Y i 2)→EndsX En 1 (fthX m V Y ex sty vert sc (Nat.add i 1) f) (QF m V vert sc):=fun f h1 h2 =>
      IH (m - (i+1)) (by omega) (i+1) f rfl (by omega) (fun e j hj=>by
        obtain ⟨g1,g2⟩:=h2 e
        by_cases e2:j=i
        · subst e2;exact g2
        exact hg g1 j (by omega))
    clear IH
    rcases ce_ (Nat.succ i) m with ⟨b1,b1p⟩|⟨b1,b1p⟩
    · rcases btf ok with b2|b2
      · have b2p:=b2
        refine fi 1 [(5,29,false),(8,53,true)] 9 ((band (Bool.not (ft0 i m)) (band (Bool.not ok) true))) [.h] (.tup [(.agg [(zi (0)),(zi (0)),.nils]),(zi (2))]) [] J1 (by (try simp only [b1,b2,gS,ft0]);(try simp only [gT] at *);try omega) ?_
        exact .inl ⟨rfl,rfl⟩
      have b2p:=b2
      refine ar 1 [(5,29,false),(8,53,false)] 25 ((band (Bool.not (ft0 i m)) (band (Bool.not (Bool.not ok)) true))) (ftnX m V Y ex sty vert sc 0) [.h,J4,J1,J2,J3] [1,5,8,9,10] [[8,9,10,14,58,59,60,61]] (by (try simp only [b1,b2,gS,ft0]);(try simp only [gT] at *);try omega) ?_
      exact ftn_ok hm8 hY hsc hs (fun a ha=>hg b2 a (by omega)) (m - 0) 0 rfl (by omega) (fun a ha=>by omega)
    rcases btf ok with b3|b3
    · have b3p:=b3
      refine ar 1 [(5,29,true),(14,33,false)] 25 ((ft12 i m (band (Bool.not ok) (ft8 i)))) (fthX m V Y ex sty vert sc (Nat.add i 1) false) [.h,J1,J2,J3] [0,1,8,9,10,11,14,26,27,28,58,59,60,61] [] (by (try simp only [b1,b3,gS,ft0,ft7,ft8,ft12]);(try simp only [gT] at *);try omega) ?_
      exact ih false (by omega) (fun e=>absurd e (by decide))
    have b3p:=b3
    rcases cl (1) (Y i 2) with ⟨b4,b4p⟩|⟨b4,b4p⟩
    · refine ar 1 [(5,29,true),(14,33,true),(13,10,false)] 30 ((ft12 i m (band ok (band (Bool.not (ile (1) (Y i 2))) (ft8 i))))) (fthX m V Y ex sty vert sc (Nat.add i 1) false) [.h,J1,J2,J3] [0,1,8,9,10,11,14,26,27,28,58,59,60,61] [] (by have:=hY i 2;(try simp only [b1,b3,b4,gS,ft0,ft7,ft8,ft12]);(try simp only [gT] at *);try omega) ?_
      exact ih false (by omega) (fun e=>absurd e (by decide))
    refine ar 1 [(5,29,true),(14,33,true),(13,10,true),(10,38,true),(21,10,true),(14,43,true),(24,10,true)] 21 ((ft12 i m (band ok (band (ile (1) (Y i 2)) (band (ile (Y i 2) (64000)) (band (ile (-32000) (Y i 1)) (band (ile (Y i 1) (32000)) (band (band (r64 (Int.add (Y i 1) (Y i 2))) true) (band (ile (-32000) (Int.add (Y i 1) (Y i 2))) (ft8 i)))))))))) (fthX m V Y ex sty vert sc (Nat.add i 1) (ile (Int.add (Y i 1) (Y i 2)) (32000))) [.h,J1,J2,J3] [0,1,8,9,10,11,14,26,27,28,58,59,60,61] [] (by have:=hh7 (hY i);(try simp only [b1,b3,b4,gS,ft0,ft7,ft8,ft12]);(try simp only [gT] at *);try omega) ?_
    exact ih _ (by omega) (fun _=>⟨b3,b4p⟩)
theorem ftm_ok:EndsX En 1 (ftmX m V Y ex sty vert sc) (QF m V vert sc):=by
  refine ar 1 [(12,17,false),(38,10,true),(9,9,true)] 40 (band (Bool.not (Nat.ble 41 m)) (band (ile (1) sc) (band (ile sc (16777216)) true))) (fthX m V Y ex sty vert sc 0 true) [.h,J1,J3,J2] [0,1,8,9,10,11,14,26,27,28,58,59,60,61] [] (by (try simp only [gS]);(try simp only [gT] at *);try omega) ?_
  exact fth_ok hm8 hY hsc hs (m - 0) 0 true rfl (by omega) (fun _ j hj=>by omega)
end
section
variable (n:Nat) (Y:Nat→Nat→Int) (ex sty:Bool) (sd wd:Int) (m:Nat) (V:Nat→Bool) (S:Nat→Nat→Int) (sex ssty:Bool) (i:Nat) (fine:Bool) (Z:Nat→Nat→Int) (e_1:Int) (q_3:Nat) (K_3:Nat→Nat→Int) (q_2:Nat) (K_2:Nat→Nat→Int) (q_4:Nat) (K_4:Nat→Nat→Int)
noncomputable def gsmX:St:=⟨getF (enterA En 17 [(.agg [(zi sd),(zi wd),(.sa .h 0 n 7),(.sa J1 0 m 3)])] false),[],(zs [(o7 n Y ex sty),(o3 m V S sex ssty)]),J2,2⟩
noncomputable def gshX:St:=⟨(fr 17 94 (ts [1,3,4,22,23,24] [.ptr J2 0,.sa J3 0 n 7,.bool fine,.sa .h 0 n 7,zn n,zn i]) [cA En 17 (pb 244),lA En 17 (pb 244),.blk 0,cA En 17 (pb 31)]),[],(zs [(o7 n Y ex sty),(o3 m V S sex ssty),(ce 36 [(zi sd),(zi wd),(.sa .h 0 n 7),(.sa J1 0 m 3)]),(o7 n Z true false)]),J4,2⟩
noncomputable def gse1X:St:=⟨cf (pcmX n Z true false) J4 [J2],[(fr 17 94 (ts [1,75] [.ptr J3 0,.bool false]) [rA En 17 (pb 124) 4,cA En 17 (pb 125),cA En 17 (pb 63)])],(zs [(o7 n Y ex sty),(o3 m V S sex ssty),(o7 n Z true false),(ce 36 [(zi sd),(zi wd),(.sa .h 0 n 7),(.sa J1 0 m 3)])]),J4,2⟩
noncomputable def gse2X:St:=⟨cf (ftmX m V S sex ssty true (1)) J3 [J1],[(fr 17 94 (ts [1,80,81] [.ptr J2 0,.agg [(.bool true),(.bool false)],zi (0)]) [rA En 17 (pb 64818) 3,cA En 17 (pb 64819),.blk 5,cA En 17 (pb 8103),lA En 17 (pb 1012),.blk 4,cA En 17 (pb 127)])],(zs [(o7 n Y ex sty),(o3 m V S sex ssty),(ce 36 [(zi sd),(zi wd),(.sa .h 0 n 7),(.sa J1 0 m 3)])]),J3,2⟩
noncomputable def gse3X:St:=⟨cf (ftmX m V S sex ssty false (1)) J3 [J1],[(fr 17 94 (ts [1,80,81] [.ptr J2 0,.agg [(.bool true),(.bool false)],zi (1)]) [rA En 17 (pb 64818) 3,cA En 17 (pb 64819),.blk 5,cA En 17 (pb 8103),lA En 17 (pb 1012),.blk 4,cA En 17 (pb 127)])],(zs [(o7 n Y ex sty),(o3 m V S sex ssty),(ce 36 [(zi sd),(zi wd),(.sa .h 0 n 7),(.sa J1 0 m 3)])]),J3,2⟩
noncomputable def gse4X:St:=⟨cf (ftmX m V S sex ssty false (1)) J3 [J1],[(fr 17 94 (ts [1,80,81] [.ptr J2 0,.agg [(.bool true),(.bool false)],zi (1)]) [rA En 17 (pb 64818) 3,cA En 17 (pb 64819),.blk 5,cA En 17 (pb 8103),lA En 17 (pb 1012),.blk 4,cA En 17 (pb 127)])],(zs [(o7 n Y ex sty),(o3 m V S sex ssty),(ce 36 [(zi sd),(zi wd),(.sa .h 0 n 7),(.sa J1 0 m 3)])]),J3,2⟩
end
noncomputable abbrev gs0 (Y:Nat→Nat→Int) (i:Nat):Bool:=(ieq (Y i 0) (4))
noncomputable abbrev gs1 (Y:Nat→Nat→Int) (i:Nat):Bool:=(ile (Y i 1) (32000))
noncomputable abbrev gs2 (Y:Nat→Nat→Int) (i:Nat):Bool:=(ile (Y i 2) (32000))
noncomputable abbrev gs3 (Y:Nat→Nat→Int) (i:Nat):Bool:=(ile (Y i 3) (32000))
noncomputable abbrev gs4 (Y:Nat→Nat→Int) (i:Nat):Bool:=(ile (Y i 4) (32000))
noncomputable abbrev gs5 (Y:Nat→Nat→Int) (i:Nat):Bool:=(ile (-32000) (Y i 1))
noncomputable abbrev gs6 (Y:Nat→Nat→Int) (i:Nat):Bool:=(ile (-32000) (Y i 2))
noncomputable abbrev gs7 (Y:Nat→Nat→Int) (i:Nat):Bool:=(ile (-32000) (Y i 3))
noncomputable abbrev gs8 (Y:Nat→Nat→Int) (i:Nat):Bool:=(ile (-32000) (Y i 4))
noncomputable abbrev gs9 (i n:Nat):Bool:=(Nat.ble (Nat.succ i) n)
noncomputable abbrev gs10 (Y:Nat→Nat→Int) (i:Nat):Bool:=(Bool.not (gs0 Y i))
noncomputable abbrev gs11 (Y:Nat→Nat→Int) (i:Nat):Bool:=(Bool.not (ieq (Y i 0) (3)))
noncomputable abbrev gs12 (Y:Nat→Nat→Int) (i:Nat):Bool:=(Bool.and (ieq (Y i 3) (0)) (Bool.and (ieq (Y i 4) (0)) true))
noncomputable abbrev gs13 (Y:Nat→Nat→Int) (i:Nat):Bool:=(Bool.and (ieq (Y i 1) (0)) (Bool.and (ieq (Y i 2) (0)) true))
noncomputable abbrev gs14 (i n:Nat):Bool:=(band (band (gs9 i n) true) (band (band (band (gs9 i n) true) true) true))
noncomputable abbrev gs15 (Y:Nat→Nat→Int) (i:Nat):Bool:=(band (band (r64 (Y i 1)) (band (r64 (Y i 2)) true)) (band (band (ieq (Y i 2) (Y i 2)) (band (ieq (Y i 2) (Y i 2)) true)) (band (band (ieq (Y i 1) (Y i 1)) true) true)))
noncomputable abbrev gs16 (Y:Nat→Nat→Int) (i:Nat):Bool:=(band (band (r64 (Y i 3)) (band (r64 (Y i 4)) true)) (band (band (ieq (Y i 4) (Y i 4)) (band (ieq (Y i 4) (Y i 4)) true)) (band (band (ieq (Y i 3) (Y i 3)) true) true)))
noncomputable abbrev gs17 (Y:Nat→Nat→Int) (i:Nat):Bool:=(band (gs15 Y i) true)
noncomputable abbrev gs18 (Y:Nat→Nat→Int) (i:Nat):Bool:=(band (gs16 Y i) true)
noncomputable abbrev gs19 (Y:Nat→Nat→Int) (i n:Nat):Bool:=(band (band (band (r64 (Y i 5)) (band (r64 (Y i 6)) true)) (band (band (ieq (Y i 6) (Y i 6)) (band (ieq (Y i 6) (Y i 6)) true)) (band (band (ieq (Y i 5) (Y i 5)) true) true))) (band (band (gs9 i n) true) (band (band (band (gs9 i n) true) true) (band (band (ile (-9223372036854775808) (.ofNat (Nat.add i 1))) (Nat.ble (Nat.add i 1) 9223372036854775807)) true))))
noncomputable abbrev gs20 (Y:Nat→Nat→Int) (i n:Nat):Bool:=(band (ile (-32000) (Y i 5)) (band (Bool.not (ile (Y i 5) (32000))) (gs19 Y i n)))
noncomputable abbrev gs21 (Y:Nat→Nat→Int) (i n:Nat):Bool:=(band (ile (-32000) (Y i 5)) (band (ile (Y i 5) (32000)) (band (Bool.not (ile (-32000) (Y i 6))) (gs19 Y i n))))
noncomputable abbrev gs22 (Y:Nat→Nat→Int) (i n:Nat):Bool:=(band (ile (-32000) (Y i 5)) (band (ile (Y i 5) (32000)) (band (ile (-32000) (Y i 6)) (band (Bool.not (ile (Y i 6) (32000))) (gs19 Y i n)))))
noncomputable abbrev gs23 (Y:Nat→Nat→Int) (i n:Nat):Bool:=(band (gs16 Y i) (gs19 Y i n))
noncomputable abbrev gs24 (Y:Nat→Nat→Int) (i n:Nat):Bool:=(band (gs7 Y i) (band (gs3 Y i) (band (Bool.not (gs8 Y i)) (gs23 Y i n))))
noncomputable abbrev gs25 (Y:Nat→Nat→Int) (i n:Nat):Bool:=(band (gs7 Y i) (band (gs3 Y i) (band (gs8 Y i) (band (Bool.not (gs4 Y i)) (gs23 Y i n)))))
noncomputable abbrev gs26 (i n:Nat) (fine:Bool) (Y:Nat→Nat→Int):Bool:=(band (gs9 i n) (band (gs14 i n) (band fine (band (gs5 Y i) (band (gs1 Y i) (band (gs6 Y i) (band (gs2 Y i) (band (gs0 Y i) (band (gs17 Y i) (band (Bool.not (gs13 Y i)) (gs23 Y i n)))))))))))
noncomputable abbrev gs27 (i n:Nat) (fine:Bool) (Y:Nat→Nat→Int):Bool:=(band (gs9 i n) (band (gs14 i n) (band fine (band (gs5 Y i) (band (gs1 Y i) (band (gs6 Y i) (band (gs2 Y i) (band (gs0 Y i) (band (gs17 Y i) (band (gs13 Y i) (band (gs7 Y i) (band (gs3 Y i) (band (gs8 Y i) (band (gs4 Y i) (band (gs0 Y i) (band (gs18 Y i) (band (Bool.not (gs12 Y i)) (gs19 Y i n))))))))))))))))))
noncomputable abbrev gs28 (i n:Nat) (fine:Bool) (Y:Nat→Nat→Int):Bool:=(band (gs9 i n) (band (gs14 i n) (band fine (band (gs5 Y i) (band (gs1 Y i) (band (gs6 Y i) (band (gs2 Y i) (band (gs10 Y i) (band (gs11 Y i) (band (gs17 Y i) (band (gs7 Y i) (band (gs3 Y i) (band (gs8 Y i) (band (gs4 Y i) (band (gs10 Y i) (band (gs11 Y i) (band (gs18 Y i) (band (Bool.not (gs12 Y i)) (gs19 Y i n)))))))))))))))))))
noncomputable abbrev gs29 (i n:Nat) (zz:Bool):Bool:=(band (gs9 i n) (band (gs14 i n) zz))
noncomputable abbrev gs30 (Y:Nat→Nat→Int) (i:Nat) (zz:Bool):Bool:=(band (gs5 Y i) zz)
noncomputable abbrev gs31 (Y:Nat→Nat→Int) (i:Nat) (zz:Bool):Bool:=(band (gs1 Y i) zz)
noncomputable abbrev gs32 (Y:Nat→Nat→Int) (i:Nat) (zz:Bool):Bool:=(band (gs6 Y i) zz)
noncomputable abbrev gs33 (Y:Nat→Nat→Int) (i:Nat) (zz:Bool):Bool:=(band (gs2 Y i) zz)
noncomputable abbrev gs34 (Y:Nat→Nat→Int) (i:Nat) (zz:Bool):Bool:=(band (gs10 Y i) zz)
noncomputable abbrev gs35 (Y:Nat→Nat→Int) (i:Nat) (zz:Bool):Bool:=(band (gs11 Y i) (band (gs17 Y i) zz))
noncomputable abbrev gs36 (Y:Nat→Nat→Int) (i:Nat) (zz:Bool):Bool:=(band (gs3 Y i) (band (gs8 Y i) (band (gs4 Y i) (band (gs10 Y i) (band (gs11 Y i) (band (gs18 Y i) (band (gs12 Y i) zz)))))))
noncomputable abbrev gs37 (Y:Nat→Nat→Int) (i:Nat) (zz:Bool):Bool:=(band (ieq (Y i 0) (3)) (band (gs17 Y i) zz))
noncomputable abbrev gs38 (Y:Nat→Nat→Int) (i:Nat) (zz:Bool):Bool:=(band (gs3 Y i) (band (gs8 Y i) (band (gs4 Y i) (band (gs10 Y i) (band (ieq (Y i 0) (3)) (band (gs18 Y i) zz))))))
noncomputable abbrev gs39 (Y:Nat→Nat→Int) (i:Nat) (zz:Bool):Bool:=(band (gs0 Y i) (band (gs17 Y i) (band (gs13 Y i) zz)))
noncomputable abbrev gs40 (Y:Nat→Nat→Int) (i:Nat) (zz:Bool):Bool:=(band (gs3 Y i) (band (gs8 Y i) (band (gs4 Y i) (band (gs0 Y i) (band (gs18 Y i) (band (gs12 Y i) zz))))))
def QGs (n:Nat) (Y:Nat→Nat→Int):AV→Hp→Prop:=fun v H=>∃ e:Int,v=.int .i64 e∧H.nx=J2∧(e=0→StepsOK n Y)
set_option maxHeartbeats 8000000 in
section
variable {n:Nat} {Y:Nat→Nat→Int} {ex sty:Bool} {sd wd:Int} {m:Nat} {V:Nat→Bool} {S:Nat→Nat→Int} {sex ssty:Bool} (hY:∀ j k,-1000000000≤Y j k∧Y j k≤1000000000) (hn:n≤1000) (hm8:m≤8) (hS:∀ j k,-32000≤S j k∧S j k≤32000) (hsort:Sorted m V S)
include hY hn hm8 hS hsort
theorem gsh_ok (d:Nat):∀ (i:Nat) (fine:Bool) (Z:Nat→Nat→Int),n - i=d→i≤n →
    (∀ j k,-1000000000≤Z j k∧Z j k≤1000000000)→(∀ j,j < i→Z j 0=Y j 0)→(fine=true→∀ j,j < i→GStep (Y j))→EndsX En 2 (gshX n Y ex sty sd wd m V S sex ssty i fine Z) (QGs n Y):=by
  induction d using Nat.strongRecOn with
  | ind d IH =>
    intro i fine Z hd hi hZ hzk hgood
    have ih:∀ (f:Bool),i < n→(f=true→fine=true∧GStep (Y i))→EndsX En 2 (gshX n Y ex sty sd wd m V S sex ssty (Nat.add i 1) f (updR Z i (rowH (Y i)))) (QGs n Y):=fun f h1 h2 =>
      IH (n - (i+1)) (by omega) (i+1) f _ rfl (by omega) (updR_bd (by decide) hZ i (rowH_bd (hY i)))
        (fun j hj=>by
          by_cases e:j=i
          · subst e;rw [updR_at];rfl
          rw [updR_ne _ _ _ e];exact hzk j (by omega))
        (fun e j hj=>by
          obtain ⟨g1,g2⟩:=h2 e
          by_cases e2:j=i
          · subst e2;exact g2
          exact hgood g1 j (by omega))
    clear IH
    rcases ce_ (Nat.succ i) n with ⟨b1,b1p⟩|⟨b1,b1p⟩
    · rcases btf fine with b2|b2
      · have b2p:=b2
        refine fi 2 [(5,25,false),(8,75,true)] 12 ((band (Bool.not (gs9 i n)) (band (Bool.not fine) true))) [.h,J1] (zi (460)) [] J2 (by (try simp only [b1,b2,gS,gs9]);(try simp only [gT] at *);try omega) ?_
        exact ⟨460,rfl,rfl,fun h=>absurd h (by decide)⟩
      have b2p:=b2
      refine ac 2 [(5,25,false),(8,75,false)] 2 ((band (Bool.not (gs9 i n)) (band (Bool.not (Bool.not fine)) true))) (gse1X n Y ex sty sd wd m V S sex ssty Z) [.h,J1,J3,J2] [[1,75]] (by (try simp only [b1,b2,gS,gs9]);(try simp only [gT] at *);try omega) ?_
      refine ca (pcmX n Z true false) [J2] (pcm_ok (n:=n) (Y:=Z) (ex:=true) (sty:=false) hZ hn) (fun v' H' q=>?_)
      rcases q with ⟨e_1,rfl,hnx1,hq_1⟩
      refine ⟨(zi e_1),[],J4,(by kernel_rfl),(by rw [hnx1];kernel_rfl),trivial,(by kernel_rfl),?_⟩
      rcases ci e_1 (0) with ⟨b3,b3p⟩|⟨b3,b3p⟩
      · refine fi 2 [(3,79,true)] 7 (band (Bool.not (ieq e_1 (0))) true) [.h,J1] (zi (460)) [] J2 (by (try simp only [b1,b2,b3,gS]);(try simp only [gT] at *);try omega) ?_
        exact ⟨460,rfl,rfl,fun h=>absurd h (by decide)⟩
      refine ac 2 [(3,79,false)] 30 (band (Bool.not (Bool.not (ieq e_1 (0)))) true) (gse2X n Y ex sty sd wd m V S sex ssty) [.h,J1,J3] [[1,80,81]] (by (try simp only [b1,b2,b3,gS]);(try simp only [gT] at *);try omega) ?_
      refine ca (ftmX m V S sex ssty true (1)) [J1] (ftm_ok (m:=m) (V:=V) (Y:=S) (ex:=sex) (sty:=ssty) (vert:=true) (sc:=(1)) hm8 hS (by decide) hsort) (fun v' H' q=>?_)
      rcases q with ⟨rfl,hnx2⟩|⟨rfl,hnx2,hnv_2⟩|⟨q_2,K_2,rfl,hnx2,ho0_2,hq_2,hK_2⟩
      · skip
        refine ⟨(.tup [(.agg [(zi (0)),(zi (0)),.nils]),(zi (2))]),[],J3,(by kernel_rfl),(by rw [hnx2];kernel_rfl),trivial,(by kernel_rfl),?_⟩
        refine fi 2 [] 19 true [.h,J1] (zi (460)) [] J2 rfl ?_
        exact ⟨460,rfl,rfl,fun h=>absurd h (by decide)⟩
      · skip
        refine ⟨(.tup [(.agg [(zi (1)),(zi (0)),.nils]),(zi (0))]),[],J3,(by kernel_rfl),(by rw [hnx2];kernel_rfl),trivial,(by kernel_rfl),?_⟩
        refine ac 2 [] 40 true (gse3X n Y ex sty sd wd m V S sex ssty) [.h,J1,J2] [[1,80,81]] rfl ?_
        refine ca (ftmX m V S sex ssty false (1)) [J1] (ftm_ok (m:=m) (V:=V) (Y:=S) (ex:=sex) (sty:=ssty) (vert:=false) (sc:=(1)) hm8 hS (by decide) hsort) (fun v' H' q=>?_)
        rcases q with ⟨rfl,hnx3⟩|⟨rfl,hnx3,hnv_3⟩|⟨q_3,K_3,rfl,hnx3,ho0_3,hq_3,hK_3⟩
        · skip
          refine ⟨(.tup [(.agg [(zi (0)),(zi (0)),.nils]),(zi (2))]),[],J3,(by kernel_rfl),(by rw [hnx3];kernel_rfl),trivial,(by kernel_rfl),?_⟩
          refine fi 2 [] 19 true [.h,J1] (zi (460)) [] J2 rfl ?_
          exact ⟨460,rfl,rfl,fun h=>absurd h (by decide)⟩
        · skip
          refine ⟨(.tup [(.agg [(zi (1)),(zi (0)),.nils]),(zi (0))]),[],J3,(by kernel_rfl),(by rw [hnx3];kernel_rfl),trivial,(by kernel_rfl),?_⟩
          refine fi 2 [] 33 true [.h,J1] (zi (0)) [] J2 rfl ?_
          exact ⟨0,rfl,rfl,fun _=>steps_of (fun j hj=>hzk j (by omega)) (fun j hj=>hgood b2 j (by omega)) (hq_1.1 b3p)⟩
        skip
        refine ⟨(.tup [(.agg [(zi (1)),(zi (0)),(.sa J3 0 (Nat.succ q_3) 2)]),(zi (0))]),[(J3,(.arr (Nat.succ q_3) 2 (rowK [.i64,.i64] K_3) none 159 false false))],J4,(by kernel_rfl),(by rw [hnx3];kernel_rfl),⟨⟨J1,_,(Nat.le_of_ble_eq_true (by kernel_rfl)),(by show _=_;kernel_rfl),ho0_3,(by show _=_;kernel_rfl)⟩,trivial⟩,(by kernel_rfl),?_⟩
        refine fi 2 [] 33 true [.h,J1] (zi (0)) [] J2 rfl ?_
        exact ⟨0,rfl,rfl,fun _=>steps_of (fun j hj=>hzk j (by omega)) (fun j hj=>hgood b2 j (by omega)) (hq_1.1 b3p)⟩
      skip
      refine ⟨(.tup [(.agg [(zi (1)),(zi (0)),(.sa J3 0 (Nat.succ q_2) 2)]),(zi (0))]),[(J3,(.arr (Nat.succ q_2) 2 (rowK [.i64,.i64] K_2) none 159 false false))],J4,(by kernel_rfl),(by rw [hnx2];kernel_rfl),⟨⟨J1,_,(Nat.le_of_ble_eq_true (by kernel_rfl)),(by show _=_;kernel_rfl),ho0_2,(by show _=_;kernel_rfl)⟩,trivial⟩,(by kernel_rfl),?_⟩
      refine ac 2 [] 40 true (gse4X n Y ex sty sd wd m V S sex ssty) [.h,J1,J2] [[1,80,81]] rfl ?_
      refine ca (ftmX m V S sex ssty false (1)) [J1] (ftm_ok (m:=m) (V:=V) (Y:=S) (ex:=sex) (sty:=ssty) (vert:=false) (sc:=(1)) hm8 hS (by decide) hsort) (fun v' H' q=>?_)
      rcases q with ⟨rfl,hnx4⟩|⟨rfl,hnx4,hnv_4⟩|⟨q_4,K_4,rfl,hnx4,ho0_4,hq_4,hK_4⟩
      · skip
        refine ⟨(.tup [(.agg [(zi (0)),(zi (0)),.nils]),(zi (2))]),[],J3,(by kernel_rfl),(by rw [hnx4];kernel_rfl),trivial,(by kernel_rfl),?_⟩
        refine fi 2 [] 19 true [.h,J1] (zi (460)) [] J2 rfl ?_
        exact ⟨460,rfl,rfl,fun h=>absurd h (by decide)⟩
      · skip
        refine ⟨(.tup [(.agg [(zi (1)),(zi (0)),.nils]),(zi (0))]),[],J3,(by kernel_rfl),(by rw [hnx4];kernel_rfl),trivial,(by kernel_rfl),?_⟩
        refine fi 2 [] 33 true [.h,J1] (zi (0)) [] J2 rfl ?_
        exact ⟨0,rfl,rfl,fun _=>steps_of (fun j hj=>hzk j (by omega)) (fun j hj=>hgood b2 j (by omega)) (hq_1.1 b3p)⟩
      skip
      refine ⟨(.tup [(.agg [(zi (1)),(zi (0)),(.sa J3 0 (Nat.succ q_4) 2)]),(zi (0))]),[(J3,(.arr (Nat.succ q_4) 2 (rowK [.i64,.i64] K_4) none 159 false false))],J4,(by kernel_rfl),(by rw [hnx4];kernel_rfl),⟨⟨J1,_,(Nat.le_of_ble_eq_true (by kernel_rfl)),(by show _=_;kernel_rfl),ho0_4,(by show _=_;kernel_rfl)⟩,trivial⟩,(by kernel_rfl),?_⟩
      refine fi 2 [] 33 true [.h,J1] (zi (0)) [] J2 rfl ?_
      exact ⟨0,rfl,rfl,fun _=>steps_of (fun j hj=>hzk j (by omega)) (fun j hj=>hgood b2 j (by omega)) (hq_1.1 b3p)⟩
    rcases btf fine with b4|b4
    · have b4p:=b4
      refine arF 3 2 [(5,25,true),(43,36,false)] 149 ((gs29 i n (band (Bool.not fine) (band (gs15 Y i) (gs23 Y i n))))) (gshX n Y ex sty sd wd m V S sex ssty (Nat.add i 1) false (updR Z i [(Y i 0),(fdv (Y i 1) (2)),(fdv (Y i 2) (2)),(fdv (Y i 3) (2)),(fdv (Y i 4) (2)),(fdv (Y i 5) (2)),(fdv (Y i 6) (2))])) [.h,J1,J2,J3] [1,3,4,22,23,24] [] ⟨oeFold (by kernel_rfl) rfl (by kernel_rfl),trivial⟩ (by have:=hh7 (hY i);(try simp only [b1,b4,gS,gs9,gs14,gs15,gs16,gs19,gs23,gs29]);(try simp only [gT] at *);try omega) ?_
      exact ih false (by omega) (fun e=>absurd e (by decide))
    have b4p:=b4
    rcases cl (-32000) (Y i 1) with ⟨b5,b5p⟩|⟨b5,b5p⟩
    · refine arF 3 2 [(5,25,true),(43,36,true),(14,9,false)] 154 ((gs29 i n (band fine (band (Bool.not (gs5 Y i)) (band (gs15 Y i) (gs23 Y i n)))))) (gshX n Y ex sty sd wd m V S sex ssty (Nat.add i 1) false (updR Z i [(Y i 0),(fdv (Y i 1) (2)),(fdv (Y i 2) (2)),(fdv (Y i 3) (2)),(fdv (Y i 4) (2)),(fdv (Y i 5) (2)),(fdv (Y i 6) (2))])) [.h,J1,J2,J3] [1,3,4,22,23,24] [] ⟨oeFold (by kernel_rfl) rfl (by kernel_rfl),trivial⟩ (by have:=hh7 (hY i);(try simp only [b1,b4,b5,gS,gs5,gs9,gs14,gs15,gs16,gs19,gs23,gs29]);(try simp only [gT] at *);try omega) ?_
      exact ih false (by omega) (fun e=>absurd e (by decide))
    rcases cl (Y i 1) (32000) with ⟨b6,b6p⟩|⟨b6,b6p⟩
    · refine arF 3 2 [(5,25,true),(43,36,true),(14,9,true),(10,41,false)] 144 ((gs29 i n (band fine (gs30 Y i (band (Bool.not (gs1 Y i)) (band (gs15 Y i) (gs23 Y i n))))))) (gshX n Y ex sty sd wd m V S sex ssty (Nat.add i 1) false (updR Z i [(Y i 0),(fdv (Y i 1) (2)),(fdv (Y i 2) (2)),(fdv (Y i 3) (2)),(fdv (Y i 4) (2)),(fdv (Y i 5) (2)),(fdv (Y i 6) (2))])) [.h,J1,J2,J3] [1,3,4,22,23,24] [] ⟨oeFold (by kernel_rfl) rfl (by kernel_rfl),trivial⟩ (by have:=hh7 (hY i);(try simp only [b1,b4,b5,b6,gS,gs1,gs5,gs9,gs14,gs15,gs16,gs19,gs23,gs29,gs30]);(try simp only [gT] at *);try omega) ?_
      exact ih false (by omega) (fun e=>absurd e (by decide))
    rcases cl (-32000) (Y i 2) with ⟨b7,b7p⟩|⟨b7,b7p⟩
    · refine arF 3 2 [(5,25,true),(43,36,true),(14,9,true),(10,41,true),(14,9,false)] 149 ((gs29 i n (band fine (gs30 Y i (gs31 Y i (band (Bool.not (gs6 Y i)) (band (gs15 Y i) (gs23 Y i n)))))))) (gshX n Y ex sty sd wd m V S sex ssty (Nat.add i 1) false (updR Z i [(Y i 0),(fdv (Y i 1) (2)),(fdv (Y i 2) (2)),(fdv (Y i 3) (2)),(fdv (Y i 4) (2)),(fdv (Y i 5) (2)),(fdv (Y i 6) (2))])) [.h,J1,J2,J3] [1,3,4,22,23,24] [] ⟨oeFold (by kernel_rfl) rfl (by kernel_rfl),trivial⟩ (by have:=hh7 (hY i);(try simp only [b1,b4,b5,b6,b7,gS,gs1,gs5,gs6,gs9,gs14,gs15,gs16,gs19,gs23,gs29,gs30,gs31]);(try simp only [gT] at *);try omega) ?_
      exact ih false (by omega) (fun e=>absurd e (by decide))
    rcases cl (Y i 2) (32000) with ⟨b8,b8p⟩|⟨b8,b8p⟩
    · refine arF 3 2 [(5,25,true),(43,36,true),(14,9,true),(10,41,true),(14,9,true),(10,46,false)] 139 ((gs29 i n (band fine (gs30 Y i (gs31 Y i (gs32 Y i (band (Bool.not (gs2 Y i)) (band (gs15 Y i) (gs23 Y i n))))))))) (gshX n Y ex sty sd wd m V S sex ssty (Nat.add i 1) false (updR Z i [(Y i 0),(fdv (Y i 1) (2)),(fdv (Y i 2) (2)),(fdv (Y i 3) (2)),(fdv (Y i 4) (2)),(fdv (Y i 5) (2)),(fdv (Y i 6) (2))])) [.h,J1,J2,J3] [1,3,4,22,23,24] [] ⟨oeFold (by kernel_rfl) rfl (by kernel_rfl),trivial⟩ (by have:=hh7 (hY i);(try simp only [b1,b4,b5,b6,b7,b8,gS,gs1,gs2,gs5,gs6,gs9,gs14,gs15,gs16,gs19,gs23,gs29,gs30,gs31,gs32]);(try simp only [gT] at *);try omega) ?_
      exact ih false (by omega) (fun e=>absurd e (by decide))
    rcases ci (Y i 0) (4) with ⟨b9,b9p⟩|⟨b9,b9p⟩
    · rcases ci (Y i 0) (3) with ⟨b10,b10p⟩|⟨b10,b10p⟩
      · rcases cl (-32000) (Y i 3) with ⟨b11,b11p⟩|⟨b11,b11p⟩
        · refine arF 3 2 [(5,25,true),(43,36,true),(14,9,true),(10,41,true),(14,9,true),(10,46,true),(20,5,false),(6,7,false),(60,9,false)] 104 ((gs29 i n (band fine (gs30 Y i (gs31 Y i (gs32 Y i (gs33 Y i (gs34 Y i (gs35 Y i (band (Bool.not (gs7 Y i)) (gs23 Y i n))))))))))) (gshX n Y ex sty sd wd m V S sex ssty (Nat.add i 1) false (updR Z i [(Y i 0),(fdv (Y i 1) (2)),(fdv (Y i 2) (2)),(fdv (Y i 3) (2)),(fdv (Y i 4) (2)),(fdv (Y i 5) (2)),(fdv (Y i 6) (2))])) [.h,J1,J2,J3] [1,3,4,22,23,24] [] ⟨oeFold (by kernel_rfl) rfl (by kernel_rfl),trivial⟩ (by have:=hh7 (hY i);(try simp only [b1,b4,b5,b6,b7,b8,b9,b10,b11,gS,gs0,gs1,gs2,gs5,gs6,gs7,gs9,gs10,gs11,gs14,gs15,gs16,gs17,gs19,gs23,gs29,gs30,gs31,gs32,gs33,gs34,gs35]);(try simp only [gT] at *);try omega) ?_
          exact ih false (by omega) (fun e=>absurd e (by decide))
        rcases cl (Y i 3) (32000) with ⟨b12,b12p⟩|⟨b12,b12p⟩
        · refine arF 3 2 [(5,25,true),(43,36,true),(14,9,true),(10,41,true),(14,9,true),(10,46,true),(20,5,false),(6,7,false),(60,9,true),(10,41,false)] 94 ((gs29 i n (band fine (gs30 Y i (gs31 Y i (gs32 Y i (gs33 Y i (gs34 Y i (gs35 Y i (band (gs7 Y i) (band (Bool.not (gs3 Y i)) (gs23 Y i n)))))))))))) (gshX n Y ex sty sd wd m V S sex ssty (Nat.add i 1) false (updR Z i [(Y i 0),(fdv (Y i 1) (2)),(fdv (Y i 2) (2)),(fdv (Y i 3) (2)),(fdv (Y i 4) (2)),(fdv (Y i 5) (2)),(fdv (Y i 6) (2))])) [.h,J1,J2,J3] [1,3,4,22,23,24] [] ⟨oeFold (by kernel_rfl) rfl (by kernel_rfl),trivial⟩ (by have:=hh7 (hY i);(try simp only [b1,b4,b5,b6,b7,b8,b9,b10,b11,b12,gS,gs0,gs1,gs2,gs3,gs5,gs6,gs7,gs9,gs10,gs11,gs14,gs15,gs16,gs17,gs19,gs23,gs29,gs30,gs31,gs32,gs33,gs34,gs35]);(try simp only [gT] at *);try omega) ?_
          exact ih false (by omega) (fun e=>absurd e (by decide))
        rcases cl (-32000) (Y i 4) with ⟨b13,b13p⟩|⟨b13,b13p⟩
        · refine arF 3 2 [(5,25,true),(43,36,true),(14,9,true),(10,41,true),(14,9,true),(10,46,true),(20,5,false),(6,7,false),(60,9,true),(10,41,true),(14,9,false)] 99 ((gs29 i n (band fine (gs30 Y i (gs31 Y i (gs32 Y i (gs33 Y i (gs34 Y i (gs35 Y i (gs24 Y i n)))))))))) (gshX n Y ex sty sd wd m V S sex ssty (Nat.add i 1) false (updR Z i [(Y i 0),(fdv (Y i 1) (2)),(fdv (Y i 2) (2)),(fdv (Y i 3) (2)),(fdv (Y i 4) (2)),(fdv (Y i 5) (2)),(fdv (Y i 6) (2))])) [.h,J1,J2,J3] [1,3,4,22,23,24] [] ⟨oeFold (by kernel_rfl) rfl (by kernel_rfl),trivial⟩ (by have:=hh7 (hY i);(try simp only [b1,b4,b5,b6,b7,b8,b9,b10,b11,b12,b13,gS,gs0,gs1,gs2,gs3,gs5,gs6,gs7,gs8,gs9,gs10,gs11,gs14,gs15,gs16,gs17,gs19,gs23,gs24,gs29,gs30,gs31,gs32,gs33,gs34,gs35]);(try simp only [gT] at *);try omega) ?_
          exact ih false (by omega) (fun e=>absurd e (by decide))
        rcases cl (Y i 4) (32000) with ⟨b14,b14p⟩|⟨b14,b14p⟩
        · refine arF 3 2 [(5,25,true),(43,36,true),(14,9,true),(10,41,true),(14,9,true),(10,46,true),(20,5,false),(6,7,false),(60,9,true),(10,41,true),(14,9,true),(10,46,false)] 89 ((gs29 i n (band fine (gs30 Y i (gs31 Y i (gs32 Y i (gs33 Y i (gs34 Y i (gs35 Y i (gs25 Y i n)))))))))) (gshX n Y ex sty sd wd m V S sex ssty (Nat.add i 1) false (updR Z i [(Y i 0),(fdv (Y i 1) (2)),(fdv (Y i 2) (2)),(fdv (Y i 3) (2)),(fdv (Y i 4) (2)),(fdv (Y i 5) (2)),(fdv (Y i 6) (2))])) [.h,J1,J2,J3] [1,3,4,22,23,24] [] ⟨oeFold (by kernel_rfl) rfl (by kernel_rfl),trivial⟩ (by have:=hh7 (hY i);(try simp only [b1,b4,b5,b6,b7,b8,b9,b10,b11,b12,b13,b14,gS,gs0,gs1,gs2,gs3,gs4,gs5,gs6,gs7,gs8,gs9,gs10,gs11,gs14,gs15,gs16,gs17,gs19,gs23,gs25,gs29,gs30,gs31,gs32,gs33,gs34,gs35]);(try simp only [gT] at *);try omega) ?_
          exact ih false (by omega) (fun e=>absurd e (by decide))
        rcases ci (Y i 3) (0) with ⟨b15,b15p⟩|⟨b15,b15p⟩
        · refine arF 3 2 [(5,25,true),(43,36,true),(14,9,true),(10,41,true),(14,9,true),(10,46,true),(20,5,false),(6,7,false),(60,9,true),(10,41,true),(14,9,true),(10,46,true),(20,5,false),(6,7,false),(46,36,false)] 49 ((gs28 i n fine Y)) (gshX n Y ex sty sd wd m V S sex ssty (Nat.add i 1) false (updR Z i [(Y i 0),(fdv (Y i 1) (2)),(fdv (Y i 2) (2)),(fdv (Y i 3) (2)),(fdv (Y i 4) (2)),(fdv (Y i 5) (2)),(fdv (Y i 6) (2))])) [.h,J1,J2,J3] [1,3,4,22,23,24] [] ⟨oeFold (by kernel_rfl) rfl (by kernel_rfl),trivial⟩ (by have:=hh7 (hY i);(try simp only [b1,b4,b5,b6,b7,b8,b9,b10,b11,b12,b13,b14,b15,gS,gs0,gs1,gs2,gs3,gs4,gs5,gs6,gs7,gs8,gs9,gs10,gs11,gs12,gs14,gs15,gs16,gs17,gs18,gs19,gs28]);(try simp only [gT] at *);try omega) ?_
          exact ih false (by omega) (fun e=>absurd e (by decide))
        rcases ci (Y i 4) (0) with ⟨b16,b16p⟩|⟨b16,b16p⟩
        · refine arF 3 2 [(5,25,true),(43,36,true),(14,9,true),(10,41,true),(14,9,true),(10,46,true),(20,5,false),(6,7,false),(60,9,true),(10,41,true),(14,9,true),(10,46,true),(20,5,false),(6,7,false),(46,36,false)] 49 ((gs28 i n fine Y)) (gshX n Y ex sty sd wd m V S sex ssty (Nat.add i 1) false (updR Z i [(Y i 0),(fdv (Y i 1) (2)),(fdv (Y i 2) (2)),(fdv (Y i 3) (2)),(fdv (Y i 4) (2)),(fdv (Y i 5) (2)),(fdv (Y i 6) (2))])) [.h,J1,J2,J3] [1,3,4,22,23,24] [] ⟨oeFold (by kernel_rfl) rfl (by kernel_rfl),trivial⟩ (by have:=hh7 (hY i);(try simp only [b1,b4,b5,b6,b7,b8,b9,b10,b11,b12,b13,b14,b15,b16,gS,gs0,gs1,gs2,gs3,gs4,gs5,gs6,gs7,gs8,gs9,gs10,gs11,gs12,gs14,gs15,gs16,gs17,gs18,gs19,gs28]);(try simp only [gT] at *);try omega) ?_
          exact ih false (by omega) (fun e=>absurd e (by decide))
        rcases cl (-32000) (Y i 5) with ⟨b17,b17p⟩|⟨b17,b17p⟩
        · refine arF 3 2 [(5,25,true),(43,36,true),(14,9,true),(10,41,true),(14,9,true),(10,46,true),(20,5,false),(6,7,false),(60,9,true),(10,41,true),(14,9,true),(10,46,true),(20,5,false),(6,7,false),(46,36,true),(14,9,false)] 54 ((gs29 i n (band fine (gs30 Y i (gs31 Y i (gs32 Y i (gs33 Y i (gs34 Y i (gs35 Y i (band (gs7 Y i) (gs36 Y i (band (Bool.not (ile (-32000) (Y i 5))) (gs19 Y i n))))))))))))) (gshX n Y ex sty sd wd m V S sex ssty (Nat.add i 1) false (updR Z i [(Y i 0),(fdv (Y i 1) (2)),(fdv (Y i 2) (2)),(fdv (Y i 3) (2)),(fdv (Y i 4) (2)),(fdv (Y i 5) (2)),(fdv (Y i 6) (2))])) [.h,J1,J2,J3] [1,3,4,22,23,24] [] ⟨oeFold (by kernel_rfl) rfl (by kernel_rfl),trivial⟩ (by have:=hh7 (hY i);(try simp only [b1,b4,b5,b6,b7,b8,b9,b10,b11,b12,b13,b14,b15,b16,b17,gS,gs0,gs1,gs2,gs3,gs4,gs5,gs6,gs7,gs8,gs9,gs10,gs11,gs12,gs14,gs15,gs16,gs17,gs18,gs19,gs29,gs30,gs31,gs32,gs33,gs34,gs35,gs36]);(try simp only [gT] at *);try omega) ?_
          exact ih false (by omega) (fun e=>absurd e (by decide))
        rcases cl (Y i 5) (32000) with ⟨b18,b18p⟩|⟨b18,b18p⟩
        · refine arF 3 2 [(5,25,true),(43,36,true),(14,9,true),(10,41,true),(14,9,true),(10,46,true),(20,5,false),(6,7,false),(60,9,true),(10,41,true),(14,9,true),(10,46,true),(20,5,false),(6,7,false),(46,36,true),(14,9,true),(10,41,false)] 44 ((gs29 i n (band fine (gs30 Y i (gs31 Y i (gs32 Y i (gs33 Y i (gs34 Y i (gs35 Y i (band (gs7 Y i) (gs36 Y i (gs20 Y i n)))))))))))) (gshX n Y ex sty sd wd m V S sex ssty (Nat.add i 1) false (updR Z i [(Y i 0),(fdv (Y i 1) (2)),(fdv (Y i 2) (2)),(fdv (Y i 3) (2)),(fdv (Y i 4) (2)),(fdv (Y i 5) (2)),(fdv (Y i 6) (2))])) [.h,J1,J2,J3] [1,3,4,22,23,24] [] ⟨oeFold (by kernel_rfl) rfl (by kernel_rfl),trivial⟩ (by have:=hh7 (hY i);(try simp only [b1,b4,b5,b6,b7,b8,b9,b10,b11,b12,b13,b14,b15,b16,b17,b18,gS,gs0,gs1,gs2,gs3,gs4,gs5,gs6,gs7,gs8,gs9,gs10,gs11,gs12,gs14,gs15,gs16,gs17,gs18,gs19,gs20,gs29,gs30,gs31,gs32,gs33,gs34,gs35,gs36]);(try simp only [gT] at *);try omega) ?_
          exact ih false (by omega) (fun e=>absurd e (by decide))
        rcases cl (-32000) (Y i 6) with ⟨b19,b19p⟩|⟨b19,b19p⟩
        · refine arF 3 2 [(5,25,true),(43,36,true),(14,9,true),(10,41,true),(14,9,true),(10,46,true),(20,5,false),(6,7,false),(60,9,true),(10,41,true),(14,9,true),(10,46,true),(20,5,false),(6,7,false),(46,36,true),(14,9,true),(10,41,true),(14,9,false)] 49 ((gs29 i n (band fine (gs30 Y i (gs31 Y i (gs32 Y i (gs33 Y i (gs34 Y i (gs35 Y i (band (gs7 Y i) (gs36 Y i (gs21 Y i n)))))))))))) (gshX n Y ex sty sd wd m V S sex ssty (Nat.add i 1) false (updR Z i [(Y i 0),(fdv (Y i 1) (2)),(fdv (Y i 2) (2)),(fdv (Y i 3) (2)),(fdv (Y i 4) (2)),(fdv (Y i 5) (2)),(fdv (Y i 6) (2))])) [.h,J1,J2,J3] [1,3,4,22,23,24] [] ⟨oeFold (by kernel_rfl) rfl (by kernel_rfl),trivial⟩ (by have:=hh7 (hY i);(try simp only [b1,b4,b5,b6,b7,b8,b9,b10,b11,b12,b13,b14,b15,b16,b17,b18,b19,gS,gs0,gs1,gs2,gs3,gs4,gs5,gs6,gs7,gs8,gs9,gs10,gs11,gs12,gs14,gs15,gs16,gs17,gs18,gs19,gs21,gs29,gs30,gs31,gs32,gs33,gs34,gs35,gs36]);(try simp only [gT] at *);try omega) ?_
          exact ih false (by omega) (fun e=>absurd e (by decide))
        rcases cl (Y i 6) (32000) with ⟨b20,b20p⟩|⟨b20,b20p⟩
        · refine arF 3 2 [(5,25,true),(43,36,true),(14,9,true),(10,41,true),(14,9,true),(10,46,true),(20,5,false),(6,7,false),(60,9,true),(10,41,true),(14,9,true),(10,46,true),(20,5,false),(6,7,false),(46,36,true),(14,9,true),(10,41,true),(14,9,true),(10,46,false)] 39 ((gs29 i n (band fine (gs30 Y i (gs31 Y i (gs32 Y i (gs33 Y i (gs34 Y i (gs35 Y i (band (gs7 Y i) (gs36 Y i (gs22 Y i n)))))))))))) (gshX n Y ex sty sd wd m V S sex ssty (Nat.add i 1) false (updR Z i [(Y i 0),(fdv (Y i 1) (2)),(fdv (Y i 2) (2)),(fdv (Y i 3) (2)),(fdv (Y i 4) (2)),(fdv (Y i 5) (2)),(fdv (Y i 6) (2))])) [.h,J1,J2,J3] [1,3,4,22,23,24] [] ⟨oeFold (by kernel_rfl) rfl (by kernel_rfl),trivial⟩ (by have:=hh7 (hY i);(try simp only [b1,b4,b5,b6,b7,b8,b9,b10,b11,b12,b13,b14,b15,b16,b17,b18,b19,b20,gS,gs0,gs1,gs2,gs3,gs4,gs5,gs6,gs7,gs8,gs9,gs10,gs11,gs12,gs14,gs15,gs16,gs17,gs18,gs19,gs22,gs29,gs30,gs31,gs32,gs33,gs34,gs35,gs36]);(try simp only [gT] at *);try omega) ?_
          exact ih false (by omega) (fun e=>absurd e (by decide))
        refine arF 3 2 [(5,25,true),(43,36,true),(14,9,true),(10,41,true),(14,9,true),(10,46,true),(20,5,false),(6,7,false),(60,9,true),(10,41,true),(14,9,true),(10,46,true),(20,5,false),(6,7,false),(46,36,true),(14,9,true),(10,41,true),(14,9,true),(10,46,true),(20,5,false),(6,7,false)] 45 ((gs29 i n (band fine (gs30 Y i (gs31 Y i (gs32 Y i (gs33 Y i (gs34 Y i (gs35 Y i (band (gs7 Y i) (gs36 Y i (band (ile (-32000) (Y i 5)) (band (ile (Y i 5) (32000)) (band (ile (-32000) (Y i 6)) (band (ile (Y i 6) (32000)) (band (gs10 Y i) (band (gs11 Y i) (gs19 Y i n)))))))))))))))))) (gshX n Y ex sty sd wd m V S sex ssty (Nat.add i 1) (Bool.and (ieq (Y i 5) (0)) (Bool.and (ieq (Y i 6) (0)) true)) (updR Z i [(Y i 0),(fdv (Y i 1) (2)),(fdv (Y i 2) (2)),(fdv (Y i 3) (2)),(fdv (Y i 4) (2)),(fdv (Y i 5) (2)),(fdv (Y i 6) (2))])) [.h,J1,J2,J3] [1,3,4,22,23,24] [] ⟨oeFold (by kernel_rfl) rfl (by kernel_rfl),trivial⟩ (by have:=hh7 (hY i);(try simp only [b1,b4,b5,b6,b7,b8,b9,b10,b11,b12,b13,b14,b15,b16,b17,b18,b19,b20,gS,gs0,gs1,gs2,gs3,gs4,gs5,gs6,gs7,gs8,gs9,gs10,gs11,gs12,gs14,gs15,gs16,gs17,gs18,gs19,gs29,gs30,gs31,gs32,gs33,gs34,gs35,gs36]);(try simp only [gT] at *);try omega) ?_
        exact ih (Bool.and (ieq (Y i 5) (0)) (Bool.and (ieq (Y i 6) (0)) true)) (by omega) (fun e=>⟨b4,by unfold GStep;(try simp only [and_iff',ieq_iff] at e);omega⟩)
      rcases cl (-32000) (Y i 3) with ⟨b21,b21p⟩|⟨b21,b21p⟩
      · refine arF 3 2 [(5,25,true),(43,36,true),(14,9,true),(10,41,true),(14,9,true),(10,46,true),(20,5,false),(6,7,true),(58,9,false)] 104 ((gs29 i n (band fine (gs30 Y i (gs31 Y i (gs32 Y i (gs33 Y i (gs34 Y i (gs37 Y i (band (Bool.not (gs7 Y i)) (gs23 Y i n))))))))))) (gshX n Y ex sty sd wd m V S sex ssty (Nat.add i 1) false (updR Z i [(Y i 0),(fdv (Y i 1) (2)),(fdv (Y i 2) (2)),(fdv (Y i 3) (2)),(fdv (Y i 4) (2)),(fdv (Y i 5) (2)),(fdv (Y i 6) (2))])) [.h,J1,J2,J3] [1,3,4,22,23,24] [] ⟨oeFold (by kernel_rfl) rfl (by kernel_rfl),trivial⟩ (by have:=hh7 (hY i);(try simp only [b1,b4,b5,b6,b7,b8,b9,b10,b21,gS,gs0,gs1,gs2,gs5,gs6,gs7,gs9,gs10,gs14,gs15,gs16,gs17,gs19,gs23,gs29,gs30,gs31,gs32,gs33,gs34,gs37]);(try simp only [gT] at *);try omega) ?_
        exact ih false (by omega) (fun e=>absurd e (by decide))
      rcases cl (Y i 3) (32000) with ⟨b22,b22p⟩|⟨b22,b22p⟩
      · refine arF 3 2 [(5,25,true),(43,36,true),(14,9,true),(10,41,true),(14,9,true),(10,46,true),(20,5,false),(6,7,true),(58,9,true),(10,41,false)] 94 ((gs29 i n (band fine (gs30 Y i (gs31 Y i (gs32 Y i (gs33 Y i (gs34 Y i (gs37 Y i (band (gs7 Y i) (band (Bool.not (gs3 Y i)) (gs23 Y i n)))))))))))) (gshX n Y ex sty sd wd m V S sex ssty (Nat.add i 1) false (updR Z i [(Y i 0),(fdv (Y i 1) (2)),(fdv (Y i 2) (2)),(fdv (Y i 3) (2)),(fdv (Y i 4) (2)),(fdv (Y i 5) (2)),(fdv (Y i 6) (2))])) [.h,J1,J2,J3] [1,3,4,22,23,24] [] ⟨oeFold (by kernel_rfl) rfl (by kernel_rfl),trivial⟩ (by have:=hh7 (hY i);(try simp only [b1,b4,b5,b6,b7,b8,b9,b10,b21,b22,gS,gs0,gs1,gs2,gs3,gs5,gs6,gs7,gs9,gs10,gs14,gs15,gs16,gs17,gs19,gs23,gs29,gs30,gs31,gs32,gs33,gs34,gs37]);(try simp only [gT] at *);try omega) ?_
        exact ih false (by omega) (fun e=>absurd e (by decide))
      rcases cl (-32000) (Y i 4) with ⟨b23,b23p⟩|⟨b23,b23p⟩
      · refine arF 3 2 [(5,25,true),(43,36,true),(14,9,true),(10,41,true),(14,9,true),(10,46,true),(20,5,false),(6,7,true),(58,9,true),(10,41,true),(14,9,false)] 99 ((gs29 i n (band fine (gs30 Y i (gs31 Y i (gs32 Y i (gs33 Y i (gs34 Y i (gs37 Y i (gs24 Y i n)))))))))) (gshX n Y ex sty sd wd m V S sex ssty (Nat.add i 1) false (updR Z i [(Y i 0),(fdv (Y i 1) (2)),(fdv (Y i 2) (2)),(fdv (Y i 3) (2)),(fdv (Y i 4) (2)),(fdv (Y i 5) (2)),(fdv (Y i 6) (2))])) [.h,J1,J2,J3] [1,3,4,22,23,24] [] ⟨oeFold (by kernel_rfl) rfl (by kernel_rfl),trivial⟩ (by have:=hh7 (hY i);(try simp only [b1,b4,b5,b6,b7,b8,b9,b10,b21,b22,b23,gS,gs0,gs1,gs2,gs3,gs5,gs6,gs7,gs8,gs9,gs10,gs14,gs15,gs16,gs17,gs19,gs23,gs24,gs29,gs30,gs31,gs32,gs33,gs34,gs37]);(try simp only [gT] at *);try omega) ?_
        exact ih false (by omega) (fun e=>absurd e (by decide))
      rcases cl (Y i 4) (32000) with ⟨b24,b24p⟩|⟨b24,b24p⟩
      · refine arF 3 2 [(5,25,true),(43,36,true),(14,9,true),(10,41,true),(14,9,true),(10,46,true),(20,5,false),(6,7,true),(58,9,true),(10,41,true),(14,9,true),(10,46,false)] 89 ((gs29 i n (band fine (gs30 Y i (gs31 Y i (gs32 Y i (gs33 Y i (gs34 Y i (gs37 Y i (gs25 Y i n)))))))))) (gshX n Y ex sty sd wd m V S sex ssty (Nat.add i 1) false (updR Z i [(Y i 0),(fdv (Y i 1) (2)),(fdv (Y i 2) (2)),(fdv (Y i 3) (2)),(fdv (Y i 4) (2)),(fdv (Y i 5) (2)),(fdv (Y i 6) (2))])) [.h,J1,J2,J3] [1,3,4,22,23,24] [] ⟨oeFold (by kernel_rfl) rfl (by kernel_rfl),trivial⟩ (by have:=hh7 (hY i);(try simp only [b1,b4,b5,b6,b7,b8,b9,b10,b21,b22,b23,b24,gS,gs0,gs1,gs2,gs3,gs4,gs5,gs6,gs7,gs8,gs9,gs10,gs14,gs15,gs16,gs17,gs19,gs23,gs25,gs29,gs30,gs31,gs32,gs33,gs34,gs37]);(try simp only [gT] at *);try omega) ?_
        exact ih false (by omega) (fun e=>absurd e (by decide))
      rcases cl (-32000) (Y i 5) with ⟨b25,b25p⟩|⟨b25,b25p⟩
      · refine arF 3 2 [(5,25,true),(43,36,true),(14,9,true),(10,41,true),(14,9,true),(10,46,true),(20,5,false),(6,7,true),(58,9,true),(10,41,true),(14,9,true),(10,46,true),(20,5,false),(6,7,true),(58,9,false)] 54 ((gs29 i n (band fine (gs30 Y i (gs31 Y i (gs32 Y i (gs33 Y i (gs34 Y i (gs37 Y i (band (gs7 Y i) (gs38 Y i (band (Bool.not (ile (-32000) (Y i 5))) (gs19 Y i n))))))))))))) (gshX n Y ex sty sd wd m V S sex ssty (Nat.add i 1) false (updR Z i [(Y i 0),(fdv (Y i 1) (2)),(fdv (Y i 2) (2)),(fdv (Y i 3) (2)),(fdv (Y i 4) (2)),(fdv (Y i 5) (2)),(fdv (Y i 6) (2))])) [.h,J1,J2,J3] [1,3,4,22,23,24] [] ⟨oeFold (by kernel_rfl) rfl (by kernel_rfl),trivial⟩ (by have:=hh7 (hY i);(try simp only [b1,b4,b5,b6,b7,b8,b9,b10,b21,b22,b23,b24,b25,gS,gs0,gs1,gs2,gs3,gs4,gs5,gs6,gs7,gs8,gs9,gs10,gs14,gs15,gs16,gs17,gs18,gs19,gs29,gs30,gs31,gs32,gs33,gs34,gs37,gs38]);(try simp only [gT] at *);try omega) ?_
        exact ih false (by omega) (fun e=>absurd e (by decide))
      rcases cl (Y i 5) (32000) with ⟨b26,b26p⟩|⟨b26,b26p⟩
      · refine arF 3 2 [(5,25,true),(43,36,true),(14,9,true),(10,41,true),(14,9,true),(10,46,true),(20,5,false),(6,7,true),(58,9,true),(10,41,true),(14,9,true),(10,46,true),(20,5,false),(6,7,true),(58,9,true),(10,41,false)] 44 ((gs29 i n (band fine (gs30 Y i (gs31 Y i (gs32 Y i (gs33 Y i (gs34 Y i (gs37 Y i (band (gs7 Y i) (gs38 Y i (gs20 Y i n)))))))))))) (gshX n Y ex sty sd wd m V S sex ssty (Nat.add i 1) false (updR Z i [(Y i 0),(fdv (Y i 1) (2)),(fdv (Y i 2) (2)),(fdv (Y i 3) (2)),(fdv (Y i 4) (2)),(fdv (Y i 5) (2)),(fdv (Y i 6) (2))])) [.h,J1,J2,J3] [1,3,4,22,23,24] [] ⟨oeFold (by kernel_rfl) rfl (by kernel_rfl),trivial⟩ (by have:=hh7 (hY i);(try simp only [b1,b4,b5,b6,b7,b8,b9,b10,b21,b22,b23,b24,b25,b26,gS,gs0,gs1,gs2,gs3,gs4,gs5,gs6,gs7,gs8,gs9,gs10,gs14,gs15,gs16,gs17,gs18,gs19,gs20,gs29,gs30,gs31,gs32,gs33,gs34,gs37,gs38]);(try simp only [gT] at *);try omega) ?_
        exact ih false (by omega) (fun e=>absurd e (by decide))
      rcases cl (-32000) (Y i 6) with ⟨b27,b27p⟩|⟨b27,b27p⟩
      · refine arF 3 2 [(5,25,true),(43,36,true),(14,9,true),(10,41,true),(14,9,true),(10,46,true),(20,5,false),(6,7,true),(58,9,true),(10,41,true),(14,9,true),(10,46,true),(20,5,false),(6,7,true),(58,9,true),(10,41,true),(14,9,false)] 49 ((gs29 i n (band fine (gs30 Y i (gs31 Y i (gs32 Y i (gs33 Y i (gs34 Y i (gs37 Y i (band (gs7 Y i) (gs38 Y i (gs21 Y i n)))))))))))) (gshX n Y ex sty sd wd m V S sex ssty (Nat.add i 1) false (updR Z i [(Y i 0),(fdv (Y i 1) (2)),(fdv (Y i 2) (2)),(fdv (Y i 3) (2)),(fdv (Y i 4) (2)),(fdv (Y i 5) (2)),(fdv (Y i 6) (2))])) [.h,J1,J2,J3] [1,3,4,22,23,24] [] ⟨oeFold (by kernel_rfl) rfl (by kernel_rfl),trivial⟩ (by have:=hh7 (hY i);(try simp only [b1,b4,b5,b6,b7,b8,b9,b10,b21,b22,b23,b24,b25,b26,b27,gS,gs0,gs1,gs2,gs3,gs4,gs5,gs6,gs7,gs8,gs9,gs10,gs14,gs15,gs16,gs17,gs18,gs19,gs21,gs29,gs30,gs31,gs32,gs33,gs34,gs37,gs38]);(try simp only [gT] at *);try omega) ?_
        exact ih false (by omega) (fun e=>absurd e (by decide))
      rcases cl (Y i 6) (32000) with ⟨b28,b28p⟩|⟨b28,b28p⟩
      · refine arF 3 2 [(5,25,true),(43,36,true),(14,9,true),(10,41,true),(14,9,true),(10,46,true),(20,5,false),(6,7,true),(58,9,true),(10,41,true),(14,9,true),(10,46,true),(20,5,false),(6,7,true),(58,9,true),(10,41,true),(14,9,true),(10,46,false)] 39 ((gs29 i n (band fine (gs30 Y i (gs31 Y i (gs32 Y i (gs33 Y i (gs34 Y i (gs37 Y i (band (gs7 Y i) (gs38 Y i (gs22 Y i n)))))))))))) (gshX n Y ex sty sd wd m V S sex ssty (Nat.add i 1) false (updR Z i [(Y i 0),(fdv (Y i 1) (2)),(fdv (Y i 2) (2)),(fdv (Y i 3) (2)),(fdv (Y i 4) (2)),(fdv (Y i 5) (2)),(fdv (Y i 6) (2))])) [.h,J1,J2,J3] [1,3,4,22,23,24] [] ⟨oeFold (by kernel_rfl) rfl (by kernel_rfl),trivial⟩ (by have:=hh7 (hY i);(try simp only [b1,b4,b5,b6,b7,b8,b9,b10,b21,b22,b23,b24,b25,b26,b27,b28,gS,gs0,gs1,gs2,gs3,gs4,gs5,gs6,gs7,gs8,gs9,gs10,gs14,gs15,gs16,gs17,gs18,gs19,gs22,gs29,gs30,gs31,gs32,gs33,gs34,gs37,gs38]);(try simp only [gT] at *);try omega) ?_
        exact ih false (by omega) (fun e=>absurd e (by decide))
      refine arF 3 2 [(5,25,true),(43,36,true),(14,9,true),(10,41,true),(14,9,true),(10,46,true),(20,5,false),(6,7,true),(58,9,true),(10,41,true),(14,9,true),(10,46,true),(20,5,false),(6,7,true),(58,9,true),(10,41,true),(14,9,true),(10,46,true),(20,5,false),(6,7,true)] 43 ((gs29 i n (band fine (gs30 Y i (gs31 Y i (gs32 Y i (gs33 Y i (gs34 Y i (gs37 Y i (band (gs7 Y i) (gs38 Y i (band (ile (-32000) (Y i 5)) (band (ile (Y i 5) (32000)) (band (ile (-32000) (Y i 6)) (band (ile (Y i 6) (32000)) (band (gs10 Y i) (band (ieq (Y i 0) (3)) (gs19 Y i n)))))))))))))))))) (gshX n Y ex sty sd wd m V S sex ssty (Nat.add i 1) true (updR Z i [(Y i 0),(fdv (Y i 1) (2)),(fdv (Y i 2) (2)),(fdv (Y i 3) (2)),(fdv (Y i 4) (2)),(fdv (Y i 5) (2)),(fdv (Y i 6) (2))])) [.h,J1,J2,J3] [1,3,4,22,23,24] [] ⟨oeFold (by kernel_rfl) rfl (by kernel_rfl),trivial⟩ (by have:=hh7 (hY i);(try simp only [b1,b4,b5,b6,b7,b8,b9,b10,b21,b22,b23,b24,b25,b26,b27,b28,gS,gs0,gs1,gs2,gs3,gs4,gs5,gs6,gs7,gs8,gs9,gs10,gs14,gs15,gs16,gs17,gs18,gs19,gs29,gs30,gs31,gs32,gs33,gs34,gs37,gs38]);(try simp only [gT] at *);try omega) ?_
      exact ih true (by omega) (fun e=>⟨b4,by unfold GStep;(try simp only [and_iff',ieq_iff] at e);omega⟩)
    rcases ci (Y i 1) (0) with ⟨b29,b29p⟩|⟨b29,b29p⟩
    · refine arF 3 2 [(5,25,true),(43,36,true),(14,9,true),(10,41,true),(14,9,true),(10,46,true),(20,5,true),(44,36,false)] 99 ((gs26 i n fine Y)) (gshX n Y ex sty sd wd m V S sex ssty (Nat.add i 1) false (updR Z i [(Y i 0),(fdv (Y i 1) (2)),(fdv (Y i 2) (2)),(fdv (Y i 3) (2)),(fdv (Y i 4) (2)),(fdv (Y i 5) (2)),(fdv (Y i 6) (2))])) [.h,J1,J2,J3] [1,3,4,22,23,24] [] ⟨oeFold (by kernel_rfl) rfl (by kernel_rfl),trivial⟩ (by have:=hh7 (hY i);(try simp only [b1,b4,b5,b6,b7,b8,b9,b29,gS,gs0,gs1,gs2,gs5,gs6,gs9,gs13,gs14,gs15,gs16,gs17,gs19,gs23,gs26]);(try simp only [gT] at *);try omega) ?_
      exact ih false (by omega) (fun e=>absurd e (by decide))
    rcases ci (Y i 2) (0) with ⟨b30,b30p⟩|⟨b30,b30p⟩
    · refine arF 3 2 [(5,25,true),(43,36,true),(14,9,true),(10,41,true),(14,9,true),(10,46,true),(20,5,true),(44,36,false)] 99 ((gs26 i n fine Y)) (gshX n Y ex sty sd wd m V S sex ssty (Nat.add i 1) false (updR Z i [(Y i 0),(fdv (Y i 1) (2)),(fdv (Y i 2) (2)),(fdv (Y i 3) (2)),(fdv (Y i 4) (2)),(fdv (Y i 5) (2)),(fdv (Y i 6) (2))])) [.h,J1,J2,J3] [1,3,4,22,23,24] [] ⟨oeFold (by kernel_rfl) rfl (by kernel_rfl),trivial⟩ (by have:=hh7 (hY i);(try simp only [b1,b4,b5,b6,b7,b8,b9,b29,b30,gS,gs0,gs1,gs2,gs5,gs6,gs9,gs13,gs14,gs15,gs16,gs17,gs19,gs23,gs26]);(try simp only [gT] at *);try omega) ?_
      exact ih false (by omega) (fun e=>absurd e (by decide))
    rcases cl (-32000) (Y i 3) with ⟨b31,b31p⟩|⟨b31,b31p⟩
    · refine arF 3 2 [(5,25,true),(43,36,true),(14,9,true),(10,41,true),(14,9,true),(10,46,true),(20,5,true),(44,36,true),(14,9,false)] 104 ((gs29 i n (band fine (gs30 Y i (gs31 Y i (gs32 Y i (gs33 Y i (gs39 Y i (band (Bool.not (gs7 Y i)) (gs23 Y i n)))))))))) (gshX n Y ex sty sd wd m V S sex ssty (Nat.add i 1) false (updR Z i [(Y i 0),(fdv (Y i 1) (2)),(fdv (Y i 2) (2)),(fdv (Y i 3) (2)),(fdv (Y i 4) (2)),(fdv (Y i 5) (2)),(fdv (Y i 6) (2))])) [.h,J1,J2,J3] [1,3,4,22,23,24] [] ⟨oeFold (by kernel_rfl) rfl (by kernel_rfl),trivial⟩ (by have:=hh7 (hY i);(try simp only [b1,b4,b5,b6,b7,b8,b9,b29,b30,b31,gS,gs0,gs1,gs2,gs5,gs6,gs7,gs9,gs13,gs14,gs15,gs16,gs17,gs19,gs23,gs29,gs30,gs31,gs32,gs33,gs39]);(try simp only [gT] at *);try omega) ?_
      exact ih false (by omega) (fun e=>absurd e (by decide))
    rcases cl (Y i 3) (32000) with ⟨b32,b32p⟩|⟨b32,b32p⟩
    · refine arF 3 2 [(5,25,true),(43,36,true),(14,9,true),(10,41,true),(14,9,true),(10,46,true),(20,5,true),(44,36,true),(14,9,true),(10,41,false)] 94 ((gs29 i n (band fine (gs30 Y i (gs31 Y i (gs32 Y i (gs33 Y i (gs39 Y i (band (gs7 Y i) (band (Bool.not (gs3 Y i)) (gs23 Y i n))))))))))) (gshX n Y ex sty sd wd m V S sex ssty (Nat.add i 1) false (updR Z i [(Y i 0),(fdv (Y i 1) (2)),(fdv (Y i 2) (2)),(fdv (Y i 3) (2)),(fdv (Y i 4) (2)),(fdv (Y i 5) (2)),(fdv (Y i 6) (2))])) [.h,J1,J2,J3] [1,3,4,22,23,24] [] ⟨oeFold (by kernel_rfl) rfl (by kernel_rfl),trivial⟩ (by have:=hh7 (hY i);(try simp only [b1,b4,b5,b6,b7,b8,b9,b29,b30,b31,b32,gS,gs0,gs1,gs2,gs3,gs5,gs6,gs7,gs9,gs13,gs14,gs15,gs16,gs17,gs19,gs23,gs29,gs30,gs31,gs32,gs33,gs39]);(try simp only [gT] at *);try omega) ?_
      exact ih false (by omega) (fun e=>absurd e (by decide))
    rcases cl (-32000) (Y i 4) with ⟨b33,b33p⟩|⟨b33,b33p⟩
    · refine arF 3 2 [(5,25,true),(43,36,true),(14,9,true),(10,41,true),(14,9,true),(10,46,true),(20,5,true),(44,36,true),(14,9,true),(10,41,true),(14,9,false)] 99 ((gs29 i n (band fine (gs30 Y i (gs31 Y i (gs32 Y i (gs33 Y i (gs39 Y i (gs24 Y i n))))))))) (gshX n Y ex sty sd wd m V S sex ssty (Nat.add i 1) false (updR Z i [(Y i 0),(fdv (Y i 1) (2)),(fdv (Y i 2) (2)),(fdv (Y i 3) (2)),(fdv (Y i 4) (2)),(fdv (Y i 5) (2)),(fdv (Y i 6) (2))])) [.h,J1,J2,J3] [1,3,4,22,23,24] [] ⟨oeFold (by kernel_rfl) rfl (by kernel_rfl),trivial⟩ (by have:=hh7 (hY i);(try simp only [b1,b4,b5,b6,b7,b8,b9,b29,b30,b31,b32,b33,gS,gs0,gs1,gs2,gs3,gs5,gs6,gs7,gs8,gs9,gs13,gs14,gs15,gs16,gs17,gs19,gs23,gs24,gs29,gs30,gs31,gs32,gs33,gs39]);(try simp only [gT] at *);try omega) ?_
      exact ih false (by omega) (fun e=>absurd e (by decide))
    rcases cl (Y i 4) (32000) with ⟨b34,b34p⟩|⟨b34,b34p⟩
    · refine arF 3 2 [(5,25,true),(43,36,true),(14,9,true),(10,41,true),(14,9,true),(10,46,true),(20,5,true),(44,36,true),(14,9,true),(10,41,true),(14,9,true),(10,46,false)] 89 ((gs29 i n (band fine (gs30 Y i (gs31 Y i (gs32 Y i (gs33 Y i (gs39 Y i (gs25 Y i n))))))))) (gshX n Y ex sty sd wd m V S sex ssty (Nat.add i 1) false (updR Z i [(Y i 0),(fdv (Y i 1) (2)),(fdv (Y i 2) (2)),(fdv (Y i 3) (2)),(fdv (Y i 4) (2)),(fdv (Y i 5) (2)),(fdv (Y i 6) (2))])) [.h,J1,J2,J3] [1,3,4,22,23,24] [] ⟨oeFold (by kernel_rfl) rfl (by kernel_rfl),trivial⟩ (by have:=hh7 (hY i);(try simp only [b1,b4,b5,b6,b7,b8,b9,b29,b30,b31,b32,b33,b34,gS,gs0,gs1,gs2,gs3,gs4,gs5,gs6,gs7,gs8,gs9,gs13,gs14,gs15,gs16,gs17,gs19,gs23,gs25,gs29,gs30,gs31,gs32,gs33,gs39]);(try simp only [gT] at *);try omega) ?_
      exact ih false (by omega) (fun e=>absurd e (by decide))
    rcases ci (Y i 3) (0) with ⟨b35,b35p⟩|⟨b35,b35p⟩
    · refine arF 3 2 [(5,25,true),(43,36,true),(14,9,true),(10,41,true),(14,9,true),(10,46,true),(20,5,true),(44,36,true),(14,9,true),(10,41,true),(14,9,true),(10,46,true),(20,5,true),(44,36,false)] 49 ((gs27 i n fine Y)) (gshX n Y ex sty sd wd m V S sex ssty (Nat.add i 1) false (updR Z i [(Y i 0),(fdv (Y i 1) (2)),(fdv (Y i 2) (2)),(fdv (Y i 3) (2)),(fdv (Y i 4) (2)),(fdv (Y i 5) (2)),(fdv (Y i 6) (2))])) [.h,J1,J2,J3] [1,3,4,22,23,24] [] ⟨oeFold (by kernel_rfl) rfl (by kernel_rfl),trivial⟩ (by have:=hh7 (hY i);(try simp only [b1,b4,b5,b6,b7,b8,b9,b29,b30,b31,b32,b33,b34,b35,gS,gs0,gs1,gs2,gs3,gs4,gs5,gs6,gs7,gs8,gs9,gs12,gs13,gs14,gs15,gs16,gs17,gs18,gs19,gs27]);(try simp only [gT] at *);try omega) ?_
      exact ih false (by omega) (fun e=>absurd e (by decide))
    rcases ci (Y i 4) (0) with ⟨b36,b36p⟩|⟨b36,b36p⟩
    · refine arF 3 2 [(5,25,true),(43,36,true),(14,9,true),(10,41,true),(14,9,true),(10,46,true),(20,5,true),(44,36,true),(14,9,true),(10,41,true),(14,9,true),(10,46,true),(20,5,true),(44,36,false)] 49 ((gs27 i n fine Y)) (gshX n Y ex sty sd wd m V S sex ssty (Nat.add i 1) false (updR Z i [(Y i 0),(fdv (Y i 1) (2)),(fdv (Y i 2) (2)),(fdv (Y i 3) (2)),(fdv (Y i 4) (2)),(fdv (Y i 5) (2)),(fdv (Y i 6) (2))])) [.h,J1,J2,J3] [1,3,4,22,23,24] [] ⟨oeFold (by kernel_rfl) rfl (by kernel_rfl),trivial⟩ (by have:=hh7 (hY i);(try simp only [b1,b4,b5,b6,b7,b8,b9,b29,b30,b31,b32,b33,b34,b35,b36,gS,gs0,gs1,gs2,gs3,gs4,gs5,gs6,gs7,gs8,gs9,gs12,gs13,gs14,gs15,gs16,gs17,gs18,gs19,gs27]);(try simp only [gT] at *);try omega) ?_
      exact ih false (by omega) (fun e=>absurd e (by decide))
    rcases cl (-32000) (Y i 5) with ⟨b37,b37p⟩|⟨b37,b37p⟩
    · refine arF 3 2 [(5,25,true),(43,36,true),(14,9,true),(10,41,true),(14,9,true),(10,46,true),(20,5,true),(44,36,true),(14,9,true),(10,41,true),(14,9,true),(10,46,true),(20,5,true),(44,36,true),(14,9,false)] 54 ((gs29 i n (band fine (gs30 Y i (gs31 Y i (gs32 Y i (gs33 Y i (gs39 Y i (band (gs7 Y i) (gs40 Y i (band (Bool.not (ile (-32000) (Y i 5))) (gs19 Y i n)))))))))))) (gshX n Y ex sty sd wd m V S sex ssty (Nat.add i 1) false (updR Z i [(Y i 0),(fdv (Y i 1) (2)),(fdv (Y i 2) (2)),(fdv (Y i 3) (2)),(fdv (Y i 4) (2)),(fdv (Y i 5) (2)),(fdv (Y i 6) (2))])) [.h,J1,J2,J3] [1,3,4,22,23,24] [] ⟨oeFold (by kernel_rfl) rfl (by kernel_rfl),trivial⟩ (by have:=hh7 (hY i);(try simp only [b1,b4,b5,b6,b7,b8,b9,b29,b30,b31,b32,b33,b34,b35,b36,b37,gS,gs0,gs1,gs2,gs3,gs4,gs5,gs6,gs7,gs8,gs9,gs12,gs13,gs14,gs15,gs16,gs17,gs18,gs19,gs29,gs30,gs31,gs32,gs33,gs39,gs40]);(try simp only [gT] at *);try omega) ?_
      exact ih false (by omega) (fun e=>absurd e (by decide))
    rcases cl (Y i 5) (32000) with ⟨b38,b38p⟩|⟨b38,b38p⟩
    · refine arF 3 2 [(5,25,true),(43,36,true),(14,9,true),(10,41,true),(14,9,true),(10,46,true),(20,5,true),(44,36,true),(14,9,true),(10,41,true),(14,9,true),(10,46,true),(20,5,true),(44,36,true),(14,9,true),(10,41,false)] 44 ((gs29 i n (band fine (gs30 Y i (gs31 Y i (gs32 Y i (gs33 Y i (gs39 Y i (band (gs7 Y i) (gs40 Y i (gs20 Y i n))))))))))) (gshX n Y ex sty sd wd m V S sex ssty (Nat.add i 1) false (updR Z i [(Y i 0),(fdv (Y i 1) (2)),(fdv (Y i 2) (2)),(fdv (Y i 3) (2)),(fdv (Y i 4) (2)),(fdv (Y i 5) (2)),(fdv (Y i 6) (2))])) [.h,J1,J2,J3] [1,3,4,22,23,24] [] ⟨oeFold (by kernel_rfl) rfl (by kernel_rfl),trivial⟩ (by have:=hh7 (hY i);(try simp only [b1,b4,b5,b6,b7,b8,b9,b29,b30,b31,b32,b33,b34,b35,b36,b37,b38,gS,gs0,gs1,gs2,gs3,gs4,gs5,gs6,gs7,gs8,gs9,gs12,gs13,gs14,gs15,gs16,gs17,gs18,gs19,gs20,gs29,gs30,gs31,gs32,gs33,gs39,gs40]);(try simp only [gT] at *);try omega) ?_
      exact ih false (by omega) (fun e=>absurd e (by decide))
    rcases cl (-32000) (Y i 6) with ⟨b39,b39p⟩|⟨b39,b39p⟩
    · refine arF 3 2 [(5,25,true),(43,36,true),(14,9,true),(10,41,true),(14,9,true),(10,46,true),(20,5,true),(44,36,true),(14,9,true),(10,41,true),(14,9,true),(10,46,true),(20,5,true),(44,36,true),(14,9,true),(10,41,true),(14,9,false)] 49 ((gs29 i n (band fine (gs30 Y i (gs31 Y i (gs32 Y i (gs33 Y i (gs39 Y i (band (gs7 Y i) (gs40 Y i (gs21 Y i n))))))))))) (gshX n Y ex sty sd wd m V S sex ssty (Nat.add i 1) false (updR Z i [(Y i 0),(fdv (Y i 1) (2)),(fdv (Y i 2) (2)),(fdv (Y i 3) (2)),(fdv (Y i 4) (2)),(fdv (Y i 5) (2)),(fdv (Y i 6) (2))])) [.h,J1,J2,J3] [1,3,4,22,23,24] [] ⟨oeFold (by kernel_rfl) rfl (by kernel_rfl),trivial⟩ (by have:=hh7 (hY i);(try simp only [b1,b4,b5,b6,b7,b8,b9,b29,b30,b31,b32,b33,b34,b35,b36,b37,b38,b39,gS,gs0,gs1,gs2,gs3,gs4,gs5,gs6,gs7,gs8,gs9,gs12,gs13,gs14,gs15,gs16,gs17,gs18,gs19,gs21,gs29,gs30,gs31,gs32,gs33,gs39,gs40]);(try simp only [gT] at *);try omega) ?_
      exact ih false (by omega) (fun e=>absurd e (by decide))
    rcases cl (Y i 6) (32000) with ⟨b40,b40p⟩|⟨b40,b40p⟩
    · refine arF 3 2 [(5,25,true),(43,36,true),(14,9,true),(10,41,true),(14,9,true),(10,46,true),(20,5,true),(44,36,true),(14,9,true),(10,41,true),(14,9,true),(10,46,true),(20,5,true),(44,36,true),(14,9,true),(10,41,true),(14,9,true),(10,46,false)] 39 ((gs29 i n (band fine (gs30 Y i (gs31 Y i (gs32 Y i (gs33 Y i (gs39 Y i (band (gs7 Y i) (gs40 Y i (gs22 Y i n))))))))))) (gshX n Y ex sty sd wd m V S sex ssty (Nat.add i 1) false (updR Z i [(Y i 0),(fdv (Y i 1) (2)),(fdv (Y i 2) (2)),(fdv (Y i 3) (2)),(fdv (Y i 4) (2)),(fdv (Y i 5) (2)),(fdv (Y i 6) (2))])) [.h,J1,J2,J3] [1,3,4,22,23,24] [] ⟨oeFold (by kernel_rfl) rfl (by kernel_rfl),trivial⟩ (by have:=hh7 (hY i);(try simp only [b1,b4,b5,b6,b7,b8,b9,b29,b30,b31,b32,b33,b34,b35,b36,b37,b38,b39,b40,gS,gs0,gs1,gs2,gs3,gs4,gs5,gs6,gs7,gs8,gs9,gs12,gs13,gs14,gs15,gs16,gs17,gs18,gs19,gs22,gs29,gs30,gs31,gs32,gs33,gs39,gs40]);(try simp only [gT] at *);try omega) ?_
      exact ih false (by omega) (fun e=>absurd e (by decide))
    refine arF 3 2 [(5,25,true),(43,36,true),(14,9,true),(10,41,true),(14,9,true),(10,46,true),(20,5,true),(44,36,true),(14,9,true),(10,41,true),(14,9,true),(10,46,true),(20,5,true),(44,36,true),(14,9,true),(10,41,true),(14,9,true),(10,46,true),(20,5,true)] 43 ((gs29 i n (band fine (gs30 Y i (gs31 Y i (gs32 Y i (gs33 Y i (gs39 Y i (band (gs7 Y i) (gs40 Y i (band (ile (-32000) (Y i 5)) (band (ile (Y i 5) (32000)) (band (ile (-32000) (Y i 6)) (band (ile (Y i 6) (32000)) (band (gs0 Y i) (gs19 Y i n)))))))))))))))) (gshX n Y ex sty sd wd m V S sex ssty (Nat.add i 1) (Bool.and (ieq (Y i 5) (0)) (Bool.and (ieq (Y i 6) (0)) true)) (updR Z i [(Y i 0),(fdv (Y i 1) (2)),(fdv (Y i 2) (2)),(fdv (Y i 3) (2)),(fdv (Y i 4) (2)),(fdv (Y i 5) (2)),(fdv (Y i 6) (2))])) [.h,J1,J2,J3] [1,3,4,22,23,24] [] ⟨oeFold (by kernel_rfl) rfl (by kernel_rfl),trivial⟩ (by have:=hh7 (hY i);(try simp only [b1,b4,b5,b6,b7,b8,b9,b29,b30,b31,b32,b33,b34,b35,b36,b37,b38,b39,b40,gS,gs0,gs1,gs2,gs3,gs4,gs5,gs6,gs7,gs8,gs9,gs12,gs13,gs14,gs15,gs16,gs17,gs18,gs19,gs29,gs30,gs31,gs32,gs33,gs39,gs40]);(try simp only [gT] at *);try omega) ?_
    exact ih (Bool.and (ieq (Y i 5) (0)) (Bool.and (ieq (Y i 6) (0)) true)) (by omega) (fun e=>⟨b4,by unfold GStep;(try simp only [and_iff',ieq_iff] at e);omega⟩)
theorem gsm_ok:EndsX En 2 (gsmX n Y ex sty sd wd m V S sex ssty) (QGs n Y):=by
  refine ar 2 [] 31 (band (band (band (Nat.beq n n) (band (Nat.ble n 1099511627776) (Nat.ble (Nat.mul 56 n) 1099511627776))) true) true) (gshX n Y ex sty sd wd m V S sex ssty 0 (Nat.ble m 40) (fun _ _=>0)) [.h,J1,J2,J3] [1,3,4,22,23,24] [] (by (try simp only [gS]);(try simp only [gT] at *);try omega) ?_
  exact gsh_ok hY hn hm8 hS hsort (n - 0) 0 _ (fun _ _=>0) rfl (by omega) (fun j k=>by constructor <;> decide) (fun j hj=>by omega) (fun _ j hj=>by omega)
end
section
variable (q:Nat) (K:Nat→Nat→Int) (ex sty:Bool) (sc:Int) (i:Nat) (zF zT:Int)
noncomputable def hcmX:St:=⟨getF (enterA En 71 [(.agg [(zi sc),(zi (0)),(.sa .h 0 (Nat.succ q) 2)])] false),[],[(.h,(.arr (Nat.succ q) 2 (rowK [.i64,.i64] K) none 159 ex sty))],J1,1⟩
noncomputable def hchX:St:=⟨(fr 71 65 (ts [4,28,29,30] [.ptr J1 0,.sa .h 0 (Nat.succ q) 2,zn (Nat.succ q),zn i]) [cA En 71 (pb 500),lA En 71 (pb 500),.blk 0,cA En 71 (pb 63)]),[],(zs [(.arr (Nat.succ q) 2 (rowK [.i64,.i64] K) none 159 ex sty),(zc 159 [zF,zT])]),J2,1⟩
end
noncomputable abbrev hc0 (i q:Nat):Bool:=(Nat.ble (Nat.succ i) (Nat.succ q))
noncomputable abbrev hc1 (K:Nat→Nat→Int) (i:Nat):Bool:=(Bool.not (Bool.not (ile (K i 0) (32000))))
noncomputable abbrev hc2 (zT:Int) (i:Nat) (K:Nat→Nat→Int):Bool:=(ile (Int.add zT (Int.tmod (.ofNat i) (2))) (K i 1))
noncomputable abbrev hc3 (zT:Int) (i:Nat):Bool:=(band (r64 (Int.add zT (Int.tmod (.ofNat i) (2)))) true)
noncomputable abbrev hc4 (q:Nat):Bool:=(Bool.not (ieq (Int.tmod (.ofNat (Nat.succ q)) (2)) (0)))
noncomputable abbrev hc5 (i q:Nat):Bool:=(band (band (hc0 i q) true) (band (band (band (hc0 i q) true) true) true))
noncomputable abbrev hc6 (i q:Nat) (zz:Bool):Bool:=(band (hc0 i q) (band (hc5 i q) zz))
noncomputable abbrev hc7 (zT:Int) (i:Nat) (K:Nat→Nat→Int) (zz:Bool):Bool:=(band (hc2 zT i K) (band (Bool.not (Bool.not (ile (K i 1) (1099511627776)))) zz))
noncomputable abbrev hc8 (sc:Int) (zz:Bool):Bool:=(band (ile (1) sc) (band (ile sc (16777216)) zz))
def KnOK (q:Nat) (K:Nat→Nat→Int):Prop:=∀ i,i < q+1→(-32000≤K i 0∧K i 0≤32000)∧(0 < i→K (i - 1) 0 < K i 0)
def QH (q:Nat) (K:Nat→Nat→Int):AV→Hp→Prop:=fun v H=>∃ e:Int,v=.int .i64 e∧H.nx=J1∧(e=0→KnOK q K)
section
variable {q:Nat} {K:Nat→Nat→Int} {ex sty:Bool} {sc:Int} (hq:q≤100) (hK:∀ j k,-1000000000000≤K j k∧K j k≤1000000000000) (hsc:1≤sc∧sc≤16777216)
include hq hK hsc
theorem hch_ok (d:Nat):∀ (i:Nat) (zF zT:Int),q+1 - i=d→i≤q+1→(-40000≤zF∧zF≤40000)→(-1099511627776≤zT∧zT≤1099511627776)→(0 < i→zF=K (i - 1) 0)→(∀ j,j < i→(-32000≤K j 0∧K j 0≤32000)∧(0 < j→K (j - 1) 0 < K j 0)) →
    EndsX En 1 (hchX q K ex sty i zF zT) (QH q K):=by
  induction d using Nat.strongRecOn with
  | ind d IH =>
    intro i zF zT hd hi hzF hzT hz hg
    have ih:i < q+1→(-32000≤K i 0∧K i 0≤32000)∧zF < K i 0→EndsX En 1 (hchX q K ex sty (Nat.add i 1) (K i 0) (K i 1)) (QH q K):=fun h1 h2 =>
      IH (q+1 - (i+1)) (by omega) (i+1) _ _ rfl (by omega) (by omega) (by have:=hK i 1;omega) (fun _=>rfl) (fun j hj=>by
        by_cases e:j=i
        · subst e;exact ⟨h2.1,fun h0=>by have:=hz h0;omega⟩
        exact hg j (by omega))
    clear IH
    rcases ce_ (Nat.succ i) (Nat.succ q) with ⟨b1,b1p⟩|⟨b1,b1p⟩
    · refine fi 1 [(5,31,false)] 8 ((band (Bool.not (hc0 i q)) true)) [.h] (zi (0)) [] J1 (by (try simp only [b1,gS,hc0]);(try simp only [gT] at *);try omega) ?_
      exact ⟨0,rfl,rfl,fun _ j hj=>hg j (by omega)⟩
    rcases cl (-32000) (K i 0) with ⟨b2,b2p⟩|⟨b2,b2p⟩
    · refine fi 1 [(5,31,true),(37,10,false)] 45 ((hc6 i q (band (Bool.not (ile (-32000) (K i 0))) true))) [.h] (zi (440)) [] J1 (by have:=hK i 0;(try simp only [b1,b2,gS,hc0,hc5,hc6]);(try simp only [gT] at *);try omega) ?_
      exact ⟨440,rfl,rfl,fun h=>absurd h (by decide)⟩
    rcases cl (K i 0) (32000) with ⟨b3,b3p⟩|⟨b3,b3p⟩
    · refine fi 1 [(5,31,true),(37,10,true),(14,39,true)] 31 ((hc6 i q (band (ile (-32000) (K i 0)) (band (Bool.not (ile (K i 0) (32000))) true)))) [.h] (zi (440)) [] J1 (by have:=hK i 0;(try simp only [b1,b2,b3,gS,hc0,hc5,hc6]);(try simp only [gT] at *);try omega) ?_
      exact ⟨440,rfl,rfl,fun h=>absurd h (by decide)⟩
    rcases cl (Int.add zT (Int.tmod (.ofNat i) (2))) (K i 1) with ⟨b4,b4p⟩|⟨b4,b4p⟩
    · refine fi 1 [(5,31,true),(37,10,true),(14,39,false),(18,10,false)] 31 ((hc6 i q (band (ile (-32000) (K i 0)) (band (hc1 K i) (band (hc3 zT i) (band (Bool.not (hc2 zT i K)) true)))))) [.h] (zi (440)) [] J1 (by have:=hh7 (hK i);have:=tmodb (.ofNat i) (k:=2) (by decide);(try simp only [b1,b2,b3,b4,gS,hc0,hc1,hc2,hc3,hc5,hc6]);(try simp only [gT] at *);try omega) ?_
      exact ⟨440,rfl,rfl,fun h=>absurd h (by decide)⟩
    rcases ci (Int.tmod (K i 1) (16)) (0) with ⟨b5,b5p⟩|⟨b5,b5p⟩
    · refine fi 1 [(5,31,true),(37,10,true),(14,39,false),(18,10,true),(11,50,false),(6,56,true)] 14 ((hc6 i q (band (ile (-32000) (K i 0)) (band (hc1 K i) (band (hc3 zT i) (hc7 zT i K (band (Bool.not (ieq (Int.tmod (K i 1) (16)) (0))) true))))))) [.h] (zi (440)) [] J1 (by have:=hh7 (hK i);have:=tmodb (K i 1) (k:=16) (by decide);have:=tmodb (.ofNat i) (k:=2) (by decide);(try simp only [b1,b2,b3,b4,b5,gS,hc0,hc1,hc2,hc3,hc5,hc6,hc7]);(try simp only [gT] at *);try omega) ?_
      exact ⟨440,rfl,rfl,fun h=>absurd h (by decide)⟩
    rcases cl (K i 0) zF with ⟨b6,b6p⟩|⟨b6,b6p⟩
    · refine ar 1 [(5,31,true),(37,10,true),(14,39,false),(18,10,true),(11,50,false),(6,56,false),(7,62,false)] 12 ((hc6 i q (band (ile (-32000) (K i 0)) (band (hc1 K i) (band (hc3 zT i) (hc7 zT i K (band (Bool.not (Bool.not (ieq (Int.tmod (K i 1) (16)) (0)))) (band (Bool.not (ile (K i 0) zF)) (band (band (ile (-9223372036854775808) (.ofNat (Nat.add i 1))) (Nat.ble (Nat.add i 1) 9223372036854775807)) true))))))))) (hchX q K ex sty (Nat.add i 1) (K i 0) (K i 1)) [.h,J1] [4,28,29,30] [] (by have:=hh7 (hK i);have:=tmodb (K i 1) (k:=16) (by decide);have:=tmodb (.ofNat i) (k:=2) (by decide);(try simp only [b1,b2,b3,b4,b5,b6,gS,hc0,hc1,hc2,hc3,hc5,hc6,hc7]);(try simp only [gT] at *);try omega) ?_
      exact ih (by omega) ⟨⟨b2p,b3p⟩,by omega⟩
    refine fi 1 [(5,31,true),(37,10,true),(14,39,false),(18,10,true),(11,50,false),(6,56,false),(7,62,true)] 7 ((hc6 i q (band (ile (-32000) (K i 0)) (band (hc1 K i) (band (hc3 zT i) (hc7 zT i K (band (Bool.not (Bool.not (ieq (Int.tmod (K i 1) (16)) (0)))) (band (ile (K i 0) zF) true)))))))) [.h] (zi (440)) [] J1 (by have:=hh7 (hK i);have:=tmodb (K i 1) (k:=16) (by decide);have:=tmodb (.ofNat i) (k:=2) (by decide);(try simp only [b1,b2,b3,b4,b5,b6,gS,hc0,hc1,hc2,hc3,hc5,hc6,hc7]);(try simp only [gT] at *);try omega) ?_
    exact ⟨440,rfl,rfl,fun h=>absurd h (by decide)⟩
theorem hcm_ok:EndsX En 1 (hcmX q K ex sty sc) (QH q K):=by
  rcases ci (Int.tmod (.ofNat (Nat.succ q)) (2)) (0) with ⟨b1,b1p⟩|⟨b1,b1p⟩
  · refine fi 1 [(39,10,true),(9,9,true),(38,20,true)] 13 ((hc8 sc (band (hc4 q) true))) [.h] (zi (440)) [] J1 (by have:=tmodb (.ofNat (Nat.succ q)) (k:=2) (by decide);(try simp only [b1,gS,hc4,hc8]);(try simp only [gT] at *);try omega) ?_
    exact ⟨440,rfl,rfl,fun h=>absurd h (by decide)⟩
  rcases ce_ 81 (Nat.succ q) with ⟨b2,b2p⟩|⟨b2,b2p⟩
  · refine ar 1 [(39,10,true),(9,9,true),(38,20,false),(6,25,false)] 18 ((hc8 sc (band (Bool.not (hc4 q)) (band (Bool.not (Nat.ble 81 (Nat.succ q))) true)))) (hchX q K ex sty 0 (-32001) (-1099511627776)) [.h,J3] [4,28,29,30] [] (by have:=tmodb (.ofNat (Nat.succ q)) (k:=2) (by decide);(try simp only [b1,b2,gS,hc4,hc8]);(try simp only [gT] at *);try omega) ?_
    exact hch_ok hq hK hsc (q+1 - 0) 0 _ _ rfl (by omega) (by omega) (by omega) (fun h=>by omega) (fun j hj=>by omega)
  refine fi 1 [(39,10,true),(9,9,true),(38,20,false),(6,25,true)] 7 ((hc8 sc (band (Bool.not (hc4 q)) (band (Nat.ble 81 (Nat.succ q)) true)))) [.h] (zi (440)) [] J1 (by have:=tmodb (.ofNat (Nat.succ q)) (k:=2) (by decide);(try simp only [b1,b2,gS,hc4,hc8]);(try simp only [gT] at *);try omega) ?_
  exact ⟨440,rfl,rfl,fun h=>absurd h (by decide)⟩
end
section
variable (q:Nat) (K:Nat→Nat→Int) (ex sty:Bool) (sc u e_1:Int) (i:Nat)
noncomputable def mpmX:St:=⟨getF (enterA En 60 [(.agg [(zi sc),(zi (0)),(.sa .h 0 (Nat.succ q) 2)]),(zi u)] false),[],[(.h,(.arr (Nat.succ q) 2 (rowK [.i64,.i64] K) none 159 ex sty))],J1,1⟩
noncomputable def mpe1X:St:=⟨cf (hcmX q K ex sty sc) J3 [.h],[(fr 60 115 (ts [2,3] [.ptr J1 0,.ptr J2 0]) [rA En 60 (pb 12) 1,cA En 60 (pb 13),cA En 60 (pb 7)])],(zs [(.arr (Nat.succ q) 2 (rowK [.i64,.i64] K) none 159 ex sty),(ce 115 [(zi sc),(zi (0)),(.sa .h 0 (Nat.succ q) 2)]),(zc 3 [u])]),J3,1⟩
noncomputable def mpfX:St:=⟨(fr 72 20 (ts [0,1,5] [.sa .h 0 (Nat.succ q) 2,.fn 73 [] [(.ptr J1 0)],zn i]) [cA En 72 (pb 216),lA En 72 (pb 216),.blk 0,cA En 72 (pb 55),sA En 72 [1,0]]),[(fr 60 115 (ts [3,7,8] [.ptr J1 0,.ptr J2 0,zn (Nat.succ q)]) [rA En 60 (pb 254) 6,cA En 60 (pb 255)])],(zs [(.arr (Nat.succ q) 2 (rowK [.i64,.i64] K) none 159 ex sty),(zc 3 [u]),(ce 142 [(zi sc),(zi (0)),(.sa .h 0 (Nat.succ q) 2)])]),J3,1⟩
end
noncomputable abbrev mp0 (i q:Nat):Bool:=(Nat.ble (Nat.succ i) (Nat.succ q))
noncomputable abbrev mp1 (K:Nat→Nat→Int) (i:Nat):Int:=(K (Int.toNat (Int.sub (.ofNat i) (1))) 0)
noncomputable abbrev mp2 (K:Nat→Nat→Int) (i:Nat):Int:=(K (Int.toNat (Int.sub (.ofNat i) (1))) 1)
noncomputable abbrev mp3 (q:Nat):Nat:=(Int.toNat (Int.sub (.ofNat (Nat.succ q)) (1)))
noncomputable abbrev mp4 (u sc:Int):Int:=(Int.fdiv (Int.add (Int.add (Int.mul u sc) (0)) (32768)) (65536))
noncomputable abbrev mp5 (i q:Nat):Bool:=(Nat.ble (Nat.succ (Int.toNat (Int.sub (.ofNat i) (1)))) (Nat.succ q))
noncomputable abbrev mp6 (i q:Nat):Bool:=(band (band (mp0 i q) true) (band (band (band (mp0 i q) true) true) true))
noncomputable abbrev mp7 (u sc:Int):Bool:=(band (band (band (r64 (Int.mul u sc)) (band (r64 (Int.add (Int.mul u sc) (0))) (band (r64 (Int.add (Int.add (Int.mul u sc) (0)) (32768))) true))) (band (band (ieq sc sc) true) true)) true)
def QM:AV→Hp→Prop:=fun v H=>∃ r e:Int,v=.tup [.int .i64 r,.int .i64 e]∧H.nx=J1∧(-1000000000000000000≤r∧r≤1000000000000000000)
theorem mpA {q:Nat} {K:Nat→Nat→Int} {sc:Int} (h:KnOK q K) (hsc:1≤sc∧sc≤16777216) :
    ((-32000≤K (Int.toNat (Int.sub (Int.ofNat (Nat.succ q)) (1))) 0∧K (Int.toNat (Int.sub (Int.ofNat (Nat.succ q)) (1))) 0≤32000)∧(-32000≤K 0 0∧K 0 0≤32000)) ∧
    (-(32000 * 16777216)≤Int.mul (K (Int.toNat (Int.sub (Int.ofNat (Nat.succ q)) (1))) 0) sc∧Int.mul (K (Int.toNat (Int.sub (Int.ofNat (Nat.succ q)) (1))) 0) sc≤32000 * 16777216) ∧
    (-(32000 * 16777216)≤Int.mul (K 0 0) sc∧Int.mul (K 0 0) sc≤32000 * 16777216):=by
  have h1:=(h (Int.toNat (Int.sub (Int.ofNat (Nat.succ q)) (1))) (by simp only [iSub,ofN];omega)).1
  have h2:=(h 0 (by omega)).1
  exact ⟨⟨h1,h2⟩,mulb 32000 hsc h1,mulb 32000 hsc h2⟩
theorem mul2 {x y A B:Int} (hx : -A≤x∧x≤A) (hy : -B≤y∧y≤B) : -(A * B)≤x * y∧x * y≤A * B:=by
  have h1:x.natAbs≤A.natAbs:=by omega
  have h2:y.natAbs≤B.natAbs:=by omega
  have h3:(x * y).natAbs≤A.natAbs * B.natAbs:=by rw [Int.natAbs_mul];exact Nat.mul_le_mul h1 h2
  have hA:(A.natAbs:Int)=A:=by omega
  have hB:(B.natAbs:Int)=B:=by omega
  have h4:((A.natAbs * B.natAbs:Nat):Int)=A * B:=by rw [Int.natCast_mul,hA,hB]
  omega
theorem tdivb (x d:Int) {C:Int} (h : -C≤x∧x≤C) : -C≤Int.tdiv x d∧Int.tdiv x d≤C:=by
  have h1:=Int.natAbs_tdiv x d
  have h2:x.natAbs.div d.natAbs≤x.natAbs:=Nat.div_le_self _ _
  rw [← h1] at h2
  omega
theorem mpC {q:Nat} {K:Nat→Nat→Int} {u:Int} (hu : -32000≤u∧u≤32000) (h:KnOK q K) (hK:∀ j k,-1000000000000≤K j k∧K j k≤1000000000000) {i:Nat} (h0:0 < i) (hi:i < q+1) :
    (K (Int.toNat (Int.sub (Int.ofNat i) (1))) 0 < K i 0∧(-32000≤K (Int.toNat (Int.sub (Int.ofNat i) (1))) 0∧K (Int.toNat (Int.sub (Int.ofNat i) (1))) 0≤32000)∧(-32000≤K i 0∧K i 0≤32000)) ∧
    (-(64000 * 2000000000000)≤Int.mul (Int.sub u (K (Int.toNat (Int.sub (Int.ofNat i) (1))) 0)) (Int.sub (K i 1) (K (Int.toNat (Int.sub (Int.ofNat i) (1))) 1))∧Int.mul (Int.sub u (K (Int.toNat (Int.sub (Int.ofNat i) (1))) 0)) (Int.sub (K i 1) (K (Int.toNat (Int.sub (Int.ofNat i) (1))) 1))≤64000 * 2000000000000) ∧
    (-(64000 * 2000000000000)≤Int.tdiv (Int.mul (Int.sub u (K (Int.toNat (Int.sub (Int.ofNat i) (1))) 0)) (Int.sub (K i 1) (K (Int.toNat (Int.sub (Int.ofNat i) (1))) 1))) (Int.sub (K i 0) (K (Int.toNat (Int.sub (Int.ofNat i) (1))) 0)) ∧
      Int.tdiv (Int.mul (Int.sub u (K (Int.toNat (Int.sub (Int.ofNat i) (1))) 0)) (Int.sub (K i 1) (K (Int.toNat (Int.sub (Int.ofNat i) (1))) 1))) (Int.sub (K i 0) (K (Int.toNat (Int.sub (Int.ofNat i) (1))) 0))≤64000 * 2000000000000):=by
  have e:Int.toNat (Int.sub (Int.ofNat i) (1))=i - 1:=by simp only [iSub,ofN];omega
  rw [e]
  have h1:=h i hi
  have h2:=h (i - 1) (by omega)
  have h3:=hK i 1
  have h4:=hK (i - 1) 1
  have h5:=mul2 (x:=u - K (i - 1) 0) (y:=K i 1 - K (i - 1) 1) (A:=64000) (B:=2000000000000) (by omega) (by omega)
  exact ⟨⟨h1.2 h0,h2.1,h1.1⟩,h5,tdivb _ _ h5⟩
section
variable {q:Nat} {K:Nat→Nat→Int} {ex sty:Bool} {sc u:Int} (hq:q≤100) (hK:∀ j k,-1000000000000≤K j k∧K j k≤1000000000000) (hsc:1≤sc∧sc≤16777216) (hu : -32000≤u∧u≤32000)
include hq hK hsc hu
theorem mpf_ok (hkn:KnOK q K) (d:Nat):∀ (i:Nat),q+1 - i=d→i≤q+1→EndsX En 1 (mpfX q K ex sty sc u i) QM:=by
  induction d using Nat.strongRecOn with
  | ind d IH =>
    intro i hd hi
    have ih:i < q+1→EndsX En 1 (mpfX q K ex sty sc u (Nat.add i 1)) QM:=fun h1=>IH (q+1 - (i+1)) (by omega) (i+1) rfl (by omega)
    clear IH
    rcases ce_ (Nat.succ i) (Nat.succ q) with ⟨b1,b1p⟩|⟨b1,b1p⟩
    · refine fi 1 [(8,9,false),(17,44,true),(5,48,false),(21,94,true)] 17 ((band (Bool.not (mp0 i q)) (band (Nat.ble 1 i) (band (Bool.not (mp0 i q)) (band (Nat.beq i (Nat.succ q)) (band (r64 (Int.sub (.ofNat (Nat.succ q)) (1))) (band (band (band (ile (0) (Int.sub (.ofNat (Nat.succ q)) (1))) (Nat.ble (Nat.succ (mp3 q)) (Nat.succ q))) true) (band (band (band (Nat.ble (Nat.succ (mp3 q)) (Nat.succ q)) true) true) (band (band (band (mp7 u sc) (band (band (band (band (r64 (Int.mul (K (mp3 q) 0) sc)) (band (r64 (Int.add (Int.mul (K (mp3 q) 0) sc) (0))) (band (r64 (Int.add (Int.add (Int.mul (K (mp3 q) 0) sc) (0)) (32768))) true))) (band (band (ieq sc sc) true) true)) true) (band (r64 (Int.sub (mp4 u sc) (Int.fdiv (Int.add (Int.add (Int.mul (K (mp3 q) 0) sc) (0)) (32768)) (65536)))) (band (r64 (Int.add (Int.sub (mp4 u sc) (Int.fdiv (Int.add (Int.add (Int.mul (K (mp3 q) 0) sc) (0)) (32768)) (65536))) (K (mp3 q) 1))) true)))) (band (band (ieq (K (mp3 q) 1) (K (mp3 q) 1)) (band (ieq (K (mp3 q) 1) (K (mp3 q) 1)) (band (ieq (K (mp3 q) 1) (K (mp3 q) 1)) true))) (band (band (ieq (K (mp3 q) 0) (K (mp3 q) 0)) (band (ieq (K (mp3 q) 0) (K (mp3 q) 0)) true)) (band (band (ieq u u) true) true)))) true))))))))) [.h] (.tup [(zi (Int.add (Int.sub (Int.fdiv (Int.add (Int.add (Int.mul u sc) (0)) (32768)) (65536)) (Int.fdiv (Int.add (Int.add (Int.mul (K (Int.toNat (Int.sub (.ofNat (Nat.succ q)) (1))) 0) sc) (0)) (32768)) (65536))) (K (Int.toNat (Int.sub (.ofNat (Nat.succ q)) (1))) 1))),(zi (0))]) [] J1 (by have:=hK (Int.toNat (Int.sub (.ofNat (Nat.succ q)) (1))) 0;have:=hK (Int.toNat (Int.sub (.ofNat (Nat.succ q)) (1))) 1;have:=mulb (u:=(K (Int.toNat (Int.sub (.ofNat (Nat.succ q)) (1))) 0)) 1000000000000 hsc (by have:=hK (Int.toNat (Int.sub (.ofNat (Nat.succ q)) (1))) 0;(try simp only [iAdd,iSub] at *);omega);have ex1:=mpA hkn hsc;have exu:=mulb (u:=u) 32000 hsc (by omega);(try have ex2:=mpC hu hkn hK (i:=i) (by omega) (by omega));(try simp only [b1,gS,mp0,mp3,mp4,mp7]);(try simp only [gT] at *);try omega) ?_
      exact ⟨_,_,rfl,rfl,by first|decide|(have ex1:=mpA hkn hsc;have exu:=mulb (u:=u) 32000 hsc (by omega);(try have ex2:=mpC hu hkn hK (i:=i) (by omega) (by omega));have:=hK (Int.toNat (Int.sub (.ofNat i) (1))) 1;have:=hK (Int.toNat (Int.sub (.ofNat (Nat.succ q)) (1))) 1;have:=hK 0 1;simp only [iAdd,iSub,iMul,fdiv16,fdiv64k] at *;omega)⟩
    rcases cl (K i 0) u with ⟨b2,b2p⟩|⟨b2,b2p⟩
    · rcases ce_ 1 i with ⟨b3,b3p⟩|⟨b3,b3p⟩
      · refine fi 1 [(8,9,true),(29,18,true),(17,44,false),(26,94,false)] 6 ((band (mp0 i q) (band (mp6 i q) (band (Bool.not (ile (K i 0) u)) (band (Bool.not (Nat.ble 1 i)) (band (Bool.not (Nat.beq i (Nat.succ q))) (band (band (band (mp7 u sc) (band (band (band (band (r64 (Int.mul (K 0 0) sc)) (band (r64 (Int.add (Int.mul (K 0 0) sc) (0))) (band (r64 (Int.add (Int.add (Int.mul (K 0 0) sc) (0)) (32768))) true))) (band (band (ieq sc sc) true) true)) true) (band (r64 (Int.sub (mp4 u sc) (Int.fdiv (Int.add (Int.add (Int.mul (K 0 0) sc) (0)) (32768)) (65536)))) (band (r64 (Int.add (Int.sub (mp4 u sc) (Int.fdiv (Int.add (Int.add (Int.mul (K 0 0) sc) (0)) (32768)) (65536))) (K 0 1))) true)))) (band (band (ieq (K 0 1) (K 0 1)) (band (ieq (K 0 1) (K 0 1)) (band (ieq (K 0 1) (K 0 1)) true))) (band (band (ieq (K 0 0) (K 0 0)) (band (ieq (K 0 0) (K 0 0)) true)) (band (band (ieq u u) true) true)))) true))))))) [.h] (.tup [(zi (Int.add (Int.sub (Int.fdiv (Int.add (Int.add (Int.mul u sc) (0)) (32768)) (65536)) (Int.fdiv (Int.add (Int.add (Int.mul (K 0 0) sc) (0)) (32768)) (65536))) (K 0 1))),(zi (0))]) [] J1 (by have:=hh7 (hK 0);have:=hK i 0;have:=mulb (u:=(K 0 0)) 1000000000000 hsc (by have:=hK 0 0;(try simp only [iAdd,iSub] at *);omega);have ex1:=mpA hkn hsc;have exu:=mulb (u:=u) 32000 hsc (by omega);(try have ex2:=mpC hu hkn hK (i:=i) (by omega) (by omega));(try simp only [b1,b2,b3,gS,mp0,mp4,mp6,mp7]);(try simp only [gT] at *);try omega) ?_
        exact ⟨_,_,rfl,rfl,by first|decide|(have ex1:=mpA hkn hsc;have exu:=mulb (u:=u) 32000 hsc (by omega);(try have ex2:=mpC hu hkn hK (i:=i) (by omega) (by omega));have:=hK (Int.toNat (Int.sub (.ofNat i) (1))) 1;have:=hK (Int.toNat (Int.sub (.ofNat (Nat.succ q)) (1))) 1;have:=hK 0 1;simp only [iAdd,iSub,iMul,fdiv16,fdiv64k] at *;omega)⟩
      refine fi 1 [(8,9,true),(29,18,true),(17,44,true),(5,48,true)] 7 ((band (mp0 i q) (band (mp6 i q) (band (Bool.not (ile (K i 0) u)) (band (Nat.ble 1 i) (band (mp0 i q) (band (band (band (r64 (Int.sub (.ofNat i) (1))) (band (band (band (ile (0) (Int.sub (.ofNat i) (1))) (mp5 i q)) true) (band (band (band (mp5 i q) true) true) (mp6 i q)))) (band (band (band (band (band (mp0 i q) true) true) (band (ieq (K i 0) (K i 0)) (band (ieq (K i 1) (K i 1)) true))) (band (band (band (band (mp0 i q) true) true) (band (ieq (K i 0) (K i 0)) (band (ieq (K i 1) (K i 1)) true))) true)) (band (band (band (Nat.beq (Nat.succ q) (Nat.succ q)) true) (band (band (Nat.beq (Nat.succ q) (Nat.succ q)) true) true)) (band (band (band (band (band (mp5 i q) true) true) (band (ieq (mp1 K i) (mp1 K i)) (band (ieq (mp2 K i) (mp2 K i)) true))) true) (band (band (band (Nat.beq (Nat.succ q) (Nat.succ q)) true) true) true))))) (band (band (band (r64 (Int.sub u (mp1 K i))) (band (r64 (Int.sub (K i 1) (mp2 K i))) (band (r64 (Int.mul (Int.sub u (mp1 K i)) (Int.sub (K i 1) (mp2 K i)))) (band (r64 (Int.sub (K i 0) (mp1 K i))) (band (band (Bool.not (ieq (Int.sub (K i 0) (mp1 K i)) (0))) (r64 (Int.tdiv (Int.mul (Int.sub u (mp1 K i)) (Int.sub (K i 1) (mp2 K i))) (Int.sub (K i 0) (mp1 K i))))) (band (r64 (Int.add (mp2 K i) (Int.tdiv (Int.mul (Int.sub u (mp1 K i)) (Int.sub (K i 1) (mp2 K i))) (Int.sub (K i 0) (mp1 K i))))) true)))))) (band (band (ieq (mp1 K i) (mp1 K i)) true) (band (band (ieq (K i 0) (K i 0)) true) (band (band (ieq (mp2 K i) (mp2 K i)) true) (band (band (ieq (K i 1) (K i 1)) true) (band (band (ieq (mp1 K i) (mp1 K i)) true) (band (band (ieq u u) true) (band (band (ieq (mp2 K i) (mp2 K i)) true) true)))))))) true)))))))) [.h] (.tup [(zi (Int.add (K (Int.toNat (Int.sub (.ofNat i) (1))) 1) (Int.tdiv (Int.mul (Int.sub u (K (Int.toNat (Int.sub (.ofNat i) (1))) 0)) (Int.sub (K i 1) (K (Int.toNat (Int.sub (.ofNat i) (1))) 1))) (Int.sub (K i 0) (K (Int.toNat (Int.sub (.ofNat i) (1))) 0))))),(zi (0))]) [] J1 (by have:=hK (Int.toNat (Int.sub (.ofNat i) (1))) 1;have:=hK (Int.toNat (Int.sub (.ofNat i) (1))) 0;have:=hh7 (hK i);have ex1:=mpA hkn hsc;have exu:=mulb (u:=u) 32000 hsc (by omega);(try have ex2:=mpC hu hkn hK (i:=i) (by omega) (by omega));(try simp only [b1,b2,b3,gS,mp0,mp1,mp2,mp5,mp6]);(try simp only [gT] at *);try omega) ?_
      exact ⟨_,_,rfl,rfl,by first|decide|(have ex1:=mpA hkn hsc;have exu:=mulb (u:=u) 32000 hsc (by omega);(try have ex2:=mpC hu hkn hK (i:=i) (by omega) (by omega));have:=hK (Int.toNat (Int.sub (.ofNat i) (1))) 1;have:=hK (Int.toNat (Int.sub (.ofNat (Nat.succ q)) (1))) 1;have:=hK 0 1;simp only [iAdd,iSub,iMul,fdiv16,fdiv64k] at *;omega)⟩
    refine ar 1 [(8,9,true),(29,18,false)] 9 ((band (mp0 i q) (band (mp6 i q) (band (Bool.not (Bool.not (ile (K i 0) u))) (band (band (ile (-9223372036854775808) (.ofNat (Nat.add i 1))) (Nat.ble (Nat.add i 1) 9223372036854775807)) true))))) (mpfX q K ex sty sc u (Nat.add i 1)) [.h,J1,J2] [0,1,5] [[3,7,8]] (by have:=hK i 0;have ex1:=mpA hkn hsc;have exu:=mulb (u:=u) 32000 hsc (by omega);(try have ex2:=mpC hu hkn hK (i:=i) (by omega) (by omega));(try simp only [b1,b2,gS,mp0,mp6]);(try simp only [gT] at *);try omega) ?_
    exact ih (by omega)
theorem mpm_ok:EndsX En 1 (mpmX q K ex sty sc u) QM:=by
  refine ac 1 [] 12 true (mpe1X q K ex sty sc u) [.h,J1,J2] [[2,3]] rfl ?_
  refine ca (hcmX q K ex sty sc) [.h] (hcm_ok (q:=q) (K:=K) (ex:=ex) (sty:=sty) (sc:=sc) hq hK hsc) (fun v' H' q=>?_)
  rcases q with ⟨e_1,rfl,hnx1,hqc_1⟩
  refine ⟨(zi e_1),[],J3,(by kernel_rfl),(by rw [hnx1];kernel_rfl),trivial,(by kernel_rfl),?_⟩
  rcases ci e_1 (0) with ⟨b1,b1p⟩|⟨b1,b1p⟩
  · refine fi 1 [(7,16,true)] 9 (band (Bool.not (ieq e_1 (0))) true) [.h] (.tup [(zi (0)),(zi e_1)]) [] J1 (by (try simp only [b1,gS]);(try simp only [gT] at *);try omega) ?_
    exact ⟨_,_,rfl,rfl,by first|decide|(have ex1:=mpA hkn hsc;have exu:=mulb (u:=u) 32000 hsc (by omega);(try have ex2:=mpC hu hkn hK (i:=i) (by omega) (by omega));have:=hK (Int.toNat (Int.sub (.ofNat i) (1))) 1;have:=hK (Int.toNat (Int.sub (.ofNat (Nat.succ q)) (1))) 1;have:=hK 0 1;simp only [iAdd,iSub,iMul,fdiv16,fdiv64k] at *;omega)⟩
  refine ar 1 [(7,16,false),(25,10,true),(14,20,false),(25,31,false)] 25 (band (Bool.not (Bool.not (ieq e_1 (0)))) (band (ile (-32000) u) (band (Bool.not (Bool.not (ile u (32000)))) (band (Bool.not (Nat.beq (Nat.succ q) 0)) true)))) (mpfX q K ex sty sc u 0) [.h,J2,J3] [0,1,5] [[3,7,8]] (by (try simp only [b1,gS]);(try simp only [gT] at *);try omega) ?_
  exact mpf_ok hq hK hsc hu (hqc_1 b1p) (q+1 - 0) 0 rfl (by omega)
end
noncomputable def mzmX (sc:Int) (u:Int):St:=⟨getF (enterA En 60 [(.agg [(zi sc),(zi (0)),.nils]),(zi u)] false),[],[],.h,0⟩
theorem mzen (sc:Int) (u:Int):enterA En 60 [(.agg [(zi sc),(zi (0)),.nils]),(zi u)] false=some (mzmX sc u).f:=by kernel_rfl
section
def QMz:AV→Hp→Prop:=fun v H=>∃ r:Int,v=.tup [.int .i64 r,.int .i64 0]∧H.nx=.h∧(-1000000000000000000≤r∧r≤1000000000000000000)
theorem mzm_ok {sc u:Int} (hsc:1≤sc∧sc≤16777216) (hu : -32000≤u∧u≤32000):EndsX En 0 (mzmX sc u) QMz:=by
  refine fi 0 [(51,10,true),(9,9,true),(107,10,true),(14,20,false)] 44 (band (ile (1) sc) (band (ile sc (16777216)) (band (ile (-32000) u) (band (Bool.not (Bool.not (ile u (32000)))) (band (band (band (r64 (Int.mul u sc)) (band (r64 (Int.add (Int.mul u sc) (0))) (band (r64 (Int.add (Int.add (Int.mul u sc) (0)) (32768))) true))) (band (band (ieq sc sc) true) true)) true))))) [] (.tup [(zi (Int.fdiv (Int.add (Int.add (Int.mul u sc) (0)) (32768)) (65536))),(zi (0))]) [] .h (by have:=mulb (u:=u) 32000 hsc hu;(try simp only [gS]);(try simp only [gT] at *);try omega) ?_
  exact ⟨_,rfl,rfl,by have:=mulb (u:=u) 32000 hsc hu;simp only [iAdd,iSub,iMul,fdiv16,fdiv64k] at *;omega⟩
theorem cdec {p:Prop} : @decide p (Classical.propDecidable p)=true↔p:=@decide_eq_true_iff p (Classical.propDecidable p)
noncomputable def rowOK (n:Nat) (f:Nat→List AV):Bool:=@decide _ (Classical.propDecidable (∃ q K,n=q+1∧f=rowK [.i64,.i64] K∧q≤100∧∀ j k,-1000000000000≤K j k∧K j k≤1000000000000))
theorem rowOK_of {q:Nat} {K:Nat→Nat→Int} (hq:q≤100) (hK:∀ j k,-1000000000000≤K j k∧K j k≤1000000000000):rowOK (Nat.succ q) (rowK [.i64,.i64] K)=true:=by
  unfold rowOK;exact cdec.2 ⟨q,K,rfl,rfl,hq,hK⟩
noncomputable def mapSt (n:Nat) (f:Nat→List AV) (ex sty:Bool) (sc u:Int):St:=⟨getF (enterA En 60 [.agg [.int .i64 sc,.int .i64 0,.sa .h 0 n 2],.int .i64 u] false),[],[(.h,.arr n 2 f none 159 ex sty)],.o .h,1⟩
def MapsTo (n:Nat) (f:Nat→List AV) (ex sty:Bool) (sc u:Int) (p:Int × Int):Prop:=
  EndsX En 1 (mapSt n f ex sty sc u) (fun v H=>v=.tup [.int .i64 p.1,.int .i64 p.2]∧H.nx=.o .h)∧-1000000000000000000≤p.1∧p.1≤1000000000000000000
open Classical in
section
variable (n:Nat) (f:Nat→List AV) (ex sty:Bool) (sc u:Int)
include n f ex sty sc u
noncomputable def mapP:Int × Int:=if h:∃ p,MapsTo n f ex sty sc u p then Classical.choose h else (0,0)
noncomputable def mapV:Int:=(mapP n f ex sty sc u).1
noncomputable def mapE:Int:=(mapP n f ex sty sc u).2
end
theorem mapP_ok {n:Nat} {f:Nat→List AV} {ex sty:Bool} {sc u:Int} (h:∃ p,MapsTo n f ex sty sc u p):MapsTo n f ex sty sc u (mapP n f ex sty sc u):=by
  unfold mapP;rw [dif_pos h];exact Classical.choose_spec h
theorem mapV_bd (n:Nat) (f:Nat→List AV) (ex sty:Bool) (sc u:Int) : -1000000000000000000≤mapV n f ex sty sc u∧mapV n f ex sty sc u≤1000000000000000000:=by
  unfold mapV
  by_cases h:∃ p,MapsTo n f ex sty sc u p
  · exact (mapP_ok h).2
  unfold mapP;rw [dif_neg h];decide
theorem maps {n:Nat} {f:Nat→List AV} {ex sty:Bool} {sc u:Int} (h:rowOK n f=true) (hsc:1≤sc∧sc≤16777216) (hu : -32000≤u∧u≤32000):∃ p,MapsTo n f ex sty sc u p:=by
  unfold rowOK at h
  obtain ⟨q,K,rfl,rfl,hq,hK⟩:=cdec.1 h
  obtain ⟨v,S',⟨r,e,h1,h2,h3⟩,h4⟩:=mpm_ok (ex:=ex) (sty:=sty) hq hK hsc hu
  exact ⟨(r,e),⟨v,S',⟨h1,h2⟩,h4⟩,h3⟩
def ZTo (sc u r:Int):Prop:=EndsX En 0 (mzmX sc u) (fun v H=>v=.tup [.int .i64 r,.int .i64 0]∧H.nx=.h)∧-1000000000000000000≤r∧r≤1000000000000000000
open Classical in
noncomputable def mapZ (sc u:Int):Int:=if h:∃ r,ZTo sc u r then Classical.choose h else 0
theorem mapZ_ok {sc u:Int} (h:∃ r,ZTo sc u r):ZTo sc u (mapZ sc u):=by
  unfold mapZ;rw [dif_pos h];exact Classical.choose_spec h
theorem mapZ_bd (sc u:Int) : -1000000000000000000≤mapZ sc u∧mapZ sc u≤1000000000000000000:=by
  by_cases h:∃ r,ZTo sc u r
  · exact (mapZ_ok h).2
  unfold mapZ;rw [dif_neg h];decide
theorem zmaps {sc u:Int} (hsc:1≤sc∧sc≤16777216) (hu : -32000≤u∧u≤32000):∃ r,ZTo sc u r:=by
  obtain ⟨v,S',⟨r,h1,h2,h3⟩,h4⟩:=mzm_ok hsc hu
  exact ⟨r,⟨v,S',⟨h1,h2⟩,h4⟩,h3⟩
noncomputable def tbmH (args:List AV) (H:Hp):Option (Bool × AV × Hp):=match args with
  | [.agg [.int .i64 sc,.int .i64 off,.sa b e n z],.int .i64 u]=>(match T.get b H.hp with
    | some (.arr n' z' g none el ex sty)=>some ((band (ieq off 0) (band (Nat.beq e 0) (band (Nat.beq z 2) (band (Nat.beq z' 2) (band (Nat.beq el 159) (band (Nat.beq n n') (band (rowOK n g) (band (ile 1 sc) (band (ile sc 16777216) (band (ile (-32000) u) (band (ile u 32000) (keysB En.ng 1 H.nx.idx 0 1 H.fl [b])))))))))))),.tup [.int .i64 (mapV n g ex sty sc u),.int .i64 (mapE n g ex sty sc u)],H)
    | _=>none)
  | [.agg [.int .i64 sc,.int .i64 off,.nils],.int .i64 u]=>some ((band (ieq off 0) (band (ile 1 sc) (band (ile sc 16777216) (band (ile (-32000) u) (ile u 32000))))),.tup [.int .i64 (mapZ sc u),.int .i64 0],H)
  | _=>none
noncomputable def tbm:Tab:=fun f args H=>Bool.rec (tb f args H) (tbmH args H) (Nat.beq f 60)
theorem tbmOk:TabOk tbm En:=fun f args v H S' h γ w s hH ho=>by
  unfold tbm at h
  cases hf:Nat.beq f 60 with
  | false=>rw [hf] at h;exact tbOk f args v H S' h γ w s hH ho
  | true =>
    rw [hf] at h
    have ef:=Nat.eq_of_beq_eq_true hf
    subst ef
    have h:tbmH args H=some (true,v,S'):=h
    unfold tbmH at h
    split at h
    · rename_i sc off b e n z u xx
      split at h
      · rename_i n' z' g el ex sty hb
        injection h with h
        injection h with h1 h2
        injection h2 with h2 h3
        subst h2 h3
        obtain ⟨g1,h1⟩:=band_eq.1 h1
        obtain ⟨g2,h1⟩:=band_eq.1 h1
        obtain ⟨g3,h1⟩:=band_eq.1 h1
        obtain ⟨g4,h1⟩:=band_eq.1 h1
        obtain ⟨g5,h1⟩:=band_eq.1 h1
        obtain ⟨g6,h1⟩:=band_eq.1 h1
        obtain ⟨g7,h1⟩:=band_eq.1 h1
        obtain ⟨g8,h1⟩:=band_eq.1 h1
        obtain ⟨g9,h1⟩:=band_eq.1 h1
        obtain ⟨g10,h1⟩:=band_eq.1 h1
        obtain ⟨g11,g12⟩:=band_eq.1 h1
        have e1:=(ieq_iff _ _).1 g1
        have e2:=Nat.eq_of_beq_eq_true g2
        have e3:=Nat.eq_of_beq_eq_true g3
        have e4:=Nat.eq_of_beq_eq_true g4
        have e5:=Nat.eq_of_beq_eq_true g5
        have e6:=Nat.eq_of_beq_eq_true g6
        subst e1 e2 e3 e4 e5 e6
        obtain ⟨m1,_⟩:=mapP_ok (maps (ex:=ex) (sty:=sty) g7 ⟨(ile_iff _ _).1 g8,(ile_iff _ _).1 g9⟩ ⟨(ile_iff _ _).1 g10,(ile_iff _ _).1 g11⟩)
        have key:∀ (k:Nat),k=En.ng→keysB k 1 H.nx.idx 0 1 H.fl [b]=true→∃ fr',Enters En.P s w fr'∧∀ c bot,∃ γ' v' w',Steps En.P (lone fr' (c::bot) w) (lone (c.finish v') bot w')∧VR γ' (.tup [.int .i64 (mapV n g ex sty sc u),.int .i64 (mapE n g ex sty sc u)]) v'∧HR γ' En.ng H w'∧Pres H γ w H γ' w':=fun k hk hkeys=>by
          subst hk
          have hm:EndsN En (mapSt n g ex sty sc u).S.nx.idx (mapSt n g ex sty sc u).f [] (mapSt n g ex sty sc u).S _:=m1
          refine tab_read okE (f:=60) (t:=[b]) (f0:=(mapSt n g ex sty sc u).f) (H:=(mapSt n g ex sty sc u).S) (os:=(mapSt n g ex sty sc u).os) (show enterA En 60 [.agg [.int .i64 sc,.int .i64 0,.sa b 0 n 2],.int .i64 u] false=some (getF (enterA En 60 [.agg [.int .i64 sc,.int .i64 0,.sa b 0 n 2],.int .i64 u] false)) from by kernel_rfl) hkeys rfl ⟨?_,trivial⟩ (by kernel_rfl) ?_ hm (fun v1 H' q=>?_) γ w s hH ho
          · show T.get (rho En.ng 1 H.nx.idx [b] .h) H.hp=some (renO (rho En.ng 1 H.nx.idx [b]) (.arr n 2 g none 159 ex sty))
            rw [show rho En.ng 1 H.nx.idx [b] .h=b from by kernel_rfl,show renO (rho En.ng 1 H.nx.idx [b]) (.arr n 2 g none 159 ex sty)=.arr n 2 (fun j=>renL (rho En.ng 1 H.nx.idx [b]) (g j)) none 159 ex sty from by kernel_rfl]
            unfold rowOK at g7
            obtain ⟨q,K,_,rfl,_,_⟩:=cdec.1 g7
            exact hb
          · kernel_rfl
          obtain ⟨q1,q2⟩:=q
          exact ⟨q2,by rw [q1];rfl⟩
        exact key En.ng rfl g12
      cases h
    · rename_i sc off u xx
      injection h with h
      injection h with h1 h2
      injection h2 with h2 h3
      subst h2 h3
      obtain ⟨g1,h1⟩:=band_eq.1 h1
      obtain ⟨g2,h1⟩:=band_eq.1 h1
      obtain ⟨g3,h1⟩:=band_eq.1 h1
      obtain ⟨g4,g5⟩:=band_eq.1 h1
      have e1:=(ieq_iff _ _).1 g1
      subst e1
      obtain ⟨m1,_⟩:=mapZ_ok (zmaps ⟨(ile_iff _ _).1 g2,(ile_iff _ _).1 g3⟩ ⟨(ile_iff _ _).1 g4,(ile_iff _ _).1 g5⟩)
      have hm:EndsN En 0 (mzmX sc u).f [] (mzmX sc u).S _:=m1
      rw [show (0:Nat)=En.ng from ng0.symm,show (mzmX sc u).S=H0 En from by kernel_rfl] at hm
      exact tab_of okE (mzen sc u) (PureF.of_endsN (plain_of_enter (mzen sc u) (by intro x hx;cases hx with|head=>rfl|tail _ hx=>cases hx with|head=>rfl|tail _ hx=>cases hx)) rfl (hm.mono (fun v S' q=>q.1))) H γ w s hH ho
    cases h
end
noncomputable def plmX (mA:Int) (mB:Int) (mC:Int) (mD:Int) (mE:Int) (mF:Int) (px:Int) (py:Int):St:=⟨getF (enterA En 43 [(.ptr .h 0),(az [px,py])] false),[],[(.h,(ce 123 [(zi mA),(zi mB),(zi mC),(zi mD),(zi mE),(zi mF),(zi (0)),(zi (0)),.nils,(zi (0)),(zi (0)),.nils]))],J1,1⟩
noncomputable def hoomX (mA:Int) (mB:Int) (mC:Int) (mD:Int) (mE:Int) (mF:Int) (sx:Int) (sy:Int) (px:Int) (py:Int):St:=⟨getF (enterA En 44 [(.ptr .h 0),(az [px,py])] false),[],[(.h,(ce 123 [(zi mA),(zi mB),(zi mC),(zi mD),(zi mE),(zi mF),(zi sx),(zi (0)),.nils,(zi sy),(zi (0)),.nils]))],J1,1⟩
noncomputable def hoimX (mA:Int) (mB:Int) (mC:Int) (mD:Int) (mE:Int) (mF:Int) (sx:Int) (sy:Int) (q2:Nat) (K2:Nat→Nat→Int) (xb:Bool) (yb:Bool) (px:Int) (py:Int):St:=⟨getF (enterA En 44 [(.ptr .h 0),(az [px,py])] false),[],(zs [(ce 123 [(zi mA),(zi mB),(zi mC),(zi mD),(zi mE),(zi mF),(zi sx),(zi (0)),.nils,(zi sy),(zi (0)),(.sa J1 0 (Nat.succ q2) 2)]),(.arr (Nat.succ q2) 2 (rowK [.i64,.i64] K2) none 159 xb yb)]),J2,2⟩

noncomputable def hiimX (mA:Int) (mB:Int) (mC:Int) (mD:Int) (mE:Int) (mF:Int) (sx:Int) (sy:Int) (q:Nat) (K:Nat→Nat→Int) (xa:Bool) (ya:Bool) (q2:Nat) (K2:Nat→Nat→Int) (xb:Bool) (yb:Bool) (px:Int) (py:Int):St:=⟨getF (enterA En 44 [(.ptr .h 0),(az [px,py])] false),[],(zs [(ce 123 [(zi mA),(zi mB),(zi mC),(zi mD),(zi mE),(zi mF),(zi sx),(zi (0)),(.sa J1 0 (Nat.succ q) 2),(zi sy),(zi (0)),(.sa J2 0 (Nat.succ q2) 2)]),(.arr (Nat.succ q) 2 (rowK [.i64,.i64] K) none 159 xa ya),(.arr (Nat.succ q2) 2 (rowK [.i64,.i64] K2) none 159 xb yb)]),J3,3⟩
end Go.Proofs.Ytoahnefofelglaa.gm
end
