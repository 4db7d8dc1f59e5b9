/- A part of the proof of GlyphCovers; no condition. -/
import Derived.Test.YtoahnefofelglaaGlyphCovers10
set_option linter.unusedVariables false
set_option linter.unusedSimpArgs false
set_option linter.unusedSectionVars false
noncomputable section
section
namespace Go.Proofs.Ytoahnefofelglaa.gm
open Go Go.AM
section
/-- the shapes of Path's runs: stems or none (s, z), the mover plain or hinted with none, one or VH rows of knots (p, a, b, d) -/
inductive Sh|sp|sb|sd|zp|za
theorem shl {P:Sh→Prop} (h:(let g:=Sh.sp;P g)∧(let g:=Sh.sb;P g)∧(let g:=Sh.sd;P g)∧(let g:=Sh.zp;P g)∧(let g:=Sh.za;P g)):∀ g,P g
 |.sp=>h.1|.sb=>h.2.1|.sd=>h.2.2.1|.zp=>h.2.2.2.1|.za=>h.2.2.2.2
def nA:Sh→Nat|.zp|.za=>1|_=>2
def kM:Sh→Ps|.zp|.za=>J1|_=>J2
def kP:Sh→Ps|.zp|.za=>J2|_=>J3
def l1:Sh→List Ps|.sp=>[.h,J1,J2,J3,J4]|.sb=>[.h,J1,J2,J3,J4,J5]|.sd=>[.h,J1,J2,J3,J4,J5,J6]|.zp|.za=>[.h,J1,J2,J3]
def l2:Sh→List Ps|.sp=>[J2]|.sb=>[J2,J5]|.sd=>[J2,J5,J6]|.zp|.za=>[J1]
def kN:Sh→Ps|.sp=>J5|.sb=>J6|.sd=>J7|.zp|.za=>J4
def l0:Sh→List Ps|.zp|.za=>[.h]|_=>[.h,J1]
def nB:Sh→Nat|.zp|.za=>2|_=>3
def l3:Sh→List Ps|.sp=>[.h,J1,J2,J3]|.sb=>[.h,J1,J2,J3,J5]|.sd=>[.h,J1,J2,J3,J5,J6]|.zp|.za=>[.h,J1,J2]
def l4:Sh→List Ps|.zp|.za=>[.h,J2]|_=>[.h,J1,J3]
def l5:Sh→List Ps|.sp=>[.h,J1,J2,J3,J4]|.sb=>[.h,J1,J2,J3,J5,J4]|.sd=>[.h,J1,J2,J3,J6,J4,J5]|.zp|.za=>[.h,J1,J2,J3]
def l6:Sh→List Ps|.sp=>[.h,J1,J2,J3]|.sb=>[.h,J1,J2,J3,J4]|.sd=>[.h,J1,J2,J3,J4,J5]|.zp|.za=>[.h,J1,J2]
def l7:Sh→List Ps|.sp=>[.h,J1,J3,J4]|.sb=>[.h,J1,J3,J5,J4]|.sd=>[.h,J1,J3,J6,J4,J5]|.zp|.za=>[.h,J2,J3]
def kF:Sh→Ps|.sp=>J4|.sb=>J5|.sd=>J6|.zp|.za=>J3
def fN:Sh→Nat|.sp|.zp=>43|.sb|.sd|.za=>44
def k2:Sh→Ps|.zp|.za=>J3|_=>J4
def kG:Sh→Ps|.sp=>J3|.sb=>J4|.sd=>J5|.zp|.za=>J2
def la:Sh→List Ps|.zp|.za=>[.h,J1,J2]|_=>[.h,J1,J2,J3]
def lb:Sh→List Ps|.zp|.za=>[.h,J1]|_=>[.h,J1,J2]
section
variable (g:Sh) (n:Nat) (Y:Nat→Nat→Int) (ex sty:Bool) (m:Nat) (V:Nat→Bool) (S:Nat→Nat→Int) (sex ssty:Bool) (mA mB mC mD mE mF x y sx sy:Int) (q:Nat) (K:Nat→Nat→Int) (q2:Nat) (K2:Nat→Nat→Int) (oX oY oE:Int→Int→Int) (i:Nat) (far:Bool) (P:Nat→Nat→Int)
def OV:List AO:=match g with|.zp|.za=>[o7 n Y ex sty]|_=>[o7 n Y ex sty,o3 m V S sex ssty]
def XY:List AO:=match g with|.sb=>[(.arr (Nat.succ q2) 2 (a8 [.i64,.i64] K2) none 159 false false)]|.sd=>[(.arr (Nat.succ q) 2 (a8 [.i64,.i64] K) none 159 false false),(.arr (Nat.succ q2) 2 (a8 [.i64,.i64] K2) none 159 false false)]|_=>[]
def Yv (a b:Ps):AO:=ce 123 ([(zi mA),(zi mB),(zi mC),(zi mD),(zi mE),(zi mF)]++match g with|.sp|.zp=>[zi 0,zi 0,.nils,zi 0,zi 0,.nils]|.za=>[zi sx,zi 0,.nils,zi sy,zi 0,.nils]|.sb=>[zi sx,zi 0,.nils,zi sy,zi 0,.sa a 0 (Nat.succ q2) 2]|.sd=>[zi sx,zi 0,.sa a 0 (Nat.succ q) 2,zi sy,zi 0,.sa b 0 (Nat.succ q2) 2])
def EI (px py:Int):St:=match g with|.sp|.zp=>SH mA mB mC mD mE mF px py|.za=>DZ mA mB mC mD mE mF sx sy px py|.sb=>EA mA mB mC mD mE mF sx sy q2 K2 false false px py|.sd=>EB mA mB mC mD mE mF sx sy q K false false q2 K2 false false px py
def XZ:AV:=match g with|.zp|.za=>.nils|_=>.sa J1 0 m 3
def SU (sd wd:Int):St:=⟨o4 (d9 En 9 [(.agg [(zi sd),(zi wd),(.sa .h 0 n 7),XZ g m]),(az [mA,mB,mC,mD,mE,mF]),(zi x),(zi y)] false),[],zs (OV g n Y ex sty m V S sex ssty),(kM g),(nA g)⟩
def YA (sd wd:Int):St:=match g with|.zp|.za=>RU n Y ex sty sd wd|_=>Yi n Y ex sty sd wd m V S sex ssty
def KK (sd wd:Int):St:=match g with|.zp|.za=>EC n Y ex sty sd wd mA mB mC mD mE mF|_=>wY n Y ex sty sd wd m V S sex ssty mA mB mC mD mE mF
def SV (sd wd:Int):St:=⟨cf (YA g n Y ex sty m V S sex ssty sd wd) (k2 g) (l0 g),[(fr 9 118 (ts [2,3,4,5] [zi x,zi y,.ptr (kM g) 0,.ptr (kP g) 0]) [rA En 9 (pb 12) 1,cA En 9 (pb 13),cA En 9 (pb 7)])],zs (OV g n Y ex sty m V S sex ssty++[(ce 36 [(zi sd),(zi wd),(.sa .h 0 n 7),XZ g m]),(zc 39 [mA,mB,mC,mD,mE,mF])]),(k2 g),(nA g)⟩
def SW (sd wd:Int):St:=⟨cf (KK g n Y ex sty m V S sex ssty mA mB mC mD mE mF sd wd) (kP g) (l0 g),[(fr 9 118 (ts [2,3,4] [zi x,zi y,.ptr (kM g) 0]) [rA En 9 (pb 62) 2,cA En 9 (pb 63)])],zs (OV g n Y ex sty m V S sex ssty++[(ce 36 [(zi sd),(zi wd),(.sa .h 0 n 7),XZ g m])]),(kP g),(nA g)⟩
def cP:St:=⟨(fr 9 118 (ts [2,3,12,14,15,53,54,55] [zi x,zi y,.fn (fN g) [(.ptr (kM g) 0)] [],.bool far,.sa (kP g) 0 n 7,.sa .h 0 n 7,zn n,zn i]) [cA En 9 (pb 8180),lA En 9 (pb 8180),.blk 0,cA En 9 (pb 1023)]),[],zs (OV g n Y ex sty m V S sex ssty++Yv g mA mB mC mD mE mF sx sy q q2 J4 J5::(o7 n P true false)::XY g q K q2 K2),(kF g),(nA g)⟩
def VT (c j px py:Int) (r:List Int):St:=⟨cf (EI g mA mB mC mD mE mF sx sy q K q2 K2 px py) (kN g) (l2 g),[(fr 9 118 (ts [2,3,12,14,15,16,17,18,53,54,55,61,62] [zi x,zi y,.fn (fN g) [(.ptr (kM g) 0)] [],.bool far,.sa (kP g) 0 n 7,zn i,.ptr (k2 g) 0,zi j,.sa .h 0 n 7,zn n,zn i,zi c,zi j]) [rA En 9 (pb 268068146) 5,cA En 9 (pb 268068147),.blk 3,cA En 9 (pb 33508519),lA En 9 (pb 4188564),.blk 2,cA En 9 (pb 523571),.blk 1,cA En 9 (pb 65447),lA En 9 (pb 8180),.blk 0,cA En 9 (pb 1023)])],zs (OV g n Y ex sty m V S sex ssty++Yv g mA mB mC mD mE mF sx sy q q2 J5 J6::(o7 n P true false)::zc 63 r::XY g q K q2 K2),(kN g),(nA g)⟩
def YW (j:Int) (r:List Int):St:=⟨(fr 9 118 (ts [2,3,12,14,15,16,17,53,54,55,61,62] [zi x,zi y,.fn (fN g) [(.ptr (kM g) 0)] [],.bool far,.sa (kP g) 0 n 7,zn i,.ptr (k2 g) 0,.sa .h 0 n 7,zn n,zn i,zi 3,zi j]) [cA En 9 (pb 4188564),lA En 9 (pb 4188564),.blk 2,cA En 9 (pb 523571),.blk 1,cA En 9 (pb 65447),lA En 9 (pb 8180),.blk 0,cA En 9 (pb 1023)]),[],zs (OV g n Y ex sty m V S sex ssty++Yv g mA mB mC mD mE mF sx sy q q2 J5 J6::(o7 n P true false)::zc 63 r::XY g q K q2 K2),(kN g),(nA g)⟩
def SX:St:=VT g n Y ex sty m V S sex ssty mA mB mC mD mE mF x y sx sy q K q2 K2 i far P 1 0 (Y i 1) (Y i 2) [Y i 0,Y i 1,Y i 2,Y i 3,Y i 4,Y i 5,Y i 6]
def SY:St:=VT g n Y ex sty m V S sex ssty mA mB mC mD mE mF x y sx sy q K q2 K2 i far P 3 0 (Y i 1) (Y i 2) [Y i 0,Y i 1,Y i 2,Y i 3,Y i 4,Y i 5,Y i 6]
def SZ:St:=VT g n Y ex sty m V S sex ssty mA mB mC mD mE mF x y sx sy q K q2 K2 i far P 3 1 (Y i 3) (Y i 4) [Y i 0,Int.add (oX (Y i 1) (Y i 2)) (Int.mul x 16),Int.add (oY (Y i 1) (Y i 2)) (Int.mul y 16),Y i 3,Y i 4,Y i 5,Y i 6]
def TA:St:=VT g n Y ex sty m V S sex ssty mA mB mC mD mE mF x y sx sy q K q2 K2 i far P 3 2 (Y i 5) (Y i 6) [Y i 0,Int.add (oX (Y i 1) (Y i 2)) (Int.mul x 16),Int.add (oY (Y i 1) (Y i 2)) (Int.mul y 16),Int.add (oX (Y i 3) (Y i 4)) (Int.mul x 16),Int.add (oY (Y i 3) (Y i 4)) (Int.mul y 16),Y i 5,Y i 6]
def qS:St:=YW g n Y ex sty m V S sex ssty mA mB mC mD mE mF x y sx sy q K q2 K2 i far P 1 [Y i 0,Int.add (oX (Y i 1) (Y i 2)) (Int.mul x 16),Int.add (oY (Y i 1) (Y i 2)) (Int.mul y 16),Y i 3,Y i 4,Y i 5,Y i 6]
def qT:St:=YW g n Y ex sty m V S sex ssty mA mB mC mD mE mF x y sx sy q K q2 K2 i far P 2 [Y i 0,Int.add (oX (Y i 1) (Y i 2)) (Int.mul x 16),Int.add (oY (Y i 1) (Y i 2)) (Int.mul y 16),Int.add (oX (Y i 3) (Y i 4)) (Int.mul x 16),Int.add (oY (Y i 3) (Y i 4)) (Int.mul y 16),Y i 5,Y i 6]
end
abbrev kQ (i n:Nat):Bool:=(Nat.ble (Nat.succ i) n)
abbrev Jo (oX:Int→Int→Int) (Y:Nat→Nat→Int) (i:Nat) (x:Int):Int:=(Int.add (oX (Y i 5) (Y i 6)) (Int.mul x (16)))
abbrev Jp (oX:Int→Int→Int) (Y:Nat→Nat→Int) (i:Nat) (x:Int):Int:=(Int.add (oX (Y i 3) (Y i 4)) (Int.mul x (16)))
abbrev Uu (oE:Int→Int→Int) (Y:Nat→Nat→Int) (i:Nat):Bool:=(Bool.not (Bool.not (c9 (oE (Y i 5) (Y i 6)) (0))))
abbrev Uv (oE:Int→Int→Int) (Y:Nat→Nat→Int) (i:Nat):Bool:=(Bool.not (Bool.not (c9 (oE (Y i 3) (Y i 4)) (0))))
abbrev Rs (oE:Int→Int→Int) (Y:Nat→Nat→Int) (i:Nat):Bool:=(Bool.not (Bool.not (c9 (oE (Y i 1) (Y i 2)) (0))))
abbrev yF (oX:Int→Int→Int) (Y:Nat→Nat→Int) (i:Nat) (x:Int):Bool:=(f9 (-8192) (Int.add (oX (Y i 1) (Y i 2)) (Int.mul x (16))))
abbrev EJ (oY:Int→Int→Int) (Y:Nat→Nat→Int) (i:Nat) (y:Int):Bool:=(f9 (-8192) (Int.add (oY (Y i 1) (Y i 2)) (Int.mul y (16))))
abbrev EK (oX:Int→Int→Int) (Y:Nat→Nat→Int) (i:Nat) (x:Int):Bool:=(Bool.not (Bool.not (f9 (Int.add (oX (Y i 1) (Y i 2)) (Int.mul x (16))) (8192))))
abbrev OW (i n:Nat):Bool:=(a6 (a6 (kQ i n) true) (a6 (a6 (a6 (kQ i n) true) true) true))
abbrev pB (x:Int) (oX:Int→Int→Int) (Y:Nat→Nat→Int) (i:Nat) (y:Int) (oY:Int→Int→Int):Bool:=(a6 (f8 (Int.mul x (16))) (a6 (f8 (Jo oX Y i x)) (a6 (f8 (Int.mul y (16))) (a6 (f8 (Int.add (oY (Y i 5) (Y i 6)) (Int.mul y (16)))) true))))
abbrev pC (x:Int) (oX:Int→Int→Int) (Y:Nat→Nat→Int) (i:Nat) (y:Int) (oY:Int→Int→Int):Bool:=(a6 (f8 (Int.mul x (16))) (a6 (f8 (Jp oX Y i x)) (a6 (f8 (Int.mul y (16))) (a6 (f8 (Int.add (oY (Y i 3) (Y i 4)) (Int.mul y (16)))) true))))
abbrev nW (x:Int) (oX:Int→Int→Int) (Y:Nat→Nat→Int) (i:Nat) (y:Int) (oY:Int→Int→Int):Bool:=(a6 (f8 (Int.mul x (16))) (a6 (f8 (Int.add (oX (Y i 1) (Y i 2)) (Int.mul x (16)))) (a6 (f8 (Int.mul y (16))) (a6 (f8 (Int.add (oY (Y i 1) (Y i 2)) (Int.mul y (16)))) true))))
abbrev S9 (i n:Nat):Bool:=(a6 (a6 (kQ i n) true) (a6 (a6 (a6 (kQ i n) true) true) (a6 (a6 (f9 (-9223372036854775808) (.ofNat (Nat.add i 1))) (Nat.ble (Nat.add i 1) 9223372036854775807)) true)))
abbrev W3 (oE:Int→Int→Int) (Y:Nat→Nat→Int) (i:Nat) (x:Int) (oX:Int→Int→Int) (y:Int) (oY:Int→Int→Int) (zz:Bool):Bool:=(a6 (Rs oE Y i) (a6 (nW x oX Y i y oY) zz))
def YX (g:Sh) (n:Nat) (Y:Nat→Nat→Int):AV→Hp→Prop:=match g with|.zp|.za=>QG n Y|_=>VS n Y
theorem KL {g:Sh} {n:Nat} {Y:Nat→Nat→Int} {v:AV} {H:Hp} (h:YX g n Y v H):∃ e:Int,v=.int .i64 e∧H.nx=(kM g)∧(e=0→Y2 n Y):=by cases g <;> exact h
def YY (g:Sh) (k:Ps):AV:=.tup [.fn (fN g) [.ptr k 0] [],zi 0]
def ZQ (g:Sh) (mA mB mC mD mE mF sx sy:Int) (q:Nat) (K:Nat→Nat→Int) (q2:Nat) (K2:Nat→Nat→Int):AV→Hp→Prop:=fun v H=>v=YY g (kM g)∧H.nx=kG g∧match g with
 |.sp|.zp|.za=>H.hp.get (kM g)=some (Yv g mA mB mC mD mE mF sx sy q q2 J3 J4)
 |.sb=>H.hp.get J2=some (Yv .sb mA mB mC mD mE mF sx sy q q2 J3 J4)∧H.hp.get J3=some (.arr (Nat.succ q2) 2 (a8 [.i64,.i64] K2) none 159 false false)
 |.sd=>H.hp.get J2=some (Yv .sd mA mB mC mD mE mF sx sy q q2 J3 J4)∧H.hp.get J3=some (.arr (Nat.succ q) 2 (a8 [.i64,.i64] K) none 159 false false)∧H.hp.get J4=some (.arr (Nat.succ q2) 2 (a8 [.i64,.i64] K2) none 159 false false)
def ZR (g:Sh) (mA mB mC mD mE mF sx sy:Int) (q:Nat) (K:Nat→Nat→Int) (q2:Nat) (K2:Nat→Nat→Int):List (Ps×AO):=match g with
 |.sp|.zp|.za=>[(kP g,Yv g mA mB mC mD mE mF sx sy q q2 J4 J5)]
 |.sb=>[(J3,Yv .sb mA mB mC mD mE mF sx sy q q2 J4 J5),(J4,(.arr (Nat.succ q2) 2 (a8 [.i64,.i64] K2) none 159 false false))]
 |.sd=>[(J3,Yv .sd mA mB mC mD mE mF sx sy q q2 J4 J5),(J4,(.arr (Nat.succ q) 2 (a8 [.i64,.i64] K) none 159 false false)),(J5,(.arr (Nat.succ q2) 2 (a8 [.i64,.i64] K2) none 159 false false))]
section
variable {g:Sh} {n:Nat} {Y:Nat→Nat→Int} {ex sty:Bool} {m:Nat} {V:Nat→Bool} {S:Nat→Nat→Int} {sex ssty:Bool} {mA mB mC mD mE mF x y sx sy:Int} {q:Nat} {K:Nat→Nat→Int} {q2:Nat} {K2:Nat→Nat→Int} {oX oY oE:Int→Int→Int} {i:Nat} {far:Bool} {P:Nat→Nat→Int} (hmA: -2000000≤mA∧mA≤2000000) (hmB: -2000000≤mB∧mB≤2000000) (hmC: -2000000≤mC∧mC≤2000000) (hmD: -2000000≤mD∧mD≤2000000) (hmE: -40000≤mE∧mE≤40000) (hmF: -40000≤mF∧mF≤40000) (hn:n≤1000) (hY:∀ j k,-32000≤Y j k∧Y j k≤32000) (hx: -128≤x∧x≤127) (hy: -128≤y∧y≤127) (hoX:∀ j k,-1000000000000000000≤oX j k∧oX j k≤1000000000000000000) (hoY:∀ j k,-1000000000000000000≤oY j k∧oY j k≤1000000000000000000) (hmv:∀ (px py:Int),(-32000≤px∧px≤32000)→(-32000≤py∧py≤32000)→a7 En (EI g mA mB mC mD mE mF sx sy q K q2 K2 px py).nx.idx (EI g mA mB mC mD mE mF sx sy q K q2 K2 px py) (fun v H=>v=.tup [.agg [.int .i64 (oX px py),.int .i64 (oY px py)],.int .i64 (oE px py)]∧H.nx=(EI g mA mB mC mD mE mF sx sy q K q2 K2 px py).nx))
include hn hY hx hy hoX hoY hmv
theorem fQ (far0:Bool) (hi:i < n) (h3:Y i 0=3) (hF:far=false→far0=false∧pA (Int.add (oX (Y i 1) (Y i 2)) (Int.mul x (16)))∧pA (Int.add (oY (Y i 1) (Y i 2)) (Int.mul y (16)))∧pA (Int.add (oX (Y i 3) (Y i 4)) (Int.mul x (16)))∧pA (Int.add (oY (Y i 3) (Y i 4)) (Int.mul y (16)))) (ih:∀ (f:Bool) (l:List Int),I5 Y oX oY x y (i2 P i l) i→(f=false→far0=false∧fP Y (i2 P i l) i)→a7 En (nA g) (cP g n Y ex sty m V S sex ssty mA mB mC mD mE mF x y sx sy q K q2 K2 (Nat.add i 1) f (i2 P i l)) (QP n Y oX oY x y (kM g) (kP g))):a7 En (nA g) (qT g n Y ex sty m V S sex ssty mA mB mC mD mE mF x y sx sy q K q2 K2 oX oY i far P) (QP n Y oX oY x y (kM g) (kP g)):=by
 revert g
 refine @(shl ⟨?_,?_,?_,?_,?_⟩)
 all_goals
  intro g hmv ih
  have hY32:=hY
  refine ac (nA g) [] 22 true (TA g n Y ex sty m V S sex ssty mA mB mC mD mE mF x y sx sy q K q2 K2 oX oY i far P) (l1 g) [[2,3,12,14,15,16,17,18,53,54,55,61,62]] rfl ?_
  refine ca (EI g mA mB mC mD mE mF sx sy q K q2 K2 (Y i 5) (Y i 6)) (l2 g) (hmv (px:=(Y i 5)) (py:=(Y i 6)) (hY32 _ _) (hY32 _ _)) (fun v' H' q=>?_)
  rcases q with ⟨rfl,hnx6⟩
  refine ⟨(.tup [(az [oX (Y i 5) (Y i 6),oY (Y i 5) (Y i 6)]),(zi (oE (Y i 5) (Y i 6)))]),[],(kN g),(by kernel_rfl),(by rw [hnx6];kernel_rfl),trivial,(by kernel_rfl),?_⟩
  rcases ci (oE (Y i 5) (Y i 6)) (0) with ⟨b1,b1p⟩|⟨b1,b1p⟩
  ·refine fi (nA g) [(13,75,true)] 9 (a6 (Bool.not (c9 (oE (Y i 5) (Y i 6)) (0))) true) (l0 g) (.tup [.nils,(zi (oE (Y i 5) (Y i 6)))]) [] (kM g) (by (try simp only [b1,gS]);(try simp only [gT] at *);try omega) ?_
   exact .inl ⟨_,rfl,rfl,by assumption⟩
  rcases Km far with b2|b2
  ·have b2p:=b2
   rcases cl (-8192) (Int.add (oX (Y i 5) (Y i 6)) (Int.mul x (16))) with ⟨b3,b3p⟩|⟨b3,b3p⟩
   ·refine t8 (nB g) (nA g) [(13,75,false),(23,92,false),(17,9,false)] 47 ((a6 (Uu oE Y i) (a6 (pB x oX Y i y oY) (a6 (Bool.not far) (a6 (Bool.not (f9 (-8192) (Jo oX Y i x))) (S9 i n)))))) (cP g n Y ex sty m V S sex ssty mA mB mC mD mE mF x y sx sy q K q2 K2 (Nat.add i 1) true (i2 P i [(Y i 0),(Int.add (oX (Y i 1) (Y i 2)) (Int.mul x (16))),(Int.add (oY (Y i 1) (Y i 2)) (Int.mul y (16))),(Int.add (oX (Y i 3) (Y i 4)) (Int.mul x (16))),(Int.add (oY (Y i 3) (Y i 4)) (Int.mul y (16))),(Int.add (oX (Y i 5) (Y i 6)) (Int.mul x (16))),(Int.add (oY (Y i 5) (Y i 6)) (Int.mul y (16)))])) (l3 g) [2,3,12,14,15,53,54,55] [] ⟨f7 (by kernel_rfl) rfl (by kernel_rfl),by first|exact trivial|exact ⟨.inl (by kernel_rfl),trivial⟩|exact ⟨.inl (by kernel_rfl),.inl (by kernel_rfl),trivial⟩⟩ (by have:=hoX (Y i 5) (Y i 6);have:=hoY (Y i 5) (Y i 6);(try simp only [b1,b2,b3,gS,kQ,Jo,Uu,pB,S9]);(try simp only [gT] at *);try omega) ?_
    exact ih _ _ (xB h3) (fun e=>absurd e (by decide))
   rcases cl (Int.add (oX (Y i 5) (Y i 6)) (Int.mul x (16))) (8192) with ⟨b4,b4p⟩|⟨b4,b4p⟩
   ·refine t8 (nB g) (nA g) [(13,75,false),(23,92,false),(17,9,true),(11,101,true)] 36 ((a6 (Uu oE Y i) (a6 (pB x oX Y i y oY) (a6 (Bool.not far) (a6 (f9 (-8192) (Jo oX Y i x)) (a6 (Bool.not (f9 (Jo oX Y i x) (8192))) (S9 i n))))))) (cP g n Y ex sty m V S sex ssty mA mB mC mD mE mF x y sx sy q K q2 K2 (Nat.add i 1) true (i2 P i [(Y i 0),(Int.add (oX (Y i 1) (Y i 2)) (Int.mul x (16))),(Int.add (oY (Y i 1) (Y i 2)) (Int.mul y (16))),(Int.add (oX (Y i 3) (Y i 4)) (Int.mul x (16))),(Int.add (oY (Y i 3) (Y i 4)) (Int.mul y (16))),(Int.add (oX (Y i 5) (Y i 6)) (Int.mul x (16))),(Int.add (oY (Y i 5) (Y i 6)) (Int.mul y (16)))])) (l3 g) [2,3,12,14,15,53,54,55] [] ⟨f7 (by kernel_rfl) rfl (by kernel_rfl),by first|exact trivial|exact ⟨.inl (by kernel_rfl),trivial⟩|exact ⟨.inl (by kernel_rfl),.inl (by kernel_rfl),trivial⟩⟩ (by have:=hoX (Y i 5) (Y i 6);have:=hoY (Y i 5) (Y i 6);(try simp only [b1,b2,b3,b4,gS,kQ,Jo,Uu,pB,S9]);(try simp only [gT] at *);try omega) ?_
    exact ih _ _ (xB h3) (fun e=>absurd e (by decide))
   rcases cl (-8192) (Int.add (oY (Y i 5) (Y i 6)) (Int.mul y (16))) with ⟨b5,b5p⟩|⟨b5,b5p⟩
   ·refine t8 (nB g) (nA g) [(13,75,false),(23,92,false),(17,9,true),(11,101,false),(17,9,false)] 38 ((a6 (Uu oE Y i) (a6 (pB x oX Y i y oY) (a6 (Bool.not far) (a6 (f9 (-8192) (Jo oX Y i x)) (a6 (Bool.not (Bool.not (f9 (Jo oX Y i x) (8192)))) (a6 (Bool.not (f9 (-8192) (Int.add (oY (Y i 5) (Y i 6)) (Int.mul y (16))))) (S9 i n)))))))) (cP g n Y ex sty m V S sex ssty mA mB mC mD mE mF x y sx sy q K q2 K2 (Nat.add i 1) true (i2 P i [(Y i 0),(Int.add (oX (Y i 1) (Y i 2)) (Int.mul x (16))),(Int.add (oY (Y i 1) (Y i 2)) (Int.mul y (16))),(Int.add (oX (Y i 3) (Y i 4)) (Int.mul x (16))),(Int.add (oY (Y i 3) (Y i 4)) (Int.mul y (16))),(Int.add (oX (Y i 5) (Y i 6)) (Int.mul x (16))),(Int.add (oY (Y i 5) (Y i 6)) (Int.mul y (16)))])) (l3 g) [2,3,12,14,15,53,54,55] [] ⟨f7 (by kernel_rfl) rfl (by kernel_rfl),by first|exact trivial|exact ⟨.inl (by kernel_rfl),trivial⟩|exact ⟨.inl (by kernel_rfl),.inl (by kernel_rfl),trivial⟩⟩ (by have:=hoY (Y i 5) (Y i 6);have:=hoX (Y i 5) (Y i 6);(try simp only [b1,b2,b3,b4,b5,gS,kQ,Jo,Uu,pB,S9]);(try simp only [gT] at *);try omega) ?_
    exact ih _ _ (xB h3) (fun e=>absurd e (by decide))
   refine t8 (nB g) (nA g) [(13,75,false),(23,92,false),(17,9,true),(11,101,false),(17,9,true)] 38 ((a6 (Uu oE Y i) (a6 (pB x oX Y i y oY) (a6 (Bool.not far) (a6 (f9 (-8192) (Jo oX Y i x)) (a6 (Bool.not (Bool.not (f9 (Jo oX Y i x) (8192)))) (a6 (f9 (-8192) (Int.add (oY (Y i 5) (Y i 6)) (Int.mul y (16)))) (S9 i n)))))))) (cP g n Y ex sty m V S sex ssty mA mB mC mD mE mF x y sx sy q K q2 K2 (Nat.add i 1) (Bool.not (f9 (Int.add (oY (Y i 5) (Y i 6)) (Int.mul y (16))) (8192))) (i2 P i [(Y i 0),(Int.add (oX (Y i 1) (Y i 2)) (Int.mul x (16))),(Int.add (oY (Y i 1) (Y i 2)) (Int.mul y (16))),(Int.add (oX (Y i 3) (Y i 4)) (Int.mul x (16))),(Int.add (oY (Y i 3) (Y i 4)) (Int.mul y (16))),(Int.add (oX (Y i 5) (Y i 6)) (Int.mul x (16))),(Int.add (oY (Y i 5) (Y i 6)) (Int.mul y (16)))])) (l3 g) [2,3,12,14,15,53,54,55] [] ⟨f7 (by kernel_rfl) rfl (by kernel_rfl),by first|exact trivial|exact ⟨.inl (by kernel_rfl),trivial⟩|exact ⟨.inl (by kernel_rfl),.inl (by kernel_rfl),trivial⟩⟩ (by have:=hoY (Y i 5) (Y i 6);have:=hoX (Y i 5) (Y i 6);(try simp only [b1,b2,b3,b4,b5,gS,kQ,Jo,Uu,pB,S9]);(try simp only [gT] at *);try omega) ?_
   exact ih _ _ (xB h3) (fun e=>⟨(hF b2).1,ST (hF b2).2.1 (hF b2).2.2.1 (hF b2).2.2.2.1 (hF b2).2.2.2.2 ⟨b3p,b4p⟩ ⟨b5p,Fp e⟩⟩)
  have b2p:=b2
  refine t8 (nB g) (nA g) [(13,75,false),(23,92,true)] 45 ((a6 (Uu oE Y i) (a6 (pB x oX Y i y oY) (a6 far (S9 i n))))) (cP g n Y ex sty m V S sex ssty mA mB mC mD mE mF x y sx sy q K q2 K2 (Nat.add i 1) true (i2 P i [(Y i 0),(Int.add (oX (Y i 1) (Y i 2)) (Int.mul x (16))),(Int.add (oY (Y i 1) (Y i 2)) (Int.mul y (16))),(Int.add (oX (Y i 3) (Y i 4)) (Int.mul x (16))),(Int.add (oY (Y i 3) (Y i 4)) (Int.mul y (16))),(Int.add (oX (Y i 5) (Y i 6)) (Int.mul x (16))),(Int.add (oY (Y i 5) (Y i 6)) (Int.mul y (16)))])) (l3 g) [2,3,12,14,15,53,54,55] [] ⟨f7 (by kernel_rfl) rfl (by kernel_rfl),by first|exact trivial|exact ⟨.inl (by kernel_rfl),trivial⟩|exact ⟨.inl (by kernel_rfl),.inl (by kernel_rfl),trivial⟩⟩ (by have:=hoY (Y i 5) (Y i 6);have:=hoX (Y i 5) (Y i 6);(try simp only [b1,b2,gS,kQ,Jo,Uu,pB,S9]);(try simp only [gT] at *);try omega) ?_
  exact ih _ _ (xB h3) (fun e=>absurd e (by decide))
theorem fR (far0:Bool) (hi:i < n) (h3:Y i 0=3) (hF:far=false→far0=false∧pA (Int.add (oX (Y i 1) (Y i 2)) (Int.mul x (16)))∧pA (Int.add (oY (Y i 1) (Y i 2)) (Int.mul y (16)))) (ih:∀ (f:Bool) (l:List Int),I5 Y oX oY x y (i2 P i l) i→(f=false→far0=false∧fP Y (i2 P i l) i)→a7 En (nA g) (cP g n Y ex sty m V S sex ssty mA mB mC mD mE mF x y sx sy q K q2 K2 (Nat.add i 1) f (i2 P i l)) (QP n Y oX oY x y (kM g) (kP g))):a7 En (nA g) (qS g n Y ex sty m V S sex ssty mA mB mC mD mE mF x y sx sy q K q2 K2 oX oY i far P) (QP n Y oX oY x y (kM g) (kP g)):=by
 revert g
 refine @(shl ⟨?_,?_,?_,?_,?_⟩)
 all_goals
  intro g hmv ih
  have hY32:=hY
  refine ac (nA g) [] 22 true (SZ g n Y ex sty m V S sex ssty mA mB mC mD mE mF x y sx sy q K q2 K2 oX oY i far P) (l1 g) [[2,3,12,14,15,16,17,18,53,54,55,61,62]] rfl ?_
  refine ca (EI g mA mB mC mD mE mF sx sy q K q2 K2 (Y i 3) (Y i 4)) (l2 g) (hmv (px:=(Y i 3)) (py:=(Y i 4)) (hY32 _ _) (hY32 _ _)) (fun v' H' q=>?_)
  rcases q with ⟨rfl,hnx5⟩
  refine ⟨(.tup [(az [oX (Y i 3) (Y i 4),oY (Y i 3) (Y i 4)]),(zi (oE (Y i 3) (Y i 4)))]),[],(kN g),(by kernel_rfl),(by rw [hnx5];kernel_rfl),trivial,(by kernel_rfl),?_⟩
  rcases ci (oE (Y i 3) (Y i 4)) (0) with ⟨b1,b1p⟩|⟨b1,b1p⟩
  ·refine fi (nA g) [(13,75,true)] 9 (a6 (Bool.not (c9 (oE (Y i 3) (Y i 4)) (0))) true) (l0 g) (.tup [.nils,(zi (oE (Y i 3) (Y i 4)))]) [] (kM g) (by (try simp only [b1,gS]);(try simp only [gT] at *);try omega) ?_
   exact .inl ⟨_,rfl,rfl,by assumption⟩
  rcases Km far with b2|b2
  ·have b2p:=b2
   rcases cl (-8192) (Int.add (oX (Y i 3) (Y i 4)) (Int.mul x (16))) with ⟨b3,b3p⟩|⟨b3,b3p⟩
   ·refine ar (nA g) [(13,75,false),(23,92,false),(17,9,false)] 27 ((a6 (Uv oE Y i) (a6 (pC x oX Y i y oY) (a6 (Bool.not far) (a6 (Bool.not (f9 (-8192) (Jp oX Y i x))) true))))) (qT g n Y ex sty m V S sex ssty mA mB mC mD mE mF x y sx sy q K q2 K2 oX oY i true P) (l1 g) [2,3,12,14,15,16,17,53,54,55,61,62] [] (by have:=hoX (Y i 3) (Y i 4);have:=hoY (Y i 3) (Y i 4);(try simp only [b1,b2,b3,gS,Jp,Uv,pC]);(try simp only [gT] at *);try omega) ?_
    exact fQ hn hY hx hy hoX hoY hmv far0 hi h3 (fun e=>absurd e (by decide)) ih
   rcases cl (Int.add (oX (Y i 3) (Y i 4)) (Int.mul x (16))) (8192) with ⟨b4,b4p⟩|⟨b4,b4p⟩
   ·refine ar (nA g) [(13,75,false),(23,92,false),(17,9,true),(11,101,true)] 16 ((a6 (Uv oE Y i) (a6 (pC x oX Y i y oY) (a6 (Bool.not far) (a6 (f9 (-8192) (Jp oX Y i x)) (a6 (Bool.not (f9 (Jp oX Y i x) (8192))) true)))))) (qT g n Y ex sty m V S sex ssty mA mB mC mD mE mF x y sx sy q K q2 K2 oX oY i true P) (l1 g) [2,3,12,14,15,16,17,53,54,55,61,62] [] (by have:=hoX (Y i 3) (Y i 4);have:=hoY (Y i 3) (Y i 4);(try simp only [b1,b2,b3,b4,gS,Jp,Uv,pC]);(try simp only [gT] at *);try omega) ?_
    exact fQ hn hY hx hy hoX hoY hmv far0 hi h3 (fun e=>absurd e (by decide)) ih
   rcases cl (-8192) (Int.add (oY (Y i 3) (Y i 4)) (Int.mul y (16))) with ⟨b5,b5p⟩|⟨b5,b5p⟩
   ·refine ar (nA g) [(13,75,false),(23,92,false),(17,9,true),(11,101,false),(17,9,false)] 18 ((a6 (Uv oE Y i) (a6 (pC x oX Y i y oY) (a6 (Bool.not far) (a6 (f9 (-8192) (Jp oX Y i x)) (a6 (Bool.not (Bool.not (f9 (Jp oX Y i x) (8192)))) (a6 (Bool.not (f9 (-8192) (Int.add (oY (Y i 3) (Y i 4)) (Int.mul y (16))))) true))))))) (qT g n Y ex sty m V S sex ssty mA mB mC mD mE mF x y sx sy q K q2 K2 oX oY i true P) (l1 g) [2,3,12,14,15,16,17,53,54,55,61,62] [] (by have:=hoY (Y i 3) (Y i 4);have:=hoX (Y i 3) (Y i 4);(try simp only [b1,b2,b3,b4,b5,gS,Jp,Uv,pC]);(try simp only [gT] at *);try omega) ?_
    exact fQ hn hY hx hy hoX hoY hmv far0 hi h3 (fun e=>absurd e (by decide)) ih
   refine ar (nA g) [(13,75,false),(23,92,false),(17,9,true),(11,101,false),(17,9,true)] 18 ((a6 (Uv oE Y i) (a6 (pC x oX Y i y oY) (a6 (Bool.not far) (a6 (f9 (-8192) (Jp oX Y i x)) (a6 (Bool.not (Bool.not (f9 (Jp oX Y i x) (8192)))) (a6 (f9 (-8192) (Int.add (oY (Y i 3) (Y i 4)) (Int.mul y (16)))) true))))))) (qT g n Y ex sty m V S sex ssty mA mB mC mD mE mF x y sx sy q K q2 K2 oX oY i (Bool.not (f9 (Int.add (oY (Y i 3) (Y i 4)) (Int.mul y (16))) (8192))) P) (l1 g) [2,3,12,14,15,16,17,53,54,55,61,62] [] (by have:=hoY (Y i 3) (Y i 4);have:=hoX (Y i 3) (Y i 4);(try simp only [b1,b2,b3,b4,b5,gS,Jp,Uv,pC]);(try simp only [gT] at *);try omega) ?_
   exact fQ hn hY hx hy hoX hoY hmv far0 hi h3 (fun e=>⟨(hF b2).1,(hF b2).2.1,(hF b2).2.2,⟨b3p,b4p⟩,⟨b5p,Fp e⟩⟩) ih
  have b2p:=b2
  refine ar (nA g) [(13,75,false),(23,92,true)] 25 ((a6 (Uv oE Y i) (a6 (pC x oX Y i y oY) (a6 far true)))) (qT g n Y ex sty m V S sex ssty mA mB mC mD mE mF x y sx sy q K q2 K2 oX oY i true P) (l1 g) [2,3,12,14,15,16,17,53,54,55,61,62] [] (by have:=hoY (Y i 3) (Y i 4);have:=hoX (Y i 3) (Y i 4);(try simp only [b1,b2,gS,Jp,Uv,pC]);(try simp only [gT] at *);try omega) ?_
  exact fQ hn hY hx hy hoX hoY hmv far0 hi h3 (fun e=>absurd e (by decide)) ih
theorem KM (hok:Y2 n Y) (d:Nat):∀ (i:Nat) (far:Bool) (P:Nat→Nat→Int),n - i=d→i≤n→(∀ j,j < i→I5 Y oX oY x y P j)→(far=false→∀ j,j < i→fP Y P j)→a7 En (nA g) (cP g n Y ex sty m V S sex ssty mA mB mC mD mE mF x y sx sy q K q2 K2 i far P) (QP n Y oX oY x y (kM g) (kP g)):=by
 induction d using Nat.strongRecOn with
 | ind d IH =>
   intro i far P hd hi hP hN
   have hY32:=hY
   have ih:∀ (f:Bool) (l:List Int),i < n→I5 Y oX oY x y (i2 P i l) i→(f=false→far=false∧fP Y (i2 P i l) i)→a7 En (nA g) (cP g n Y ex sty m V S sex ssty mA mB mC mD mE mF x y sx sy q K q2 K2 (Nat.add i 1) f (i2 P i l)) (QP n Y oX oY x y (kM g) (kP g)):=fun f l h1 h2 h3 =>
    IH (n - (i+1)) (by omega) (i+1) f _ rfl (by omega) (fun j hj=>by
     by_cases e:j=i
     ·subst e;exact h2
     ·exact Yt e (hP j (by omega))) (fun e j hj=>by
     obtain ⟨g1,g2⟩:=h3 e
     by_cases e2:j=i
     ·subst e2;exact g2
     exact Yu e2 (hN g1 j (by omega)))
   clear IH
   revert g
   refine @(shl ⟨?_,?_,?_,?_,?_⟩)
   all_goals
    intro g hmv ih
    rcases T6 (Nat.succ i) n with ⟨b1,b1p⟩|⟨b1,b1p⟩
    ·rcases Km far with b2|b2
     ·have b2p:=b2
      refine fi (nA g) [(5,56,false),(7,116,false)] 10 ((a6 (Bool.not (kQ i n)) (a6 (Bool.not far) true))) (l4 g) (.tup [(.sa (kM g) 0 n 7),(zi (0))]) [((kM g),(o7 n P true false))] (kP g) (by (try simp only [b1,b2,gS,kQ]);(try simp only [gT] at *);try omega) ?_
      exact .inr ⟨P,rfl,rfl,rfl,fun j hj=>hP j (by omega),fun j hj=>hN b2 j (by omega),hok⟩
     have b2p:=b2
     refine fi (nA g) [(5,56,false),(7,116,true)] 8 ((a6 (Bool.not (kQ i n)) (a6 far true))) (l0 g) (.tup [.nils,(zi (26))]) [] (kM g) (by (try simp only [b1,b2,gS,kQ]);(try simp only [gT] at *);try omega) ?_
     exact .inl ⟨26,rfl,rfl,by decide⟩
    rcases ci (Y i 0) (4) with ⟨b3,b3p⟩|⟨b3,b3p⟩
    ·rcases ci (Y i 0) (3) with ⟨b4,b4p⟩|⟨b4,b4p⟩
     ·refine ac (nA g) [(5,56,true),(35,5,false),(6,7,false)] 35 ((a6 (kQ i n) (a6 (OW i n) (a6 (Bool.not (c9 (Y i 0) (4))) (a6 (Bool.not (c9 (Y i 0) (3))) true))))) (SX g n Y ex sty m V S sex ssty mA mB mC mD mE mF x y sx sy q K q2 K2 i far P) (l5 g) [[2,3,12,14,15,16,17,18,53,54,55,61,62]] (by have:=hY i 0;(try simp only [b1,b3,b4,gS,kQ,OW]);(try simp only [gT] at *);try omega) ?_
      refine ca (EI g mA mB mC mD mE mF sx sy q K q2 K2 (Y i 1) (Y i 2)) (l2 g) (hmv (px:=(Y i 1)) (py:=(Y i 2)) (hY32 _ _) (hY32 _ _)) (fun v' H' q=>?_)
      rcases q with ⟨rfl,hnx3⟩
      refine ⟨(.tup [(az [oX (Y i 1) (Y i 2),oY (Y i 1) (Y i 2)]),(zi (oE (Y i 1) (Y i 2)))]),[],(kN g),(by kernel_rfl),(by rw [hnx3];kernel_rfl),trivial,(by kernel_rfl),?_⟩
      rcases ci (oE (Y i 1) (Y i 2)) (0) with ⟨b5,b5p⟩|⟨b5,b5p⟩
      ·refine fi (nA g) [(13,75,true)] 9 (a6 (Bool.not (c9 (oE (Y i 1) (Y i 2)) (0))) true) (l0 g) (.tup [.nils,(zi (oE (Y i 1) (Y i 2)))]) [] (kM g) (by have:=hY i 0;(try simp only [b1,b3,b4,b5,gS]);(try simp only [gT] at *);try omega) ?_
       exact .inl ⟨_,rfl,rfl,by assumption⟩
      rcases Km far with b6|b6
      ·have b6p:=b6
       rcases cl (-8192) (Int.add (oX (Y i 1) (Y i 2)) (Int.mul x (16))) with ⟨b7,b7p⟩|⟨b7,b7p⟩
       ·refine t8 (nB g) (nA g) [(13,75,false),(23,92,false),(17,9,false)] 47 ((W3 oE Y i x oX y oY (a6 (Bool.not far) (a6 (Bool.not (yF oX Y i x)) (S9 i n))))) (cP g n Y ex sty m V S sex ssty mA mB mC mD mE mF x y sx sy q K q2 K2 (Nat.add i 1) true (i2 P i [(Y i 0),(Int.add (oX (Y i 1) (Y i 2)) (Int.mul x (16))),(Int.add (oY (Y i 1) (Y i 2)) (Int.mul y (16))),(Y i 3),(Y i 4),(Y i 5),(Y i 6)])) (l3 g) [2,3,12,14,15,53,54,55] [] ⟨f7 (by kernel_rfl) rfl (by kernel_rfl),by first|exact trivial|exact ⟨.inl (by kernel_rfl),trivial⟩|exact ⟨.inl (by kernel_rfl),.inl (by kernel_rfl),trivial⟩⟩ (by have:=hoX (Y i 1) (Y i 2);have:=hoY (Y i 1) (Y i 2);have:=hY i 0;(try simp only [b1,b3,b4,b5,b6,b7,gS,kQ,Rs,yF,nW,S9,W3]);(try simp only [gT] at *);try omega) ?_
        exact ih _ _ (by omega) (xA b3p b4p) (fun e=>absurd e (by decide))
       rcases cl (Int.add (oX (Y i 1) (Y i 2)) (Int.mul x (16))) (8192) with ⟨b8,b8p⟩|⟨b8,b8p⟩
       ·refine t8 (nB g) (nA g) [(13,75,false),(23,92,false),(17,9,true),(11,101,true)] 36 ((W3 oE Y i x oX y oY (a6 (Bool.not far) (a6 (yF oX Y i x) (a6 (Bool.not (f9 (Int.add (oX (Y i 1) (Y i 2)) (Int.mul x (16))) (8192))) (S9 i n)))))) (cP g n Y ex sty m V S sex ssty mA mB mC mD mE mF x y sx sy q K q2 K2 (Nat.add i 1) true (i2 P i [(Y i 0),(Int.add (oX (Y i 1) (Y i 2)) (Int.mul x (16))),(Int.add (oY (Y i 1) (Y i 2)) (Int.mul y (16))),(Y i 3),(Y i 4),(Y i 5),(Y i 6)])) (l3 g) [2,3,12,14,15,53,54,55] [] ⟨f7 (by kernel_rfl) rfl (by kernel_rfl),by first|exact trivial|exact ⟨.inl (by kernel_rfl),trivial⟩|exact ⟨.inl (by kernel_rfl),.inl (by kernel_rfl),trivial⟩⟩ (by have:=hoX (Y i 1) (Y i 2);have:=hoY (Y i 1) (Y i 2);have:=hY i 0;(try simp only [b1,b3,b4,b5,b6,b7,b8,gS,kQ,Rs,yF,nW,S9,W3]);(try simp only [gT] at *);try omega) ?_
        exact ih _ _ (by omega) (xA b3p b4p) (fun e=>absurd e (by decide))
       rcases cl (-8192) (Int.add (oY (Y i 1) (Y i 2)) (Int.mul y (16))) with ⟨b9,b9p⟩|⟨b9,b9p⟩
       ·refine t8 (nB g) (nA g) [(13,75,false),(23,92,false),(17,9,true),(11,101,false),(17,9,false)] 38 ((W3 oE Y i x oX y oY (a6 (Bool.not far) (a6 (yF oX Y i x) (a6 (EK oX Y i x) (a6 (Bool.not (EJ oY Y i y)) (S9 i n))))))) (cP g n Y ex sty m V S sex ssty mA mB mC mD mE mF x y sx sy q K q2 K2 (Nat.add i 1) true (i2 P i [(Y i 0),(Int.add (oX (Y i 1) (Y i 2)) (Int.mul x (16))),(Int.add (oY (Y i 1) (Y i 2)) (Int.mul y (16))),(Y i 3),(Y i 4),(Y i 5),(Y i 6)])) (l3 g) [2,3,12,14,15,53,54,55] [] ⟨f7 (by kernel_rfl) rfl (by kernel_rfl),by first|exact trivial|exact ⟨.inl (by kernel_rfl),trivial⟩|exact ⟨.inl (by kernel_rfl),.inl (by kernel_rfl),trivial⟩⟩ (by have:=hoY (Y i 1) (Y i 2);have:=hoX (Y i 1) (Y i 2);have:=hY i 0;(try simp only [b1,b3,b4,b5,b6,b7,b8,b9,gS,kQ,Rs,yF,EJ,EK,nW,S9,W3]);(try simp only [gT] at *);try omega) ?_
        exact ih _ _ (by omega) (xA b3p b4p) (fun e=>absurd e (by decide))
       refine t8 (nB g) (nA g) [(13,75,false),(23,92,false),(17,9,true),(11,101,false),(17,9,true)] 38 ((W3 oE Y i x oX y oY (a6 (Bool.not far) (a6 (yF oX Y i x) (a6 (EK oX Y i x) (a6 (EJ oY Y i y) (S9 i n))))))) (cP g n Y ex sty m V S sex ssty mA mB mC mD mE mF x y sx sy q K q2 K2 (Nat.add i 1) (Bool.not (f9 (Int.add (oY (Y i 1) (Y i 2)) (Int.mul y (16))) (8192))) (i2 P i [(Y i 0),(Int.add (oX (Y i 1) (Y i 2)) (Int.mul x (16))),(Int.add (oY (Y i 1) (Y i 2)) (Int.mul y (16))),(Y i 3),(Y i 4),(Y i 5),(Y i 6)])) (l3 g) [2,3,12,14,15,53,54,55] [] ⟨f7 (by kernel_rfl) rfl (by kernel_rfl),by first|exact trivial|exact ⟨.inl (by kernel_rfl),trivial⟩|exact ⟨.inl (by kernel_rfl),.inl (by kernel_rfl),trivial⟩⟩ (by have:=hoY (Y i 1) (Y i 2);have:=hoX (Y i 1) (Y i 2);have:=hY i 0;(try simp only [b1,b3,b4,b5,b6,b7,b8,b9,gS,kQ,Rs,yF,EJ,EK,nW,S9,W3]);(try simp only [gT] at *);try omega) ?_
       exact ih _ _ (by omega) (xA b3p b4p) (fun e=>⟨b6,SS b4p ⟨b7p,b8p⟩ ⟨b9p,Fp e⟩⟩)
      have b6p:=b6
      refine t8 (nB g) (nA g) [(13,75,false),(23,92,true)] 45 ((W3 oE Y i x oX y oY (a6 far (S9 i n)))) (cP g n Y ex sty m V S sex ssty mA mB mC mD mE mF x y sx sy q K q2 K2 (Nat.add i 1) true (i2 P i [(Y i 0),(Int.add (oX (Y i 1) (Y i 2)) (Int.mul x (16))),(Int.add (oY (Y i 1) (Y i 2)) (Int.mul y (16))),(Y i 3),(Y i 4),(Y i 5),(Y i 6)])) (l3 g) [2,3,12,14,15,53,54,55] [] ⟨f7 (by kernel_rfl) rfl (by kernel_rfl),by first|exact trivial|exact ⟨.inl (by kernel_rfl),trivial⟩|exact ⟨.inl (by kernel_rfl),.inl (by kernel_rfl),trivial⟩⟩ (by have:=hoY (Y i 1) (Y i 2);have:=hoX (Y i 1) (Y i 2);have:=hY i 0;(try simp only [b1,b3,b4,b5,b6,gS,kQ,Rs,nW,S9,W3]);(try simp only [gT] at *);try omega) ?_
      exact ih _ _ (by omega) (xA b3p b4p) (fun e=>absurd e (by decide))
     refine ac (nA g) [(5,56,true),(35,5,false),(6,7,true)] 33 ((a6 (kQ i n) (a6 (OW i n) (a6 (Bool.not (c9 (Y i 0) (4))) (a6 (c9 (Y i 0) (3)) true))))) (SY g n Y ex sty m V S sex ssty mA mB mC mD mE mF x y sx sy q K q2 K2 i far P) (l5 g) [[2,3,12,14,15,16,17,18,53,54,55,61,62]] (by have:=hY i 0;(try simp only [b1,b3,b4,gS,kQ,OW]);(try simp only [gT] at *);try omega) ?_
     refine ca (EI g mA mB mC mD mE mF sx sy q K q2 K2 (Y i 1) (Y i 2)) (l2 g) (hmv (px:=(Y i 1)) (py:=(Y i 2)) (hY32 _ _) (hY32 _ _)) (fun v' H' q=>?_)
     rcases q with ⟨rfl,hnx4⟩
     refine ⟨(.tup [(az [oX (Y i 1) (Y i 2),oY (Y i 1) (Y i 2)]),(zi (oE (Y i 1) (Y i 2)))]),[],(kN g),(by kernel_rfl),(by rw [hnx4];kernel_rfl),trivial,(by kernel_rfl),?_⟩
     rcases ci (oE (Y i 1) (Y i 2)) (0) with ⟨b10,b10p⟩|⟨b10,b10p⟩
     ·refine fi (nA g) [(13,75,true)] 9 (a6 (Bool.not (c9 (oE (Y i 1) (Y i 2)) (0))) true) (l0 g) (.tup [.nils,(zi (oE (Y i 1) (Y i 2)))]) [] (kM g) (by have:=hY i 0;(try simp only [b1,b3,b4,b10,gS]);(try simp only [gT] at *);try omega) ?_
      exact .inl ⟨_,rfl,rfl,by assumption⟩
     rcases Km far with b11|b11
     ·have b11p:=b11
      rcases cl (-8192) (Int.add (oX (Y i 1) (Y i 2)) (Int.mul x (16))) with ⟨b12,b12p⟩|⟨b12,b12p⟩
      ·refine ar (nA g) [(13,75,false),(23,92,false),(17,9,false)] 27 ((W3 oE Y i x oX y oY (a6 (Bool.not far) (a6 (Bool.not (yF oX Y i x)) true)))) (qS g n Y ex sty m V S sex ssty mA mB mC mD mE mF x y sx sy q K q2 K2 oX oY i true P) (l1 g) [2,3,12,14,15,16,17,53,54,55,61,62] [] (by have:=hoX (Y i 1) (Y i 2);have:=hoY (Y i 1) (Y i 2);have:=hY i 0;(try simp only [b1,b3,b4,b10,b11,b12,gS,Rs,yF,nW,W3]);(try simp only [gT] at *);try omega) ?_
       exact fR hn hY hx hy hoX hoY hmv far (by omega) b4p (fun e=>absurd e (by decide)) (fun f l a b=>ih f l (by omega) a b)
      rcases cl (Int.add (oX (Y i 1) (Y i 2)) (Int.mul x (16))) (8192) with ⟨b13,b13p⟩|⟨b13,b13p⟩
      ·refine ar (nA g) [(13,75,false),(23,92,false),(17,9,true),(11,101,true)] 16 ((W3 oE Y i x oX y oY (a6 (Bool.not far) (a6 (yF oX Y i x) (a6 (Bool.not (f9 (Int.add (oX (Y i 1) (Y i 2)) (Int.mul x (16))) (8192))) true))))) (qS g n Y ex sty m V S sex ssty mA mB mC mD mE mF x y sx sy q K q2 K2 oX oY i true P) (l1 g) [2,3,12,14,15,16,17,53,54,55,61,62] [] (by have:=hoX (Y i 1) (Y i 2);have:=hoY (Y i 1) (Y i 2);have:=hY i 0;(try simp only [b1,b3,b4,b10,b11,b12,b13,gS,Rs,yF,nW,W3]);(try simp only [gT] at *);try omega) ?_
       exact fR hn hY hx hy hoX hoY hmv far (by omega) b4p (fun e=>absurd e (by decide)) (fun f l a b=>ih f l (by omega) a b)
      rcases cl (-8192) (Int.add (oY (Y i 1) (Y i 2)) (Int.mul y (16))) with ⟨b14,b14p⟩|⟨b14,b14p⟩
      ·refine ar (nA g) [(13,75,false),(23,92,false),(17,9,true),(11,101,false),(17,9,false)] 18 ((W3 oE Y i x oX y oY (a6 (Bool.not far) (a6 (yF oX Y i x) (a6 (EK oX Y i x) (a6 (Bool.not (EJ oY Y i y)) true)))))) (qS g n Y ex sty m V S sex ssty mA mB mC mD mE mF x y sx sy q K q2 K2 oX oY i true P) (l1 g) [2,3,12,14,15,16,17,53,54,55,61,62] [] (by have:=hoY (Y i 1) (Y i 2);have:=hoX (Y i 1) (Y i 2);have:=hY i 0;(try simp only [b1,b3,b4,b10,b11,b12,b13,b14,gS,Rs,yF,EJ,EK,nW,W3]);(try simp only [gT] at *);try omega) ?_
       exact fR hn hY hx hy hoX hoY hmv far (by omega) b4p (fun e=>absurd e (by decide)) (fun f l a b=>ih f l (by omega) a b)
      refine ar (nA g) [(13,75,false),(23,92,false),(17,9,true),(11,101,false),(17,9,true)] 18 ((W3 oE Y i x oX y oY (a6 (Bool.not far) (a6 (yF oX Y i x) (a6 (EK oX Y i x) (a6 (EJ oY Y i y) true)))))) (qS g n Y ex sty m V S sex ssty mA mB mC mD mE mF x y sx sy q K q2 K2 oX oY i (Bool.not (f9 (Int.add (oY (Y i 1) (Y i 2)) (Int.mul y (16))) (8192))) P) (l1 g) [2,3,12,14,15,16,17,53,54,55,61,62] [] (by have:=hoY (Y i 1) (Y i 2);have:=hoX (Y i 1) (Y i 2);have:=hY i 0;(try simp only [b1,b3,b4,b10,b11,b12,b13,b14,gS,Rs,yF,EJ,EK,nW,W3]);(try simp only [gT] at *);try omega) ?_
      exact fR hn hY hx hy hoX hoY hmv far (by omega) b4p (fun e=>⟨b11,⟨b12p,b13p⟩,⟨b14p,Fp e⟩⟩) (fun f l a b=>ih f l (by omega) a b)
     have b11p:=b11
     refine ar (nA g) [(13,75,false),(23,92,true)] 25 ((W3 oE Y i x oX y oY (a6 far true))) (qS g n Y ex sty m V S sex ssty mA mB mC mD mE mF x y sx sy q K q2 K2 oX oY i true P) (l1 g) [2,3,12,14,15,16,17,53,54,55,61,62] [] (by have:=hoY (Y i 1) (Y i 2);have:=hoX (Y i 1) (Y i 2);have:=hY i 0;(try simp only [b1,b3,b4,b10,b11,gS,Rs,nW,W3]);(try simp only [gT] at *);try omega) ?_
     exact fR hn hY hx hy hoX hoY hmv far (by omega) b4p (fun e=>absurd e (by decide)) (fun f l a b=>ih f l (by omega) a b)
    refine t8 (nB g) (nA g) [(5,56,true),(35,5,true)] 31 ((a6 (kQ i n) (a6 (OW i n) (a6 (c9 (Y i 0) (4)) (S9 i n))))) (cP g n Y ex sty m V S sex ssty mA mB mC mD mE mF x y sx sy q K q2 K2 (Nat.add i 1) far (i2 P i [(Y i 0),(Y i 1),(Y i 2),(Y i 3),(Y i 4),(Y i 5),(Y i 6)])) (l6 g) [2,3,12,14,15,53,54,55] [] ⟨f7 (by kernel_rfl) rfl (by kernel_rfl),by first|exact trivial|exact ⟨.inl (by kernel_rfl),trivial⟩|exact ⟨.inl (by kernel_rfl),.inl (by kernel_rfl),trivial⟩⟩ (by have:=hY i 0;(try simp only [b1,b3,gS,kQ,OW,S9]);(try simp only [gT] at *);try omega) ?_
    exact ih _ _ (by omega) (SP b3p) (fun e=>⟨e,SQ b3p⟩)
include hmA hmB hmC hmD hmE hmF in
theorem nX {sd wd:Int} (hck:a7 En (nA g) (YA g n Y ex sty m V S sex ssty sd wd) (YX g n Y)) (hof:a7 En (nA g) (KK g n Y ex sty m V S sex ssty mA mB mC mD mE mF sd wd) (ZQ g mA mB mC mD mE mF sx sy q K q2 K2)):a7 En (nA g) (SU g n Y ex sty m V S sex ssty mA mB mC mD mE mF x y sd wd) (QP n Y oX oY x y (kM g) (kP g)):=by
 have ho:=@KM g n Y ex sty m V S sex ssty mA mB mC mD mE mF x y sx sy q K q2 K2 oX oY oE hn hY hx hy hoX hoY hmv
 revert g
 refine @(shl ⟨?_,?_,?_,?_,?_⟩)
 all_goals
  intro g hmv hck hof ho
  refine ac (nA g) [] 12 true (SV g n Y ex sty m V S sex ssty mA mB mC mD mE mF x y sd wd) (la g) [[2,3,4,5]] rfl ?_
  refine ca (YA g n Y ex sty m V S sex ssty sd wd) (l0 g) hck (fun v' H' w=>?_)
  obtain ⟨e,rfl,hnx1,hg⟩:=KL w
  refine ⟨(zi e),[],(k2 g),(by kernel_rfl),(by rw [hnx1];kernel_rfl),trivial,(by kernel_rfl),?_⟩
  rcases ci e (0) with ⟨b1,b1p⟩|⟨b1,b1p⟩
  ·refine fi (nA g) [(7,24,true)] 9 (a6 (Bool.not (c9 e (0))) true) (l0 g) (.tup [.nils,(zi e)]) [] (kM g) (by (try simp only [b1,gS]);(try simp only [gT] at *);try omega) ?_
   exact .inl ⟨_,rfl,rfl,by assumption⟩
  refine ac (nA g) [(7,24,false),(60,17,false),(5,21,false),(30,17,false),(5,21,false),(30,17,false),(5,21,false),(30,17,false),(5,21,false),(63,17,false),(5,21,false),(30,17,false),(5,21,false),(55,9,true),(10,34,false),(13,9,true),(11,38,false)] 7 (a6 (Bool.not (Bool.not (c9 e (0)))) (a6 (Bool.not (i4 mA (-16777216))) (a6 (Bool.not (i4 (16777216) mA)) (a6 (Bool.not (i4 mB (-16777216))) (a6 (Bool.not (i4 (16777216) mB)) (a6 (Bool.not (i4 mC (-16777216))) (a6 (Bool.not (i4 (16777216) mC)) (a6 (Bool.not (i4 mD (-16777216))) (a6 (Bool.not (i4 (16777216) mD)) (a6 (Bool.not (i4 mE (-536870912))) (a6 (Bool.not (i4 (536870912) mE)) (a6 (Bool.not (i4 mF (-536870912))) (a6 (Bool.not (i4 (536870912) mF)) (a6 (f9 (-600) x) (a6 (Bool.not (Bool.not (f9 x (600)))) (a6 (f9 (-600) y) (a6 (Bool.not (Bool.not (f9 y (600)))) true))))))))))))))))) (SW g n Y ex sty m V S sex ssty mA mB mC mD mE mF x y sd wd) (lb g) [[2,3,4]] (by (try simp only [b1,gS]);(try simp only [gT] at *);try omega) ?_
  refine ca (KK g n Y ex sty m V S sex ssty mA mB mC mD mE mF sd wd) (l0 g) hof (fun v' H' w=>?_)
  rcases w with ⟨rfl,hnx2,hh⟩
  refine ⟨YY g (kP g),ZR g mA mB mC mD mE mF sx sy q K q2 K2,(kF g),(by kernel_rfl),(by rw [hnx2];kernel_rfl),?_,(by kernel_rfl),?_⟩
  ·first|exact ⟨⟨_,_,(Nat.le_of_ble_eq_true (by kernel_rfl)),(by show _=_;kernel_rfl),hh,(by show _=_;kernel_rfl)⟩,trivial⟩|exact ⟨⟨_,_,(Nat.le_of_ble_eq_true (by kernel_rfl)),(by show _=_;kernel_rfl),hh.1,(by show _=_;kernel_rfl)⟩,⟨_,_,(Nat.le_of_ble_eq_true (by kernel_rfl)),(by show _=_;kernel_rfl),hh.2,(by show _=_;kernel_rfl)⟩,trivial⟩|exact ⟨⟨_,_,(Nat.le_of_ble_eq_true (by kernel_rfl)),(by show _=_;kernel_rfl),hh.1,(by show _=_;kernel_rfl)⟩,⟨_,_,(Nat.le_of_ble_eq_true (by kernel_rfl)),(by show _=_;kernel_rfl),hh.2.1,(by show _=_;kernel_rfl)⟩,⟨_,_,(Nat.le_of_ble_eq_true (by kernel_rfl)),(by show _=_;kernel_rfl),hh.2.2,(by show _=_;kernel_rfl)⟩,trivial⟩
  refine ar (nA g) [] 36 (a6 (a6 (a6 (Nat.beq n n) (a6 (Nat.ble n 1099511627776) (Nat.ble (Nat.mul 56 n) 1099511627776))) true) true) (cP g n Y ex sty m V S sex ssty mA mB mC mD mE mF x y sx sy q K q2 K2 0 false (fun _ _=>0)) (l7 g) [2,3,12,14,15,53,54,55] [] (by (try simp only [b1,gS]);(try simp only [gT] at *);try omega) ?_
  exact ho (hg b1p) (n - 0) 0 false _ rfl (by omega) (fun j hj=>by omega) (fun _ j hj=>by omega)
end
end
section
variable (n:Nat) (Y:Nat→Nat→Int) (ex sty:Bool) (sd wd:Int) (m:Nat) (V:Nat→Bool) (S:Nat→Nat→Int) (sex ssty:Bool) (mA mB mC mD mE mF x y e_1:Int)
def EL:St:=⟨o4 (d9 En 9 [(.agg [(zi sd),(zi wd),(.sa .h 0 n 7),(.sa J1 0 m 3)]),(az [mA,mB,mC,mD,mE,mF]),(zi x),(zi y)] false),[],(zs [(o7 n Y ex sty),(o3 m V S sex ssty)]),J2,2⟩
def KN:St:=⟨cf (Yi n Y ex sty sd wd m V S sex ssty) J4 [.h,J1],[(fr 9 118 (ts [2,3,4,5] [zi x,zi y,.ptr J2 0,.ptr J3 0]) [rA En 9 (pb 12) 1,cA En 9 (pb 13),cA En 9 (pb 7)])],(zs [(o7 n Y ex sty),(o3 m V S sex ssty),(ce 36 [(zi sd),(zi wd),(.sa .h 0 n 7),(.sa J1 0 m 3)]),(zc 39 [mA,mB,mC,mD,mE,mF])]),J4,2⟩
def KO:St:=⟨cf (wY n Y ex sty sd wd m V S sex ssty mA mB mC mD mE mF) J3 [.h,J1],[(fr 9 118 (ts [2,3,4] [zi x,zi y,.ptr J2 0]) [rA En 9 (pb 62) 2,cA En 9 (pb 63)])],(zs [(o7 n Y ex sty),(o3 m V S sex ssty),(ce 36 [(zi sd),(zi wd),(.sa .h 0 n 7),(.sa J1 0 m 3)])]),J3,2⟩
end
theorem Yw {n:Nat} {Y:Nat→Nat→Int} {ex:Bool} {sty:Bool} {sd:Int} {wd:Int} {m:Nat} {V:Nat→Bool} {S:Nat→Nat→Int} {sex:Bool} {ssty:Bool} {mA:Int} {mB:Int} {mC:Int} {mD:Int} {mE:Int} {mF:Int} {x:Int} {y:Int} (hn:n≤1000) (hY:∀ j k,-32000≤Y j k∧Y j k≤32000) (hm8:m≤8) (hS:∀ j k,-32000≤S j k∧S j k≤32000) (hsort:G0 m V S) (hmA : -2000000≤mA∧mA≤2000000) (hmB : -2000000≤mB∧mB≤2000000) (hmC : -2000000≤mC∧mC≤2000000) (hmD : -2000000≤mD∧mD≤2000000) (hmE : -40000≤mE∧mE≤40000) (hmF : -40000≤mF∧mF≤40000) (hx : -128≤x∧x≤127) (hy : -128≤y∧y≤127) (hof:a7 En 2 (wY n Y ex sty sd wd m V S sex ssty mA mB mC mD mE mF) (fun v H=>v=(.tup [.nilf,(zi (2))])∧H.nx=.i .h)):a7 En 2 (EL n Y ex sty sd wd m V S sex ssty mA mB mC mD mE mF x y) (QP n Y (fun _ _=>0) (fun _ _=>0) x y J2 J3):=by
 have hY9:∀ j k,-1000000000≤Y j k∧Y j k≤1000000000:=fun j k=>by have:=hY j k;omega
 refine ac 2 [] 12 true (KN n Y ex sty sd wd m V S sex ssty mA mB mC mD mE mF x y) [.h,J1,J2,J3] [[2,3,4,5]] rfl ?_
 refine ca (Yi n Y ex sty sd wd m V S sex ssty) [.h,J1] (tP (n:=n) (Y:=Y) (ex:=ex) (sty:=sty) (sd:=sd) (wd:=wd) (m:=m) (V:=V) (S:=S) (sex:=sex) (ssty:=ssty) hY9 hn hm8 hS hsort) (fun v' H' q=>?_)
 rcases q with ⟨e_1,rfl,hnx1,hg_1⟩
 refine ⟨(zi e_1),[],J4,(by kernel_rfl),(by rw [hnx1];kernel_rfl),trivial,(by kernel_rfl),?_⟩
 rcases ci e_1 (0) with ⟨b1,b1p⟩|⟨b1,b1p⟩
 ·refine fi 2 [(7,24,true)] 9 (a6 (Bool.not (c9 e_1 (0))) true) [.h,J1] (.tup [.nils,(zi e_1)]) [] J2 (by (try simp only [b1,gS]);(try simp only [gT] at *);try omega) ?_
  exact .inl ⟨_,rfl,rfl,by assumption⟩
 refine ac 2 [(7,24,false),(60,17,false),(5,21,false),(30,17,false),(5,21,false),(30,17,false),(5,21,false),(30,17,false),(5,21,false),(63,17,false),(5,21,false),(30,17,false),(5,21,false),(55,9,true),(10,34,false),(13,9,true),(11,38,false)] 7 (a6 (Bool.not (Bool.not (c9 e_1 (0)))) (a6 (Bool.not (i4 mA (-16777216))) (a6 (Bool.not (i4 (16777216) mA)) (a6 (Bool.not (i4 mB (-16777216))) (a6 (Bool.not (i4 (16777216) mB)) (a6 (Bool.not (i4 mC (-16777216))) (a6 (Bool.not (i4 (16777216) mC)) (a6 (Bool.not (i4 mD (-16777216))) (a6 (Bool.not (i4 (16777216) mD)) (a6 (Bool.not (i4 mE (-536870912))) (a6 (Bool.not (i4 (536870912) mE)) (a6 (Bool.not (i4 mF (-536870912))) (a6 (Bool.not (i4 (536870912) mF)) (a6 (f9 (-600) x) (a6 (Bool.not (Bool.not (f9 x (600)))) (a6 (f9 (-600) y) (a6 (Bool.not (Bool.not (f9 y (600)))) true))))))))))))))))) (KO n Y ex sty sd wd m V S sex ssty mA mB mC mD mE mF x y) [.h,J1,J2] [[2,3,4]] (by (try simp only [b1,gS]);(try simp only [gT] at *);try omega) ?_
 refine ca (wY n Y ex sty sd wd m V S sex ssty mA mB mC mD mE mF) [.h,J1] (hof) (fun v' H' q=>?_)
 rcases q with ⟨rfl,hnx2⟩
 refine ⟨(.tup [.nilf,(zi (2))]),[],J3,(by kernel_rfl),(by rw [hnx2];kernel_rfl),trivial,(by kernel_rfl),?_⟩
 refine fi 2 [] 21 true [.h,J1] (.tup [.nils,(zi (2))]) [] J2 rfl ?_
 exact .inl ⟨2,rfl,rfl,by decide⟩
section
variable (sd wd:Int) (m:Nat) (V:Nat→Bool) (S:Nat→Nat→Int) (sex ssty:Bool) (mA mB mC mD mE mF x y e_1:Int)
def Rt:St:=⟨o4 (d9 En 9 [(.agg [(zi sd),(zi wd),.nils,(.sa .h 0 m 3)]),(az [mA,mB,mC,mD,mE,mF]),(zi x),(zi y)] false),[],[(.h,(o3 m V S sex ssty))],J1,1⟩
def Yx:St:=⟨cf (fO sd wd m V S sex ssty) J3 [.h],[(fr 9 118 (ts [2,3,4,5] [zi x,zi y,.ptr J1 0,.ptr J2 0]) [rA En 9 (pb 12) 1,cA En 9 (pb 13),cA En 9 (pb 7)])],(zs [(o3 m V S sex ssty),(ce 36 [(zi sd),(zi wd),.nils,(.sa .h 0 m 3)]),(zc 39 [mA,mB,mC,mD,mE,mF])]),J3,1⟩
def Yy:St:=⟨cf (M3 sd wd m V S sex ssty mA mB mC mD mE mF) J2 [.h],[(fr 9 118 (ts [2,3,4] [zi x,zi y,.ptr J1 0]) [rA En 9 (pb 62) 2,cA En 9 (pb 63)])],(zs [(o3 m V S sex ssty),(ce 36 [(zi sd),(zi wd),.nils,(.sa .h 0 m 3)])]),J2,1⟩
end
theorem Ru {sd:Int} {wd:Int} {m:Nat} {V:Nat→Bool} {S:Nat→Nat→Int} {sex:Bool} {ssty:Bool} {mA:Int} {mB:Int} {mC:Int} {mD:Int} {mE:Int} {mF:Int} {x:Int} {y:Int} (hm8:m≤8) (hS:∀ j k,-32000≤S j k∧S j k≤32000) (hsort:G0 m V S) (hmA : -2000000≤mA∧mA≤2000000) (hmB : -2000000≤mB∧mB≤2000000) (hmC : -2000000≤mC∧mC≤2000000) (hmD : -2000000≤mD∧mD≤2000000) (hmE : -40000≤mE∧mE≤40000) (hmF : -40000≤mF∧mF≤40000) (hx : -128≤x∧x≤127) (hy : -128≤y∧y≤127) (hof:a7 En 1 (M3 sd wd m V S sex ssty mA mB mC mD mE mF) (fun v H=>v=(.tup [.nilf,(zi (2))])∧H.nx=.o .h)):a7 En 1 (Rt sd wd m V S sex ssty mA mB mC mD mE mF x y) (QP 0 (fun _ _=>0) (fun _ _=>0) (fun _ _=>0) x y J1 J2):=by
 refine ac 1 [] 12 true (Yx sd wd m V S sex ssty mA mB mC mD mE mF x y) [.h,J1,J2] [[2,3,4,5]] rfl ?_
 refine ca (fO sd wd m V S sex ssty) [.h] (kO (sd:=sd) (wd:=wd) (m:=m) (V:=V) (S:=S) (sex:=sex) (ssty:=ssty) hm8 hS hsort) (fun v' H' q=>?_)
 rcases q with ⟨e_1,rfl,hnx1⟩
 refine ⟨(zi e_1),[],J3,(by kernel_rfl),(by rw [hnx1];kernel_rfl),trivial,(by kernel_rfl),?_⟩
 rcases ci e_1 (0) with ⟨b1,b1p⟩|⟨b1,b1p⟩
 ·refine fi 1 [(7,24,true)] 9 (a6 (Bool.not (c9 e_1 (0))) true) [.h] (.tup [.nils,(zi e_1)]) [] J1 (by (try simp only [b1,gS]);(try simp only [gT] at *);try omega) ?_
  exact .inl ⟨_,rfl,rfl,by assumption⟩
 refine ac 1 [(7,24,false),(60,17,false),(5,21,false),(30,17,false),(5,21,false),(30,17,false),(5,21,false),(30,17,false),(5,21,false),(63,17,false),(5,21,false),(30,17,false),(5,21,false),(55,9,true),(10,34,false),(13,9,true),(11,38,false)] 7 (a6 (Bool.not (Bool.not (c9 e_1 (0)))) (a6 (Bool.not (i4 mA (-16777216))) (a6 (Bool.not (i4 (16777216) mA)) (a6 (Bool.not (i4 mB (-16777216))) (a6 (Bool.not (i4 (16777216) mB)) (a6 (Bool.not (i4 mC (-16777216))) (a6 (Bool.not (i4 (16777216) mC)) (a6 (Bool.not (i4 mD (-16777216))) (a6 (Bool.not (i4 (16777216) mD)) (a6 (Bool.not (i4 mE (-536870912))) (a6 (Bool.not (i4 (536870912) mE)) (a6 (Bool.not (i4 mF (-536870912))) (a6 (Bool.not (i4 (536870912) mF)) (a6 (f9 (-600) x) (a6 (Bool.not (Bool.not (f9 x (600)))) (a6 (f9 (-600) y) (a6 (Bool.not (Bool.not (f9 y (600)))) true))))))))))))))))) (Yy sd wd m V S sex ssty mA mB mC mD mE mF x y) [.h,J1] [[2,3,4]] (by (try simp only [b1,gS]);(try simp only [gT] at *);try omega) ?_
 refine ca (M3 sd wd m V S sex ssty mA mB mC mD mE mF) [.h] (hof) (fun v' H' q=>?_)
 rcases q with ⟨rfl,hnx2⟩
 refine ⟨(.tup [.nilf,(zi (2))]),[],J2,(by kernel_rfl),(by rw [hnx2];kernel_rfl),trivial,(by kernel_rfl),?_⟩
 refine fi 1 [] 21 true [.h] (.tup [.nils,(zi (2))]) [] J1 rfl ?_
 exact .inl ⟨2,rfl,rfl,by decide⟩
section
variable (sd wd:Int) (m:Nat) (V:Nat→Bool) (S:Nat→Nat→Int) (sex ssty:Bool) (mA mB mC mD mE mF x y e_1:Int)
def KP:St:=⟨o4 (d9 En 9 [(.agg [(zi sd),(zi wd),.nils,(.sa .h 0 m 3)]),(az [mA,mB,mC,mD,mE,mF]),(zi x),(zi y)] false),[],[(.h,(o3 m V S sex ssty))],J1,1⟩
def Yz:St:=⟨cf (fO sd wd m V S sex ssty) J3 [.h],[(fr 9 118 (ts [2,3,4,5] [zi x,zi y,.ptr J1 0,.ptr J2 0]) [rA En 9 (pb 12) 1,cA En 9 (pb 13),cA En 9 (pb 7)])],(zs [(o3 m V S sex ssty),(ce 36 [(zi sd),(zi wd),.nils,(.sa .h 0 m 3)]),(zc 39 [mA,mB,mC,mD,mE,mF])]),J3,1⟩
def Za:St:=⟨cf (M3 sd wd m V S sex ssty mA mB mC mD mE mF) J2 [.h],[(fr 9 118 (ts [2,3,4] [zi x,zi y,.ptr J1 0]) [rA En 9 (pb 62) 2,cA En 9 (pb 63)])],(zs [(o3 m V S sex ssty),(ce 36 [(zi sd),(zi wd),.nils,(.sa .h 0 m 3)])]),J2,1⟩
end
theorem Rv {sd:Int} {wd:Int} {m:Nat} {V:Nat→Bool} {S:Nat→Nat→Int} {sex:Bool} {ssty:Bool} {mA:Int} {mB:Int} {mC:Int} {mD:Int} {mE:Int} {mF:Int} {x:Int} {y:Int} {oX:Int→Int→Int} {oY:Int→Int→Int} {oE:Int→Int→Int} (hm8:m≤8) (hS:∀ j k,-32000≤S j k∧S j k≤32000) (hsort:G0 m V S) (hmA : -2000000≤mA∧mA≤2000000) (hmB : -2000000≤mB∧mB≤2000000) (hmC : -2000000≤mC∧mC≤2000000) (hmD : -2000000≤mD∧mD≤2000000) (hmE : -40000≤mE∧mE≤40000) (hmF : -40000≤mF∧mF≤40000) (hx : -128≤x∧x≤127) (hy : -128≤y∧y≤127) (hoX:∀ j k,-1000000000000000000≤oX j k∧oX j k≤1000000000000000000) (hoY:∀ j k,-1000000000000000000≤oY j k∧oY j k≤1000000000000000000) (hof:a7 En 1 (M3 sd wd m V S sex ssty mA mB mC mD mE mF) (fun v H=>v=(.tup [(.fn 43 [(.ptr J1 0)] []),(zi (0))])∧H.nx=.i .h∧H.hp.get J1=some (ce 123 [(zi mA),(zi mB),(zi mC),(zi mD),(zi mE),(zi mF),(zi (0)),(zi (0)),.nils,(zi (0)),(zi (0)),.nils]))):a7 En 1 (KP sd wd m V S sex ssty mA mB mC mD mE mF x y) (QP 0 (fun _ _=>0) oX oY x y J1 J2):=by
 refine ac 1 [] 12 true (Yz sd wd m V S sex ssty mA mB mC mD mE mF x y) [.h,J1,J2] [[2,3,4,5]] rfl ?_
 refine ca (fO sd wd m V S sex ssty) [.h] (kO (sd:=sd) (wd:=wd) (m:=m) (V:=V) (S:=S) (sex:=sex) (ssty:=ssty) hm8 hS hsort) (fun v' H' q=>?_)
 rcases q with ⟨e_1,rfl,hnx1⟩
 refine ⟨(zi e_1),[],J3,(by kernel_rfl),(by rw [hnx1];kernel_rfl),trivial,(by kernel_rfl),?_⟩
 rcases ci e_1 (0) with ⟨b1,b1p⟩|⟨b1,b1p⟩
 ·refine fi 1 [(7,24,true)] 9 (a6 (Bool.not (c9 e_1 (0))) true) [.h] (.tup [.nils,(zi e_1)]) [] J1 (by (try simp only [b1,gS]);(try simp only [gT] at *);try omega) ?_
  exact .inl ⟨_,rfl,rfl,by assumption⟩
 refine ac 1 [(7,24,false),(60,17,false),(5,21,false),(30,17,false),(5,21,false),(30,17,false),(5,21,false),(30,17,false),(5,21,false),(63,17,false),(5,21,false),(30,17,false),(5,21,false),(55,9,true),(10,34,false),(13,9,true),(11,38,false)] 7 (a6 (Bool.not (Bool.not (c9 e_1 (0)))) (a6 (Bool.not (i4 mA (-16777216))) (a6 (Bool.not (i4 (16777216) mA)) (a6 (Bool.not (i4 mB (-16777216))) (a6 (Bool.not (i4 (16777216) mB)) (a6 (Bool.not (i4 mC (-16777216))) (a6 (Bool.not (i4 (16777216) mC)) (a6 (Bool.not (i4 mD (-16777216))) (a6 (Bool.not (i4 (16777216) mD)) (a6 (Bool.not (i4 mE (-536870912))) (a6 (Bool.not (i4 (536870912) mE)) (a6 (Bool.not (i4 mF (-536870912))) (a6 (Bool.not (i4 (536870912) mF)) (a6 (f9 (-600) x) (a6 (Bool.not (Bool.not (f9 x (600)))) (a6 (f9 (-600) y) (a6 (Bool.not (Bool.not (f9 y (600)))) true))))))))))))))))) (Za sd wd m V S sex ssty mA mB mC mD mE mF x y) [.h,J1] [[2,3,4]] (by (try simp only [b1,gS]);(try simp only [gT] at *);try omega) ?_
 refine ca (M3 sd wd m V S sex ssty mA mB mC mD mE mF) [.h] (hof) (fun v' H' q=>?_)
 rcases q with ⟨rfl,hnx2,ho0_2⟩
 refine ⟨(.tup [(.fn 43 [(.ptr J2 0)] []),(zi (0))]),[(J2,(ce 123 [(zi mA),(zi mB),(zi mC),(zi mD),(zi mE),(zi mF),(zi (0)),(zi (0)),.nils,(zi (0)),(zi (0)),.nils]))],J3,(by kernel_rfl),(by rw [hnx2];kernel_rfl),⟨⟨J1,_,(Nat.le_of_ble_eq_true (by kernel_rfl)),(by show _=_;kernel_rfl),ho0_2,(by show _=_;kernel_rfl)⟩,trivial⟩,(by kernel_rfl),?_⟩
 refine fi 1 [] 58 true [.h,J3] (.tup [(.sa J1 0 0 7),(zi (0))]) [(J1,(o7 0 (fun _ _=>0) true false))] J2 rfl ?_
 exact .inr ⟨_,rfl,rfl,rfl,fun j hj=>by omega,fun j hj=>by omega,⟨by omega,fun j hj=>by omega⟩⟩
section
variable (sd wd:Int) (m:Nat) (V:Nat→Bool) (S:Nat→Nat→Int) (sex ssty:Bool) (mA mB mC mD mE mF x y e_1 sx sy:Int) (q2:Nat) (K2:Nat→Nat→Int)
def KR:St:=⟨o4 (d9 En 9 [(.agg [(zi sd),(zi wd),.nils,(.sa .h 0 m 3)]),(az [mA,mB,mC,mD,mE,mF]),(zi x),(zi y)] false),[],[(.h,(o3 m V S sex ssty))],J1,1⟩
def Zb:St:=⟨cf (fO sd wd m V S sex ssty) J3 [.h],[(fr 9 118 (ts [2,3,4,5] [zi x,zi y,.ptr J1 0,.ptr J2 0]) [rA En 9 (pb 12) 1,cA En 9 (pb 13),cA En 9 (pb 7)])],(zs [(o3 m V S sex ssty),(ce 36 [(zi sd),(zi wd),.nils,(.sa .h 0 m 3)]),(zc 39 [mA,mB,mC,mD,mE,mF])]),J3,1⟩
def Zc:St:=⟨cf (M3 sd wd m V S sex ssty mA mB mC mD mE mF) J2 [.h],[(fr 9 118 (ts [2,3,4] [zi x,zi y,.ptr J1 0]) [rA En 9 (pb 62) 2,cA En 9 (pb 63)])],(zs [(o3 m V S sex ssty),(ce 36 [(zi sd),(zi wd),.nils,(.sa .h 0 m 3)])]),J2,1⟩
end
theorem Rw {sd:Int} {wd:Int} {m:Nat} {V:Nat→Bool} {S:Nat→Nat→Int} {sex:Bool} {ssty:Bool} {mA:Int} {mB:Int} {mC:Int} {mD:Int} {mE:Int} {mF:Int} {x:Int} {y:Int} {sx:Int} {sy:Int} {q2:Nat} {K2:Nat→Nat→Int} {oX:Int→Int→Int} {oY:Int→Int→Int} {oE:Int→Int→Int} (hm8:m≤8) (hS:∀ j k,-32000≤S j k∧S j k≤32000) (hsort:G0 m V S) (hmA : -2000000≤mA∧mA≤2000000) (hmB : -2000000≤mB∧mB≤2000000) (hmC : -2000000≤mC∧mC≤2000000) (hmD : -2000000≤mD∧mD≤2000000) (hmE : -40000≤mE∧mE≤40000) (hmF : -40000≤mF∧mF≤40000) (hx : -128≤x∧x≤127) (hy : -128≤y∧y≤127) (hsx:1≤sx∧sx≤16777216) (hsy:1≤sy∧sy≤16777216) (hq2:q2≤100) (hoX:∀ j k,-1000000000000000000≤oX j k∧oX j k≤1000000000000000000) (hoY:∀ j k,-1000000000000000000≤oY j k∧oY j k≤1000000000000000000) (hof:a7 En 1 (M3 sd wd m V S sex ssty mA mB mC mD mE mF) (fun v H=>v=(.tup [(.fn 44 [(.ptr J1 0)] []),(zi (0))])∧H.nx=.o J1∧H.hp.get J1=some (ce 123 [(zi mA),(zi mB),(zi mC),(zi mD),(zi mE),(zi mF),(zi sx),(zi (0)),.nils,(zi sy),(zi (0)),(.sa J2 0 (Nat.succ q2) 2)])∧H.hp.get J2=some (.arr (Nat.succ q2) 2 (a8 [.i64,.i64] K2) none 159 false false))):a7 En 1 (KR sd wd m V S sex ssty mA mB mC mD mE mF x y) (QP 0 (fun _ _=>0) oX oY x y J1 J2):=by
 refine ac 1 [] 12 true (Zb sd wd m V S sex ssty mA mB mC mD mE mF x y) [.h,J1,J2] [[2,3,4,5]] rfl ?_
 refine ca (fO sd wd m V S sex ssty) [.h] (kO (sd:=sd) (wd:=wd) (m:=m) (V:=V) (S:=S) (sex:=sex) (ssty:=ssty) hm8 hS hsort) (fun v' H' q=>?_)
 rcases q with ⟨e_1,rfl,hnx1⟩
 refine ⟨(zi e_1),[],J3,(by kernel_rfl),(by rw [hnx1];kernel_rfl),trivial,(by kernel_rfl),?_⟩
 rcases ci e_1 (0) with ⟨b1,b1p⟩|⟨b1,b1p⟩
 ·refine fi 1 [(7,24,true)] 9 (a6 (Bool.not (c9 e_1 (0))) true) [.h] (.tup [.nils,(zi e_1)]) [] J1 (by (try simp only [b1,gS]);(try simp only [gT] at *);try omega) ?_
  exact .inl ⟨_,rfl,rfl,by assumption⟩
 refine ac 1 [(7,24,false),(60,17,false),(5,21,false),(30,17,false),(5,21,false),(30,17,false),(5,21,false),(30,17,false),(5,21,false),(63,17,false),(5,21,false),(30,17,false),(5,21,false),(55,9,true),(10,34,false),(13,9,true),(11,38,false)] 7 (a6 (Bool.not (Bool.not (c9 e_1 (0)))) (a6 (Bool.not (i4 mA (-16777216))) (a6 (Bool.not (i4 (16777216) mA)) (a6 (Bool.not (i4 mB (-16777216))) (a6 (Bool.not (i4 (16777216) mB)) (a6 (Bool.not (i4 mC (-16777216))) (a6 (Bool.not (i4 (16777216) mC)) (a6 (Bool.not (i4 mD (-16777216))) (a6 (Bool.not (i4 (16777216) mD)) (a6 (Bool.not (i4 mE (-536870912))) (a6 (Bool.not (i4 (536870912) mE)) (a6 (Bool.not (i4 mF (-536870912))) (a6 (Bool.not (i4 (536870912) mF)) (a6 (f9 (-600) x) (a6 (Bool.not (Bool.not (f9 x (600)))) (a6 (f9 (-600) y) (a6 (Bool.not (Bool.not (f9 y (600)))) true))))))))))))))))) (Zc sd wd m V S sex ssty mA mB mC mD mE mF x y) [.h,J1] [[2,3,4]] (by (try simp only [b1,gS]);(try simp only [gT] at *);try omega) ?_
 refine ca (M3 sd wd m V S sex ssty mA mB mC mD mE mF) [.h] (hof) (fun v' H' q=>?_)
 rcases q with ⟨rfl,hnx2,ho0_2,ho1_2⟩
 refine ⟨(.tup [(.fn 44 [(.ptr J2 0)] []),(zi (0))]),[(J2,(ce 123 [(zi mA),(zi mB),(zi mC),(zi mD),(zi mE),(zi mF),(zi sx),(zi (0)),.nils,(zi sy),(zi (0)),(.sa J3 0 (Nat.succ q2) 2)])),(J3,(.arr (Nat.succ q2) 2 (a8 [.i64,.i64] K2) none 159 false false))],J4,(by kernel_rfl),(by rw [hnx2];kernel_rfl),⟨⟨J1,_,(Nat.le_of_ble_eq_true (by kernel_rfl)),(by show _=_;kernel_rfl),ho0_2,(by show _=_;kernel_rfl)⟩,⟨J2,_,(Nat.le_of_ble_eq_true (by kernel_rfl)),(by show _=_;kernel_rfl),ho1_2,(by show _=_;kernel_rfl)⟩,trivial⟩,(by kernel_rfl),?_⟩
 refine fi 1 [] 58 true [.h,J4] (.tup [(.sa J1 0 0 7),(zi (0))]) [(J1,(o7 0 (fun _ _=>0) true false))] J2 rfl ?_
 exact .inr ⟨_,rfl,rfl,rfl,fun j hj=>by omega,fun j hj=>by omega,⟨by omega,fun j hj=>by omega⟩⟩
section
variable (sd wd:Int) (m:Nat) (V:Nat→Bool) (S:Nat→Nat→Int) (sex ssty:Bool) (mA mB mC mD mE mF x y e_1 sx sy:Int) (q:Nat) (K:Nat→Nat→Int) (q2:Nat) (K2:Nat→Nat→Int)
def KS:St:=⟨o4 (d9 En 9 [(.agg [(zi sd),(zi wd),.nils,(.sa .h 0 m 3)]),(az [mA,mB,mC,mD,mE,mF]),(zi x),(zi y)] false),[],[(.h,(o3 m V S sex ssty))],J1,1⟩
def Zd:St:=⟨cf (fO sd wd m V S sex ssty) J3 [.h],[(fr 9 118 (ts [2,3,4,5] [zi x,zi y,.ptr J1 0,.ptr J2 0]) [rA En 9 (pb 12) 1,cA En 9 (pb 13),cA En 9 (pb 7)])],(zs [(o3 m V S sex ssty),(ce 36 [(zi sd),(zi wd),.nils,(.sa .h 0 m 3)]),(zc 39 [mA,mB,mC,mD,mE,mF])]),J3,1⟩
def Ze:St:=⟨cf (M3 sd wd m V S sex ssty mA mB mC mD mE mF) J2 [.h],[(fr 9 118 (ts [2,3,4] [zi x,zi y,.ptr J1 0]) [rA En 9 (pb 62) 2,cA En 9 (pb 63)])],(zs [(o3 m V S sex ssty),(ce 36 [(zi sd),(zi wd),.nils,(.sa .h 0 m 3)])]),J2,1⟩
end
theorem Rx {sd:Int} {wd:Int} {m:Nat} {V:Nat→Bool} {S:Nat→Nat→Int} {sex:Bool} {ssty:Bool} {mA:Int} {mB:Int} {mC:Int} {mD:Int} {mE:Int} {mF:Int} {x:Int} {y:Int} {sx:Int} {sy:Int} {q:Nat} {K:Nat→Nat→Int} {q2:Nat} {K2:Nat→Nat→Int} {oX:Int→Int→Int} {oY:Int→Int→Int} {oE:Int→Int→Int} (hm8:m≤8) (hS:∀ j k,-32000≤S j k∧S j k≤32000) (hsort:G0 m V S) (hmA : -2000000≤mA∧mA≤2000000) (hmB : -2000000≤mB∧mB≤2000000) (hmC : -2000000≤mC∧mC≤2000000) (hmD : -2000000≤mD∧mD≤2000000) (hmE : -40000≤mE∧mE≤40000) (hmF : -40000≤mF∧mF≤40000) (hx : -128≤x∧x≤127) (hy : -128≤y∧y≤127) (hsx:1≤sx∧sx≤16777216) (hsy:1≤sy∧sy≤16777216) (hq:q≤100) (hq2:q2≤100) (hoX:∀ j k,-1000000000000000000≤oX j k∧oX j k≤1000000000000000000) (hoY:∀ j k,-1000000000000000000≤oY j k∧oY j k≤1000000000000000000) (hof:a7 En 1 (M3 sd wd m V S sex ssty mA mB mC mD mE mF) (fun v H=>v=(.tup [(.fn 44 [(.ptr J1 0)] []),(zi (0))])∧H.nx=.i J1∧H.hp.get J1=some (ce 123 [(zi mA),(zi mB),(zi mC),(zi mD),(zi mE),(zi mF),(zi sx),(zi (0)),(.sa J2 0 (Nat.succ q) 2),(zi sy),(zi (0)),(.sa J3 0 (Nat.succ q2) 2)])∧H.hp.get J2=some (.arr (Nat.succ q) 2 (a8 [.i64,.i64] K) none 159 false false)∧H.hp.get J3=some (.arr (Nat.succ q2) 2 (a8 [.i64,.i64] K2) none 159 false false))):a7 En 1 (KS sd wd m V S sex ssty mA mB mC mD mE mF x y) (QP 0 (fun _ _=>0) oX oY x y J1 J2):=by
 refine ac 1 [] 12 true (Zd sd wd m V S sex ssty mA mB mC mD mE mF x y) [.h,J1,J2] [[2,3,4,5]] rfl ?_
 refine ca (fO sd wd m V S sex ssty) [.h] (kO (sd:=sd) (wd:=wd) (m:=m) (V:=V) (S:=S) (sex:=sex) (ssty:=ssty) hm8 hS hsort) (fun v' H' q=>?_)
 rcases q with ⟨e_1,rfl,hnx1⟩
 refine ⟨(zi e_1),[],J3,(by kernel_rfl),(by rw [hnx1];kernel_rfl),trivial,(by kernel_rfl),?_⟩
 rcases ci e_1 (0) with ⟨b1,b1p⟩|⟨b1,b1p⟩
 ·refine fi 1 [(7,24,true)] 9 (a6 (Bool.not (c9 e_1 (0))) true) [.h] (.tup [.nils,(zi e_1)]) [] J1 (by (try simp only [b1,gS]);(try simp only [gT] at *);try omega) ?_
  exact .inl ⟨_,rfl,rfl,by assumption⟩
 refine ac 1 [(7,24,false),(60,17,false),(5,21,false),(30,17,false),(5,21,false),(30,17,false),(5,21,false),(30,17,false),(5,21,false),(63,17,false),(5,21,false),(30,17,false),(5,21,false),(55,9,true),(10,34,false),(13,9,true),(11,38,false)] 7 (a6 (Bool.not (Bool.not (c9 e_1 (0)))) (a6 (Bool.not (i4 mA (-16777216))) (a6 (Bool.not (i4 (16777216) mA)) (a6 (Bool.not (i4 mB (-16777216))) (a6 (Bool.not (i4 (16777216) mB)) (a6 (Bool.not (i4 mC (-16777216))) (a6 (Bool.not (i4 (16777216) mC)) (a6 (Bool.not (i4 mD (-16777216))) (a6 (Bool.not (i4 (16777216) mD)) (a6 (Bool.not (i4 mE (-536870912))) (a6 (Bool.not (i4 (536870912) mE)) (a6 (Bool.not (i4 mF (-536870912))) (a6 (Bool.not (i4 (536870912) mF)) (a6 (f9 (-600) x) (a6 (Bool.not (Bool.not (f9 x (600)))) (a6 (f9 (-600) y) (a6 (Bool.not (Bool.not (f9 y (600)))) true))))))))))))))))) (Ze sd wd m V S sex ssty mA mB mC mD mE mF x y) [.h,J1] [[2,3,4]] (by (try simp only [b1,gS]);(try simp only [gT] at *);try omega) ?_
 refine ca (M3 sd wd m V S sex ssty mA mB mC mD mE mF) [.h] (hof) (fun v' H' q=>?_)
 rcases q with ⟨rfl,hnx2,ho0_2,ho1_2,ho2_2⟩
 refine ⟨(.tup [(.fn 44 [(.ptr J2 0)] []),(zi (0))]),[(J2,(ce 123 [(zi mA),(zi mB),(zi mC),(zi mD),(zi mE),(zi mF),(zi sx),(zi (0)),(.sa J3 0 (Nat.succ q) 2),(zi sy),(zi (0)),(.sa J4 0 (Nat.succ q2) 2)])),(J3,(.arr (Nat.succ q) 2 (a8 [.i64,.i64] K) none 159 false false)),(J4,(.arr (Nat.succ q2) 2 (a8 [.i64,.i64] K2) none 159 false false))],J5,(by kernel_rfl),(by rw [hnx2];kernel_rfl),⟨⟨J1,_,(Nat.le_of_ble_eq_true (by kernel_rfl)),(by show _=_;kernel_rfl),ho0_2,(by show _=_;kernel_rfl)⟩,⟨J2,_,(Nat.le_of_ble_eq_true (by kernel_rfl)),(by show _=_;kernel_rfl),ho1_2,(by show _=_;kernel_rfl)⟩,⟨J3,_,(Nat.le_of_ble_eq_true (by kernel_rfl)),(by show _=_;kernel_rfl),ho2_2,(by show _=_;kernel_rfl)⟩,trivial⟩,(by kernel_rfl),?_⟩
 refine fi 1 [] 58 true [.h,J5] (.tup [(.sa J1 0 0 7),(zi (0))]) [(J1,(o7 0 (fun _ _=>0) true false))] J2 rfl ?_
 exact .inr ⟨_,rfl,rfl,rfl,fun j hj=>by omega,fun j hj=>by omega,⟨by omega,fun j hj=>by omega⟩⟩
section
variable (sd wd mA mB mC mD mE mF x y e_1:Int)
def Ry:St:=⟨o4 (d9 En 9 [(.agg [(zi sd),(zi wd),.nils,.nils]),(az [mA,mB,mC,mD,mE,mF]),(zi x),(zi y)] false),[],[],.h,0⟩
def Zf:St:=⟨cf (wZ sd wd) J2 [],[(fr 9 118 (ts [2,3,4,5] [zi x,zi y,.ptr .h 0,.ptr J1 0]) [rA En 9 (pb 12) 1,cA En 9 (pb 13),cA En 9 (pb 7)])],(zs [(ce 36 [(zi sd),(zi wd),.nils,.nils]),(zc 39 [mA,mB,mC,mD,mE,mF])]),J2,0⟩
def Zg:St:=⟨cf (dV sd wd mA mB mC mD mE mF) J1 [],[(fr 9 118 (ts [2,3,4] [zi x,zi y,.ptr .h 0]) [rA En 9 (pb 62) 2,cA En 9 (pb 63)])],[(.h,(ce 36 [(zi sd),(zi wd),.nils,.nils]))],J1,0⟩
end
theorem Rz {sd:Int} {wd:Int} {mA:Int} {mB:Int} {mC:Int} {mD:Int} {mE:Int} {mF:Int} {x:Int} {y:Int} {oX:Int→Int→Int} {oY:Int→Int→Int} {oE:Int→Int→Int} (hmA : -2000000≤mA∧mA≤2000000) (hmB : -2000000≤mB∧mB≤2000000) (hmC : -2000000≤mC∧mC≤2000000) (hmD : -2000000≤mD∧mD≤2000000) (hmE : -40000≤mE∧mE≤40000) (hmF : -40000≤mF∧mF≤40000) (hx : -128≤x∧x≤127) (hy : -128≤y∧y≤127) (hoX:∀ j k,-1000000000000000000≤oX j k∧oX j k≤1000000000000000000) (hoY:∀ j k,-1000000000000000000≤oY j k∧oY j k≤1000000000000000000) (hof:a7 En 0 (dV sd wd mA mB mC mD mE mF) (fun v H=>v=(.tup [(.fn 43 [(.ptr (.h) 0)] []),(zi (0))])∧H.nx=.o .h∧H.hp.get (.h)=some (ce 123 [(zi mA),(zi mB),(zi mC),(zi mD),(zi mE),(zi mF),(zi (0)),(zi (0)),.nils,(zi (0)),(zi (0)),.nils]))):a7 En 0 (Ry sd wd mA mB mC mD mE mF x y) (QP 0 (fun _ _=>0) oX oY x y (.h) J1):=by
 refine ac 0 [] 12 true (Zf sd wd mA mB mC mD mE mF x y) [.h,J1] [[2,3,4,5]] rfl ?_
 refine ca (wZ sd wd) [] (Fo (sd:=sd) (wd:=wd)) (fun v' H' q=>?_)
 rcases q with ⟨e_1,rfl,hnx1⟩
 refine ⟨(zi e_1),[],J2,(by kernel_rfl),(by rw [hnx1];kernel_rfl),trivial,(by kernel_rfl),?_⟩
 rcases ci e_1 (0) with ⟨b1,b1p⟩|⟨b1,b1p⟩
 ·refine fi 0 [(7,24,true)] 9 (a6 (Bool.not (c9 e_1 (0))) true) [] (.tup [.nils,(zi e_1)]) [] .h (by (try simp only [b1,gS]);(try simp only [gT] at *);try omega) ?_
  exact .inl ⟨_,rfl,rfl,by assumption⟩
 refine ac 0 [(7,24,false),(60,17,false),(5,21,false),(30,17,false),(5,21,false),(30,17,false),(5,21,false),(30,17,false),(5,21,false),(63,17,false),(5,21,false),(30,17,false),(5,21,false),(55,9,true),(10,34,false),(13,9,true),(11,38,false)] 7 (a6 (Bool.not (Bool.not (c9 e_1 (0)))) (a6 (Bool.not (i4 mA (-16777216))) (a6 (Bool.not (i4 (16777216) mA)) (a6 (Bool.not (i4 mB (-16777216))) (a6 (Bool.not (i4 (16777216) mB)) (a6 (Bool.not (i4 mC (-16777216))) (a6 (Bool.not (i4 (16777216) mC)) (a6 (Bool.not (i4 mD (-16777216))) (a6 (Bool.not (i4 (16777216) mD)) (a6 (Bool.not (i4 mE (-536870912))) (a6 (Bool.not (i4 (536870912) mE)) (a6 (Bool.not (i4 mF (-536870912))) (a6 (Bool.not (i4 (536870912) mF)) (a6 (f9 (-600) x) (a6 (Bool.not (Bool.not (f9 x (600)))) (a6 (f9 (-600) y) (a6 (Bool.not (Bool.not (f9 y (600)))) true))))))))))))))))) (Zg sd wd mA mB mC mD mE mF x y) [.h] [[2,3,4]] (by (try simp only [b1,gS]);(try simp only [gT] at *);try omega) ?_
 refine ca (dV sd wd mA mB mC mD mE mF) [] (hof) (fun v' H' q=>?_)
 rcases q with ⟨rfl,hnx2,ho0_2⟩
 refine ⟨(.tup [(.fn 43 [(.ptr J1 0)] []),(zi (0))]),[(J1,(ce 123 [(zi mA),(zi mB),(zi mC),(zi mD),(zi mE),(zi mF),(zi (0)),(zi (0)),.nils,(zi (0)),(zi (0)),.nils]))],J2,(by kernel_rfl),(by rw [hnx2];kernel_rfl),⟨⟨.h,_,(Nat.le_of_ble_eq_true (by kernel_rfl)),(by show _=_;kernel_rfl),ho0_2,(by show _=_;kernel_rfl)⟩,trivial⟩,(by kernel_rfl),?_⟩
 refine fi 0 [] 58 true [J2] (.tup [(.sa .h 0 0 7),(zi (0))]) [(.h,(o7 0 (fun _ _=>0) true false))] J1 rfl ?_
 exact .inr ⟨_,rfl,rfl,rfl,fun j hj=>by omega,fun j hj=>by omega,⟨by omega,fun j hj=>by omega⟩⟩
section
variable (sd wd mA mB mC mD mE mF x y e_1 sx sy:Int)
def KT:St:=⟨o4 (d9 En 9 [(.agg [(zi sd),(zi wd),.nils,.nils]),(az [mA,mB,mC,mD,mE,mF]),(zi x),(zi y)] false),[],[],.h,0⟩
def Zh:St:=⟨cf (wZ sd wd) J2 [],[(fr 9 118 (ts [2,3,4,5] [zi x,zi y,.ptr .h 0,.ptr J1 0]) [rA En 9 (pb 12) 1,cA En 9 (pb 13),cA En 9 (pb 7)])],(zs [(ce 36 [(zi sd),(zi wd),.nils,.nils]),(zc 39 [mA,mB,mC,mD,mE,mF])]),J2,0⟩
def Zi:St:=⟨cf (dV sd wd mA mB mC mD mE mF) J1 [],[(fr 9 118 (ts [2,3,4] [zi x,zi y,.ptr .h 0]) [rA En 9 (pb 62) 2,cA En 9 (pb 63)])],[(.h,(ce 36 [(zi sd),(zi wd),.nils,.nils]))],J1,0⟩
end
theorem Sa {sd:Int} {wd:Int} {mA:Int} {mB:Int} {mC:Int} {mD:Int} {mE:Int} {mF:Int} {x:Int} {y:Int} {sx:Int} {sy:Int} {oX:Int→Int→Int} {oY:Int→Int→Int} {oE:Int→Int→Int} (hmA : -2000000≤mA∧mA≤2000000) (hmB : -2000000≤mB∧mB≤2000000) (hmC : -2000000≤mC∧mC≤2000000) (hmD : -2000000≤mD∧mD≤2000000) (hmE : -40000≤mE∧mE≤40000) (hmF : -40000≤mF∧mF≤40000) (hx : -128≤x∧x≤127) (hy : -128≤y∧y≤127) (hsx:1≤sx∧sx≤16777216) (hsy:1≤sy∧sy≤16777216) (hoX:∀ j k,-1000000000000000000≤oX j k∧oX j k≤1000000000000000000) (hoY:∀ j k,-1000000000000000000≤oY j k∧oY j k≤1000000000000000000) (hof:a7 En 0 (dV sd wd mA mB mC mD mE mF) (fun v H=>v=(.tup [(.fn 44 [(.ptr (.h) 0)] []),(zi (0))])∧H.nx=.o .h∧H.hp.get (.h)=some (ce 123 [(zi mA),(zi mB),(zi mC),(zi mD),(zi mE),(zi mF),(zi sx),(zi (0)),.nils,(zi sy),(zi (0)),.nils]))):a7 En 0 (KT sd wd mA mB mC mD mE mF x y) (QP 0 (fun _ _=>0) oX oY x y (.h) J1):=by
 refine ac 0 [] 12 true (Zh sd wd mA mB mC mD mE mF x y) [.h,J1] [[2,3,4,5]] rfl ?_
 refine ca (wZ sd wd) [] (Fo (sd:=sd) (wd:=wd)) (fun v' H' q=>?_)
 rcases q with ⟨e_1,rfl,hnx1⟩
 refine ⟨(zi e_1),[],J2,(by kernel_rfl),(by rw [hnx1];kernel_rfl),trivial,(by kernel_rfl),?_⟩
 rcases ci e_1 (0) with ⟨b1,b1p⟩|⟨b1,b1p⟩
 ·refine fi 0 [(7,24,true)] 9 (a6 (Bool.not (c9 e_1 (0))) true) [] (.tup [.nils,(zi e_1)]) [] .h (by (try simp only [b1,gS]);(try simp only [gT] at *);try omega) ?_
  exact .inl ⟨_,rfl,rfl,by assumption⟩
 refine ac 0 [(7,24,false),(60,17,false),(5,21,false),(30,17,false),(5,21,false),(30,17,false),(5,21,false),(30,17,false),(5,21,false),(63,17,false),(5,21,false),(30,17,false),(5,21,false),(55,9,true),(10,34,false),(13,9,true),(11,38,false)] 7 (a6 (Bool.not (Bool.not (c9 e_1 (0)))) (a6 (Bool.not (i4 mA (-16777216))) (a6 (Bool.not (i4 (16777216) mA)) (a6 (Bool.not (i4 mB (-16777216))) (a6 (Bool.not (i4 (16777216) mB)) (a6 (Bool.not (i4 mC (-16777216))) (a6 (Bool.not (i4 (16777216) mC)) (a6 (Bool.not (i4 mD (-16777216))) (a6 (Bool.not (i4 (16777216) mD)) (a6 (Bool.not (i4 mE (-536870912))) (a6 (Bool.not (i4 (536870912) mE)) (a6 (Bool.not (i4 mF (-536870912))) (a6 (Bool.not (i4 (536870912) mF)) (a6 (f9 (-600) x) (a6 (Bool.not (Bool.not (f9 x (600)))) (a6 (f9 (-600) y) (a6 (Bool.not (Bool.not (f9 y (600)))) true))))))))))))))))) (Zi sd wd mA mB mC mD mE mF x y) [.h] [[2,3,4]] (by (try simp only [b1,gS]);(try simp only [gT] at *);try omega) ?_
 refine ca (dV sd wd mA mB mC mD mE mF) [] (hof) (fun v' H' q=>?_)
 rcases q with ⟨rfl,hnx2,ho0_2⟩
 refine ⟨(.tup [(.fn 44 [(.ptr J1 0)] []),(zi (0))]),[(J1,(ce 123 [(zi mA),(zi mB),(zi mC),(zi mD),(zi mE),(zi mF),(zi sx),(zi (0)),.nils,(zi sy),(zi (0)),.nils]))],J2,(by kernel_rfl),(by rw [hnx2];kernel_rfl),⟨⟨.h,_,(Nat.le_of_ble_eq_true (by kernel_rfl)),(by show _=_;kernel_rfl),ho0_2,(by show _=_;kernel_rfl)⟩,trivial⟩,(by kernel_rfl),?_⟩
 refine fi 0 [] 58 true [J2] (.tup [(.sa .h 0 0 7),(zi (0))]) [(.h,(o7 0 (fun _ _=>0) true false))] J1 rfl ?_
 exact .inr ⟨_,rfl,rfl,rfl,fun j hj=>by omega,fun j hj=>by omega,⟨by omega,fun j hj=>by omega⟩⟩
def Jq (n0:Int) (n1:Int) (n2:Int) (n3:Int) (up:Bool):St:=⟨o4 (d9 En 7 [(.agg [(.int .i16 n0),(.int .i16 n1),(.int .i16 n2),(.int .i16 n3)]),(.bool up)] false),[],[],.h,0⟩
theorem TB (n0:Int) (n1:Int) (n2:Int) (n3:Int) (up:Bool):d9 En 7 [(.agg [(.int .i16 n0),(.int .i16 n1),(.int .i16 n2),(.int .i16 n3)]),(.bool up)] false=some (Jq n0 n1 n2 n3 up).f:=by kernel_rfl
def ZS:AV→Hp→Prop:=fun v H=>∃ mA mB mC mD mE mF:Int,v=.agg [.int .i64 mA,.int .i64 mB,.int .i64 mC,.int .i64 mD,.int .i64 mE,.int .i64 mF]∧H.nx=.h∧(-2000000≤mA∧mA≤2000000)∧(-2000000≤mB∧mB≤2000000)∧(-2000000≤mC∧mC≤2000000)∧(-2000000≤mD∧mD≤2000000)∧(-40000≤mE∧mE≤40000)∧(-40000≤mF∧mF≤40000)
theorem bM {n0 n1 n2 n3:Int} {up:Bool} (hn0 : -32768≤n0∧n0≤32767) (hn1 : -32768≤n1∧n1≤32767) (hn2 : -32768≤n2∧n2≤32767) (hn3 : -32768≤n3∧n3≤32767):a7 En 0 (Jq n0 n1 n2 n3 up) ZS:=by
 rcases Km up with b1|b1
 ·have b1p:=b1
  refine fi 0 [(10,5,false)] 25 (a6 (Bool.not up) (a6 (f8 n0) (a6 (f8 (Int.mul (30) n0)) (a6 (f8 n1) (a6 (f8 (Int.mul (30) n1)) (a6 (f8 n2) (a6 (f8 (Int.mul (30) n2)) (a6 (f8 n3) (a6 (f8 (Int.mul (30) n3)) true))))))))) [] (az [Int.mul (30) n0,Int.mul (30) n1,Int.mul (30) n2,Int.mul (30) n3,0,0]) [] .h (by (try simp only [b1,gS]);(try simp only [gT] at *);try omega) ?_
  exact ⟨_,_,_,_,_,_,rfl,rfl,(by (try simp only [j8,j7,m8,H3,q8,m5] at *);omega),(by (try simp only [j8,j7,m8,H3,q8,m5] at *);omega),(by (try simp only [j8,j7,m8,H3,q8,m5] at *);omega),(by (try simp only [j8,j7,m8,H3,q8,m5] at *);omega),(by (try simp only [j8,j7,m8,H3,q8,m5] at *);omega),(by (try simp only [j8,j7,m8,H3,q8,m5] at *);omega)⟩
 have b1p:=b1
 refine fi 0 [(10,5,true)] 23 (a6 up (a6 (f8 n0) (a6 (f8 (Int.mul (40) (d7 (i4 n0 (-1000)) (-1000) n0))) (a6 (f8 (Int.add (70000) (Int.mul (40) (d7 (i4 n0 (-1000)) (-1000) n0)))) (a6 (f8 n1) (a6 (f8 (Int.mul (40) (d7 (i4 n1 (-1000)) (-1000) n1))) (a6 (f8 (Int.sub (-70000) (Int.mul (40) (d7 (i4 n1 (-1000)) (-1000) n1)))) (a6 (f8 n2) true)))))))) [] (az [Int.add (70000) (Int.mul (40) (d7 (i4 n0 (-1000)) (-1000) n0)),0,0,Int.sub (-70000) (Int.mul (40) (d7 (i4 n1 (-1000)) (-1000) n1)),n2,0]) [] .h (by (try simp only [b1,gS]);(try simp only [gT] at *);try omega) ?_
 exact ⟨_,_,_,_,_,_,rfl,rfl,(by (try simp only [j8,j7,m8,H3,q8,m5] at *);omega),(by (try simp only [j8,j7,m8,H3,q8,m5] at *);omega),(by (try simp only [j8,j7,m8,H3,q8,m5] at *);omega),(by (try simp only [j8,j7,m8,H3,q8,m5] at *);omega),(by (try simp only [j8,j7,m8,H3,q8,m5] at *);omega),(by (try simp only [j8,j7,m8,H3,q8,m5] at *);omega)⟩
theorem KU {γ:Gm} {L:AM.Loc} {x:AV} {l:List AV} {el lo hi:Nat} {ex sty:Bool} {ob:Obj} (h:OR γ L (.cells (x::l) el ex sty lo hi) ob):OR γ L (.cells (.any::l) el ex sty lo hi) ob:=by
 obtain ⟨pre,cs,post,fz,s1,s2,s3,s4,s5⟩:=h
 cases s4 with
 | cons hx hl=>exact ⟨pre,_,post,fz,s1,s2,s3,.cons (.any _) hl,s5⟩
theorem Fq {ρ:Ps→Ps} {a:Option AO} (x:AV) {l:List AV} {el lo hi:Nat} {ex sty:Bool} (h:a=some (.cells (x::F5 ρ l) el ex sty lo hi)):OE a (w8 ρ (.cells (.any::l) el ex sty lo hi)):=
 .inr ⟨_,h,fun _ _ _ k=>KU k⟩
section
variable (nd:Nat) (D:Nat→Nat→Int) (dx dy:Bool) (de md:Nat) (T:Nat→Nat→Int) (tx ty:Bool) (te i c:Nat) (G:Nat→Nat→Int) (V:Nat→Bool) (S:Nat→Nat→Int) (v0 v1:Int)
def fT:St:=⟨o4 (d9 En 6 [(.agg [(.sa .h 0 nd 7),(.sa J1 0 md 2)])] false),[],(zs [(.arr nd 7 (a8 RD D) none de dx dy),(.arr md 2 (a8 [.u8,.u8] T) none te tx ty)]),J2,2⟩
def xC:St:=⟨o4 (d9 En 6 [(.agg [(.sa .h 0 nd 7),.nils])] false),[],[(.h,(.arr nd 7 (a8 RD D) none de dx dy))],J2,2⟩
def xD:St:=⟨o4 (d9 En 6 [(.agg [.nils,(.sa J1 0 md 2)])] false),[],[(J1,(.arr md 2 (a8 [.u8,.u8] T) none te tx ty))],J2,2⟩
def Sb:St:=⟨o4 (d9 En 6 [(.agg [.nils,.nils])] false),[],[],J2,2⟩
def Sc:St:=⟨(fr 6 178 (ts [1,2,3,9,10] [.ptr J2 0,.ptr J3 0,.ptr J4 0,.ptr J5 0,zi (0)]) [cA En 6 (pb 500),lA En 6 (pb 500),.blk 7,cA En 6 (pb 63)]),[],[(J1,(.arr md 2 (a8 [.u8,.u8] T) none te tx ty)),(J2,(ce 25 [.any,(.sa J1 0 md 2)])),(J3,(ce 36 [(zi (0)),(zi (0)),.nils,.nils])),(J4,(ce 36 [(zi (0)),(zi (500)),.nils,.nils])),(J5,(zc 49 [-300,-300]))],J6,2⟩
def fU:St:=⟨(fr 6 178 (ts [1,2,3,4] [.ptr J2 0,.ptr J3 0,.ptr J4 0,zn (Nat.succ i)]) [cA En 6 (pb 116),lA En 6 (pb 116),.blk 0,cA En 6 (pb 15)]),[],(zs [(.arr nd 7 (a8 RD D) none de dx dy),(.arr md 2 (a8 [.u8,.u8] T) none te tx ty),(ce 25 [(.sa .h 0 nd 7),(.sa J1 0 md 2)]),(ce 36 [(zi (0)),(zi (0)),.nils,.nils]),(ce 36 [(zi (0)),(zi (500)),(.sa J5 0 (Nat.succ i) 7),.nils]),(o7 (Nat.succ i) G false false)]),J6,2⟩
def fV:St:=⟨(fr 6 178 (ts [1,2,3,4] [.ptr J2 0,.ptr J3 0,.ptr J4 0,zn (Nat.succ i)]) [cA En 6 (pb 116),lA En 6 (pb 116),.blk 0,cA En 6 (pb 15)]),[],[(.h,(.arr nd 7 (a8 RD D) none de dx dy)),(J2,(ce 25 [(.sa .h 0 nd 7),.nils])),(J3,(ce 36 [(zi (0)),(zi (0)),.nils,.nils])),(J4,(ce 36 [(zi (0)),(zi (500)),(.sa J5 0 (Nat.succ i) 7),.nils])),(J5,(o7 (Nat.succ i) G false false))],J6,2⟩
def EM:St:=⟨(fr 6 178 (ts [1,2,3,9,10] [.ptr J2 0,.ptr J3 0,.ptr J4 0,.ptr J5 0,zi (1)]) [cA En 6 (pb 500),lA En 6 (pb 500),.blk 7,cA En 6 (pb 63)]),[],[(J1,(.arr md 2 (a8 [.u8,.u8] T) none te tx ty)),(J2,(ce 25 [.any,(.sa J1 0 md 2)])),(J3,(ce 36 [(zi (0)),(zi (0)),.nils,.nils])),(J4,(ce 36 [(zi (0)),(zi (500)),.nils,(.sa J6 0 1 3)])),(J5,(zc 49 [v0,v1])),(J6,(o3 1 V S false false))],J7,2⟩
def Sd:St:=⟨(fr 6 178 (ts [1,2,3,9,10] [.ptr J2 0,.ptr J3 0,.ptr J4 0,.ptr J5 0,zi (0)]) [cA En 6 (pb 500),lA En 6 (pb 500),.blk 7,cA En 6 (pb 63)]),[],[(J1,(.arr md 2 (a8 [.u8,.u8] T) none te tx ty)),(J2,(ce 25 [.any,(.sa J1 0 md 2)])),(J3,(ce 36 [(zi (0)),(zi (0)),.nils,.nils])),(J4,(ce 36 [(zi (0)),(zi (500)),(.sa J6 0 (Nat.succ c) 7),.nils])),(J5,(zc 49 [-300,-300])),(J6,(o7 (Nat.succ c) G false false))],J7,2⟩
def EN:St:=⟨(fr 6 178 (ts [1,2,3,9,10] [.ptr J2 0,.ptr J3 0,.ptr J4 0,.ptr J5 0,zi (2)]) [cA En 6 (pb 500),lA En 6 (pb 500),.blk 7,cA En 6 (pb 63)]),[],[(J1,(.arr md 2 (a8 [.u8,.u8] T) none te tx ty)),(J2,(ce 25 [.any,(.sa J1 0 md 2)])),(J3,(ce 36 [(zi (0)),(zi (0)),.nils,.nils])),(J4,(ce 36 [(zi (0)),(zi (500)),.nils,(.sa J6 0 2 3)])),(J5,(zc 49 [v0,v1])),(J6,(o3 2 V S false false))],J7,2⟩
def EO:St:=⟨(fr 6 178 (ts [1,2,3,9,10] [.ptr J2 0,.ptr J3 0,.ptr J4 0,.ptr J5 0,zi (1)]) [cA En 6 (pb 500),lA En 6 (pb 500),.blk 7,cA En 6 (pb 63)]),[],[(J1,(.arr md 2 (a8 [.u8,.u8] T) none te tx ty)),(J2,(ce 25 [.any,(.sa J1 0 md 2)])),(J3,(ce 36 [(zi (0)),(zi (0)),.nils,.nils])),(J4,(ce 36 [(zi (0)),(zi (500)),(.sa J6 0 (Nat.succ c) 7),(.sa J7 0 1 3)])),(J5,(zc 49 [v0,v1])),(J6,(o7 (Nat.succ c) G false false)),(J7,(o3 1 V S false false))],J8,2⟩
def EP:St:=⟨(fr 6 178 (ts [1,2,3,9,10] [.ptr J2 0,.ptr J3 0,.ptr J4 0,.ptr J5 0,zi (3)]) [cA En 6 (pb 500),lA En 6 (pb 500),.blk 7,cA En 6 (pb 63)]),[],[(J1,(.arr md 2 (a8 [.u8,.u8] T) none te tx ty)),(J2,(ce 25 [.any,(.sa J1 0 md 2)])),(J3,(ce 36 [(zi (0)),(zi (0)),.nils,.nils])),(J4,(ce 36 [(zi (0)),(zi (500)),.nils,(.sa J6 0 3 3)])),(J5,(zc 49 [v0,v1])),(J6,(o3 3 V S false false))],J7,2⟩
def EQ:St:=⟨(fr 6 178 (ts [1,2,3,9,10] [.ptr J2 0,.ptr J3 0,.ptr J4 0,.ptr J5 0,zi (2)]) [cA En 6 (pb 500),lA En 6 (pb 500),.blk 7,cA En 6 (pb 63)]),[],[(J1,(.arr md 2 (a8 [.u8,.u8] T) none te tx ty)),(J2,(ce 25 [.any,(.sa J1 0 md 2)])),(J3,(ce 36 [(zi (0)),(zi (0)),.nils,.nils])),(J4,(ce 36 [(zi (0)),(zi (500)),(.sa J6 0 (Nat.succ c) 7),(.sa J7 0 2 3)])),(J5,(zc 49 [v0,v1])),(J6,(o7 (Nat.succ c) G false false)),(J7,(o3 2 V S false false))],J8,2⟩
def ES:St:=⟨(fr 6 178 (ts [1,2,3,9,10] [.ptr J2 0,.ptr J3 0,.ptr J4 0,.ptr J5 0,zi (4)]) [cA En 6 (pb 500),lA En 6 (pb 500),.blk 7,cA En 6 (pb 63)]),[],[(J1,(.arr md 2 (a8 [.u8,.u8] T) none te tx ty)),(J2,(ce 25 [.any,(.sa J1 0 md 2)])),(J3,(ce 36 [(zi (0)),(zi (0)),.nils,.nils])),(J4,(ce 36 [(zi (0)),(zi (500)),.nils,(.sa J6 0 4 3)])),(J5,(zc 49 [v0,v1])),(J6,(o3 4 V S false false))],J7,2⟩
def ET:St:=⟨(fr 6 178 (ts [1,2,3,9,10] [.ptr J2 0,.ptr J3 0,.ptr J4 0,.ptr J5 0,zi (3)]) [cA En 6 (pb 500),lA En 6 (pb 500),.blk 7,cA En 6 (pb 63)]),[],[(J1,(.arr md 2 (a8 [.u8,.u8] T) none te tx ty)),(J2,(ce 25 [.any,(.sa J1 0 md 2)])),(J3,(ce 36 [(zi (0)),(zi (0)),.nils,.nils])),(J4,(ce 36 [(zi (0)),(zi (500)),(.sa J6 0 (Nat.succ c) 7),(.sa J7 0 3 3)])),(J5,(zc 49 [v0,v1])),(J6,(o7 (Nat.succ c) G false false)),(J7,(o3 3 V S false false))],J8,2⟩
def EU:St:=⟨(fr 6 178 (ts [1,2,3,9,10] [.ptr J2 0,.ptr J3 0,.ptr J4 0,.ptr J5 0,zi (5)]) [cA En 6 (pb 500),lA En 6 (pb 500),.blk 7,cA En 6 (pb 63)]),[],[(J1,(.arr md 2 (a8 [.u8,.u8] T) none te tx ty)),(J2,(ce 25 [.any,(.sa J1 0 md 2)])),(J3,(ce 36 [(zi (0)),(zi (0)),.nils,.nils])),(J4,(ce 36 [(zi (0)),(zi (500)),.nils,(.sa J6 0 5 3)])),(J5,(zc 49 [v0,v1])),(J6,(o3 5 V S false false))],J7,2⟩
def EV:St:=⟨(fr 6 178 (ts [1,2,3,9,10] [.ptr J2 0,.ptr J3 0,.ptr J4 0,.ptr J5 0,zi (4)]) [cA En 6 (pb 500),lA En 6 (pb 500),.blk 7,cA En 6 (pb 63)]),[],[(J1,(.arr md 2 (a8 [.u8,.u8] T) none te tx ty)),(J2,(ce 25 [.any,(.sa J1 0 md 2)])),(J3,(ce 36 [(zi (0)),(zi (0)),.nils,.nils])),(J4,(ce 36 [(zi (0)),(zi (500)),(.sa J6 0 (Nat.succ c) 7),(.sa J7 0 4 3)])),(J5,(zc 49 [v0,v1])),(J6,(o7 (Nat.succ c) G false false)),(J7,(o3 4 V S false false))],J8,2⟩
def EW:St:=⟨(fr 6 178 (ts [1,2,3,9,10] [.ptr J2 0,.ptr J3 0,.ptr J4 0,.ptr J5 0,zi (6)]) [cA En 6 (pb 500),lA En 6 (pb 500),.blk 7,cA En 6 (pb 63)]),[],[(J1,(.arr md 2 (a8 [.u8,.u8] T) none te tx ty)),(J2,(ce 25 [.any,(.sa J1 0 md 2)])),(J3,(ce 36 [(zi (0)),(zi (0)),.nils,.nils])),(J4,(ce 36 [(zi (0)),(zi (500)),.nils,(.sa J6 0 6 3)])),(J5,(zc 49 [v0,v1])),(J6,(o3 6 V S false false))],J7,2⟩
def EX:St:=⟨(fr 6 178 (ts [1,2,3,9,10] [.ptr J2 0,.ptr J3 0,.ptr J4 0,.ptr J5 0,zi (5)]) [cA En 6 (pb 500),lA En 6 (pb 500),.blk 7,cA En 6 (pb 63)]),[],[(J1,(.arr md 2 (a8 [.u8,.u8] T) none te tx ty)),(J2,(ce 25 [.any,(.sa J1 0 md 2)])),(J3,(ce 36 [(zi (0)),(zi (0)),.nils,.nils])),(J4,(ce 36 [(zi (0)),(zi (500)),(.sa J6 0 (Nat.succ c) 7),(.sa J7 0 5 3)])),(J5,(zc 49 [v0,v1])),(J6,(o7 (Nat.succ c) G false false)),(J7,(o3 5 V S false false))],J8,2⟩
def EY:St:=⟨(fr 6 178 (ts [1,2,3,9,10] [.ptr J2 0,.ptr J3 0,.ptr J4 0,.ptr J5 0,zi (7)]) [cA En 6 (pb 500),lA En 6 (pb 500),.blk 7,cA En 6 (pb 63)]),[],[(J1,(.arr md 2 (a8 [.u8,.u8] T) none te tx ty)),(J2,(ce 25 [.any,(.sa J1 0 md 2)])),(J3,(ce 36 [(zi (0)),(zi (0)),.nils,.nils])),(J4,(ce 36 [(zi (0)),(zi (500)),.nils,(.sa J6 0 7 3)])),(J5,(zc 49 [v0,v1])),(J6,(o3 7 V S false false))],J7,2⟩
def EZ:St:=⟨(fr 6 178 (ts [1,2,3,9,10] [.ptr J2 0,.ptr J3 0,.ptr J4 0,.ptr J5 0,zi (6)]) [cA En 6 (pb 500),lA En 6 (pb 500),.blk 7,cA En 6 (pb 63)]),[],[(J1,(.arr md 2 (a8 [.u8,.u8] T) none te tx ty)),(J2,(ce 25 [.any,(.sa J1 0 md 2)])),(J3,(ce 36 [(zi (0)),(zi (0)),.nils,.nils])),(J4,(ce 36 [(zi (0)),(zi (500)),(.sa J6 0 (Nat.succ c) 7),(.sa J7 0 6 3)])),(J5,(zc 49 [v0,v1])),(J6,(o7 (Nat.succ c) G false false)),(J7,(o3 6 V S false false))],J8,2⟩
def FA:St:=⟨(fr 6 178 (ts [1,2,3,9,10] [.ptr J2 0,.ptr J3 0,.ptr J4 0,.ptr J5 0,zi (8)]) [cA En 6 (pb 500),lA En 6 (pb 500),.blk 7,cA En 6 (pb 63)]),[],[(J1,(.arr md 2 (a8 [.u8,.u8] T) none te tx ty)),(J2,(ce 25 [.any,(.sa J1 0 md 2)])),(J3,(ce 36 [(zi (0)),(zi (0)),.nils,.nils])),(J4,(ce 36 [(zi (0)),(zi (500)),.nils,(.sa J6 0 8 3)])),(J5,(zc 49 [v0,v1])),(J6,(o3 8 V S false false))],J7,2⟩
def FB:St:=⟨(fr 6 178 (ts [1,2,3,9,10] [.ptr J2 0,.ptr J3 0,.ptr J4 0,.ptr J5 0,zi (7)]) [cA En 6 (pb 500),lA En 6 (pb 500),.blk 7,cA En 6 (pb 63)]),[],[(J1,(.arr md 2 (a8 [.u8,.u8] T) none te tx ty)),(J2,(ce 25 [.any,(.sa J1 0 md 2)])),(J3,(ce 36 [(zi (0)),(zi (0)),.nils,.nils])),(J4,(ce 36 [(zi (0)),(zi (500)),(.sa J6 0 (Nat.succ c) 7),(.sa J7 0 7 3)])),(J5,(zc 49 [v0,v1])),(J6,(o7 (Nat.succ c) G false false)),(J7,(o3 7 V S false false))],J8,2⟩
def FC:St:=⟨(fr 6 178 (ts [1,2,3,9,10] [.ptr J2 0,.ptr J3 0,.ptr J4 0,.ptr J5 0,zi (8)]) [cA En 6 (pb 500),lA En 6 (pb 500),.blk 7,cA En 6 (pb 63)]),[],[(J1,(.arr md 2 (a8 [.u8,.u8] T) none te tx ty)),(J2,(ce 25 [.any,(.sa J1 0 md 2)])),(J3,(ce 36 [(zi (0)),(zi (0)),.nils,.nils])),(J4,(ce 36 [(zi (0)),(zi (500)),(.sa J6 0 (Nat.succ c) 7),(.sa J7 0 8 3)])),(J5,(zc 49 [v0,v1])),(J6,(o7 (Nat.succ c) G false false)),(J7,(o3 8 V S false false))],J8,2⟩
end
end Go.Proofs.Ytoahnefofelglaa.gm
end
