/- A part of the proof of GlyphMoves; no condition. -/
import Derived.Test.YtoahnefofelglaaGlyphMoves10
set_option linter.unusedVariables false
set_option linter.unusedSimpArgs false
set_option linter.unusedSectionVars false
section
namespace Go.Proofs.Ytoahnefofelglaa.gm
open Go Go.AM
section
variable (n:Nat) (Y:Nat→Nat→Int) (ex sty:Bool) (sd wd mA mB mC mD mE mF x y e_1 sx sy:Int) (oX oY oE:Int→Int→Int) (i:Nat) (far:Bool) (P:Nat→Nat→Int)
noncomputable def pzamX:St:=⟨getF (enterA En 9 [(.agg [(zi sd),(zi wd),(.sa .h 0 n 7),.nils]),(az [mA,mB,mC,mD,mE,mF]),(zi x),(zi y)] false),[],[(.h,(o7 n Y ex sty))],J1,1⟩
noncomputable def pzae1X:St:=⟨cf (gcmX n Y ex sty sd wd) J3 [.h],[(fr 9 118 (ts [2,3,4,5] [zi x,zi y,.ptr J1 0,.ptr J2 0]) [rA En 9 (pb 12) 1,cA En 9 (pb 13),cA En 9 (pb 7)])],(zs [(o7 n Y ex sty),(ce 36 [(zi sd),(zi wd),(.sa .h 0 n 7),.nils]),(zc 39 [mA,mB,mC,mD,mE,mF])]),J3,1⟩
noncomputable def pzae2X:St:=⟨cf (ofzmX n Y ex sty sd wd mA mB mC mD mE mF) J2 [.h],[(fr 9 118 (ts [2,3,4] [zi x,zi y,.ptr J1 0]) [rA En 9 (pb 62) 2,cA En 9 (pb 63)])],(zs [(o7 n Y ex sty),(ce 36 [(zi sd),(zi wd),(.sa .h 0 n 7),.nils])]),J2,1⟩
noncomputable def pzaoX:St:=⟨(fr 9 118 (ts [2,3,12,14,15,53,54,55] [zi x,zi y,.fn 44 [(.ptr J1 0)] [],.bool far,.sa J2 0 n 7,.sa .h 0 n 7,zn n,zn i]) [cA En 9 (pb 8180),lA En 9 (pb 8180),.blk 0,cA En 9 (pb 1023)]),[],(zs [(o7 n Y ex sty),(ce 123 [(zi mA),(zi mB),(zi mC),(zi mD),(zi mE),(zi mF),(zi sx),(zi (0)),.nils,(zi sy),(zi (0)),.nils]),(o7 n P true false)]),J3,1⟩
noncomputable def pzae3X:St:=⟨cf (hoomX mA mB mC mD mE mF sx sy (Y i 1) (Y i 2)) J4 [J1],[(fr 9 118 (ts [2,3,12,14,15,16,17,18,53,54,55,61,62] [zi x,zi y,.fn 44 [(.ptr J1 0)] [],.bool far,.sa J2 0 n 7,zn i,.ptr J3 0,zi (0),.sa .h 0 n 7,zn n,zn i,zi (1),zi (0)]) [rA En 9 (pb 268068146) 5,cA En 9 (pb 268068147),.blk 3,cA En 9 (pb 33508519),lA En 9 (pb 4188564),.blk 2,cA En 9 (pb 523571),.blk 1,cA En 9 (pb 65447),lA En 9 (pb 8180),.blk 0,cA En 9 (pb 1023)])],(zs [(o7 n Y ex sty),(ce 123 [(zi mA),(zi mB),(zi mC),(zi mD),(zi mE),(zi mF),(zi sx),(zi (0)),.nils,(zi sy),(zi (0)),.nils]),(o7 n P true false),(zc 63 [Y i 0,Y i 1,Y i 2,Y i 3,Y i 4,Y i 5,Y i 6])]),J4,1⟩
noncomputable def pzae4X:St:=⟨cf (hoomX mA mB mC mD mE mF sx sy (Y i 1) (Y i 2)) J4 [J1],[(fr 9 118 (ts [2,3,12,14,15,16,17,18,53,54,55,61,62] [zi x,zi y,.fn 44 [(.ptr J1 0)] [],.bool far,.sa J2 0 n 7,zn i,.ptr J3 0,zi (0),.sa .h 0 n 7,zn n,zn i,zi (3),zi (0)]) [rA En 9 (pb 268068146) 5,cA En 9 (pb 268068147),.blk 3,cA En 9 (pb 33508519),lA En 9 (pb 4188564),.blk 2,cA En 9 (pb 523571),.blk 1,cA En 9 (pb 65447),lA En 9 (pb 8180),.blk 0,cA En 9 (pb 1023)])],(zs [(o7 n Y ex sty),(ce 123 [(zi mA),(zi mB),(zi mC),(zi mD),(zi mE),(zi mF),(zi sx),(zi (0)),.nils,(zi sy),(zi (0)),.nils]),(o7 n P true false),(zc 63 [Y i 0,Y i 1,Y i 2,Y i 3,Y i 4,Y i 5,Y i 6])]),J4,1⟩
noncomputable def pzak1X:St:=⟨(fr 9 118 (ts [2,3,12,14,15,16,17,53,54,55,61,62] [zi x,zi y,.fn 44 [(.ptr J1 0)] [],.bool far,.sa J2 0 n 7,zn i,.ptr J3 0,.sa .h 0 n 7,zn n,zn i,zi (3),zi (1)]) [cA En 9 (pb 4188564),lA En 9 (pb 4188564),.blk 2,cA En 9 (pb 523571),.blk 1,cA En 9 (pb 65447),lA En 9 (pb 8180),.blk 0,cA En 9 (pb 1023)]),[],(zs [(o7 n Y ex sty),(ce 123 [(zi mA),(zi mB),(zi mC),(zi mD),(zi mE),(zi mF),(zi sx),(zi (0)),.nils,(zi sy),(zi (0)),.nils]),(o7 n P true false),(zc 63 [Y i 0,Int.add (oX (Y i 1) (Y i 2)) (Int.mul x (16)),Int.add (oY (Y i 1) (Y i 2)) (Int.mul y (16)),Y i 3,Y i 4,Y i 5,Y i 6])]),J4,1⟩
noncomputable def pzae5X:St:=⟨cf (hoomX mA mB mC mD mE mF sx sy (Y i 3) (Y i 4)) J4 [J1],[(fr 9 118 (ts [2,3,12,14,15,16,17,18,53,54,55,61,62] [zi x,zi y,.fn 44 [(.ptr J1 0)] [],.bool far,.sa J2 0 n 7,zn i,.ptr J3 0,zi (1),.sa .h 0 n 7,zn n,zn i,zi (3),zi (1)]) [rA En 9 (pb 268068146) 5,cA En 9 (pb 268068147),.blk 3,cA En 9 (pb 33508519),lA En 9 (pb 4188564),.blk 2,cA En 9 (pb 523571),.blk 1,cA En 9 (pb 65447),lA En 9 (pb 8180),.blk 0,cA En 9 (pb 1023)])],(zs [(o7 n Y ex sty),(ce 123 [(zi mA),(zi mB),(zi mC),(zi mD),(zi mE),(zi mF),(zi sx),(zi (0)),.nils,(zi sy),(zi (0)),.nils]),(o7 n P true false),(zc 63 [Y i 0,Int.add (oX (Y i 1) (Y i 2)) (Int.mul x (16)),Int.add (oY (Y i 1) (Y i 2)) (Int.mul y (16)),Y i 3,Y i 4,Y i 5,Y i 6])]),J4,1⟩
noncomputable def pzak2X:St:=⟨(fr 9 118 (ts [2,3,12,14,15,16,17,53,54,55,61,62] [zi x,zi y,.fn 44 [(.ptr J1 0)] [],.bool far,.sa J2 0 n 7,zn i,.ptr J3 0,.sa .h 0 n 7,zn n,zn i,zi (3),zi (2)]) [cA En 9 (pb 4188564),lA En 9 (pb 4188564),.blk 2,cA En 9 (pb 523571),.blk 1,cA En 9 (pb 65447),lA En 9 (pb 8180),.blk 0,cA En 9 (pb 1023)]),[],(zs [(o7 n Y ex sty),(ce 123 [(zi mA),(zi mB),(zi mC),(zi mD),(zi mE),(zi mF),(zi sx),(zi (0)),.nils,(zi sy),(zi (0)),.nils]),(o7 n P true false),(zc 63 [Y i 0,Int.add (oX (Y i 1) (Y i 2)) (Int.mul x (16)),Int.add (oY (Y i 1) (Y i 2)) (Int.mul y (16)),Int.add (oX (Y i 3) (Y i 4)) (Int.mul x (16)),Int.add (oY (Y i 3) (Y i 4)) (Int.mul y (16)),Y i 5,Y i 6])]),J4,1⟩
noncomputable def pzae6X:St:=⟨cf (hoomX mA mB mC mD mE mF sx sy (Y i 5) (Y i 6)) J4 [J1],[(fr 9 118 (ts [2,3,12,14,15,16,17,18,53,54,55,61,62] [zi x,zi y,.fn 44 [(.ptr J1 0)] [],.bool far,.sa J2 0 n 7,zn i,.ptr J3 0,zi (2),.sa .h 0 n 7,zn n,zn i,zi (3),zi (2)]) [rA En 9 (pb 268068146) 5,cA En 9 (pb 268068147),.blk 3,cA En 9 (pb 33508519),lA En 9 (pb 4188564),.blk 2,cA En 9 (pb 523571),.blk 1,cA En 9 (pb 65447),lA En 9 (pb 8180),.blk 0,cA En 9 (pb 1023)])],(zs [(o7 n Y ex sty),(ce 123 [(zi mA),(zi mB),(zi mC),(zi mD),(zi mE),(zi mF),(zi sx),(zi (0)),.nils,(zi sy),(zi (0)),.nils]),(o7 n P true false),(zc 63 [Y i 0,Int.add (oX (Y i 1) (Y i 2)) (Int.mul x (16)),Int.add (oY (Y i 1) (Y i 2)) (Int.mul y (16)),Int.add (oX (Y i 3) (Y i 4)) (Int.mul x (16)),Int.add (oY (Y i 3) (Y i 4)) (Int.mul y (16)),Y i 5,Y i 6])]),J4,1⟩
end
noncomputable abbrev pza0 (i n:Nat):Bool:=(Nat.ble (Nat.succ i) n)
noncomputable abbrev pza1 (oX:Int→Int→Int) (Y:Nat→Nat→Int) (i:Nat) (x:Int):Int:=(Int.add (oX (Y i 5) (Y i 6)) (Int.mul x (16)))
noncomputable abbrev pza2 (oX:Int→Int→Int) (Y:Nat→Nat→Int) (i:Nat) (x:Int):Int:=(Int.add (oX (Y i 3) (Y i 4)) (Int.mul x (16)))
noncomputable abbrev pza3 (oE:Int→Int→Int) (Y:Nat→Nat→Int) (i:Nat):Bool:=(Bool.not (Bool.not (ieq (oE (Y i 5) (Y i 6)) (0))))
noncomputable abbrev pza4 (oE:Int→Int→Int) (Y:Nat→Nat→Int) (i:Nat):Bool:=(Bool.not (Bool.not (ieq (oE (Y i 3) (Y i 4)) (0))))
noncomputable abbrev pza5 (oE:Int→Int→Int) (Y:Nat→Nat→Int) (i:Nat):Bool:=(Bool.not (Bool.not (ieq (oE (Y i 1) (Y i 2)) (0))))
noncomputable abbrev pza6 (oX:Int→Int→Int) (Y:Nat→Nat→Int) (i:Nat) (x:Int):Bool:=(ile (-8192) (Int.add (oX (Y i 1) (Y i 2)) (Int.mul x (16))))
noncomputable abbrev pza7 (oY:Int→Int→Int) (Y:Nat→Nat→Int) (i:Nat) (y:Int):Bool:=(ile (-8192) (Int.add (oY (Y i 1) (Y i 2)) (Int.mul y (16))))
noncomputable abbrev pza8 (oX:Int→Int→Int) (Y:Nat→Nat→Int) (i:Nat) (x:Int):Bool:=(Bool.not (Bool.not (ile (Int.add (oX (Y i 1) (Y i 2)) (Int.mul x (16))) (8192))))
noncomputable abbrev pza9 (i n:Nat):Bool:=(band (band (pza0 i n) true) (band (band (band (pza0 i n) true) true) true))
noncomputable abbrev pza10 (x:Int) (oX:Int→Int→Int) (Y:Nat→Nat→Int) (i:Nat) (y:Int) (oY:Int→Int→Int):Bool:=(band (r64 (Int.mul x (16))) (band (r64 (pza1 oX Y i x)) (band (r64 (Int.mul y (16))) (band (r64 (Int.add (oY (Y i 5) (Y i 6)) (Int.mul y (16)))) true))))
noncomputable abbrev pza11 (x:Int) (oX:Int→Int→Int) (Y:Nat→Nat→Int) (i:Nat) (y:Int) (oY:Int→Int→Int):Bool:=(band (r64 (Int.mul x (16))) (band (r64 (pza2 oX Y i x)) (band (r64 (Int.mul y (16))) (band (r64 (Int.add (oY (Y i 3) (Y i 4)) (Int.mul y (16)))) true))))
noncomputable abbrev pza12 (x:Int) (oX:Int→Int→Int) (Y:Nat→Nat→Int) (i:Nat) (y:Int) (oY:Int→Int→Int):Bool:=(band (r64 (Int.mul x (16))) (band (r64 (Int.add (oX (Y i 1) (Y i 2)) (Int.mul x (16)))) (band (r64 (Int.mul y (16))) (band (r64 (Int.add (oY (Y i 1) (Y i 2)) (Int.mul y (16)))) true))))
noncomputable abbrev pza13 (i n:Nat):Bool:=(band (band (pza0 i n) true) (band (band (band (pza0 i n) true) true) (band (band (ile (-9223372036854775808) (.ofNat (Nat.add i 1))) (Nat.ble (Nat.add i 1) 9223372036854775807)) true)))
noncomputable abbrev pza14 (oE:Int→Int→Int) (Y:Nat→Nat→Int) (i:Nat) (x:Int) (oX:Int→Int→Int) (y:Int) (oY:Int→Int→Int) (zz:Bool):Bool:=(band (pza5 oE Y i) (band (pza12 x oX Y i y oY) zz))
section
variable {n:Nat} {Y:Nat→Nat→Int} {ex:Bool} {sty:Bool} {sd:Int} {wd:Int} {mA:Int} {mB:Int} {mC:Int} {mD:Int} {mE:Int} {mF:Int} {x:Int} {y:Int} {sx:Int} {sy:Int} {oX:Int→Int→Int} {oY:Int→Int→Int} {oE:Int→Int→Int} {i:Nat} {far:Bool} {P:Nat→Nat→Int} (hn:n≤1000) (hY:∀ j k,-32000≤Y j k∧Y j k≤32000) (hmA : -2000000≤mA∧mA≤2000000) (hmB : -2000000≤mB∧mB≤2000000) (hmC : -2000000≤mC∧mC≤2000000) (hmD : -2000000≤mD∧mD≤2000000) (hmE : -40000≤mE∧mE≤40000) (hmF : -40000≤mF∧mF≤40000) (hx : -128≤x∧x≤127) (hy : -128≤y∧y≤127) (hsx:1≤sx∧sx≤16777216) (hsy:1≤sy∧sy≤16777216) (hoX:∀ j k,-1000000000000000000≤oX j k∧oX j k≤1000000000000000000) (hoY:∀ j k,-1000000000000000000≤oY j k∧oY j k≤1000000000000000000) (hof:EndsX En 1 (ofzmX n Y ex sty sd wd mA mB mC mD mE mF) (fun v H=>v=(.tup [(.fn 44 [(.ptr J1 0)] []),(zi (0))])∧H.nx=.i .h∧H.hp.get J1=some (ce 123 [(zi mA),(zi mB),(zi mC),(zi mD),(zi mE),(zi mF),(zi sx),(zi (0)),.nils,(zi sy),(zi (0)),.nils]))) (hmv:∀ (px py:Int),(-32000≤px∧px≤32000)→(-32000≤py∧py≤32000)→EndsX En 1 (hoomX mA mB mC mD mE mF sx sy px py) (fun v H=>v=.tup [.agg [.int .i64 (oX px py),.int .i64 (oY px py)],.int .i64 (oE px py)]∧H.nx=.o .h)) (far0:Bool) (hi:i < n) (h3:Y i 0=3)
include hn hY hmA hmB hmC hmD hmE hmF hx hy hsx hsy hoX hoY hof hmv far0 hi h3
theorem pzak2_ok (hF:far=false→far0=false∧at8 (Int.add (oX (Y i 1) (Y i 2)) (Int.mul x (16)))∧at8 (Int.add (oY (Y i 1) (Y i 2)) (Int.mul y (16)))∧at8 (Int.add (oX (Y i 3) (Y i 4)) (Int.mul x (16)))∧at8 (Int.add (oY (Y i 3) (Y i 4)) (Int.mul y (16)))) (ih:∀ (f:Bool) (l:List Int),PRow Y oX oY x y (updR P i l) i→(f=false→far0=false∧Near Y (updR P i l) i)→EndsX En 1 (pzaoX n Y ex sty mA mB mC mD mE mF x y sx sy (Nat.add i 1) f (updR P i l)) (QP n Y oX oY x y J1 J2)):EndsX En 1 (pzak2X n Y ex sty mA mB mC mD mE mF x y sx sy oX oY i far P) (QP n Y oX oY x y J1 J2):=by
  have hY32:=hY
  refine ac 1 [] 22 true (pzae6X n Y ex sty mA mB mC mD mE mF x y sx sy oX oY i far P) [.h,J1,J2,J3] [[2,3,12,14,15,16,17,18,53,54,55,61,62]] rfl ?_
  refine ca (hoomX mA mB mC mD mE mF sx sy (Y i 5) (Y i 6)) [J1] (hmv (px:=(Y i 5)) (py:=(Y i 6)) (hY32 _ _) (hY32 _ _)) (fun v' H' q=>?_)
  rcases q with ⟨rfl,hnx6⟩
  refine ⟨(.tup [(az [oX (Y i 5) (Y i 6),oY (Y i 5) (Y i 6)]),(zi (oE (Y i 5) (Y i 6)))]),[],J4,(by kernel_rfl),(by rw [hnx6];kernel_rfl),trivial,(by kernel_rfl),?_⟩
  rcases ci (oE (Y i 5) (Y i 6)) (0) with ⟨b1,b1p⟩|⟨b1,b1p⟩
  · refine fi 1 [(13,75,true)] 9 (band (Bool.not (ieq (oE (Y i 5) (Y i 6)) (0))) true) [.h] (.tup [.nils,(zi (oE (Y i 5) (Y i 6)))]) [] J1 (by (try simp only [b1,gS]);(try simp only [gT] at *);try omega) ?_
    exact .inl ⟨_,rfl,rfl,by assumption⟩
  rcases btf far with b2|b2
  · have b2p:=b2
    rcases cl (-8192) (Int.add (oX (Y i 5) (Y i 6)) (Int.mul x (16))) with ⟨b3,b3p⟩|⟨b3,b3p⟩
    · refine arF 2 1 [(13,75,false),(23,92,false),(17,9,false)] 47 ((band (pza3 oE Y i) (band (pza10 x oX Y i y oY) (band (Bool.not far) (band (Bool.not (ile (-8192) (pza1 oX Y i x))) (pza13 i n)))))) (pzaoX n Y ex sty mA mB mC mD mE mF x y sx sy (Nat.add i 1) true (updR P i [(Y i 0),(Int.add (oX (Y i 1) (Y i 2)) (Int.mul x (16))),(Int.add (oY (Y i 1) (Y i 2)) (Int.mul y (16))),(Int.add (oX (Y i 3) (Y i 4)) (Int.mul x (16))),(Int.add (oY (Y i 3) (Y i 4)) (Int.mul y (16))),(Int.add (oX (Y i 5) (Y i 6)) (Int.mul x (16))),(Int.add (oY (Y i 5) (Y i 6)) (Int.mul y (16)))])) [.h,J1,J2] [2,3,12,14,15,53,54,55] [] ⟨oeFold (by kernel_rfl) rfl (by kernel_rfl),trivial⟩ (by have:=hoX (Y i 5) (Y i 6);have:=hoY (Y i 5) (Y i 6);(try simp only [b1,b2,b3,gS,pza0,pza1,pza3,pza10,pza13]);(try simp only [gT] at *);try omega) ?_
      exact ih _ _ (prow3 h3) (fun e=>absurd e (by decide))
    rcases cl (Int.add (oX (Y i 5) (Y i 6)) (Int.mul x (16))) (8192) with ⟨b4,b4p⟩|⟨b4,b4p⟩
    · refine arF 2 1 [(13,75,false),(23,92,false),(17,9,true),(11,101,true)] 36 ((band (pza3 oE Y i) (band (pza10 x oX Y i y oY) (band (Bool.not far) (band (ile (-8192) (pza1 oX Y i x)) (band (Bool.not (ile (pza1 oX Y i x) (8192))) (pza13 i n))))))) (pzaoX n Y ex sty mA mB mC mD mE mF x y sx sy (Nat.add i 1) true (updR P i [(Y i 0),(Int.add (oX (Y i 1) (Y i 2)) (Int.mul x (16))),(Int.add (oY (Y i 1) (Y i 2)) (Int.mul y (16))),(Int.add (oX (Y i 3) (Y i 4)) (Int.mul x (16))),(Int.add (oY (Y i 3) (Y i 4)) (Int.mul y (16))),(Int.add (oX (Y i 5) (Y i 6)) (Int.mul x (16))),(Int.add (oY (Y i 5) (Y i 6)) (Int.mul y (16)))])) [.h,J1,J2] [2,3,12,14,15,53,54,55] [] ⟨oeFold (by kernel_rfl) rfl (by kernel_rfl),trivial⟩ (by have:=hoX (Y i 5) (Y i 6);have:=hoY (Y i 5) (Y i 6);(try simp only [b1,b2,b3,b4,gS,pza0,pza1,pza3,pza10,pza13]);(try simp only [gT] at *);try omega) ?_
      exact ih _ _ (prow3 h3) (fun e=>absurd e (by decide))
    rcases cl (-8192) (Int.add (oY (Y i 5) (Y i 6)) (Int.mul y (16))) with ⟨b5,b5p⟩|⟨b5,b5p⟩
    · refine arF 2 1 [(13,75,false),(23,92,false),(17,9,true),(11,101,false),(17,9,false)] 38 ((band (pza3 oE Y i) (band (pza10 x oX Y i y oY) (band (Bool.not far) (band (ile (-8192) (pza1 oX Y i x)) (band (Bool.not (Bool.not (ile (pza1 oX Y i x) (8192)))) (band (Bool.not (ile (-8192) (Int.add (oY (Y i 5) (Y i 6)) (Int.mul y (16))))) (pza13 i n)))))))) (pzaoX n Y ex sty mA mB mC mD mE mF x y sx sy (Nat.add i 1) true (updR P i [(Y i 0),(Int.add (oX (Y i 1) (Y i 2)) (Int.mul x (16))),(Int.add (oY (Y i 1) (Y i 2)) (Int.mul y (16))),(Int.add (oX (Y i 3) (Y i 4)) (Int.mul x (16))),(Int.add (oY (Y i 3) (Y i 4)) (Int.mul y (16))),(Int.add (oX (Y i 5) (Y i 6)) (Int.mul x (16))),(Int.add (oY (Y i 5) (Y i 6)) (Int.mul y (16)))])) [.h,J1,J2] [2,3,12,14,15,53,54,55] [] ⟨oeFold (by kernel_rfl) rfl (by kernel_rfl),trivial⟩ (by have:=hoY (Y i 5) (Y i 6);have:=hoX (Y i 5) (Y i 6);(try simp only [b1,b2,b3,b4,b5,gS,pza0,pza1,pza3,pza10,pza13]);(try simp only [gT] at *);try omega) ?_
      exact ih _ _ (prow3 h3) (fun e=>absurd e (by decide))
    refine arF 2 1 [(13,75,false),(23,92,false),(17,9,true),(11,101,false),(17,9,true)] 38 ((band (pza3 oE Y i) (band (pza10 x oX Y i y oY) (band (Bool.not far) (band (ile (-8192) (pza1 oX Y i x)) (band (Bool.not (Bool.not (ile (pza1 oX Y i x) (8192)))) (band (ile (-8192) (Int.add (oY (Y i 5) (Y i 6)) (Int.mul y (16)))) (pza13 i n)))))))) (pzaoX n Y ex sty mA mB mC mD mE mF x y sx sy (Nat.add i 1) (Bool.not (ile (Int.add (oY (Y i 5) (Y i 6)) (Int.mul y (16))) (8192))) (updR P i [(Y i 0),(Int.add (oX (Y i 1) (Y i 2)) (Int.mul x (16))),(Int.add (oY (Y i 1) (Y i 2)) (Int.mul y (16))),(Int.add (oX (Y i 3) (Y i 4)) (Int.mul x (16))),(Int.add (oY (Y i 3) (Y i 4)) (Int.mul y (16))),(Int.add (oX (Y i 5) (Y i 6)) (Int.mul x (16))),(Int.add (oY (Y i 5) (Y i 6)) (Int.mul y (16)))])) [.h,J1,J2] [2,3,12,14,15,53,54,55] [] ⟨oeFold (by kernel_rfl) rfl (by kernel_rfl),trivial⟩ (by have:=hoY (Y i 5) (Y i 6);have:=hoX (Y i 5) (Y i 6);(try simp only [b1,b2,b3,b4,b5,gS,pza0,pza1,pza3,pza10,pza13]);(try simp only [gT] at *);try omega) ?_
    exact ih _ _ (prow3 h3) (fun e=>⟨(hF b2).1,near3 (hF b2).2.1 (hF b2).2.2.1 (hF b2).2.2.2.1 (hF b2).2.2.2.2 ⟨b3p,b4p⟩ ⟨b5p,le_nf e⟩⟩)
  have b2p:=b2
  refine arF 2 1 [(13,75,false),(23,92,true)] 45 ((band (pza3 oE Y i) (band (pza10 x oX Y i y oY) (band far (pza13 i n))))) (pzaoX n Y ex sty mA mB mC mD mE mF x y sx sy (Nat.add i 1) true (updR P i [(Y i 0),(Int.add (oX (Y i 1) (Y i 2)) (Int.mul x (16))),(Int.add (oY (Y i 1) (Y i 2)) (Int.mul y (16))),(Int.add (oX (Y i 3) (Y i 4)) (Int.mul x (16))),(Int.add (oY (Y i 3) (Y i 4)) (Int.mul y (16))),(Int.add (oX (Y i 5) (Y i 6)) (Int.mul x (16))),(Int.add (oY (Y i 5) (Y i 6)) (Int.mul y (16)))])) [.h,J1,J2] [2,3,12,14,15,53,54,55] [] ⟨oeFold (by kernel_rfl) rfl (by kernel_rfl),trivial⟩ (by have:=hoY (Y i 5) (Y i 6);have:=hoX (Y i 5) (Y i 6);(try simp only [b1,b2,gS,pza0,pza1,pza3,pza10,pza13]);(try simp only [gT] at *);try omega) ?_
  exact ih _ _ (prow3 h3) (fun e=>absurd e (by decide))
theorem pzak1_ok (hF:far=false→far0=false∧at8 (Int.add (oX (Y i 1) (Y i 2)) (Int.mul x (16)))∧at8 (Int.add (oY (Y i 1) (Y i 2)) (Int.mul y (16)))) (ih:∀ (f:Bool) (l:List Int),PRow Y oX oY x y (updR P i l) i→(f=false→far0=false∧Near Y (updR P i l) i)→EndsX En 1 (pzaoX n Y ex sty mA mB mC mD mE mF x y sx sy (Nat.add i 1) f (updR P i l)) (QP n Y oX oY x y J1 J2)):EndsX En 1 (pzak1X n Y ex sty mA mB mC mD mE mF x y sx sy oX oY i far P) (QP n Y oX oY x y J1 J2):=by
  have hY32:=hY
  refine ac 1 [] 22 true (pzae5X n Y ex sty mA mB mC mD mE mF x y sx sy oX oY i far P) [.h,J1,J2,J3] [[2,3,12,14,15,16,17,18,53,54,55,61,62]] rfl ?_
  refine ca (hoomX mA mB mC mD mE mF sx sy (Y i 3) (Y i 4)) [J1] (hmv (px:=(Y i 3)) (py:=(Y i 4)) (hY32 _ _) (hY32 _ _)) (fun v' H' q=>?_)
  rcases q with ⟨rfl,hnx5⟩
  refine ⟨(.tup [(az [oX (Y i 3) (Y i 4),oY (Y i 3) (Y i 4)]),(zi (oE (Y i 3) (Y i 4)))]),[],J4,(by kernel_rfl),(by rw [hnx5];kernel_rfl),trivial,(by kernel_rfl),?_⟩
  rcases ci (oE (Y i 3) (Y i 4)) (0) with ⟨b1,b1p⟩|⟨b1,b1p⟩
  · refine fi 1 [(13,75,true)] 9 (band (Bool.not (ieq (oE (Y i 3) (Y i 4)) (0))) true) [.h] (.tup [.nils,(zi (oE (Y i 3) (Y i 4)))]) [] J1 (by (try simp only [b1,gS]);(try simp only [gT] at *);try omega) ?_
    exact .inl ⟨_,rfl,rfl,by assumption⟩
  rcases btf far with b2|b2
  · have b2p:=b2
    rcases cl (-8192) (Int.add (oX (Y i 3) (Y i 4)) (Int.mul x (16))) with ⟨b3,b3p⟩|⟨b3,b3p⟩
    · refine ar 1 [(13,75,false),(23,92,false),(17,9,false)] 27 ((band (pza4 oE Y i) (band (pza11 x oX Y i y oY) (band (Bool.not far) (band (Bool.not (ile (-8192) (pza2 oX Y i x))) true))))) (pzak2X n Y ex sty mA mB mC mD mE mF x y sx sy oX oY i true P) [.h,J1,J2,J3] [2,3,12,14,15,16,17,53,54,55,61,62] [] (by have:=hoX (Y i 3) (Y i 4);have:=hoY (Y i 3) (Y i 4);(try simp only [b1,b2,b3,gS,pza2,pza4,pza11]);(try simp only [gT] at *);try omega) ?_
      exact pzak2_ok hn hY hmA hmB hmC hmD hmE hmF hx hy hsx hsy hoX hoY hof hmv far0 hi h3 (fun e=>absurd e (by decide)) ih
    rcases cl (Int.add (oX (Y i 3) (Y i 4)) (Int.mul x (16))) (8192) with ⟨b4,b4p⟩|⟨b4,b4p⟩
    · refine ar 1 [(13,75,false),(23,92,false),(17,9,true),(11,101,true)] 16 ((band (pza4 oE Y i) (band (pza11 x oX Y i y oY) (band (Bool.not far) (band (ile (-8192) (pza2 oX Y i x)) (band (Bool.not (ile (pza2 oX Y i x) (8192))) true)))))) (pzak2X n Y ex sty mA mB mC mD mE mF x y sx sy oX oY i true P) [.h,J1,J2,J3] [2,3,12,14,15,16,17,53,54,55,61,62] [] (by have:=hoX (Y i 3) (Y i 4);have:=hoY (Y i 3) (Y i 4);(try simp only [b1,b2,b3,b4,gS,pza2,pza4,pza11]);(try simp only [gT] at *);try omega) ?_
      exact pzak2_ok hn hY hmA hmB hmC hmD hmE hmF hx hy hsx hsy hoX hoY hof hmv far0 hi h3 (fun e=>absurd e (by decide)) ih
    rcases cl (-8192) (Int.add (oY (Y i 3) (Y i 4)) (Int.mul y (16))) with ⟨b5,b5p⟩|⟨b5,b5p⟩
    · refine ar 1 [(13,75,false),(23,92,false),(17,9,true),(11,101,false),(17,9,false)] 18 ((band (pza4 oE Y i) (band (pza11 x oX Y i y oY) (band (Bool.not far) (band (ile (-8192) (pza2 oX Y i x)) (band (Bool.not (Bool.not (ile (pza2 oX Y i x) (8192)))) (band (Bool.not (ile (-8192) (Int.add (oY (Y i 3) (Y i 4)) (Int.mul y (16))))) true))))))) (pzak2X n Y ex sty mA mB mC mD mE mF x y sx sy oX oY i true P) [.h,J1,J2,J3] [2,3,12,14,15,16,17,53,54,55,61,62] [] (by have:=hoY (Y i 3) (Y i 4);have:=hoX (Y i 3) (Y i 4);(try simp only [b1,b2,b3,b4,b5,gS,pza2,pza4,pza11]);(try simp only [gT] at *);try omega) ?_
      exact pzak2_ok hn hY hmA hmB hmC hmD hmE hmF hx hy hsx hsy hoX hoY hof hmv far0 hi h3 (fun e=>absurd e (by decide)) ih
    refine ar 1 [(13,75,false),(23,92,false),(17,9,true),(11,101,false),(17,9,true)] 18 ((band (pza4 oE Y i) (band (pza11 x oX Y i y oY) (band (Bool.not far) (band (ile (-8192) (pza2 oX Y i x)) (band (Bool.not (Bool.not (ile (pza2 oX Y i x) (8192)))) (band (ile (-8192) (Int.add (oY (Y i 3) (Y i 4)) (Int.mul y (16)))) true))))))) (pzak2X n Y ex sty mA mB mC mD mE mF x y sx sy oX oY i (Bool.not (ile (Int.add (oY (Y i 3) (Y i 4)) (Int.mul y (16))) (8192))) P) [.h,J1,J2,J3] [2,3,12,14,15,16,17,53,54,55,61,62] [] (by have:=hoY (Y i 3) (Y i 4);have:=hoX (Y i 3) (Y i 4);(try simp only [b1,b2,b3,b4,b5,gS,pza2,pza4,pza11]);(try simp only [gT] at *);try omega) ?_
    exact pzak2_ok hn hY hmA hmB hmC hmD hmE hmF hx hy hsx hsy hoX hoY hof hmv far0 hi h3 (fun e=>⟨(hF b2).1,(hF b2).2.1,(hF b2).2.2,⟨b3p,b4p⟩,⟨b5p,le_nf e⟩⟩) ih
  have b2p:=b2
  refine ar 1 [(13,75,false),(23,92,true)] 25 ((band (pza4 oE Y i) (band (pza11 x oX Y i y oY) (band far true)))) (pzak2X n Y ex sty mA mB mC mD mE mF x y sx sy oX oY i true P) [.h,J1,J2,J3] [2,3,12,14,15,16,17,53,54,55,61,62] [] (by have:=hoY (Y i 3) (Y i 4);have:=hoX (Y i 3) (Y i 4);(try simp only [b1,b2,gS,pza2,pza4,pza11]);(try simp only [gT] at *);try omega) ?_
  exact pzak2_ok hn hY hmA hmB hmC hmD hmE hmF hx hy hsx hsy hoX hoY hof hmv far0 hi h3 (fun e=>absurd e (by decide)) ih
end
section
variable {n:Nat} {Y:Nat→Nat→Int} {ex:Bool} {sty:Bool} {sd:Int} {wd:Int} {mA:Int} {mB:Int} {mC:Int} {mD:Int} {mE:Int} {mF:Int} {x:Int} {y:Int} {sx:Int} {sy:Int} {oX:Int→Int→Int} {oY:Int→Int→Int} {oE:Int→Int→Int} (hn:n≤1000) (hY:∀ j k,-32000≤Y j k∧Y j k≤32000) (hmA : -2000000≤mA∧mA≤2000000) (hmB : -2000000≤mB∧mB≤2000000) (hmC : -2000000≤mC∧mC≤2000000) (hmD : -2000000≤mD∧mD≤2000000) (hmE : -40000≤mE∧mE≤40000) (hmF : -40000≤mF∧mF≤40000) (hx : -128≤x∧x≤127) (hy : -128≤y∧y≤127) (hsx:1≤sx∧sx≤16777216) (hsy:1≤sy∧sy≤16777216) (hoX:∀ j k,-1000000000000000000≤oX j k∧oX j k≤1000000000000000000) (hoY:∀ j k,-1000000000000000000≤oY j k∧oY j k≤1000000000000000000) (hof:EndsX En 1 (ofzmX n Y ex sty sd wd mA mB mC mD mE mF) (fun v H=>v=(.tup [(.fn 44 [(.ptr J1 0)] []),(zi (0))])∧H.nx=.i .h∧H.hp.get J1=some (ce 123 [(zi mA),(zi mB),(zi mC),(zi mD),(zi mE),(zi mF),(zi sx),(zi (0)),.nils,(zi sy),(zi (0)),.nils]))) (hmv:∀ (px py:Int),(-32000≤px∧px≤32000)→(-32000≤py∧py≤32000)→EndsX En 1 (hoomX mA mB mC mD mE mF sx sy px py) (fun v H=>v=.tup [.agg [.int .i64 (oX px py),.int .i64 (oY px py)],.int .i64 (oE px py)]∧H.nx=.o .h))
include hn hY hmA hmB hmC hmD hmE hmF hx hy hsx hsy hoX hoY hof hmv
theorem pzao_ok (hok:StepsOK n Y) (d:Nat):∀ (i:Nat) (far:Bool) (P:Nat→Nat→Int),n - i=d→i≤n→(∀ j,j < i→PRow Y oX oY x y P j)→(far=false→∀ j,j < i→Near Y P j)→EndsX En 1 (pzaoX n Y ex sty mA mB mC mD mE mF x y sx sy i far P) (QP n Y oX oY x y J1 J2):=by
  induction d using Nat.strongRecOn with
  | ind d IH =>
    intro i far P hd hi hP hN
    have hY32:=hY
    have ih:∀ (f:Bool) (l:List Int),i < n→PRow Y oX oY x y (updR P i l) i→(f=false→far=false∧Near Y (updR P i l) i)→EndsX En 1 (pzaoX n Y ex sty mA mB mC mD mE mF x y sx sy (Nat.add i 1) f (updR P i l)) (QP n Y oX oY x y J1 J2):=fun f l h1 h2 h3 =>
      IH (n - (i+1)) (by omega) (i+1) f _ rfl (by omega) (fun j hj=>by
        by_cases e:j=i
        · subst e;exact h2
        · exact prow_ne e (hP j (by omega))) (fun e j hj=>by
        obtain ⟨g1,g2⟩:=h3 e
        by_cases e2:j=i
        · subst e2;exact g2
        exact near_ne e2 (hN g1 j (by omega)))
    clear IH
    rcases ce_ (Nat.succ i) n with ⟨b1,b1p⟩|⟨b1,b1p⟩
    · rcases btf far with b2|b2
      · have b2p:=b2
        refine fi 1 [(5,56,false),(7,116,false)] 10 ((band (Bool.not (pza0 i n)) (band (Bool.not far) true))) [.h,J2] (.tup [(.sa J1 0 n 7),(zi (0))]) [(J1,(o7 n P true false))] J2 (by (try simp only [b1,b2,gS,pza0]);(try simp only [gT] at *);try omega) ?_
        exact .inr ⟨P,rfl,rfl,rfl,fun j hj=>hP j (by omega),fun j hj=>hN b2 j (by omega),hok⟩
      have b2p:=b2
      refine fi 1 [(5,56,false),(7,116,true)] 8 ((band (Bool.not (pza0 i n)) (band far true))) [.h] (.tup [.nils,(zi (26))]) [] J1 (by (try simp only [b1,b2,gS,pza0]);(try simp only [gT] at *);try omega) ?_
      exact .inl ⟨26,rfl,rfl,by decide⟩
    rcases ci (Y i 0) (4) with ⟨b3,b3p⟩|⟨b3,b3p⟩
    · rcases ci (Y i 0) (3) with ⟨b4,b4p⟩|⟨b4,b4p⟩
      · refine ac 1 [(5,56,true),(35,5,false),(6,7,false)] 35 ((band (pza0 i n) (band (pza9 i n) (band (Bool.not (ieq (Y i 0) (4))) (band (Bool.not (ieq (Y i 0) (3))) true))))) (pzae3X n Y ex sty mA mB mC mD mE mF x y sx sy i far P) [.h,J1,J2,J3] [[2,3,12,14,15,16,17,18,53,54,55,61,62]] (by have:=hY i 0;(try simp only [b1,b3,b4,gS,pza0,pza9]);(try simp only [gT] at *);try omega) ?_
        refine ca (hoomX mA mB mC mD mE mF sx sy (Y i 1) (Y i 2)) [J1] (hmv (px:=(Y i 1)) (py:=(Y i 2)) (hY32 _ _) (hY32 _ _)) (fun v' H' q=>?_)
        rcases q with ⟨rfl,hnx3⟩
        refine ⟨(.tup [(az [oX (Y i 1) (Y i 2),oY (Y i 1) (Y i 2)]),(zi (oE (Y i 1) (Y i 2)))]),[],J4,(by kernel_rfl),(by rw [hnx3];kernel_rfl),trivial,(by kernel_rfl),?_⟩
        rcases ci (oE (Y i 1) (Y i 2)) (0) with ⟨b5,b5p⟩|⟨b5,b5p⟩
        · refine fi 1 [(13,75,true)] 9 (band (Bool.not (ieq (oE (Y i 1) (Y i 2)) (0))) true) [.h] (.tup [.nils,(zi (oE (Y i 1) (Y i 2)))]) [] J1 (by have:=hY i 0;(try simp only [b1,b3,b4,b5,gS]);(try simp only [gT] at *);try omega) ?_
          exact .inl ⟨_,rfl,rfl,by assumption⟩
        rcases btf far with b6|b6
        · have b6p:=b6
          rcases cl (-8192) (Int.add (oX (Y i 1) (Y i 2)) (Int.mul x (16))) with ⟨b7,b7p⟩|⟨b7,b7p⟩
          · refine arF 2 1 [(13,75,false),(23,92,false),(17,9,false)] 47 ((pza14 oE Y i x oX y oY (band (Bool.not far) (band (Bool.not (pza6 oX Y i x)) (pza13 i n))))) (pzaoX n Y ex sty mA mB mC mD mE mF x y sx sy (Nat.add i 1) true (updR P i [(Y i 0),(Int.add (oX (Y i 1) (Y i 2)) (Int.mul x (16))),(Int.add (oY (Y i 1) (Y i 2)) (Int.mul y (16))),(Y i 3),(Y i 4),(Y i 5),(Y i 6)])) [.h,J1,J2] [2,3,12,14,15,53,54,55] [] ⟨oeFold (by kernel_rfl) rfl (by kernel_rfl),trivial⟩ (by have:=hoX (Y i 1) (Y i 2);have:=hoY (Y i 1) (Y i 2);have:=hY i 0;(try simp only [b1,b3,b4,b5,b6,b7,gS,pza0,pza5,pza6,pza12,pza13,pza14]);(try simp only [gT] at *);try omega) ?_
            exact ih _ _ (by omega) (prow1 b3p b4p) (fun e=>absurd e (by decide))
          rcases cl (Int.add (oX (Y i 1) (Y i 2)) (Int.mul x (16))) (8192) with ⟨b8,b8p⟩|⟨b8,b8p⟩
          · refine arF 2 1 [(13,75,false),(23,92,false),(17,9,true),(11,101,true)] 36 ((pza14 oE Y i x oX y oY (band (Bool.not far) (band (pza6 oX Y i x) (band (Bool.not (ile (Int.add (oX (Y i 1) (Y i 2)) (Int.mul x (16))) (8192))) (pza13 i n)))))) (pzaoX n Y ex sty mA mB mC mD mE mF x y sx sy (Nat.add i 1) true (updR P i [(Y i 0),(Int.add (oX (Y i 1) (Y i 2)) (Int.mul x (16))),(Int.add (oY (Y i 1) (Y i 2)) (Int.mul y (16))),(Y i 3),(Y i 4),(Y i 5),(Y i 6)])) [.h,J1,J2] [2,3,12,14,15,53,54,55] [] ⟨oeFold (by kernel_rfl) rfl (by kernel_rfl),trivial⟩ (by have:=hoX (Y i 1) (Y i 2);have:=hoY (Y i 1) (Y i 2);have:=hY i 0;(try simp only [b1,b3,b4,b5,b6,b7,b8,gS,pza0,pza5,pza6,pza12,pza13,pza14]);(try simp only [gT] at *);try omega) ?_
            exact ih _ _ (by omega) (prow1 b3p b4p) (fun e=>absurd e (by decide))
          rcases cl (-8192) (Int.add (oY (Y i 1) (Y i 2)) (Int.mul y (16))) with ⟨b9,b9p⟩|⟨b9,b9p⟩
          · refine arF 2 1 [(13,75,false),(23,92,false),(17,9,true),(11,101,false),(17,9,false)] 38 ((pza14 oE Y i x oX y oY (band (Bool.not far) (band (pza6 oX Y i x) (band (pza8 oX Y i x) (band (Bool.not (pza7 oY Y i y)) (pza13 i n))))))) (pzaoX n Y ex sty mA mB mC mD mE mF x y sx sy (Nat.add i 1) true (updR P i [(Y i 0),(Int.add (oX (Y i 1) (Y i 2)) (Int.mul x (16))),(Int.add (oY (Y i 1) (Y i 2)) (Int.mul y (16))),(Y i 3),(Y i 4),(Y i 5),(Y i 6)])) [.h,J1,J2] [2,3,12,14,15,53,54,55] [] ⟨oeFold (by kernel_rfl) rfl (by kernel_rfl),trivial⟩ (by have:=hoY (Y i 1) (Y i 2);have:=hoX (Y i 1) (Y i 2);have:=hY i 0;(try simp only [b1,b3,b4,b5,b6,b7,b8,b9,gS,pza0,pza5,pza6,pza7,pza8,pza12,pza13,pza14]);(try simp only [gT] at *);try omega) ?_
            exact ih _ _ (by omega) (prow1 b3p b4p) (fun e=>absurd e (by decide))
          refine arF 2 1 [(13,75,false),(23,92,false),(17,9,true),(11,101,false),(17,9,true)] 38 ((pza14 oE Y i x oX y oY (band (Bool.not far) (band (pza6 oX Y i x) (band (pza8 oX Y i x) (band (pza7 oY Y i y) (pza13 i n))))))) (pzaoX n Y ex sty mA mB mC mD mE mF x y sx sy (Nat.add i 1) (Bool.not (ile (Int.add (oY (Y i 1) (Y i 2)) (Int.mul y (16))) (8192))) (updR P i [(Y i 0),(Int.add (oX (Y i 1) (Y i 2)) (Int.mul x (16))),(Int.add (oY (Y i 1) (Y i 2)) (Int.mul y (16))),(Y i 3),(Y i 4),(Y i 5),(Y i 6)])) [.h,J1,J2] [2,3,12,14,15,53,54,55] [] ⟨oeFold (by kernel_rfl) rfl (by kernel_rfl),trivial⟩ (by have:=hoY (Y i 1) (Y i 2);have:=hoX (Y i 1) (Y i 2);have:=hY i 0;(try simp only [b1,b3,b4,b5,b6,b7,b8,b9,gS,pza0,pza5,pza6,pza7,pza8,pza12,pza13,pza14]);(try simp only [gT] at *);try omega) ?_
          exact ih _ _ (by omega) (prow1 b3p b4p) (fun e=>⟨b6,near1 b4p ⟨b7p,b8p⟩ ⟨b9p,le_nf e⟩⟩)
        have b6p:=b6
        refine arF 2 1 [(13,75,false),(23,92,true)] 45 ((pza14 oE Y i x oX y oY (band far (pza13 i n)))) (pzaoX n Y ex sty mA mB mC mD mE mF x y sx sy (Nat.add i 1) true (updR P i [(Y i 0),(Int.add (oX (Y i 1) (Y i 2)) (Int.mul x (16))),(Int.add (oY (Y i 1) (Y i 2)) (Int.mul y (16))),(Y i 3),(Y i 4),(Y i 5),(Y i 6)])) [.h,J1,J2] [2,3,12,14,15,53,54,55] [] ⟨oeFold (by kernel_rfl) rfl (by kernel_rfl),trivial⟩ (by have:=hoY (Y i 1) (Y i 2);have:=hoX (Y i 1) (Y i 2);have:=hY i 0;(try simp only [b1,b3,b4,b5,b6,gS,pza0,pza5,pza12,pza13,pza14]);(try simp only [gT] at *);try omega) ?_
        exact ih _ _ (by omega) (prow1 b3p b4p) (fun e=>absurd e (by decide))
      refine ac 1 [(5,56,true),(35,5,false),(6,7,true)] 33 ((band (pza0 i n) (band (pza9 i n) (band (Bool.not (ieq (Y i 0) (4))) (band (ieq (Y i 0) (3)) true))))) (pzae4X n Y ex sty mA mB mC mD mE mF x y sx sy i far P) [.h,J1,J2,J3] [[2,3,12,14,15,16,17,18,53,54,55,61,62]] (by have:=hY i 0;(try simp only [b1,b3,b4,gS,pza0,pza9]);(try simp only [gT] at *);try omega) ?_
      refine ca (hoomX mA mB mC mD mE mF sx sy (Y i 1) (Y i 2)) [J1] (hmv (px:=(Y i 1)) (py:=(Y i 2)) (hY32 _ _) (hY32 _ _)) (fun v' H' q=>?_)
      rcases q with ⟨rfl,hnx4⟩
      refine ⟨(.tup [(az [oX (Y i 1) (Y i 2),oY (Y i 1) (Y i 2)]),(zi (oE (Y i 1) (Y i 2)))]),[],J4,(by kernel_rfl),(by rw [hnx4];kernel_rfl),trivial,(by kernel_rfl),?_⟩
      rcases ci (oE (Y i 1) (Y i 2)) (0) with ⟨b10,b10p⟩|⟨b10,b10p⟩
      · refine fi 1 [(13,75,true)] 9 (band (Bool.not (ieq (oE (Y i 1) (Y i 2)) (0))) true) [.h] (.tup [.nils,(zi (oE (Y i 1) (Y i 2)))]) [] J1 (by have:=hY i 0;(try simp only [b1,b3,b4,b10,gS]);(try simp only [gT] at *);try omega) ?_
        exact .inl ⟨_,rfl,rfl,by assumption⟩
      rcases btf far with b11|b11
      · have b11p:=b11
        rcases cl (-8192) (Int.add (oX (Y i 1) (Y i 2)) (Int.mul x (16))) with ⟨b12,b12p⟩|⟨b12,b12p⟩
        · refine ar 1 [(13,75,false),(23,92,false),(17,9,false)] 27 ((pza14 oE Y i x oX y oY (band (Bool.not far) (band (Bool.not (pza6 oX Y i x)) true)))) (pzak1X n Y ex sty mA mB mC mD mE mF x y sx sy oX oY i true P) [.h,J1,J2,J3] [2,3,12,14,15,16,17,53,54,55,61,62] [] (by have:=hoX (Y i 1) (Y i 2);have:=hoY (Y i 1) (Y i 2);have:=hY i 0;(try simp only [b1,b3,b4,b10,b11,b12,gS,pza5,pza6,pza12,pza14]);(try simp only [gT] at *);try omega) ?_
          exact pzak1_ok hn hY hmA hmB hmC hmD hmE hmF hx hy hsx hsy hoX hoY hof hmv far (by omega) b4p (fun e=>absurd e (by decide)) (fun f l a b=>ih f l (by omega) a b)
        rcases cl (Int.add (oX (Y i 1) (Y i 2)) (Int.mul x (16))) (8192) with ⟨b13,b13p⟩|⟨b13,b13p⟩
        · refine ar 1 [(13,75,false),(23,92,false),(17,9,true),(11,101,true)] 16 ((pza14 oE Y i x oX y oY (band (Bool.not far) (band (pza6 oX Y i x) (band (Bool.not (ile (Int.add (oX (Y i 1) (Y i 2)) (Int.mul x (16))) (8192))) true))))) (pzak1X n Y ex sty mA mB mC mD mE mF x y sx sy oX oY i true P) [.h,J1,J2,J3] [2,3,12,14,15,16,17,53,54,55,61,62] [] (by have:=hoX (Y i 1) (Y i 2);have:=hoY (Y i 1) (Y i 2);have:=hY i 0;(try simp only [b1,b3,b4,b10,b11,b12,b13,gS,pza5,pza6,pza12,pza14]);(try simp only [gT] at *);try omega) ?_
          exact pzak1_ok hn hY hmA hmB hmC hmD hmE hmF hx hy hsx hsy hoX hoY hof hmv far (by omega) b4p (fun e=>absurd e (by decide)) (fun f l a b=>ih f l (by omega) a b)
        rcases cl (-8192) (Int.add (oY (Y i 1) (Y i 2)) (Int.mul y (16))) with ⟨b14,b14p⟩|⟨b14,b14p⟩
        · refine ar 1 [(13,75,false),(23,92,false),(17,9,true),(11,101,false),(17,9,false)] 18 ((pza14 oE Y i x oX y oY (band (Bool.not far) (band (pza6 oX Y i x) (band (pza8 oX Y i x) (band (Bool.not (pza7 oY Y i y)) true)))))) (pzak1X n Y ex sty mA mB mC mD mE mF x y sx sy oX oY i true P) [.h,J1,J2,J3] [2,3,12,14,15,16,17,53,54,55,61,62] [] (by have:=hoY (Y i 1) (Y i 2);have:=hoX (Y i 1) (Y i 2);have:=hY i 0;(try simp only [b1,b3,b4,b10,b11,b12,b13,b14,gS,pza5,pza6,pza7,pza8,pza12,pza14]);(try simp only [gT] at *);try omega) ?_
          exact pzak1_ok hn hY hmA hmB hmC hmD hmE hmF hx hy hsx hsy hoX hoY hof hmv far (by omega) b4p (fun e=>absurd e (by decide)) (fun f l a b=>ih f l (by omega) a b)
        refine ar 1 [(13,75,false),(23,92,false),(17,9,true),(11,101,false),(17,9,true)] 18 ((pza14 oE Y i x oX y oY (band (Bool.not far) (band (pza6 oX Y i x) (band (pza8 oX Y i x) (band (pza7 oY Y i y) true)))))) (pzak1X n Y ex sty mA mB mC mD mE mF x y sx sy oX oY i (Bool.not (ile (Int.add (oY (Y i 1) (Y i 2)) (Int.mul y (16))) (8192))) P) [.h,J1,J2,J3] [2,3,12,14,15,16,17,53,54,55,61,62] [] (by have:=hoY (Y i 1) (Y i 2);have:=hoX (Y i 1) (Y i 2);have:=hY i 0;(try simp only [b1,b3,b4,b10,b11,b12,b13,b14,gS,pza5,pza6,pza7,pza8,pza12,pza14]);(try simp only [gT] at *);try omega) ?_
        exact pzak1_ok hn hY hmA hmB hmC hmD hmE hmF hx hy hsx hsy hoX hoY hof hmv far (by omega) b4p (fun e=>⟨b11,⟨b12p,b13p⟩,⟨b14p,le_nf e⟩⟩) (fun f l a b=>ih f l (by omega) a b)
      have b11p:=b11
      refine ar 1 [(13,75,false),(23,92,true)] 25 ((pza14 oE Y i x oX y oY (band far true))) (pzak1X n Y ex sty mA mB mC mD mE mF x y sx sy oX oY i true P) [.h,J1,J2,J3] [2,3,12,14,15,16,17,53,54,55,61,62] [] (by have:=hoY (Y i 1) (Y i 2);have:=hoX (Y i 1) (Y i 2);have:=hY i 0;(try simp only [b1,b3,b4,b10,b11,gS,pza5,pza12,pza14]);(try simp only [gT] at *);try omega) ?_
      exact pzak1_ok hn hY hmA hmB hmC hmD hmE hmF hx hy hsx hsy hoX hoY hof hmv far (by omega) b4p (fun e=>absurd e (by decide)) (fun f l a b=>ih f l (by omega) a b)
    refine arF 2 1 [(5,56,true),(35,5,true)] 31 ((band (pza0 i n) (band (pza9 i n) (band (ieq (Y i 0) (4)) (pza13 i n))))) (pzaoX n Y ex sty mA mB mC mD mE mF x y sx sy (Nat.add i 1) far (updR P i [(Y i 0),(Y i 1),(Y i 2),(Y i 3),(Y i 4),(Y i 5),(Y i 6)])) [.h,J1,J2] [2,3,12,14,15,53,54,55] [] ⟨oeFold (by kernel_rfl) rfl (by kernel_rfl),trivial⟩ (by have:=hY i 0;(try simp only [b1,b3,gS,pza0,pza9,pza13]);(try simp only [gT] at *);try omega) ?_
    exact ih _ _ (by omega) (prow4 b3p) (fun e=>⟨e,near4 b3p⟩)
theorem pzam_ok:EndsX En 1 (pzamX n Y ex sty sd wd mA mB mC mD mE mF x y) (QP n Y oX oY x y J1 J2):=by
  have hY9:∀ j k,-1000000000≤Y j k∧Y j k≤1000000000:=fun j k=>by have:=hY j k;omega
  refine ac 1 [] 12 true (pzae1X n Y ex sty sd wd mA mB mC mD mE mF x y) [.h,J1,J2] [[2,3,4,5]] rfl ?_
  refine ca (gcmX n Y ex sty sd wd) [.h] (gcm_ok (n:=n) (Y:=Y) (ex:=ex) (sty:=sty) (sd:=sd) (wd:=wd) hY9 hn) (fun v' H' q=>?_)
  rcases q with ⟨e_1,rfl,hnx1,hg_1⟩
  refine ⟨(zi e_1),[],J3,(by kernel_rfl),(by rw [hnx1];kernel_rfl),trivial,(by kernel_rfl),?_⟩
  rcases ci e_1 (0) with ⟨b1,b1p⟩|⟨b1,b1p⟩
  · refine fi 1 [(7,24,true)] 9 (band (Bool.not (ieq e_1 (0))) true) [.h] (.tup [.nils,(zi e_1)]) [] J1 (by (try simp only [b1,gS]);(try simp only [gT] at *);try omega) ?_
    exact .inl ⟨_,rfl,rfl,by assumption⟩
  refine ac 1 [(7,24,false),(60,17,false),(5,21,false),(30,17,false),(5,21,false),(30,17,false),(5,21,false),(30,17,false),(5,21,false),(63,17,false),(5,21,false),(30,17,false),(5,21,false),(55,9,true),(10,34,false),(13,9,true),(11,38,false)] 7 (band (Bool.not (Bool.not (ieq e_1 (0)))) (band (Bool.not (ilt mA (-16777216))) (band (Bool.not (ilt (16777216) mA)) (band (Bool.not (ilt mB (-16777216))) (band (Bool.not (ilt (16777216) mB)) (band (Bool.not (ilt mC (-16777216))) (band (Bool.not (ilt (16777216) mC)) (band (Bool.not (ilt mD (-16777216))) (band (Bool.not (ilt (16777216) mD)) (band (Bool.not (ilt mE (-536870912))) (band (Bool.not (ilt (536870912) mE)) (band (Bool.not (ilt mF (-536870912))) (band (Bool.not (ilt (536870912) mF)) (band (ile (-600) x) (band (Bool.not (Bool.not (ile x (600)))) (band (ile (-600) y) (band (Bool.not (Bool.not (ile y (600)))) true))))))))))))))))) (pzae2X n Y ex sty sd wd mA mB mC mD mE mF x y) [.h,J1] [[2,3,4]] (by (try simp only [b1,gS]);(try simp only [gT] at *);try omega) ?_
  refine ca (ofzmX n Y ex sty sd wd mA mB mC mD mE mF) [.h] (hof) (fun v' H' q=>?_)
  rcases q with ⟨rfl,hnx2,ho0_2⟩
  refine ⟨(.tup [(.fn 44 [(.ptr J2 0)] []),(zi (0))]),[(J2,(ce 123 [(zi mA),(zi mB),(zi mC),(zi mD),(zi mE),(zi mF),(zi sx),(zi (0)),.nils,(zi sy),(zi (0)),.nils]))],J3,(by kernel_rfl),(by rw [hnx2];kernel_rfl),⟨⟨J1,_,(Nat.le_of_ble_eq_true (by kernel_rfl)),(by show _=_;kernel_rfl),ho0_2,(by show _=_;kernel_rfl)⟩,trivial⟩,(by kernel_rfl),?_⟩
  refine ar 1 [] 36 (band (band (band (Nat.beq n n) (band (Nat.ble n 1099511627776) (Nat.ble (Nat.mul 56 n) 1099511627776))) true) true) (pzaoX n Y ex sty mA mB mC mD mE mF x y sx sy 0 false (fun _ _=>0)) [.h,J2,J3] [2,3,12,14,15,53,54,55] [] (by (try simp only [b1,gS]);(try simp only [gT] at *);try omega) ?_
  exact pzao_ok hn hY hmA hmB hmC hmD hmE hmF hx hy hsx hsy hoX hoY hof hmv (hg_1 b1p) (n - 0) 0 false _ rfl (by omega) (fun j hj=>by omega) (fun _ j hj=>by omega)
end
section
variable (sd wd:Int) (m:Nat) (V:Nat→Bool) (S:Nat→Nat→Int) (sex ssty:Bool) (mA mB mC mD mE mF x y e_1:Int)
noncomputable def pnsemX:St:=⟨getF (enterA En 9 [(.agg [(zi sd),(zi wd),.nils,(.sa .h 0 m 3)]),(az [mA,mB,mC,mD,mE,mF]),(zi x),(zi y)] false),[],[(.h,(o3 m V S sex ssty))],J1,1⟩
noncomputable def pnsee1X:St:=⟨cf (gnsmX sd wd m V S sex ssty) J3 [.h],[(fr 9 118 (ts [2,3,4,5] [zi x,zi y,.ptr J1 0,.ptr J2 0]) [rA En 9 (pb 12) 1,cA En 9 (pb 13),cA En 9 (pb 7)])],(zs [(o3 m V S sex ssty),(ce 36 [(zi sd),(zi wd),.nils,(.sa .h 0 m 3)]),(zc 39 [mA,mB,mC,mD,mE,mF])]),J3,1⟩
noncomputable def pnsee2X:St:=⟨cf (ofnsmX sd wd m V S sex ssty mA mB mC mD mE mF) J2 [.h],[(fr 9 118 (ts [2,3,4] [zi x,zi y,.ptr J1 0]) [rA En 9 (pb 62) 2,cA En 9 (pb 63)])],(zs [(o3 m V S sex ssty),(ce 36 [(zi sd),(zi wd),.nils,(.sa .h 0 m 3)])]),J2,1⟩
end
theorem pnsem_ok {sd:Int} {wd:Int} {m:Nat} {V:Nat→Bool} {S:Nat→Nat→Int} {sex:Bool} {ssty:Bool} {mA:Int} {mB:Int} {mC:Int} {mD:Int} {mE:Int} {mF:Int} {x:Int} {y:Int} (hm8:m≤8) (hS:∀ j k,-32000≤S j k∧S j k≤32000) (hsort:Sorted m V S) (hmA : -2000000≤mA∧mA≤2000000) (hmB : -2000000≤mB∧mB≤2000000) (hmC : -2000000≤mC∧mC≤2000000) (hmD : -2000000≤mD∧mD≤2000000) (hmE : -40000≤mE∧mE≤40000) (hmF : -40000≤mF∧mF≤40000) (hx : -128≤x∧x≤127) (hy : -128≤y∧y≤127) (hof:EndsX En 1 (ofnsmX sd wd m V S sex ssty mA mB mC mD mE mF) (fun v H=>v=(.tup [.nilf,(zi (2))])∧H.nx=.o .h)):EndsX En 1 (pnsemX sd wd m V S sex ssty mA mB mC mD mE mF x y) (QP 0 (fun _ _=>0) (fun _ _=>0) (fun _ _=>0) x y J1 J2):=by
  refine ac 1 [] 12 true (pnsee1X sd wd m V S sex ssty mA mB mC mD mE mF x y) [.h,J1,J2] [[2,3,4,5]] rfl ?_
  refine ca (gnsmX sd wd m V S sex ssty) [.h] (gnsm_ok (sd:=sd) (wd:=wd) (m:=m) (V:=V) (S:=S) (sex:=sex) (ssty:=ssty) hm8 hS hsort) (fun v' H' q=>?_)
  rcases q with ⟨e_1,rfl,hnx1⟩
  refine ⟨(zi e_1),[],J3,(by kernel_rfl),(by rw [hnx1];kernel_rfl),trivial,(by kernel_rfl),?_⟩
  rcases ci e_1 (0) with ⟨b1,b1p⟩|⟨b1,b1p⟩
  · refine fi 1 [(7,24,true)] 9 (band (Bool.not (ieq e_1 (0))) true) [.h] (.tup [.nils,(zi e_1)]) [] J1 (by (try simp only [b1,gS]);(try simp only [gT] at *);try omega) ?_
    exact .inl ⟨_,rfl,rfl,by assumption⟩
  refine ac 1 [(7,24,false),(60,17,false),(5,21,false),(30,17,false),(5,21,false),(30,17,false),(5,21,false),(30,17,false),(5,21,false),(63,17,false),(5,21,false),(30,17,false),(5,21,false),(55,9,true),(10,34,false),(13,9,true),(11,38,false)] 7 (band (Bool.not (Bool.not (ieq e_1 (0)))) (band (Bool.not (ilt mA (-16777216))) (band (Bool.not (ilt (16777216) mA)) (band (Bool.not (ilt mB (-16777216))) (band (Bool.not (ilt (16777216) mB)) (band (Bool.not (ilt mC (-16777216))) (band (Bool.not (ilt (16777216) mC)) (band (Bool.not (ilt mD (-16777216))) (band (Bool.not (ilt (16777216) mD)) (band (Bool.not (ilt mE (-536870912))) (band (Bool.not (ilt (536870912) mE)) (band (Bool.not (ilt mF (-536870912))) (band (Bool.not (ilt (536870912) mF)) (band (ile (-600) x) (band (Bool.not (Bool.not (ile x (600)))) (band (ile (-600) y) (band (Bool.not (Bool.not (ile y (600)))) true))))))))))))))))) (pnsee2X sd wd m V S sex ssty mA mB mC mD mE mF x y) [.h,J1] [[2,3,4]] (by (try simp only [b1,gS]);(try simp only [gT] at *);try omega) ?_
  refine ca (ofnsmX sd wd m V S sex ssty mA mB mC mD mE mF) [.h] (hof) (fun v' H' q=>?_)
  rcases q with ⟨rfl,hnx2⟩
  refine ⟨(.tup [.nilf,(zi (2))]),[],J2,(by kernel_rfl),(by rw [hnx2];kernel_rfl),trivial,(by kernel_rfl),?_⟩
  refine fi 1 [] 21 true [.h] (.tup [.nils,(zi (2))]) [] J1 rfl ?_
  exact .inl ⟨2,rfl,rfl,by decide⟩
section
variable (sd wd:Int) (m:Nat) (V:Nat→Bool) (S:Nat→Nat→Int) (sex ssty:Bool) (mA mB mC mD mE mF x y e_1:Int)
noncomputable def pnspmX:St:=⟨getF (enterA En 9 [(.agg [(zi sd),(zi wd),.nils,(.sa .h 0 m 3)]),(az [mA,mB,mC,mD,mE,mF]),(zi x),(zi y)] false),[],[(.h,(o3 m V S sex ssty))],J1,1⟩
noncomputable def pnspe1X:St:=⟨cf (gnsmX sd wd m V S sex ssty) J3 [.h],[(fr 9 118 (ts [2,3,4,5] [zi x,zi y,.ptr J1 0,.ptr J2 0]) [rA En 9 (pb 12) 1,cA En 9 (pb 13),cA En 9 (pb 7)])],(zs [(o3 m V S sex ssty),(ce 36 [(zi sd),(zi wd),.nils,(.sa .h 0 m 3)]),(zc 39 [mA,mB,mC,mD,mE,mF])]),J3,1⟩
noncomputable def pnspe2X:St:=⟨cf (ofnsmX sd wd m V S sex ssty mA mB mC mD mE mF) J2 [.h],[(fr 9 118 (ts [2,3,4] [zi x,zi y,.ptr J1 0]) [rA En 9 (pb 62) 2,cA En 9 (pb 63)])],(zs [(o3 m V S sex ssty),(ce 36 [(zi sd),(zi wd),.nils,(.sa .h 0 m 3)])]),J2,1⟩
end
theorem pnspm_ok {sd:Int} {wd:Int} {m:Nat} {V:Nat→Bool} {S:Nat→Nat→Int} {sex:Bool} {ssty:Bool} {mA:Int} {mB:Int} {mC:Int} {mD:Int} {mE:Int} {mF:Int} {x:Int} {y:Int} {oX:Int→Int→Int} {oY:Int→Int→Int} {oE:Int→Int→Int} (hm8:m≤8) (hS:∀ j k,-32000≤S j k∧S j k≤32000) (hsort:Sorted m V S) (hmA : -2000000≤mA∧mA≤2000000) (hmB : -2000000≤mB∧mB≤2000000) (hmC : -2000000≤mC∧mC≤2000000) (hmD : -2000000≤mD∧mD≤2000000) (hmE : -40000≤mE∧mE≤40000) (hmF : -40000≤mF∧mF≤40000) (hx : -128≤x∧x≤127) (hy : -128≤y∧y≤127) (hoX:∀ j k,-1000000000000000000≤oX j k∧oX j k≤1000000000000000000) (hoY:∀ j k,-1000000000000000000≤oY j k∧oY j k≤1000000000000000000) (hof:EndsX En 1 (ofnsmX sd wd m V S sex ssty mA mB mC mD mE mF) (fun v H=>v=(.tup [(.fn 43 [(.ptr J1 0)] []),(zi (0))])∧H.nx=.i .h∧H.hp.get J1=some (ce 123 [(zi mA),(zi mB),(zi mC),(zi mD),(zi mE),(zi mF),(zi (0)),(zi (0)),.nils,(zi (0)),(zi (0)),.nils]))):EndsX En 1 (pnspmX sd wd m V S sex ssty mA mB mC mD mE mF x y) (QP 0 (fun _ _=>0) oX oY x y J1 J2):=by
  refine ac 1 [] 12 true (pnspe1X sd wd m V S sex ssty mA mB mC mD mE mF x y) [.h,J1,J2] [[2,3,4,5]] rfl ?_
  refine ca (gnsmX sd wd m V S sex ssty) [.h] (gnsm_ok (sd:=sd) (wd:=wd) (m:=m) (V:=V) (S:=S) (sex:=sex) (ssty:=ssty) hm8 hS hsort) (fun v' H' q=>?_)
  rcases q with ⟨e_1,rfl,hnx1⟩
  refine ⟨(zi e_1),[],J3,(by kernel_rfl),(by rw [hnx1];kernel_rfl),trivial,(by kernel_rfl),?_⟩
  rcases ci e_1 (0) with ⟨b1,b1p⟩|⟨b1,b1p⟩
  · refine fi 1 [(7,24,true)] 9 (band (Bool.not (ieq e_1 (0))) true) [.h] (.tup [.nils,(zi e_1)]) [] J1 (by (try simp only [b1,gS]);(try simp only [gT] at *);try omega) ?_
    exact .inl ⟨_,rfl,rfl,by assumption⟩
  refine ac 1 [(7,24,false),(60,17,false),(5,21,false),(30,17,false),(5,21,false),(30,17,false),(5,21,false),(30,17,false),(5,21,false),(63,17,false),(5,21,false),(30,17,false),(5,21,false),(55,9,true),(10,34,false),(13,9,true),(11,38,false)] 7 (band (Bool.not (Bool.not (ieq e_1 (0)))) (band (Bool.not (ilt mA (-16777216))) (band (Bool.not (ilt (16777216) mA)) (band (Bool.not (ilt mB (-16777216))) (band (Bool.not (ilt (16777216) mB)) (band (Bool.not (ilt mC (-16777216))) (band (Bool.not (ilt (16777216) mC)) (band (Bool.not (ilt mD (-16777216))) (band (Bool.not (ilt (16777216) mD)) (band (Bool.not (ilt mE (-536870912))) (band (Bool.not (ilt (536870912) mE)) (band (Bool.not (ilt mF (-536870912))) (band (Bool.not (ilt (536870912) mF)) (band (ile (-600) x) (band (Bool.not (Bool.not (ile x (600)))) (band (ile (-600) y) (band (Bool.not (Bool.not (ile y (600)))) true))))))))))))))))) (pnspe2X sd wd m V S sex ssty mA mB mC mD mE mF x y) [.h,J1] [[2,3,4]] (by (try simp only [b1,gS]);(try simp only [gT] at *);try omega) ?_
  refine ca (ofnsmX sd wd m V S sex ssty mA mB mC mD mE mF) [.h] (hof) (fun v' H' q=>?_)
  rcases q with ⟨rfl,hnx2,ho0_2⟩
  refine ⟨(.tup [(.fn 43 [(.ptr J2 0)] []),(zi (0))]),[(J2,(ce 123 [(zi mA),(zi mB),(zi mC),(zi mD),(zi mE),(zi mF),(zi (0)),(zi (0)),.nils,(zi (0)),(zi (0)),.nils]))],J3,(by kernel_rfl),(by rw [hnx2];kernel_rfl),⟨⟨J1,_,(Nat.le_of_ble_eq_true (by kernel_rfl)),(by show _=_;kernel_rfl),ho0_2,(by show _=_;kernel_rfl)⟩,trivial⟩,(by kernel_rfl),?_⟩
  refine fi 1 [] 58 true [.h,J3] (.tup [(.sa J1 0 0 7),(zi (0))]) [(J1,(o7 0 (fun _ _=>0) true false))] J2 rfl ?_
  exact .inr ⟨_,rfl,rfl,rfl,fun j hj=>by omega,fun j hj=>by omega,⟨by omega,fun j hj=>by omega⟩⟩
section
variable (sd wd:Int) (m:Nat) (V:Nat→Bool) (S:Nat→Nat→Int) (sex ssty:Bool) (mA mB mC mD mE mF x y e_1 sx sy:Int) (q2:Nat) (K2:Nat→Nat→Int)
noncomputable def pnsbmX:St:=⟨getF (enterA En 9 [(.agg [(zi sd),(zi wd),.nils,(.sa .h 0 m 3)]),(az [mA,mB,mC,mD,mE,mF]),(zi x),(zi y)] false),[],[(.h,(o3 m V S sex ssty))],J1,1⟩
noncomputable def pnsbe1X:St:=⟨cf (gnsmX sd wd m V S sex ssty) J3 [.h],[(fr 9 118 (ts [2,3,4,5] [zi x,zi y,.ptr J1 0,.ptr J2 0]) [rA En 9 (pb 12) 1,cA En 9 (pb 13),cA En 9 (pb 7)])],(zs [(o3 m V S sex ssty),(ce 36 [(zi sd),(zi wd),.nils,(.sa .h 0 m 3)]),(zc 39 [mA,mB,mC,mD,mE,mF])]),J3,1⟩
noncomputable def pnsbe2X:St:=⟨cf (ofnsmX sd wd m V S sex ssty mA mB mC mD mE mF) J2 [.h],[(fr 9 118 (ts [2,3,4] [zi x,zi y,.ptr J1 0]) [rA En 9 (pb 62) 2,cA En 9 (pb 63)])],(zs [(o3 m V S sex ssty),(ce 36 [(zi sd),(zi wd),.nils,(.sa .h 0 m 3)])]),J2,1⟩
end
theorem pnsbm_ok {sd:Int} {wd:Int} {m:Nat} {V:Nat→Bool} {S:Nat→Nat→Int} {sex:Bool} {ssty:Bool} {mA:Int} {mB:Int} {mC:Int} {mD:Int} {mE:Int} {mF:Int} {x:Int} {y:Int} {sx:Int} {sy:Int} {q2:Nat} {K2:Nat→Nat→Int} {oX:Int→Int→Int} {oY:Int→Int→Int} {oE:Int→Int→Int} (hm8:m≤8) (hS:∀ j k,-32000≤S j k∧S j k≤32000) (hsort:Sorted m V S) (hmA : -2000000≤mA∧mA≤2000000) (hmB : -2000000≤mB∧mB≤2000000) (hmC : -2000000≤mC∧mC≤2000000) (hmD : -2000000≤mD∧mD≤2000000) (hmE : -40000≤mE∧mE≤40000) (hmF : -40000≤mF∧mF≤40000) (hx : -128≤x∧x≤127) (hy : -128≤y∧y≤127) (hsx:1≤sx∧sx≤16777216) (hsy:1≤sy∧sy≤16777216) (hq2:q2≤100) (hoX:∀ j k,-1000000000000000000≤oX j k∧oX j k≤1000000000000000000) (hoY:∀ j k,-1000000000000000000≤oY j k∧oY j k≤1000000000000000000) (hof:EndsX En 1 (ofnsmX sd wd m V S sex ssty mA mB mC mD mE mF) (fun v H=>v=(.tup [(.fn 44 [(.ptr J1 0)] []),(zi (0))])∧H.nx=.o J1∧H.hp.get J1=some (ce 123 [(zi mA),(zi mB),(zi mC),(zi mD),(zi mE),(zi mF),(zi sx),(zi (0)),.nils,(zi sy),(zi (0)),(.sa J2 0 (Nat.succ q2) 2)])∧H.hp.get J2=some (.arr (Nat.succ q2) 2 (rowK [.i64,.i64] K2) none 159 false false))):EndsX En 1 (pnsbmX sd wd m V S sex ssty mA mB mC mD mE mF x y) (QP 0 (fun _ _=>0) oX oY x y J1 J2):=by
  refine ac 1 [] 12 true (pnsbe1X sd wd m V S sex ssty mA mB mC mD mE mF x y) [.h,J1,J2] [[2,3,4,5]] rfl ?_
  refine ca (gnsmX sd wd m V S sex ssty) [.h] (gnsm_ok (sd:=sd) (wd:=wd) (m:=m) (V:=V) (S:=S) (sex:=sex) (ssty:=ssty) hm8 hS hsort) (fun v' H' q=>?_)
  rcases q with ⟨e_1,rfl,hnx1⟩
  refine ⟨(zi e_1),[],J3,(by kernel_rfl),(by rw [hnx1];kernel_rfl),trivial,(by kernel_rfl),?_⟩
  rcases ci e_1 (0) with ⟨b1,b1p⟩|⟨b1,b1p⟩
  · refine fi 1 [(7,24,true)] 9 (band (Bool.not (ieq e_1 (0))) true) [.h] (.tup [.nils,(zi e_1)]) [] J1 (by (try simp only [b1,gS]);(try simp only [gT] at *);try omega) ?_
    exact .inl ⟨_,rfl,rfl,by assumption⟩
  refine ac 1 [(7,24,false),(60,17,false),(5,21,false),(30,17,false),(5,21,false),(30,17,false),(5,21,false),(30,17,false),(5,21,false),(63,17,false),(5,21,false),(30,17,false),(5,21,false),(55,9,true),(10,34,false),(13,9,true),(11,38,false)] 7 (band (Bool.not (Bool.not (ieq e_1 (0)))) (band (Bool.not (ilt mA (-16777216))) (band (Bool.not (ilt (16777216) mA)) (band (Bool.not (ilt mB (-16777216))) (band (Bool.not (ilt (16777216) mB)) (band (Bool.not (ilt mC (-16777216))) (band (Bool.not (ilt (16777216) mC)) (band (Bool.not (ilt mD (-16777216))) (band (Bool.not (ilt (16777216) mD)) (band (Bool.not (ilt mE (-536870912))) (band (Bool.not (ilt (536870912) mE)) (band (Bool.not (ilt mF (-536870912))) (band (Bool.not (ilt (536870912) mF)) (band (ile (-600) x) (band (Bool.not (Bool.not (ile x (600)))) (band (ile (-600) y) (band (Bool.not (Bool.not (ile y (600)))) true))))))))))))))))) (pnsbe2X sd wd m V S sex ssty mA mB mC mD mE mF x y) [.h,J1] [[2,3,4]] (by (try simp only [b1,gS]);(try simp only [gT] at *);try omega) ?_
  refine ca (ofnsmX sd wd m V S sex ssty mA mB mC mD mE mF) [.h] (hof) (fun v' H' q=>?_)
  rcases q with ⟨rfl,hnx2,ho0_2,ho1_2⟩
  refine ⟨(.tup [(.fn 44 [(.ptr J2 0)] []),(zi (0))]),[(J2,(ce 123 [(zi mA),(zi mB),(zi mC),(zi mD),(zi mE),(zi mF),(zi sx),(zi (0)),.nils,(zi sy),(zi (0)),(.sa J3 0 (Nat.succ q2) 2)])),(J3,(.arr (Nat.succ q2) 2 (rowK [.i64,.i64] K2) none 159 false false))],J4,(by kernel_rfl),(by rw [hnx2];kernel_rfl),⟨⟨J1,_,(Nat.le_of_ble_eq_true (by kernel_rfl)),(by show _=_;kernel_rfl),ho0_2,(by show _=_;kernel_rfl)⟩,⟨J2,_,(Nat.le_of_ble_eq_true (by kernel_rfl)),(by show _=_;kernel_rfl),ho1_2,(by show _=_;kernel_rfl)⟩,trivial⟩,(by kernel_rfl),?_⟩
  refine fi 1 [] 58 true [.h,J4] (.tup [(.sa J1 0 0 7),(zi (0))]) [(J1,(o7 0 (fun _ _=>0) true false))] J2 rfl ?_
  exact .inr ⟨_,rfl,rfl,rfl,fun j hj=>by omega,fun j hj=>by omega,⟨by omega,fun j hj=>by omega⟩⟩
section
variable (sd wd:Int) (m:Nat) (V:Nat→Bool) (S:Nat→Nat→Int) (sex ssty:Bool) (mA mB mC mD mE mF x y e_1 sx sy:Int) (q:Nat) (K:Nat→Nat→Int) (q2:Nat) (K2:Nat→Nat→Int)
noncomputable def pnsdmX:St:=⟨getF (enterA En 9 [(.agg [(zi sd),(zi wd),.nils,(.sa .h 0 m 3)]),(az [mA,mB,mC,mD,mE,mF]),(zi x),(zi y)] false),[],[(.h,(o3 m V S sex ssty))],J1,1⟩
noncomputable def pnsde1X:St:=⟨cf (gnsmX sd wd m V S sex ssty) J3 [.h],[(fr 9 118 (ts [2,3,4,5] [zi x,zi y,.ptr J1 0,.ptr J2 0]) [rA En 9 (pb 12) 1,cA En 9 (pb 13),cA En 9 (pb 7)])],(zs [(o3 m V S sex ssty),(ce 36 [(zi sd),(zi wd),.nils,(.sa .h 0 m 3)]),(zc 39 [mA,mB,mC,mD,mE,mF])]),J3,1⟩
noncomputable def pnsde2X:St:=⟨cf (ofnsmX sd wd m V S sex ssty mA mB mC mD mE mF) J2 [.h],[(fr 9 118 (ts [2,3,4] [zi x,zi y,.ptr J1 0]) [rA En 9 (pb 62) 2,cA En 9 (pb 63)])],(zs [(o3 m V S sex ssty),(ce 36 [(zi sd),(zi wd),.nils,(.sa .h 0 m 3)])]),J2,1⟩
end
theorem pnsdm_ok {sd:Int} {wd:Int} {m:Nat} {V:Nat→Bool} {S:Nat→Nat→Int} {sex:Bool} {ssty:Bool} {mA:Int} {mB:Int} {mC:Int} {mD:Int} {mE:Int} {mF:Int} {x:Int} {y:Int} {sx:Int} {sy:Int} {q:Nat} {K:Nat→Nat→Int} {q2:Nat} {K2:Nat→Nat→Int} {oX:Int→Int→Int} {oY:Int→Int→Int} {oE:Int→Int→Int} (hm8:m≤8) (hS:∀ j k,-32000≤S j k∧S j k≤32000) (hsort:Sorted m V S) (hmA : -2000000≤mA∧mA≤2000000) (hmB : -2000000≤mB∧mB≤2000000) (hmC : -2000000≤mC∧mC≤2000000) (hmD : -2000000≤mD∧mD≤2000000) (hmE : -40000≤mE∧mE≤40000) (hmF : -40000≤mF∧mF≤40000) (hx : -128≤x∧x≤127) (hy : -128≤y∧y≤127) (hsx:1≤sx∧sx≤16777216) (hsy:1≤sy∧sy≤16777216) (hq:q≤100) (hq2:q2≤100) (hoX:∀ j k,-1000000000000000000≤oX j k∧oX j k≤1000000000000000000) (hoY:∀ j k,-1000000000000000000≤oY j k∧oY j k≤1000000000000000000) (hof:EndsX En 1 (ofnsmX sd wd m V S sex ssty mA mB mC mD mE mF) (fun v H=>v=(.tup [(.fn 44 [(.ptr J1 0)] []),(zi (0))])∧H.nx=.i J1∧H.hp.get J1=some (ce 123 [(zi mA),(zi mB),(zi mC),(zi mD),(zi mE),(zi mF),(zi sx),(zi (0)),(.sa J2 0 (Nat.succ q) 2),(zi sy),(zi (0)),(.sa J3 0 (Nat.succ q2) 2)])∧H.hp.get J2=some (.arr (Nat.succ q) 2 (rowK [.i64,.i64] K) none 159 false false)∧H.hp.get J3=some (.arr (Nat.succ q2) 2 (rowK [.i64,.i64] K2) none 159 false false))):EndsX En 1 (pnsdmX sd wd m V S sex ssty mA mB mC mD mE mF x y) (QP 0 (fun _ _=>0) oX oY x y J1 J2):=by
  refine ac 1 [] 12 true (pnsde1X sd wd m V S sex ssty mA mB mC mD mE mF x y) [.h,J1,J2] [[2,3,4,5]] rfl ?_
  refine ca (gnsmX sd wd m V S sex ssty) [.h] (gnsm_ok (sd:=sd) (wd:=wd) (m:=m) (V:=V) (S:=S) (sex:=sex) (ssty:=ssty) hm8 hS hsort) (fun v' H' q=>?_)
  rcases q with ⟨e_1,rfl,hnx1⟩
  refine ⟨(zi e_1),[],J3,(by kernel_rfl),(by rw [hnx1];kernel_rfl),trivial,(by kernel_rfl),?_⟩
  rcases ci e_1 (0) with ⟨b1,b1p⟩|⟨b1,b1p⟩
  · refine fi 1 [(7,24,true)] 9 (band (Bool.not (ieq e_1 (0))) true) [.h] (.tup [.nils,(zi e_1)]) [] J1 (by (try simp only [b1,gS]);(try simp only [gT] at *);try omega) ?_
    exact .inl ⟨_,rfl,rfl,by assumption⟩
  refine ac 1 [(7,24,false),(60,17,false),(5,21,false),(30,17,false),(5,21,false),(30,17,false),(5,21,false),(30,17,false),(5,21,false),(63,17,false),(5,21,false),(30,17,false),(5,21,false),(55,9,true),(10,34,false),(13,9,true),(11,38,false)] 7 (band (Bool.not (Bool.not (ieq e_1 (0)))) (band (Bool.not (ilt mA (-16777216))) (band (Bool.not (ilt (16777216) mA)) (band (Bool.not (ilt mB (-16777216))) (band (Bool.not (ilt (16777216) mB)) (band (Bool.not (ilt mC (-16777216))) (band (Bool.not (ilt (16777216) mC)) (band (Bool.not (ilt mD (-16777216))) (band (Bool.not (ilt (16777216) mD)) (band (Bool.not (ilt mE (-536870912))) (band (Bool.not (ilt (536870912) mE)) (band (Bool.not (ilt mF (-536870912))) (band (Bool.not (ilt (536870912) mF)) (band (ile (-600) x) (band (Bool.not (Bool.not (ile x (600)))) (band (ile (-600) y) (band (Bool.not (Bool.not (ile y (600)))) true))))))))))))))))) (pnsde2X sd wd m V S sex ssty mA mB mC mD mE mF x y) [.h,J1] [[2,3,4]] (by (try simp only [b1,gS]);(try simp only [gT] at *);try omega) ?_
  refine ca (ofnsmX sd wd m V S sex ssty mA mB mC mD mE mF) [.h] (hof) (fun v' H' q=>?_)
  rcases q with ⟨rfl,hnx2,ho0_2,ho1_2,ho2_2⟩
  refine ⟨(.tup [(.fn 44 [(.ptr J2 0)] []),(zi (0))]),[(J2,(ce 123 [(zi mA),(zi mB),(zi mC),(zi mD),(zi mE),(zi mF),(zi sx),(zi (0)),(.sa J3 0 (Nat.succ q) 2),(zi sy),(zi (0)),(.sa J4 0 (Nat.succ q2) 2)])),(J3,(.arr (Nat.succ q) 2 (rowK [.i64,.i64] K) none 159 false false)),(J4,(.arr (Nat.succ q2) 2 (rowK [.i64,.i64] K2) none 159 false false))],J5,(by kernel_rfl),(by rw [hnx2];kernel_rfl),⟨⟨J1,_,(Nat.le_of_ble_eq_true (by kernel_rfl)),(by show _=_;kernel_rfl),ho0_2,(by show _=_;kernel_rfl)⟩,⟨J2,_,(Nat.le_of_ble_eq_true (by kernel_rfl)),(by show _=_;kernel_rfl),ho1_2,(by show _=_;kernel_rfl)⟩,⟨J3,_,(Nat.le_of_ble_eq_true (by kernel_rfl)),(by show _=_;kernel_rfl),ho2_2,(by show _=_;kernel_rfl)⟩,trivial⟩,(by kernel_rfl),?_⟩
  refine fi 1 [] 58 true [.h,J5] (.tup [(.sa J1 0 0 7),(zi (0))]) [(J1,(o7 0 (fun _ _=>0) true false))] J2 rfl ?_
  exact .inr ⟨_,rfl,rfl,rfl,fun j hj=>by omega,fun j hj=>by omega,⟨by omega,fun j hj=>by omega⟩⟩
section
variable (sd wd mA mB mC mD mE mF x y e_1:Int)
noncomputable def pnzpmX:St:=⟨getF (enterA En 9 [(.agg [(zi sd),(zi wd),.nils,.nils]),(az [mA,mB,mC,mD,mE,mF]),(zi x),(zi y)] false),[],[],.h,0⟩
noncomputable def pnzpe1X:St:=⟨cf (gnzmX sd wd) J2 [],[(fr 9 118 (ts [2,3,4,5] [zi x,zi y,.ptr .h 0,.ptr J1 0]) [rA En 9 (pb 12) 1,cA En 9 (pb 13),cA En 9 (pb 7)])],(zs [(ce 36 [(zi sd),(zi wd),.nils,.nils]),(zc 39 [mA,mB,mC,mD,mE,mF])]),J2,0⟩
noncomputable def pnzpe2X:St:=⟨cf (ofnzmX sd wd mA mB mC mD mE mF) J1 [],[(fr 9 118 (ts [2,3,4] [zi x,zi y,.ptr .h 0]) [rA En 9 (pb 62) 2,cA En 9 (pb 63)])],[(.h,(ce 36 [(zi sd),(zi wd),.nils,.nils]))],J1,0⟩
end
theorem pnzpm_ok {sd:Int} {wd:Int} {mA:Int} {mB:Int} {mC:Int} {mD:Int} {mE:Int} {mF:Int} {x:Int} {y:Int} {oX:Int→Int→Int} {oY:Int→Int→Int} {oE:Int→Int→Int} (hmA : -2000000≤mA∧mA≤2000000) (hmB : -2000000≤mB∧mB≤2000000) (hmC : -2000000≤mC∧mC≤2000000) (hmD : -2000000≤mD∧mD≤2000000) (hmE : -40000≤mE∧mE≤40000) (hmF : -40000≤mF∧mF≤40000) (hx : -128≤x∧x≤127) (hy : -128≤y∧y≤127) (hoX:∀ j k,-1000000000000000000≤oX j k∧oX j k≤1000000000000000000) (hoY:∀ j k,-1000000000000000000≤oY j k∧oY j k≤1000000000000000000) (hof:EndsX En 0 (ofnzmX sd wd mA mB mC mD mE mF) (fun v H=>v=(.tup [(.fn 43 [(.ptr (.h) 0)] []),(zi (0))])∧H.nx=.o .h∧H.hp.get (.h)=some (ce 123 [(zi mA),(zi mB),(zi mC),(zi mD),(zi mE),(zi mF),(zi (0)),(zi (0)),.nils,(zi (0)),(zi (0)),.nils]))):EndsX En 0 (pnzpmX sd wd mA mB mC mD mE mF x y) (QP 0 (fun _ _=>0) oX oY x y (.h) J1):=by
  refine ac 0 [] 12 true (pnzpe1X sd wd mA mB mC mD mE mF x y) [.h,J1] [[2,3,4,5]] rfl ?_
  refine ca (gnzmX sd wd) [] (gnzm_ok (sd:=sd) (wd:=wd)) (fun v' H' q=>?_)
  rcases q with ⟨e_1,rfl,hnx1⟩
  refine ⟨(zi e_1),[],J2,(by kernel_rfl),(by rw [hnx1];kernel_rfl),trivial,(by kernel_rfl),?_⟩
  rcases ci e_1 (0) with ⟨b1,b1p⟩|⟨b1,b1p⟩
  · refine fi 0 [(7,24,true)] 9 (band (Bool.not (ieq e_1 (0))) true) [] (.tup [.nils,(zi e_1)]) [] .h (by (try simp only [b1,gS]);(try simp only [gT] at *);try omega) ?_
    exact .inl ⟨_,rfl,rfl,by assumption⟩
  refine ac 0 [(7,24,false),(60,17,false),(5,21,false),(30,17,false),(5,21,false),(30,17,false),(5,21,false),(30,17,false),(5,21,false),(63,17,false),(5,21,false),(30,17,false),(5,21,false),(55,9,true),(10,34,false),(13,9,true),(11,38,false)] 7 (band (Bool.not (Bool.not (ieq e_1 (0)))) (band (Bool.not (ilt mA (-16777216))) (band (Bool.not (ilt (16777216) mA)) (band (Bool.not (ilt mB (-16777216))) (band (Bool.not (ilt (16777216) mB)) (band (Bool.not (ilt mC (-16777216))) (band (Bool.not (ilt (16777216) mC)) (band (Bool.not (ilt mD (-16777216))) (band (Bool.not (ilt (16777216) mD)) (band (Bool.not (ilt mE (-536870912))) (band (Bool.not (ilt (536870912) mE)) (band (Bool.not (ilt mF (-536870912))) (band (Bool.not (ilt (536870912) mF)) (band (ile (-600) x) (band (Bool.not (Bool.not (ile x (600)))) (band (ile (-600) y) (band (Bool.not (Bool.not (ile y (600)))) true))))))))))))))))) (pnzpe2X sd wd mA mB mC mD mE mF x y) [.h] [[2,3,4]] (by (try simp only [b1,gS]);(try simp only [gT] at *);try omega) ?_
  refine ca (ofnzmX sd wd mA mB mC mD mE mF) [] (hof) (fun v' H' q=>?_)
  rcases q with ⟨rfl,hnx2,ho0_2⟩
  refine ⟨(.tup [(.fn 43 [(.ptr J1 0)] []),(zi (0))]),[(J1,(ce 123 [(zi mA),(zi mB),(zi mC),(zi mD),(zi mE),(zi mF),(zi (0)),(zi (0)),.nils,(zi (0)),(zi (0)),.nils]))],J2,(by kernel_rfl),(by rw [hnx2];kernel_rfl),⟨⟨.h,_,(Nat.le_of_ble_eq_true (by kernel_rfl)),(by show _=_;kernel_rfl),ho0_2,(by show _=_;kernel_rfl)⟩,trivial⟩,(by kernel_rfl),?_⟩
  refine fi 0 [] 58 true [J2] (.tup [(.sa .h 0 0 7),(zi (0))]) [(.h,(o7 0 (fun _ _=>0) true false))] J1 rfl ?_
  exact .inr ⟨_,rfl,rfl,rfl,fun j hj=>by omega,fun j hj=>by omega,⟨by omega,fun j hj=>by omega⟩⟩
section
variable (sd wd mA mB mC mD mE mF x y e_1 sx sy:Int)
noncomputable def pnzamX:St:=⟨getF (enterA En 9 [(.agg [(zi sd),(zi wd),.nils,.nils]),(az [mA,mB,mC,mD,mE,mF]),(zi x),(zi y)] false),[],[],.h,0⟩
noncomputable def pnzae1X:St:=⟨cf (gnzmX sd wd) J2 [],[(fr 9 118 (ts [2,3,4,5] [zi x,zi y,.ptr .h 0,.ptr J1 0]) [rA En 9 (pb 12) 1,cA En 9 (pb 13),cA En 9 (pb 7)])],(zs [(ce 36 [(zi sd),(zi wd),.nils,.nils]),(zc 39 [mA,mB,mC,mD,mE,mF])]),J2,0⟩
noncomputable def pnzae2X:St:=⟨cf (ofnzmX sd wd mA mB mC mD mE mF) J1 [],[(fr 9 118 (ts [2,3,4] [zi x,zi y,.ptr .h 0]) [rA En 9 (pb 62) 2,cA En 9 (pb 63)])],[(.h,(ce 36 [(zi sd),(zi wd),.nils,.nils]))],J1,0⟩
end
theorem pnzam_ok {sd:Int} {wd:Int} {mA:Int} {mB:Int} {mC:Int} {mD:Int} {mE:Int} {mF:Int} {x:Int} {y:Int} {sx:Int} {sy:Int} {oX:Int→Int→Int} {oY:Int→Int→Int} {oE:Int→Int→Int} (hmA : -2000000≤mA∧mA≤2000000) (hmB : -2000000≤mB∧mB≤2000000) (hmC : -2000000≤mC∧mC≤2000000) (hmD : -2000000≤mD∧mD≤2000000) (hmE : -40000≤mE∧mE≤40000) (hmF : -40000≤mF∧mF≤40000) (hx : -128≤x∧x≤127) (hy : -128≤y∧y≤127) (hsx:1≤sx∧sx≤16777216) (hsy:1≤sy∧sy≤16777216) (hoX:∀ j k,-1000000000000000000≤oX j k∧oX j k≤1000000000000000000) (hoY:∀ j k,-1000000000000000000≤oY j k∧oY j k≤1000000000000000000) (hof:EndsX En 0 (ofnzmX sd wd mA mB mC mD mE mF) (fun v H=>v=(.tup [(.fn 44 [(.ptr (.h) 0)] []),(zi (0))])∧H.nx=.o .h∧H.hp.get (.h)=some (ce 123 [(zi mA),(zi mB),(zi mC),(zi mD),(zi mE),(zi mF),(zi sx),(zi (0)),.nils,(zi sy),(zi (0)),.nils]))):EndsX En 0 (pnzamX sd wd mA mB mC mD mE mF x y) (QP 0 (fun _ _=>0) oX oY x y (.h) J1):=by
  refine ac 0 [] 12 true (pnzae1X sd wd mA mB mC mD mE mF x y) [.h,J1] [[2,3,4,5]] rfl ?_
  refine ca (gnzmX sd wd) [] (gnzm_ok (sd:=sd) (wd:=wd)) (fun v' H' q=>?_)
  rcases q with ⟨e_1,rfl,hnx1⟩
  refine ⟨(zi e_1),[],J2,(by kernel_rfl),(by rw [hnx1];kernel_rfl),trivial,(by kernel_rfl),?_⟩
  rcases ci e_1 (0) with ⟨b1,b1p⟩|⟨b1,b1p⟩
  · refine fi 0 [(7,24,true)] 9 (band (Bool.not (ieq e_1 (0))) true) [] (.tup [.nils,(zi e_1)]) [] .h (by (try simp only [b1,gS]);(try simp only [gT] at *);try omega) ?_
    exact .inl ⟨_,rfl,rfl,by assumption⟩
  refine ac 0 [(7,24,false),(60,17,false),(5,21,false),(30,17,false),(5,21,false),(30,17,false),(5,21,false),(30,17,false),(5,21,false),(63,17,false),(5,21,false),(30,17,false),(5,21,false),(55,9,true),(10,34,false),(13,9,true),(11,38,false)] 7 (band (Bool.not (Bool.not (ieq e_1 (0)))) (band (Bool.not (ilt mA (-16777216))) (band (Bool.not (ilt (16777216) mA)) (band (Bool.not (ilt mB (-16777216))) (band (Bool.not (ilt (16777216) mB)) (band (Bool.not (ilt mC (-16777216))) (band (Bool.not (ilt (16777216) mC)) (band (Bool.not (ilt mD (-16777216))) (band (Bool.not (ilt (16777216) mD)) (band (Bool.not (ilt mE (-536870912))) (band (Bool.not (ilt (536870912) mE)) (band (Bool.not (ilt mF (-536870912))) (band (Bool.not (ilt (536870912) mF)) (band (ile (-600) x) (band (Bool.not (Bool.not (ile x (600)))) (band (ile (-600) y) (band (Bool.not (Bool.not (ile y (600)))) true))))))))))))))))) (pnzae2X sd wd mA mB mC mD mE mF x y) [.h] [[2,3,4]] (by (try simp only [b1,gS]);(try simp only [gT] at *);try omega) ?_
  refine ca (ofnzmX sd wd mA mB mC mD mE mF) [] (hof) (fun v' H' q=>?_)
  rcases q with ⟨rfl,hnx2,ho0_2⟩
  refine ⟨(.tup [(.fn 44 [(.ptr J1 0)] []),(zi (0))]),[(J1,(ce 123 [(zi mA),(zi mB),(zi mC),(zi mD),(zi mE),(zi mF),(zi sx),(zi (0)),.nils,(zi sy),(zi (0)),.nils]))],J2,(by kernel_rfl),(by rw [hnx2];kernel_rfl),⟨⟨.h,_,(Nat.le_of_ble_eq_true (by kernel_rfl)),(by show _=_;kernel_rfl),ho0_2,(by show _=_;kernel_rfl)⟩,trivial⟩,(by kernel_rfl),?_⟩
  refine fi 0 [] 58 true [J2] (.tup [(.sa .h 0 0 7),(zi (0))]) [(.h,(o7 0 (fun _ _=>0) true false))] J1 rfl ?_
  exact .inr ⟨_,rfl,rfl,rfl,fun j hj=>by omega,fun j hj=>by omega,⟨by omega,fun j hj=>by omega⟩⟩
section
variable (n:Nat) (P:Nat→Nat→Int) (ex sty:Bool) (x y e_1:Int) (i:Nat) (R:Nat→Nat→Int) (e_2:Int)
noncomputable def shmX:St:=⟨getF (enterA En 13 [(.sa .h 0 n 7),(zi x),(zi y)] false),[],[(.h,(o7 n P ex sty))],J1,1⟩
noncomputable def she1X:St:=⟨cf (pcmX n P ex sty) J1 [.h],[(fr 13 91 (ts [0,1,2] [.sa .h 0 n 7,zi x,zi y]) [rA En 13 (pb 12) 1,cA En 13 (pb 13),cA En 13 (pb 7)])],[(.h,(o7 n P ex sty))],J1,1⟩
noncomputable def shoX:St:=⟨(fr 13 91 (ts [1,2,10,11,43,44,45] [zi x,zi y,.sa J1 0 n 7,.mp J2,.sa .h 0 n 7,zn n,zn i]) [cA En 13 (pb 1012),lA En 13 (pb 1012),.blk 0,cA En 13 (pb 127)]),[],(zs [(o7 n P ex sty),(o7 n R false false),(.map [((zi (1)),(zi (1)),0),((zi (2)),(zi (1)),1),((zi (3)),(zi (3)),2),((zi (4)),(zi (0)),3)] 4)]),J3,1⟩
noncomputable def she2X:St:=⟨cf (pcmX n R false false) J2 [J1],[(fr 13 91 (ts [10] [.sa J1 0 n 7]) [rA En 13 (pb 508) 1,cA En 13 (pb 509),cA En 13 (pb 255)])],(zs [(o7 n P ex sty),(o7 n R false false)]),J2,1⟩
end
noncomputable abbrev sh0 (i n:Nat):Bool:=(band (Nat.ble (Nat.succ i) n) true)
noncomputable abbrev sh1 (i n:Nat):Bool:=(band (band (Nat.ble (Nat.succ i) n) (Nat.beq i i)) true)
noncomputable abbrev sh2 (i n:Nat):Bool:=(band (sh0 i n) (band (band (sh0 i n) true) true))
noncomputable abbrev sh3 (i:Nat):Bool:=(band (band (ile (-9223372036854775808) (.ofNat (Nat.add i 1))) (Nat.ble (Nat.add i 1) 9223372036854775807)) true)
noncomputable abbrev sh4 (P:Nat→Nat→Int) (i:Nat):Int:=(iite (ieq (P i 0) (1)) (1) (iite (ieq (P i 0) (2)) (1) (iite (ieq (P i 0) (3)) (3) (iite (ieq (P i 0) (4)) (0) (0)))))
noncomputable abbrev sh5 (i n:Nat):Bool:=(band (sh0 i n) (band (band (sh1 i n) true) true))
noncomputable abbrev sh6 (i n:Nat) (R:Nat→Nat→Int) (x y:Int):Bool:=(band (band (band (sh0 i n) (band (band (sh0 i n) true) (band (r64 (Int.add (R i 1) x)) (band (sh0 i n) (band (band (band (sh0 i n) true) true) true))))) (band (band (band (band (sh0 i n) true) (ieq (R i 1) (R i 1))) true) true)) (band (band (band (sh0 i n) (band (sh1 i n) (band (r64 (Int.add (R i 2) y)) (sh5 i n)))) (band (band (band (sh1 i n) (ieq (R i 2) (R i 2))) true) true)) true))
noncomputable abbrev sh7 (i n:Nat) (zz:Bool):Bool:=(band (Nat.ble (Nat.succ i) n) (band (sh2 i n) zz))
def SRow (P:Nat→Nat→Int) (x y:Int) (R:Nat→Nat→Int) (j:Nat):Prop:=
  R j 0=P j 0∧(P j 0=4→R j 1=P j 1∧R j 2=P j 2)∧(P j 0≠4→R j 1=P j 1+x∧R j 2=P j 2+y) ∧
    (P j 0=3→R j 3=P j 3+x∧R j 4=P j 4+y∧R j 5=P j 5+x∧R j 6=P j 6+y)∧(P j 0≠3→R j 3=P j 3∧R j 4=P j 4∧R j 5=P j 5∧R j 6=P j 6)
section
variable {P R:Nat→Nat→Int} {x y:Int} {i:Nat}
theorem srow_ne {j:Nat} {l:List Int} (h:j≠i) (hp:SRow P x y R j):SRow P x y (updR R i l) j:=by
  unfold SRow at *;simp only [updR_ne _ _ _ h];exact hp
theorem srow4 (hU:∀ c,R i c=P i c) (h:P i 0=4):SRow P x y R i:=by
  exact ⟨hU 0,fun _=>⟨hU 1,hU 2⟩,fun k=>absurd h k,fun k=>absurd (h.symm.trans k) (by decide),fun _=>⟨hU 3,hU 4,hU 5,hU 6⟩⟩
theorem srow1 (hU:∀ c,R i c=P i c) (h:¬ P i 0=4) (h3:¬ P i 0=3):SRow P x y (updR R i [(R i 0),(Int.add (R i 1) x),(Int.add (R i 2) y),(R i 3),(R i 4),(R i 5),(R i 6)]) i:=by
  unfold SRow;simp only [updR_at]
  exact ⟨hU 0,fun k=>absurd k h,fun _=>⟨(by rw [← hU 1];rfl),(by rw [← hU 2];rfl)⟩,fun k=>absurd k h3,fun _=>⟨hU 3,hU 4,hU 5,hU 6⟩⟩
theorem srow3 (hU:∀ c,R i c=P i c) (h3:P i 0=3):SRow P x y (updR R i [(R i 0),(Int.add (R i 1) x),(Int.add (R i 2) y),(Int.add (R i 3) x),(Int.add (R i 4) y),(Int.add (R i 5) x),(Int.add (R i 6) y)]) i:=by
  unfold SRow;simp only [updR_at]
  exact ⟨hU 0,fun k=>absurd (h3.symm.trans k) (by decide),fun _=>⟨(by rw [← hU 1];rfl),(by rw [← hU 2];rfl)⟩,fun _=>⟨(by rw [← hU 3];rfl),(by rw [← hU 4];rfl),(by rw [← hU 5];rfl),(by rw [← hU 6];rfl)⟩,fun k=>absurd h3 k⟩
theorem bd2 (hx : -2048≤x∧x≤2048) (hy : -2048≤y∧y≤2048) (hP:∀ j k,-8192≤P j k∧P j k≤8192) (hU:∀ c,R i c=P i c):∀ z ∈ [(R i 0),(Int.add (R i 1) x),(Int.add (R i 2) y),(R i 3),(R i 4),(R i 5),(R i 6)],-20000≤z∧z≤20000:=by
  intro z hz
  simp only [List.mem_cons,List.not_mem_nil,or_false,hU,iAdd] at hz
  have h0:=hP i 0;have h1:=hP i 1;have h2:=hP i 2;have h3:=hP i 3;have h4:=hP i 4;have h5:=hP i 5;have h6:=hP i 6
  rcases hz with rfl|rfl|rfl|rfl|rfl|rfl|rfl <;> omega
theorem bd6 (hx : -2048≤x∧x≤2048) (hy : -2048≤y∧y≤2048) (hP:∀ j k,-8192≤P j k∧P j k≤8192) (hU:∀ c,R i c=P i c):∀ z ∈ [(R i 0),(Int.add (R i 1) x),(Int.add (R i 2) y),(Int.add (R i 3) x),(Int.add (R i 4) y),(Int.add (R i 5) x),(Int.add (R i 6) y)],-20000≤z∧z≤20000:=by
  intro z hz
  simp only [List.mem_cons,List.not_mem_nil,or_false,hU,iAdd] at hz
  have h0:=hP i 0;have h1:=hP i 1;have h2:=hP i 2;have h3:=hP i 3;have h4:=hP i 4;have h5:=hP i 5;have h6:=hP i 6
  rcases hz with rfl|rfl|rfl|rfl|rfl|rfl|rfl <;> omega
end
theorem shok {n:Nat} {P R:Nat→Nat→Int} {x y:Int} (hP:∀ j k,-8192≤P j k∧P j k≤8192) (hx : -2048≤x∧x≤2048) (hy : -2048≤y∧y≤2048) (hok:PathOK n P) (hS:∀ j,j < n→SRow P x y R j):PathOK n R:=by
  refine ⟨hok.1,fun i hi=>?_⟩
  obtain ⟨⟨k1,k2,k3,k4,k5⟩,k6,k7⟩:=hok.2 i hi
  obtain ⟨s0,s1,s2,s3,s4⟩:=hS i hi
  have e1:prevK R i=prevK P i:=by
    unfold prevK
    by_cases e:i=0
    · rw [if_pos e,if_pos e]
    rw [if_neg e,if_neg e];exact (hS (i - 1) (by omega)).1
  have h1:=hP i 1;have h2:=hP i 2;have h3:=hP i 3;have h4:=hP i 4;have h5:=hP i 5;have h6:=hP i 6
  unfold GoodAt StepOK
  rw [e1,s0]
  refine ⟨⟨k1,fun e=>?_,fun e=>?_,fun e=>?_,fun e=>?_⟩,k6,k7⟩
  · have:=s1 e;have:=k2 e;omega
  · have:=s2 e;omega
  · have:=s4 e;have:=k4 e;omega
  have:=s3 e;omega
def QS (n:Nat) (P:Nat→Nat→Int) (x y:Int):AV→Hp→Prop:=fun v H =>
  ∃ R,v=.tup [.sa J1 0 n 7,.int .i64 0]∧H.nx=.i .h∧H.hp.get J1=some (o7 n R false false)∧(∀ j k,-20000≤R j k∧R j k≤20000)∧(∀ j,j < n→SRow P x y R j)
section
variable {n:Nat} {P:Nat→Nat→Int} {ex sty:Bool} {x y:Int} (hn:n≤1000) (hn1:1≤n) (hx : -2048≤x∧x≤2048) (hy : -2048≤y∧y≤2048) (hP:∀ j k,-8192≤P j k∧P j k≤8192) (hok:PathOK n P)
include hn hn1 hx hy hP hok
theorem sho_ok (d:Nat):∀ (i:Nat) (R:Nat→Nat→Int),n - i=d→i≤n→(∀ j,i≤j→∀ c,R j c=P j c)→(∀ j k,-20000≤R j k∧R j k≤20000)→(∀ j,j < i→SRow P x y R j)→EndsX En 1 (shoX n P ex sty x y i R) (QS n P x y):=by
  induction d using Nat.strongRecOn with
  | ind d IH =>
    intro i R hd hi hU hR hS
    have h9R:∀ j k,-1000000000≤R j k∧R j k≤1000000000:=fun j k=>by have:=hR j k;omega
    have ih:∀ (l:List Int),i < n→(∀ z ∈ l,-20000≤z∧z≤20000)→SRow P x y (updR R i l) i→EndsX En 1 (shoX n P ex sty x y (Nat.add i 1) (updR R i l)) (QS n P x y):=fun l h1 h2 h3 =>
      IH (n - (i+1)) (by omega) (i+1) _ rfl (by omega) (fun j hj c=>by rw [updR_ne _ _ _ (by omega)];exact hU j (by omega) c) (updR_bd (by decide) hR i h2) (fun j hj=>by
        by_cases e:j=i
        · subst e;exact h3
        exact srow_ne e (hS j (by omega)))
    have ihR:i < n→SRow P x y R i→EndsX En 1 (shoX n P ex sty x y (Nat.add i 1) R) (QS n P x y):=fun h1 h3 =>
      IH (n - (i+1)) (by omega) (i+1) _ rfl (by omega) (fun j hj c=>hU j (by omega) c) hR (fun j hj=>by
        by_cases e:j=i
        · subst e;exact h3
        exact hS j (by omega))
    clear IH
    rcases ce_ (Nat.succ i) n with ⟨b1,b1p⟩|⟨b1,b1p⟩
    · refine ac 1 [(5,46,false)] 7 (band (Bool.not (Nat.ble (Nat.succ i) n)) true) (she2X n P ex sty R) [.h,J1] [[10]] (by (try simp only [b1,gS]);(try simp only [gT] at *);try omega) ?_
      refine ca (pcmX n R false false) [J1] (pcm_ok (n:=n) (Y:=R) (ex:=false) (sty:=false) h9R hn) (fun v' H' q=>?_)
      rcases q with ⟨e_2,rfl,hnx2,hq_2⟩
      refine ⟨(zi e_2),[],J2,(by kernel_rfl),(by rw [hnx2];kernel_rfl),trivial,(by kernel_rfl),?_⟩
      rcases ci e_2 (0) with ⟨b2,b2p⟩|⟨b2,b2p⟩
      · refine fi 1 [(2,89,true)] 8 (band (Bool.not (ieq e_2 (0))) true) [.h] (.tup [.nils,(zi (26))]) [] J1 (by (try simp only [b1,b2,gS]);(try simp only [gT] at *);try omega) ?_
        exact absurd (hq_2.2 (shok hP hx hy hok (fun j hj=>hS j (by omega)))) b2p
      refine fi 1 [(2,89,false)] 10 (band (Bool.not (Bool.not (ieq e_2 (0)))) true) [.h,J1] (.tup [(.sa J1 0 n 7),(zi (0))]) [(J1,(o7 n R false false))] J2 (by (try simp only [b1,b2,gS]);(try simp only [gT] at *);try omega) ?_
      exact ⟨R,rfl,rfl,rfl,hR,fun j hj=>hS j (by omega)⟩
    rcases ci (P i 0) (1) with ⟨b3,b3p⟩|⟨b3,b3p⟩
    · rcases ci (P i 0) (2) with ⟨b4,b4p⟩|⟨b4,b4p⟩
      · rcases ci (P i 0) (3) with ⟨b5,b5p⟩|⟨b5,b5p⟩
        · rcases ci (P i 0) (4) with ⟨b6,b6p⟩|⟨b6,b6p⟩
          · refine ar 1 [(5,46,true),(28,55,false)] 8 ((sh7 i n (band (Bool.not (ilt (0) (sh4 P i))) (sh3 i)))) (shoX n P ex sty x y (Nat.add i 1) R) [.h,J1,J2] [1,2,10,11,43,44,45] [] (by have:=hP i 0;(try simp only [b1,b3,b4,b5,b6,gS,sh0,sh2,sh3,sh4,sh7]);(try simp only [gT] at *);try omega) ?_
            exact absurd (hok.2 i (by omega)).1.1 (by omega)
          refine ar 1 [(5,46,true),(28,55,false)] 8 ((sh7 i n (band (Bool.not (ilt (0) (sh4 P i))) (sh3 i)))) (shoX n P ex sty x y (Nat.add i 1) R) [.h,J1,J2] [1,2,10,11,43,44,45] [] (by have:=hP i 0;(try simp only [b1,b3,b4,b5,b6,gS,sh0,sh2,sh3,sh4,sh7]);(try simp only [gT] at *);try omega) ?_
          exact ihR (by omega) (srow4 (hU i (Nat.le_refl _)) b6p)
        refine arF 1 1 [(5,46,true),(28,55,true),(23,55,true),(23,55,true),(23,55,false)] 8 ((sh7 i n (band (ilt (0) (sh4 P i)) (band (sh6 i n R x y) (band (ilt (1) (sh4 P i)) (band (band (band (band (sh0 i n) (band (sh1 i n) (band (r64 (Int.add (R i 3) x)) (sh5 i n)))) (band (band (band (sh1 i n) (ieq (R i 3) (R i 3))) true) true)) (band (band (band (sh0 i n) (band (sh1 i n) (band (r64 (Int.add (R i 4) y)) (sh5 i n)))) (band (band (band (sh1 i n) (ieq (R i 4) (R i 4))) true) true)) true)) (band (ilt (2) (sh4 P i)) (band (band (band (band (sh0 i n) (band (sh1 i n) (band (r64 (Int.add (R i 5) x)) (sh5 i n)))) (band (band (band (sh1 i n) (ieq (R i 5) (R i 5))) true) true)) (band (band (band (sh0 i n) (band (sh1 i n) (band (r64 (Int.add (R i 6) y)) (sh5 i n)))) (band (band (band (sh1 i n) (ieq (R i 6) (R i 6))) true) true)) true)) (band (Bool.not (ilt (3) (sh4 P i))) (sh3 i)))))))))) (shoX n P ex sty x y (Nat.add i 1) (updR R i [(R i 0),(Int.add (R i 1) x),(Int.add (R i 2) y),(Int.add (R i 3) x),(Int.add (R i 4) y),(Int.add (R i 5) x),(Int.add (R i 6) y)])) [.h,J1,J2] [1,2,10,11,43,44,45] [] ⟨oeFold (by kernel_rfl) rfl (by kernel_rfl),.inl (by kernel_rfl),trivial⟩ (by have:=hP i 0;have:=hh7 (hR i);(try simp only [b1,b3,b4,b5,gS,sh0,sh1,sh2,sh3,sh4,sh5,sh6,sh7]);(try simp only [gT] at *);try omega) ?_
        exact ih _ (by omega) (bd6 hx hy hP (hU i (Nat.le_refl _))) (srow3 (hU i (Nat.le_refl _)) b5p)
      refine arF 1 1 [(5,46,true),(28,55,true),(23,55,false)] 8 ((sh7 i n (band (ilt (0) (sh4 P i)) (band (sh6 i n R x y) (band (Bool.not (ilt (1) (sh4 P i))) (sh3 i)))))) (shoX n P ex sty x y (Nat.add i 1) (updR R i [(R i 0),(Int.add (R i 1) x),(Int.add (R i 2) y),(R i 3),(R i 4),(R i 5),(R i 6)])) [.h,J1,J2] [1,2,10,11,43,44,45] [] ⟨oeFold (by kernel_rfl) rfl (by kernel_rfl),.inl (by kernel_rfl),trivial⟩ (by have:=hP i 0;have:=hh7 (hR i);(try simp only [b1,b3,b4,gS,sh0,sh1,sh2,sh3,sh4,sh5,sh6,sh7]);(try simp only [gT] at *);try omega) ?_
      exact ih _ (by omega) (bd2 hx hy hP (hU i (Nat.le_refl _))) (srow1 (hU i (Nat.le_refl _)) (by omega) (by omega))
    refine arF 1 1 [(5,46,true),(28,55,true),(23,55,false)] 8 ((sh7 i n (band (ilt (0) (sh4 P i)) (band (sh6 i n R x y) (band (Bool.not (ilt (1) (sh4 P i))) (sh3 i)))))) (shoX n P ex sty x y (Nat.add i 1) (updR R i [(R i 0),(Int.add (R i 1) x),(Int.add (R i 2) y),(R i 3),(R i 4),(R i 5),(R i 6)])) [.h,J1,J2] [1,2,10,11,43,44,45] [] ⟨oeFold (by kernel_rfl) rfl (by kernel_rfl),.inl (by kernel_rfl),trivial⟩ (by have:=hP i 0;have:=hh7 (hR i);(try simp only [b1,b3,gS,sh0,sh1,sh2,sh3,sh4,sh5,sh6,sh7]);(try simp only [gT] at *);try omega) ?_
    exact ih _ (by omega) (bd2 hx hy hP (hU i (Nat.le_refl _))) (srow1 (hU i (Nat.le_refl _)) (by omega) (by omega))
theorem shm_ok:EndsX En 1 (shmX n P ex sty x y) (QS n P x y):=by
  have h9P:∀ j k,-1000000000≤P j k∧P j k≤1000000000:=fun j k=>by have:=hP j k;omega
  refine ac 1 [] 10 true (she1X n P ex sty x y) [.h] [[0,1,2]] rfl ?_
  refine ca (pcmX n P ex sty) [.h] (pcm_ok (n:=n) (Y:=P) (ex:=ex) (sty:=sty) h9P hn) (fun v' H' q=>?_)
  rcases q with ⟨e_1,rfl,hnx1,hq_1⟩
  refine ⟨(zi e_1),[],J1,(by kernel_rfl),(by rw [hnx1];kernel_rfl),trivial,(by kernel_rfl),?_⟩
  rcases ci e_1 (0) with ⟨b1,b1p⟩|⟨b1,b1p⟩
  · refine fi 1 [(7,18,true)] 9 (band (Bool.not (ieq e_1 (0))) true) [.h] (.tup [.nils,(zi e_1)]) [] J1 (by (try simp only [b1,gS]);(try simp only [gT] at *);try omega) ?_
    exact absurd (hq_1.2 hok) b1p
  refine ar 1 [(7,18,false),(14,24,false),(5,29,false),(6,35,false),(5,39,false)] 59 (band (Bool.not (Bool.not (ieq e_1 (0)))) (band (Bool.not (ilt x (-32768))) (band (Bool.not (ilt (32768) x)) (band (Bool.not (ilt y (-32768))) (band (Bool.not (ilt (32768) y)) (band (band (band (Nat.ble 1 n) (band (Nat.ble n n) (Bool.and (Nat.ble (Nat.mul (Nat.add (Nat.mul 2 n) 768) 56) 1099511627776) (Nat.ble n 1099511627776)))) true) true)))))) (shoX n P ex sty x y 0 P) [.h,J2,J3] [1,2,10,11,43,44,45] [] (by (try simp only [b1,gS]);(try simp only [gT] at *);try omega) ?_
  exact sho_ok hn hn1 hx hy hP hok (n - 0) 0 P rfl (by omega) (fun j _ c=>rfl) (fun j k=>by have:=hP j k;omega) (fun j hj=>by omega)
end
section
variable (n:Nat) (R P:Nat→Nat→Int) (xa ya xb yb:Bool) (i:Nat)
noncomputable def spmX:St:=⟨getF (enterA En 14 [(.sa .h 0 n 7),(.sa J1 0 n 7)] false),[],(zs [(o7 n R xa ya),(o7 n P xb yb)]),J2,2⟩
noncomputable def spoX:St:=⟨(fr 14 26 (ts [0,1,5] [.sa .h 0 n 7,.sa J1 0 n 7,zn i]) [cA En 14 (pb 116),lA En 14 (pb 116),.blk 0,cA En 14 (pb 15)]),[],(zs [(o7 n R xa ya),(o7 n P xb yb)]),J2,2⟩
end
noncomputable abbrev sp0 (i n:Nat):Bool:=(band (band (Nat.ble (Nat.succ i) n) true) true)
section
variable {n:Nat} {R P:Nat→Nat→Int} {xa ya xb yb:Bool} (hn:n≤1000) (h:∀ i,i < n→∀ k,k < 7→R i k=P i k)
include hn h
theorem spo_ok (d:Nat):∀ (i:Nat),n - i=d→i≤n→EndsX En 2 (spoX n R P xa ya xb yb i) (fun v H=>v=.bool true∧H.nx=.i .h):=by
  induction d using Nat.strongRecOn with
  | ind d IH =>
    intro i hd hi
    have ih:i < n→EndsX En 2 (spoX n R P xa ya xb yb (Nat.add i 1)) (fun v H=>v=.bool true∧H.nx=.i .h):=fun h1=>IH (n - (i+1)) (by omega) (i+1) rfl (by omega)
    clear IH
    rcases ce_ (Nat.succ i) n with ⟨b1,b1p⟩|⟨b1,b1p⟩
    · refine fi 2 [(8,14,false)] 8 (band (Bool.not (Nat.ble (Nat.succ i) n)) true) [.h,J1] (.bool true) [] J2 (by (try simp only [b1,gS]);(try simp only [gT] at *);try omega) ?_
      exact ⟨rfl,rfl⟩
    have he0:ieq (R i 0) (P i 0)=true:=(ieq_iff _ _).2 (h i (by omega) 0 (by omega))
    have he1:ieq (R i 1) (P i 1)=true:=(ieq_iff _ _).2 (h i (by omega) 1 (by omega))
    have he2:ieq (R i 2) (P i 2)=true:=(ieq_iff _ _).2 (h i (by omega) 2 (by omega))
    have he3:ieq (R i 3) (P i 3)=true:=(ieq_iff _ _).2 (h i (by omega) 3 (by omega))
    have he4:ieq (R i 4) (P i 4)=true:=(ieq_iff _ _).2 (h i (by omega) 4 (by omega))
    have he5:ieq (R i 5) (P i 5)=true:=(ieq_iff _ _).2 (h i (by omega) 5 (by omega))
    have he6:ieq (R i 6) (P i 6)=true:=(ieq_iff _ _).2 (h i (by omega) 6 (by omega))
    refine ar 2 [(8,14,true),(6,25,false)] 9 ((band (Nat.ble (Nat.succ i) n) (band (band (band (band (band (Nat.ble (Nat.succ i) n) true) (band (sp0 i n) (band (band (Nat.ble (Nat.succ i) n) true) (band (sp0 i n) true)))) (band (band (band (sp0 i n) (band (ieq (P i 0) (P i 0)) (band (ieq (P i 1) (P i 1)) (band (ieq (P i 2) (P i 2)) (band (ieq (P i 3) (P i 3)) (band (ieq (P i 4) (P i 4)) (band (ieq (P i 5) (P i 5)) (band (ieq (P i 6) (P i 6)) true)))))))) true) (band (band (band (sp0 i n) (band (ieq (R i 0) (R i 0)) (band (ieq (R i 1) (R i 1)) (band (ieq (R i 2) (R i 2)) (band (ieq (R i 3) (R i 3)) (band (ieq (R i 4) (R i 4)) (band (ieq (R i 5) (R i 5)) (band (ieq (R i 6) (R i 6)) true)))))))) true) true))) true) (band (Bool.not (Bool.not (Bool.and (ieq (R i 0) (P i 0)) (Bool.and (Bool.and (Bool.and (ieq (R i 1) (P i 1)) (Bool.and (ieq (R i 2) (P i 2)) true)) (Bool.and (Bool.and (ieq (R i 3) (P i 3)) (Bool.and (ieq (R i 4) (P i 4)) true)) (Bool.and (Bool.and (ieq (R i 5) (P i 5)) (Bool.and (ieq (R i 6) (P i 6)) true)) true))) true)))) (band (band (ile (-9223372036854775808) (.ofNat (Nat.add i 1))) (Nat.ble (Nat.add i 1) 9223372036854775807)) true))))) (spoX n R P xa ya xb yb (Nat.add i 1)) [.h,J1] [0,1,5] [] (by (try simp only [he0,he1,he2,he3,he4,he5,he6,b1,gS,sp0]);(try simp only [gT] at *);try omega) ?_
    exact ih (by omega)
theorem spm_ok:EndsX En 2 (spmX n R P xa ya xb yb) (fun v H=>v=.bool true∧H.nx=.i .h):=by
  refine ar 2 [(13,10,false)] 9 (band (Bool.not (Bool.not (Nat.beq n n))) true) (spoX n R P xa ya xb yb 0) [.h,J1] [0,1,5] [] (by (try simp only [gS]);(try simp only [gT] at *);try omega) ?_
  exact spo_ok hn h (n - 0) 0 rfl (by omega)
end
noncomputable def momX (n0:Int) (n1:Int) (n2:Int) (n3:Int) (up:Bool):St:=⟨getF (enterA En 7 [(.agg [(.int .i16 n0),(.int .i16 n1),(.int .i16 n2),(.int .i16 n3)]),(.bool up)] false),[],[],.h,0⟩
theorem moen (n0:Int) (n1:Int) (n2:Int) (n3:Int) (up:Bool):enterA En 7 [(.agg [(.int .i16 n0),(.int .i16 n1),(.int .i16 n2),(.int .i16 n3)]),(.bool up)] false=some (momX n0 n1 n2 n3 up).f:=by kernel_rfl
def QMo:AV→Hp→Prop:=fun v H=>∃ mA mB mC mD mE mF:Int,v=.agg [.int .i64 mA,.int .i64 mB,.int .i64 mC,.int .i64 mD,.int .i64 mE,.int .i64 mF]∧H.nx=.h∧(-2000000≤mA∧mA≤2000000)∧(-2000000≤mB∧mB≤2000000)∧(-2000000≤mC∧mC≤2000000)∧(-2000000≤mD∧mD≤2000000)∧(-40000≤mE∧mE≤40000)∧(-40000≤mF∧mF≤40000)
theorem mom_ok {n0 n1 n2 n3:Int} {up:Bool} (hn0 : -32768≤n0∧n0≤32767) (hn1 : -32768≤n1∧n1≤32767) (hn2 : -32768≤n2∧n2≤32767) (hn3 : -32768≤n3∧n3≤32767):EndsX En 0 (momX n0 n1 n2 n3 up) QMo:=by
  rcases btf up with b1|b1
  · have b1p:=b1
    refine fi 0 [(10,5,false)] 25 (band (Bool.not up) (band (r64 n0) (band (r64 (Int.mul (30) n0)) (band (r64 n1) (band (r64 (Int.mul (30) n1)) (band (r64 n2) (band (r64 (Int.mul (30) n2)) (band (r64 n3) (band (r64 (Int.mul (30) n3)) true))))))))) [] (az [Int.mul (30) n0,Int.mul (30) n1,Int.mul (30) n2,Int.mul (30) n3,0,0]) [] .h (by (try simp only [b1,gS]);(try simp only [gT] at *);try omega) ?_
    exact ⟨_,_,_,_,_,_,rfl,rfl,(by (try simp only [iAdd,iSub,iMul,iNeg,iite_if,ilt_iff] at *);omega),(by (try simp only [iAdd,iSub,iMul,iNeg,iite_if,ilt_iff] at *);omega),(by (try simp only [iAdd,iSub,iMul,iNeg,iite_if,ilt_iff] at *);omega),(by (try simp only [iAdd,iSub,iMul,iNeg,iite_if,ilt_iff] at *);omega),(by (try simp only [iAdd,iSub,iMul,iNeg,iite_if,ilt_iff] at *);omega),(by (try simp only [iAdd,iSub,iMul,iNeg,iite_if,ilt_iff] at *);omega)⟩
  have b1p:=b1
  refine fi 0 [(10,5,true)] 23 (band up (band (r64 n0) (band (r64 (Int.mul (40) (iite (ilt n0 (-1000)) (-1000) n0))) (band (r64 (Int.add (70000) (Int.mul (40) (iite (ilt n0 (-1000)) (-1000) n0)))) (band (r64 n1) (band (r64 (Int.mul (40) (iite (ilt n1 (-1000)) (-1000) n1))) (band (r64 (Int.sub (-70000) (Int.mul (40) (iite (ilt n1 (-1000)) (-1000) n1)))) (band (r64 n2) true)))))))) [] (az [Int.add (70000) (Int.mul (40) (iite (ilt n0 (-1000)) (-1000) n0)),0,0,Int.sub (-70000) (Int.mul (40) (iite (ilt n1 (-1000)) (-1000) n1)),n2,0]) [] .h (by (try simp only [b1,gS]);(try simp only [gT] at *);try omega) ?_
  exact ⟨_,_,_,_,_,_,rfl,rfl,(by (try simp only [iAdd,iSub,iMul,iNeg,iite_if,ilt_iff] at *);omega),(by (try simp only [iAdd,iSub,iMul,iNeg,iite_if,ilt_iff] at *);omega),(by (try simp only [iAdd,iSub,iMul,iNeg,iite_if,ilt_iff] at *);omega),(by (try simp only [iAdd,iSub,iMul,iNeg,iite_if,ilt_iff] at *);omega),(by (try simp only [iAdd,iSub,iMul,iNeg,iite_if,ilt_iff] at *);omega),(by (try simp only [iAdd,iSub,iMul,iNeg,iite_if,ilt_iff] at *);omega)⟩
theorem or_any {γ:Gm} {L:AM.Loc} {x:AV} {l:List AV} {el lo hi:Nat} {ex sty:Bool} {ob:Obj} (h:OR γ L (.cells (x::l) el ex sty lo hi) ob):OR γ L (.cells (.any::l) el ex sty lo hi) ob:=by
  obtain ⟨pre,cs,post,fz,s1,s2,s3,s4,s5⟩:=h
  cases s4 with
  | cons hx hl=>exact ⟨pre,_,post,fz,s1,s2,s3,.cons (.any _) hl,s5⟩
theorem oeAny {ρ:Ps→Ps} {a:Option AO} (x:AV) {l:List AV} {el lo hi:Nat} {ex sty:Bool} (h:a=some (.cells (x::renL ρ l) el ex sty lo hi)):OE a (renO ρ (.cells (.any::l) el ex sty lo hi)):=
  .inr ⟨_,h,fun _ _ _ k=>or_any k⟩
section
variable (nd:Nat) (D:Nat→Nat→Int) (dx dy:Bool) (de md:Nat) (T:Nat→Nat→Int) (tx ty:Bool) (te i c:Nat) (G:Nat→Nat→Int) (V:Nat→Bool) (S:Nat→Nat→Int) (v0 v1:Int)
noncomputable def glaaX:St:=⟨getF (enterA En 6 [(.agg [(.sa .h 0 nd 7),(.sa J1 0 md 2)])] false),[],(zs [(.arr nd 7 (rowK RD D) none de dx dy),(.arr md 2 (rowK [.u8,.u8] T) none te tx ty)]),J2,2⟩
noncomputable def glanX:St:=⟨getF (enterA En 6 [(.agg [(.sa .h 0 nd 7),.nils])] false),[],[(.h,(.arr nd 7 (rowK RD D) none de dx dy))],J2,2⟩
noncomputable def glnaX:St:=⟨getF (enterA En 6 [(.agg [.nils,(.sa J1 0 md 2)])] false),[],[(J1,(.arr md 2 (rowK [.u8,.u8] T) none te tx ty))],J2,2⟩
noncomputable def glnnX:St:=⟨getF (enterA En 6 [(.agg [.nils,.nils])] false),[],[],J2,2⟩
noncomputable def gln0X:St:=⟨(fr 6 178 (ts [1,2,3,9,10] [.ptr J2 0,.ptr J3 0,.ptr J4 0,.ptr J5 0,zi (0)]) [cA En 6 (pb 500),lA En 6 (pb 500),.blk 7,cA En 6 (pb 63)]),[],[(J1,(.arr md 2 (rowK [.u8,.u8] T) none te tx ty)),(J2,(ce 25 [.any,(.sa J1 0 md 2)])),(J3,(ce 36 [(zi (0)),(zi (0)),.nils,.nils])),(J4,(ce 36 [(zi (0)),(zi (500)),.nils,.nils])),(J5,(zc 49 [-300,-300]))],J6,2⟩
noncomputable def glsaX:St:=⟨(fr 6 178 (ts [1,2,3,4] [.ptr J2 0,.ptr J3 0,.ptr J4 0,zn (Nat.succ i)]) [cA En 6 (pb 116),lA En 6 (pb 116),.blk 0,cA En 6 (pb 15)]),[],(zs [(.arr nd 7 (rowK RD D) none de dx dy),(.arr md 2 (rowK [.u8,.u8] T) none te tx ty),(ce 25 [(.sa .h 0 nd 7),(.sa J1 0 md 2)]),(ce 36 [(zi (0)),(zi (0)),.nils,.nils]),(ce 36 [(zi (0)),(zi (500)),(.sa J5 0 (Nat.succ i) 7),.nils]),(o7 (Nat.succ i) G false false)]),J6,2⟩
noncomputable def glsnX:St:=⟨(fr 6 178 (ts [1,2,3,4] [.ptr J2 0,.ptr J3 0,.ptr J4 0,zn (Nat.succ i)]) [cA En 6 (pb 116),lA En 6 (pb 116),.blk 0,cA En 6 (pb 15)]),[],[(.h,(.arr nd 7 (rowK RD D) none de dx dy)),(J2,(ce 25 [(.sa .h 0 nd 7),.nils])),(J3,(ce 36 [(zi (0)),(zi (0)),.nils,.nils])),(J4,(ce 36 [(zi (0)),(zi (500)),(.sa J5 0 (Nat.succ i) 7),.nils])),(J5,(o7 (Nat.succ i) G false false))],J6,2⟩
noncomputable def gln1X:St:=⟨(fr 6 178 (ts [1,2,3,9,10] [.ptr J2 0,.ptr J3 0,.ptr J4 0,.ptr J5 0,zi (1)]) [cA En 6 (pb 500),lA En 6 (pb 500),.blk 7,cA En 6 (pb 63)]),[],[(J1,(.arr md 2 (rowK [.u8,.u8] T) none te tx ty)),(J2,(ce 25 [.any,(.sa J1 0 md 2)])),(J3,(ce 36 [(zi (0)),(zi (0)),.nils,.nils])),(J4,(ce 36 [(zi (0)),(zi (500)),.nils,(.sa J6 0 1 3)])),(J5,(zc 49 [v0,v1])),(J6,(o3 1 V S false false))],J7,2⟩
noncomputable def glt0X:St:=⟨(fr 6 178 (ts [1,2,3,9,10] [.ptr J2 0,.ptr J3 0,.ptr J4 0,.ptr J5 0,zi (0)]) [cA En 6 (pb 500),lA En 6 (pb 500),.blk 7,cA En 6 (pb 63)]),[],[(J1,(.arr md 2 (rowK [.u8,.u8] T) none te tx ty)),(J2,(ce 25 [.any,(.sa J1 0 md 2)])),(J3,(ce 36 [(zi (0)),(zi (0)),.nils,.nils])),(J4,(ce 36 [(zi (0)),(zi (500)),(.sa J6 0 (Nat.succ c) 7),.nils])),(J5,(zc 49 [-300,-300])),(J6,(o7 (Nat.succ c) G false false))],J7,2⟩
noncomputable def gln2X:St:=⟨(fr 6 178 (ts [1,2,3,9,10] [.ptr J2 0,.ptr J3 0,.ptr J4 0,.ptr J5 0,zi (2)]) [cA En 6 (pb 500),lA En 6 (pb 500),.blk 7,cA En 6 (pb 63)]),[],[(J1,(.arr md 2 (rowK [.u8,.u8] T) none te tx ty)),(J2,(ce 25 [.any,(.sa J1 0 md 2)])),(J3,(ce 36 [(zi (0)),(zi (0)),.nils,.nils])),(J4,(ce 36 [(zi (0)),(zi (500)),.nils,(.sa J6 0 2 3)])),(J5,(zc 49 [v0,v1])),(J6,(o3 2 V S false false))],J7,2⟩
noncomputable def glt1X:St:=⟨(fr 6 178 (ts [1,2,3,9,10] [.ptr J2 0,.ptr J3 0,.ptr J4 0,.ptr J5 0,zi (1)]) [cA En 6 (pb 500),lA En 6 (pb 500),.blk 7,cA En 6 (pb 63)]),[],[(J1,(.arr md 2 (rowK [.u8,.u8] T) none te tx ty)),(J2,(ce 25 [.any,(.sa J1 0 md 2)])),(J3,(ce 36 [(zi (0)),(zi (0)),.nils,.nils])),(J4,(ce 36 [(zi (0)),(zi (500)),(.sa J6 0 (Nat.succ c) 7),(.sa J7 0 1 3)])),(J5,(zc 49 [v0,v1])),(J6,(o7 (Nat.succ c) G false false)),(J7,(o3 1 V S false false))],J8,2⟩
noncomputable def gln3X:St:=⟨(fr 6 178 (ts [1,2,3,9,10] [.ptr J2 0,.ptr J3 0,.ptr J4 0,.ptr J5 0,zi (3)]) [cA En 6 (pb 500),lA En 6 (pb 500),.blk 7,cA En 6 (pb 63)]),[],[(J1,(.arr md 2 (rowK [.u8,.u8] T) none te tx ty)),(J2,(ce 25 [.any,(.sa J1 0 md 2)])),(J3,(ce 36 [(zi (0)),(zi (0)),.nils,.nils])),(J4,(ce 36 [(zi (0)),(zi (500)),.nils,(.sa J6 0 3 3)])),(J5,(zc 49 [v0,v1])),(J6,(o3 3 V S false false))],J7,2⟩
noncomputable def glt2X:St:=⟨(fr 6 178 (ts [1,2,3,9,10] [.ptr J2 0,.ptr J3 0,.ptr J4 0,.ptr J5 0,zi (2)]) [cA En 6 (pb 500),lA En 6 (pb 500),.blk 7,cA En 6 (pb 63)]),[],[(J1,(.arr md 2 (rowK [.u8,.u8] T) none te tx ty)),(J2,(ce 25 [.any,(.sa J1 0 md 2)])),(J3,(ce 36 [(zi (0)),(zi (0)),.nils,.nils])),(J4,(ce 36 [(zi (0)),(zi (500)),(.sa J6 0 (Nat.succ c) 7),(.sa J7 0 2 3)])),(J5,(zc 49 [v0,v1])),(J6,(o7 (Nat.succ c) G false false)),(J7,(o3 2 V S false false))],J8,2⟩
noncomputable def gln4X:St:=⟨(fr 6 178 (ts [1,2,3,9,10] [.ptr J2 0,.ptr J3 0,.ptr J4 0,.ptr J5 0,zi (4)]) [cA En 6 (pb 500),lA En 6 (pb 500),.blk 7,cA En 6 (pb 63)]),[],[(J1,(.arr md 2 (rowK [.u8,.u8] T) none te tx ty)),(J2,(ce 25 [.any,(.sa J1 0 md 2)])),(J3,(ce 36 [(zi (0)),(zi (0)),.nils,.nils])),(J4,(ce 36 [(zi (0)),(zi (500)),.nils,(.sa J6 0 4 3)])),(J5,(zc 49 [v0,v1])),(J6,(o3 4 V S false false))],J7,2⟩
noncomputable def glt3X:St:=⟨(fr 6 178 (ts [1,2,3,9,10] [.ptr J2 0,.ptr J3 0,.ptr J4 0,.ptr J5 0,zi (3)]) [cA En 6 (pb 500),lA En 6 (pb 500),.blk 7,cA En 6 (pb 63)]),[],[(J1,(.arr md 2 (rowK [.u8,.u8] T) none te tx ty)),(J2,(ce 25 [.any,(.sa J1 0 md 2)])),(J3,(ce 36 [(zi (0)),(zi (0)),.nils,.nils])),(J4,(ce 36 [(zi (0)),(zi (500)),(.sa J6 0 (Nat.succ c) 7),(.sa J7 0 3 3)])),(J5,(zc 49 [v0,v1])),(J6,(o7 (Nat.succ c) G false false)),(J7,(o3 3 V S false false))],J8,2⟩
noncomputable def gln5X:St:=⟨(fr 6 178 (ts [1,2,3,9,10] [.ptr J2 0,.ptr J3 0,.ptr J4 0,.ptr J5 0,zi (5)]) [cA En 6 (pb 500),lA En 6 (pb 500),.blk 7,cA En 6 (pb 63)]),[],[(J1,(.arr md 2 (rowK [.u8,.u8] T) none te tx ty)),(J2,(ce 25 [.any,(.sa J1 0 md 2)])),(J3,(ce 36 [(zi (0)),(zi (0)),.nils,.nils])),(J4,(ce 36 [(zi (0)),(zi (500)),.nils,(.sa J6 0 5 3)])),(J5,(zc 49 [v0,v1])),(J6,(o3 5 V S false false))],J7,2⟩
noncomputable def glt4X:St:=⟨(fr 6 178 (ts [1,2,3,9,10] [.ptr J2 0,.ptr J3 0,.ptr J4 0,.ptr J5 0,zi (4)]) [cA En 6 (pb 500),lA En 6 (pb 500),.blk 7,cA En 6 (pb 63)]),[],[(J1,(.arr md 2 (rowK [.u8,.u8] T) none te tx ty)),(J2,(ce 25 [.any,(.sa J1 0 md 2)])),(J3,(ce 36 [(zi (0)),(zi (0)),.nils,.nils])),(J4,(ce 36 [(zi (0)),(zi (500)),(.sa J6 0 (Nat.succ c) 7),(.sa J7 0 4 3)])),(J5,(zc 49 [v0,v1])),(J6,(o7 (Nat.succ c) G false false)),(J7,(o3 4 V S false false))],J8,2⟩
noncomputable def gln6X:St:=⟨(fr 6 178 (ts [1,2,3,9,10] [.ptr J2 0,.ptr J3 0,.ptr J4 0,.ptr J5 0,zi (6)]) [cA En 6 (pb 500),lA En 6 (pb 500),.blk 7,cA En 6 (pb 63)]),[],[(J1,(.arr md 2 (rowK [.u8,.u8] T) none te tx ty)),(J2,(ce 25 [.any,(.sa J1 0 md 2)])),(J3,(ce 36 [(zi (0)),(zi (0)),.nils,.nils])),(J4,(ce 36 [(zi (0)),(zi (500)),.nils,(.sa J6 0 6 3)])),(J5,(zc 49 [v0,v1])),(J6,(o3 6 V S false false))],J7,2⟩
noncomputable def glt5X:St:=⟨(fr 6 178 (ts [1,2,3,9,10] [.ptr J2 0,.ptr J3 0,.ptr J4 0,.ptr J5 0,zi (5)]) [cA En 6 (pb 500),lA En 6 (pb 500),.blk 7,cA En 6 (pb 63)]),[],[(J1,(.arr md 2 (rowK [.u8,.u8] T) none te tx ty)),(J2,(ce 25 [.any,(.sa J1 0 md 2)])),(J3,(ce 36 [(zi (0)),(zi (0)),.nils,.nils])),(J4,(ce 36 [(zi (0)),(zi (500)),(.sa J6 0 (Nat.succ c) 7),(.sa J7 0 5 3)])),(J5,(zc 49 [v0,v1])),(J6,(o7 (Nat.succ c) G false false)),(J7,(o3 5 V S false false))],J8,2⟩
noncomputable def gln7X:St:=⟨(fr 6 178 (ts [1,2,3,9,10] [.ptr J2 0,.ptr J3 0,.ptr J4 0,.ptr J5 0,zi (7)]) [cA En 6 (pb 500),lA En 6 (pb 500),.blk 7,cA En 6 (pb 63)]),[],[(J1,(.arr md 2 (rowK [.u8,.u8] T) none te tx ty)),(J2,(ce 25 [.any,(.sa J1 0 md 2)])),(J3,(ce 36 [(zi (0)),(zi (0)),.nils,.nils])),(J4,(ce 36 [(zi (0)),(zi (500)),.nils,(.sa J6 0 7 3)])),(J5,(zc 49 [v0,v1])),(J6,(o3 7 V S false false))],J7,2⟩
noncomputable def glt6X:St:=⟨(fr 6 178 (ts [1,2,3,9,10] [.ptr J2 0,.ptr J3 0,.ptr J4 0,.ptr J5 0,zi (6)]) [cA En 6 (pb 500),lA En 6 (pb 500),.blk 7,cA En 6 (pb 63)]),[],[(J1,(.arr md 2 (rowK [.u8,.u8] T) none te tx ty)),(J2,(ce 25 [.any,(.sa J1 0 md 2)])),(J3,(ce 36 [(zi (0)),(zi (0)),.nils,.nils])),(J4,(ce 36 [(zi (0)),(zi (500)),(.sa J6 0 (Nat.succ c) 7),(.sa J7 0 6 3)])),(J5,(zc 49 [v0,v1])),(J6,(o7 (Nat.succ c) G false false)),(J7,(o3 6 V S false false))],J8,2⟩
noncomputable def gln8X:St:=⟨(fr 6 178 (ts [1,2,3,9,10] [.ptr J2 0,.ptr J3 0,.ptr J4 0,.ptr J5 0,zi (8)]) [cA En 6 (pb 500),lA En 6 (pb 500),.blk 7,cA En 6 (pb 63)]),[],[(J1,(.arr md 2 (rowK [.u8,.u8] T) none te tx ty)),(J2,(ce 25 [.any,(.sa J1 0 md 2)])),(J3,(ce 36 [(zi (0)),(zi (0)),.nils,.nils])),(J4,(ce 36 [(zi (0)),(zi (500)),.nils,(.sa J6 0 8 3)])),(J5,(zc 49 [v0,v1])),(J6,(o3 8 V S false false))],J7,2⟩
noncomputable def glt7X:St:=⟨(fr 6 178 (ts [1,2,3,9,10] [.ptr J2 0,.ptr J3 0,.ptr J4 0,.ptr J5 0,zi (7)]) [cA En 6 (pb 500),lA En 6 (pb 500),.blk 7,cA En 6 (pb 63)]),[],[(J1,(.arr md 2 (rowK [.u8,.u8] T) none te tx ty)),(J2,(ce 25 [.any,(.sa J1 0 md 2)])),(J3,(ce 36 [(zi (0)),(zi (0)),.nils,.nils])),(J4,(ce 36 [(zi (0)),(zi (500)),(.sa J6 0 (Nat.succ c) 7),(.sa J7 0 7 3)])),(J5,(zc 49 [v0,v1])),(J6,(o7 (Nat.succ c) G false false)),(J7,(o3 7 V S false false))],J8,2⟩
noncomputable def glt8X:St:=⟨(fr 6 178 (ts [1,2,3,9,10] [.ptr J2 0,.ptr J3 0,.ptr J4 0,.ptr J5 0,zi (8)]) [cA En 6 (pb 500),lA En 6 (pb 500),.blk 7,cA En 6 (pb 63)]),[],[(J1,(.arr md 2 (rowK [.u8,.u8] T) none te tx ty)),(J2,(ce 25 [.any,(.sa J1 0 md 2)])),(J3,(ce 36 [(zi (0)),(zi (0)),.nils,.nils])),(J4,(ce 36 [(zi (0)),(zi (500)),(.sa J6 0 (Nat.succ c) 7),(.sa J7 0 8 3)])),(J5,(zc 49 [v0,v1])),(J6,(o7 (Nat.succ c) G false false)),(J7,(o3 8 V S false false))],J8,2⟩
end
end Go.Proofs.Ytoahnefofelglaa.gm
end
