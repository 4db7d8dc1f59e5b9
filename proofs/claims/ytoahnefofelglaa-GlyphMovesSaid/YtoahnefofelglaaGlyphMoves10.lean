/- A part of the proof of GlyphMoves; no condition. -/
import Derived.Test.YtoahnefofelglaaGlyphMoves09
set_option linter.unusedVariables false
set_option linter.unusedSimpArgs false
set_option linter.unusedSectionVars false
section
namespace Go.Proofs.Ytoahnefofelglaa.gm
open Go Go.AM
noncomputable abbrev mv0 (px sx:Int) (q:Nat):Bool:=(band (band (ieq px px) true) (band (band (band (ieq sx sx) (band (band (Nat.beq (Nat.succ q) (Nat.succ q)) true) true)) true) true))
noncomputable abbrev mv1 (py sy:Int) (q2:Nat):Bool:=(band (band (ieq py py) true) (band (band (band (ieq sy sy) (band (band (Nat.beq (Nat.succ q2) (Nat.succ q2)) true) true)) true) true))
noncomputable abbrev mv2 (sx px:Int):Bool:=(band (band (band (ile (1) sx) (band (ile sx (16777216)) (band (ile (-32000) px) (ile px (32000))))) true) (band (band (ieq px px) true) (band (band (band (ieq sx sx) true) true) true)))
section
variable {mA:Int} {mB:Int} {mC:Int} {mD:Int} {mE:Int} {mF:Int}
theorem plm_ok {px:Int} {py:Int} (hmA : -2000000≤mA∧mA≤2000000) (hmB : -2000000≤mB∧mB≤2000000) (hmC : -2000000≤mC∧mC≤2000000) (hmD : -2000000≤mD∧mD≤2000000) (hpx : -32000≤px∧px≤32000) (hpy : -32000≤py∧py≤32000):EndsX En 1 (plmX mA mB mC mD mE mF px py) (fun v H=>∃ a b e:Int,v=.tup [.agg [.int .i64 a,.int .i64 b],.int .i64 e]∧H.nx=.o .h∧(-1000000000000000000≤a∧a≤1000000000000000000)∧(-1000000000000000000≤b∧b≤1000000000000000000)):=by
  refine fi 1 [] 10 (band (band (band (r64 (Int.mul mA px)) (band (r64 (Int.mul mC py)) (band (r64 (Int.add (Int.mul mA px) (Int.mul mC py))) (band (r64 (Int.add (Int.add (Int.mul mA px) (Int.mul mC py)) (2048000))) (band (r64 (Int.add (Int.add (Int.mul mA px) (Int.mul mC py)) (2048000))) (band (r64 (Int.mul mB px)) (band (r64 (Int.mul mD py)) (band (r64 (Int.add (Int.mul mB px) (Int.mul mD py))) (band (r64 (Int.add (Int.add (Int.mul mB px) (Int.mul mD py)) (2048000))) (band (r64 (Int.add (Int.add (Int.mul mB px) (Int.mul mD py)) (2048000))) true)))))))))) (band (band (ieq py py) (band (ieq py py) true)) (band (band (ieq mD mD) (band (ieq mD mD) true)) (band (band (ieq px px) (band (ieq px px) true)) (band (band (ieq mB mB) (band (ieq mB mB) true)) (band (band (ieq py py) true) (band (band (ieq mC mC) true) (band (band (ieq px px) true) (band (band (ieq mA mA) true) true))))))))) true) [.h] (.tup [(az [fdv (Int.add (Int.add (Int.mul mA px) (Int.mul mC py)) (2048000)) (4096000),fdv (Int.add (Int.add (Int.mul mB px) (Int.mul mD py)) (2048000)) (4096000)]),(zi (0))]) [] J1 (by have:=mul2 (x:=mA) (y:=px) hmA hpx;have:=mul2 (x:=mB) (y:=px) hmB hpx;have:=mul2 (x:=mC) (y:=py) hmC hpy;have:=mul2 (x:=mD) (y:=py) hmD hpy;(try simp only [gS]);(try simp only [gT] at *);try omega) ?_
  exact ⟨_,_,_,rfl,rfl,by have:=mul2 (x:=mA) (y:=px) hmA hpx;have:=mul2 (x:=mB) (y:=px) hmB hpx;have:=mul2 (x:=mC) (y:=py) hmC hpy;have:=mul2 (x:=mD) (y:=py) hmD hpy;simp only [iAdd,iMul] at *;unfold fdv;omega,by have:=mul2 (x:=mA) (y:=px) hmA hpx;have:=mul2 (x:=mB) (y:=px) hmB hpx;have:=mul2 (x:=mC) (y:=py) hmC hpy;have:=mul2 (x:=mD) (y:=py) hmD hpy;simp only [iAdd,iMul] at *;unfold fdv;omega⟩
theorem hoom_ok {sx:Int} {sy:Int} {px:Int} {py:Int} (hsx:1≤sx∧sx≤16777216) (hsy:1≤sy∧sy≤16777216) (hpx : -32000≤px∧px≤32000) (hpy : -32000≤py∧py≤32000):EndsX En 1 (hoomX mA mB mC mD mE mF sx sy px py) (fun v H=>∃ a b e:Int,v=.tup [.agg [.int .i64 a,.int .i64 b],.int .i64 e]∧H.nx=.o .h∧(-1000000000000000000≤a∧a≤1000000000000000000)∧(-1000000000000000000≤b∧b≤1000000000000000000)):=by
  refine fiT tbmOk 1 [] 30 ((band (mv2 sx px) (band (band (band (band (ile (1) sy) (band (ile sy (16777216)) (band (ile (-32000) py) (ile py (32000))))) true) (band (band (ieq py py) true) (band (band (band (ieq sy sy) true) true) true))) (band (r64 (Int.sub (0) (mapZ sy py))) true)))) [.h] (.tup [(az [mapZ sx px,Int.sub (0) (mapZ sy py)]),(zi (0))]) [] J1 (by have:=mapZ_bd sx px;have:=mapZ_bd sy py;(try simp only [gS,mv2]);(try simp only [gT] at *);try omega) ?_
  exact ⟨_,_,_,rfl,rfl,by have:=mapZ_bd sx px;have:=mapZ_bd sy py;(try simp only [iNeg,iSub] at *);omega,by have:=mapZ_bd sx px;have:=mapZ_bd sy py;(try simp only [iNeg,iSub] at *);omega⟩
theorem hoim_ok {sx:Int} {sy:Int} {q2:Nat} {K2:Nat→Nat→Int} {xb:Bool} {yb:Bool} {px:Int} {py:Int} (hsx:1≤sx∧sx≤16777216) (hsy:1≤sy∧sy≤16777216) (hq2:q2≤100) (hK2:∀ j k,-1000000000000≤K2 j k∧K2 j k≤1000000000000) (hpx : -32000≤px∧px≤32000) (hpy : -32000≤py∧py≤32000):EndsX En 2 (hoimX mA mB mC mD mE mF sx sy q2 K2 xb yb px py) (fun v H=>∃ a b e:Int,v=.tup [.agg [.int .i64 a,.int .i64 b],.int .i64 e]∧H.nx=.i .h∧(-1000000000000000000≤a∧a≤1000000000000000000)∧(-1000000000000000000≤b∧b≤1000000000000000000)):=by
  have hk2:=rowOK_of hq2 hK2
  refine fiT tbmOk 2 [] 30 ((band (mv2 sx px) (band (band (band (band (Nat.beq (Nat.succ q2) (Nat.succ q2)) (band (rowOK (Nat.succ q2) (rowK [.i64,.i64] K2)) (band (ile (1) sy) (band (ile sy (16777216)) (band (ile (-32000) py) (band (ile py (32000)) true)))))) true) (mv1 py sy q2)) (band (r64 (Int.sub (0) (mapV (Nat.succ q2) (rowK [.i64,.i64] K2) xb yb sy py))) true)))) [.h,J1] (.tup [(az [mapZ sx px,Int.sub (0) (mapV (Nat.succ q2) (rowK [.i64,.i64] K2) xb yb sy py)]),(zi (mapE (Nat.succ q2) (rowK [.i64,.i64] K2) xb yb sy py))]) [] J2 (by have:=mapZ_bd sx px;have:=mapV_bd (Nat.succ q2) (rowK [.i64,.i64] K2) xb yb sy py;(try simp only [hk2,gS,mv1,mv2]);(try simp only [gT] at *);try omega) ?_
  exact ⟨_,_,_,rfl,rfl,by have:=mapZ_bd sx px;have:=mapV_bd (Nat.succ q2) (rowK [.i64,.i64] K2) xb yb sy py;(try simp only [iNeg,iSub] at *);omega,by have:=mapZ_bd sx px;have:=mapV_bd (Nat.succ q2) (rowK [.i64,.i64] K2) xb yb sy py;(try simp only [iNeg,iSub] at *);omega⟩
theorem hiim_ok {sx:Int} {sy:Int} {q:Nat} {K:Nat→Nat→Int} {xa:Bool} {ya:Bool} {q2:Nat} {K2:Nat→Nat→Int} {xb:Bool} {yb:Bool} {px:Int} {py:Int} (hsx:1≤sx∧sx≤16777216) (hsy:1≤sy∧sy≤16777216) (hq:q≤100) (hK:∀ j k,-1000000000000≤K j k∧K j k≤1000000000000) (hq2:q2≤100) (hK2:∀ j k,-1000000000000≤K2 j k∧K2 j k≤1000000000000) (hpx : -32000≤px∧px≤32000) (hpy : -32000≤py∧py≤32000):EndsX En 3 (hiimX mA mB mC mD mE mF sx sy q K xa ya q2 K2 xb yb px py) (fun v H=>∃ a b e:Int,v=.tup [.agg [.int .i64 a,.int .i64 b],.int .i64 e]∧H.nx=.o J1∧(-1000000000000000000≤a∧a≤1000000000000000000)∧(-1000000000000000000≤b∧b≤1000000000000000000)):=by
  have hk1:=rowOK_of hq hK
  have hk2:=rowOK_of hq2 hK2
  rcases ci (mapE (Nat.succ q) (rowK [.i64,.i64] K) xa ya sx px) (0) with ⟨b1,b1p⟩|⟨b1,b1p⟩
  · refine fiT tbmOk 3 [(14,20,true)] 10 ((band (band (band (band (band (Nat.beq (Nat.succ q) (Nat.succ q)) (band (rowOK (Nat.succ q) (rowK [.i64,.i64] K)) (band (ile (1) sx) (band (ile sx (16777216)) (band (ile (-32000) px) (band (ile px (32000)) true)))))) true) (mv0 px sx q)) true) (band (Bool.not (ieq (mapE (Nat.succ q) (rowK [.i64,.i64] K) xa ya sx px) (0))) true))) [.h,J1,J2] (.tup [(az [0,0]),(zi (mapE (Nat.succ q) (rowK [.i64,.i64] K) xa ya sx px))]) [] J3 (by have:=mapV_bd (Nat.succ q) (rowK [.i64,.i64] K) xa ya sx px;have:=mapV_bd (Nat.succ q2) (rowK [.i64,.i64] K2) xb yb sy py;(try simp only [hk1,hk2,b1,gS,mv0]);(try simp only [gT] at *);try omega) ?_
    exact ⟨_,_,_,rfl,rfl,by have:=mapV_bd (Nat.succ q) (rowK [.i64,.i64] K) xa ya sx px;have:=mapV_bd (Nat.succ q2) (rowK [.i64,.i64] K2) xb yb sy py;(try simp only [iNeg,iSub] at *);omega,by have:=mapV_bd (Nat.succ q) (rowK [.i64,.i64] K) xa ya sx px;have:=mapV_bd (Nat.succ q2) (rowK [.i64,.i64] K2) xb yb sy py;(try simp only [iNeg,iSub] at *);omega⟩
  refine fiT tbmOk 3 [(14,20,false)] 16 ((band (band (band (band (band (Nat.beq (Nat.succ q) (Nat.succ q)) (band (rowOK (Nat.succ q) (rowK [.i64,.i64] K)) (band (ile (1) sx) (band (ile sx (16777216)) (band (ile (-32000) px) (band (ile px (32000)) true)))))) true) (mv0 px sx q)) true) (band (Bool.not (Bool.not (ieq (mapE (Nat.succ q) (rowK [.i64,.i64] K) xa ya sx px) (0)))) (band (band (band (band (Nat.beq (Nat.succ q2) (Nat.succ q2)) (band (rowOK (Nat.succ q2) (rowK [.i64,.i64] K2)) (band (ile (1) sy) (band (ile sy (16777216)) (band (ile (-32000) py) (band (ile py (32000)) true)))))) true) (mv1 py sy q2)) (band (r64 (Int.sub (0) (mapV (Nat.succ q2) (rowK [.i64,.i64] K2) xb yb sy py))) true))))) [.h,J1,J2] (.tup [(az [mapV (Nat.succ q) (rowK [.i64,.i64] K) xa ya sx px,Int.sub (0) (mapV (Nat.succ q2) (rowK [.i64,.i64] K2) xb yb sy py)]),(zi (mapE (Nat.succ q2) (rowK [.i64,.i64] K2) xb yb sy py))]) [] J3 (by have:=mapV_bd (Nat.succ q) (rowK [.i64,.i64] K) xa ya sx px;have:=mapV_bd (Nat.succ q2) (rowK [.i64,.i64] K2) xb yb sy py;(try simp only [hk1,hk2,b1,gS,mv0,mv1]);(try simp only [gT] at *);try omega) ?_
  exact ⟨_,_,_,rfl,rfl,by have:=mapV_bd (Nat.succ q) (rowK [.i64,.i64] K) xa ya sx px;have:=mapV_bd (Nat.succ q2) (rowK [.i64,.i64] K2) xb yb sy py;(try simp only [iNeg,iSub] at *);omega,by have:=mapV_bd (Nat.succ q) (rowK [.i64,.i64] K) xa ya sx px;have:=mapV_bd (Nat.succ q2) (rowK [.i64,.i64] K2) xb yb sy py;(try simp only [iNeg,iSub] at *);omega⟩
end
section
variable (n:Nat) (Y:Nat→Nat→Int) (ex sty:Bool) (sd wd:Int) (m:Nat) (V:Nat→Bool) (S:Nat→Nat→Int) (sex ssty:Bool) (mA mB mC mD mE mF:Int) (q_2:Nat) (K_2:Nat→Nat→Int) (q_1:Nat) (K_1:Nat→Nat→Int) (q_3:Nat) (K_3:Nat→Nat→Int)
noncomputable def ofsmX:St:=⟨getF (enterA En 26 [(.agg [(zi sd),(zi wd),(.sa .h 0 n 7),(.sa J1 0 m 3)]),(az [mA,mB,mC,mD,mE,mF])] false),[],(zs [(o7 n Y ex sty),(o3 m V S sex ssty)]),J2,2⟩
noncomputable def ofse1X:St:=⟨cf (ftmX m V S sex ssty true (Int.tdiv (Int.mul (16) mA) (1000))) J4 [J1],[(fr 26 52 (ts [2,6,8,25] [.ptr J2 0,.ptr J3 0,zi (Int.tdiv (Int.mul (-16) mD) (1000)),.ptr J3 0]) [rA En 26 (pb 252) 4,cA En 26 (pb 253),cA En 26 (pb 127)])],(zs [(o7 n Y ex sty),(o3 m V S sex ssty),(ce 36 [(zi sd),(zi wd),(.sa .h 0 n 7),(.sa J1 0 m 3)]),(ce 123 [(zi mA),(zi mB),(zi mC),(zi mD),(zi mE),(zi mF),(zi (0)),(zi (0)),.nils,(zi (0)),(zi (0)),.nils])]),J4,2⟩
noncomputable def ofse2X:St:=⟨cf (ftmX m V S sex ssty false (Int.tdiv (Int.mul (-16) mD) (1000))) J3 [J1],[(fr 26 52 (ts [6,38] [.ptr J2 0,.ptr J2 0]) [rA En 26 (pb 508) 4,cA En 26 (pb 509),cA En 26 (pb 255)])],(zs [(o7 n Y ex sty),(o3 m V S sex ssty),(ce 123 [(zi mA),(zi mB),(zi mC),(zi mD),(zi mE),(zi mF),(zi (Int.tdiv (Int.mul (16) mA) (1000))),(zi (0)),.nils,(zi (0)),(zi (0)),.nils])]),J3,2⟩
noncomputable def ofse3X:St:=⟨cf (ftmX m V S sex ssty false (Int.tdiv (Int.mul (-16) mD) (1000))) J4 [J1],[(fr 26 52 (ts [6,38] [.ptr J2 0,.ptr J2 0]) [rA En 26 (pb 508) 4,cA En 26 (pb 509),cA En 26 (pb 255)])],(zs [(o7 n Y ex sty),(o3 m V S sex ssty),(ce 123 [(zi mA),(zi mB),(zi mC),(zi mD),(zi mE),(zi mF),(zi (Int.tdiv (Int.mul (16) mA) (1000))),(zi (0)),(.sa J3 0 (Nat.succ q_1) 2),(zi (0)),(zi (0)),.nils]),(.arr (Nat.succ q_1) 2 (rowK [.i64,.i64] K_1) none 159 false false)]),J4,2⟩
end
noncomputable def ofzmX (n:Nat) (Y:Nat→Nat→Int) (ex:Bool) (sty:Bool) (sd:Int) (wd:Int) (mA:Int) (mB:Int) (mC:Int) (mD:Int) (mE:Int) (mF:Int):St:=⟨getF (enterA En 26 [(.agg [(zi sd),(zi wd),(.sa .h 0 n 7),.nils]),(az [mA,mB,mC,mD,mE,mF])] false),[],[(.h,(o7 n Y ex sty))],J1,1⟩
section
variable (sd wd:Int) (m:Nat) (V:Nat→Bool) (S:Nat→Nat→Int) (sex ssty:Bool) (mA mB mC mD mE mF:Int) (q_2:Nat) (K_2:Nat→Nat→Int) (q_1:Nat) (K_1:Nat→Nat→Int) (q_3:Nat) (K_3:Nat→Nat→Int)
noncomputable def ofnsmX:St:=⟨getF (enterA En 26 [(.agg [(zi sd),(zi wd),.nils,(.sa .h 0 m 3)]),(az [mA,mB,mC,mD,mE,mF])] false),[],[(.h,(o3 m V S sex ssty))],J1,1⟩
noncomputable def ofnse1X:St:=⟨cf (ftmX m V S sex ssty true (Int.tdiv (Int.mul (16) mA) (1000))) J3 [.h],[(fr 26 52 (ts [2,6,8,25] [.ptr J1 0,.ptr J2 0,zi (Int.tdiv (Int.mul (-16) mD) (1000)),.ptr J2 0]) [rA En 26 (pb 252) 4,cA En 26 (pb 253),cA En 26 (pb 127)])],(zs [(o3 m V S sex ssty),(ce 36 [(zi sd),(zi wd),.nils,(.sa .h 0 m 3)]),(ce 123 [(zi mA),(zi mB),(zi mC),(zi mD),(zi mE),(zi mF),(zi (0)),(zi (0)),.nils,(zi (0)),(zi (0)),.nils])]),J3,1⟩
noncomputable def ofnse2X:St:=⟨cf (ftmX m V S sex ssty false (Int.tdiv (Int.mul (-16) mD) (1000))) J2 [.h],[(fr 26 52 (ts [6,38] [.ptr J1 0,.ptr J1 0]) [rA En 26 (pb 508) 4,cA En 26 (pb 509),cA En 26 (pb 255)])],(zs [(o3 m V S sex ssty),(ce 123 [(zi mA),(zi mB),(zi mC),(zi mD),(zi mE),(zi mF),(zi (Int.tdiv (Int.mul (16) mA) (1000))),(zi (0)),.nils,(zi (0)),(zi (0)),.nils])]),J2,1⟩
noncomputable def ofnse3X:St:=⟨cf (ftmX m V S sex ssty false (Int.tdiv (Int.mul (-16) mD) (1000))) J3 [.h],[(fr 26 52 (ts [6,38] [.ptr J1 0,.ptr J1 0]) [rA En 26 (pb 508) 4,cA En 26 (pb 509),cA En 26 (pb 255)])],(zs [(o3 m V S sex ssty),(ce 123 [(zi mA),(zi mB),(zi mC),(zi mD),(zi mE),(zi mF),(zi (Int.tdiv (Int.mul (16) mA) (1000))),(zi (0)),(.sa J2 0 (Nat.succ q_1) 2),(zi (0)),(zi (0)),.nils]),(.arr (Nat.succ q_1) 2 (rowK [.i64,.i64] K_1) none 159 false false)]),J3,1⟩
end
noncomputable def ofnzmX (sd:Int) (wd:Int) (mA:Int) (mB:Int) (mC:Int) (mD:Int) (mE:Int) (mF:Int):St:=⟨getF (enterA En 26 [(.agg [(zi sd),(zi wd),.nils,.nils]),(az [mA,mB,mC,mD,mE,mF])] false),[],[],.h,0⟩
noncomputable abbrev of0 (mB:Int):Bool:=(Bool.not (Bool.not (ieq mB (0))))
noncomputable abbrev of1 (mC:Int):Bool:=(Bool.not (Bool.not (ieq mC (0))))
noncomputable abbrev of2 (mA:Int):Bool:=(ilt (0) (Int.tdiv (Int.mul (16) mA) (1000)))
noncomputable abbrev of3 (mD:Int):Bool:=(Bool.not (ilt (0) (Int.tdiv (Int.mul (-16) mD) (1000))))
noncomputable abbrev of4 (mB mC:Int):Bool:=(band (of0 mB) (band (Bool.not (ieq mC (0))) true))
noncomputable abbrev of5 (mB mC mA:Int):Bool:=(band (of0 mB) (band (of1 mC) (band (ile mA (0)) true)))
noncomputable abbrev of6 (mB mC mA mD:Int):Bool:=(band (of0 mB) (band (of1 mC) (band (Bool.not (ile mA (0))) (band (ile (0) mD) true))))
noncomputable abbrev of7 (mA mD:Int):Bool:=(band (band (band (r64 (Int.mul (16) mA)) (band (r64 (Int.tdiv (Int.mul (16) mA) (1000))) (band (r64 (Int.mul (-16) mD)) (band (r64 (Int.tdiv (Int.mul (-16) mD) (1000))) true)))) (band (band (ieq mD mD) true) (band (band (ieq mA mA) true) true))) true)
noncomputable abbrev of8 (mB mC mA mD:Int):Bool:=(band (of0 mB) (band (of1 mC) (band (Bool.not (ile mA (0))) (band (Bool.not (ile (0) mD)) (band (of7 mA mD) (band (Bool.not (of2 mA)) true))))))
noncomputable abbrev of9 (mB mC mA mD:Int):Bool:=(band (of0 mB) (band (of1 mC) (band (Bool.not (ile mA (0))) (band (Bool.not (ile (0) mD)) (band (of7 mA mD) (band (of2 mA) (band (of3 mD) true)))))))
noncomputable abbrev of10 (mB mC mA mD:Int):Bool:=(band (of0 mB) (band (of1 mC) (band (Bool.not (ile mA (0))) (band (Bool.not (ile (0) mD)) (band (of7 mA mD) (band (of2 mA) (band (Bool.not (of3 mD)) true)))))))
noncomputable abbrev of11 (mB mC mA mD:Int):Bool:=(band (of0 mB) (band (of1 mC) (band (Bool.not (ile mA (0))) (band (Bool.not (ile (0) mD)) (band (of7 mA mD) (band (of2 mA) (band (Bool.not (of3 mD)) (band (ile (1) (Int.tdiv (Int.mul (16) mA) (1000))) (band (ile (Int.tdiv (Int.mul (16) mA) (1000)) (16777216)) (band (ile (1) (Int.tdiv (Int.mul (-16) mD) (1000))) (band (ile (Int.tdiv (Int.mul (-16) mD) (1000)) (16777216)) true)))))))))))
def QOofs (mA:Int) (mB:Int) (mC:Int) (mD:Int) (mE:Int) (mF:Int):AV→Hp→Prop:=fun v H =>
  ((v=(.tup [.nilf,(zi (2))])∧H.nx=.i .h)) ∨
  ((v=(.tup [(.fn 43 [(.ptr J2 0)] []),(zi (0))])∧H.nx=.o J1∧H.hp.get J2=some (ce 123 [(zi mA),(zi mB),(zi mC),(zi mD),(zi mE),(zi mF),(zi (0)),(zi (0)),.nils,(zi (0)),(zi (0)),.nils]))) ∨
  (∃ (q2:Nat) (K2:Nat→Nat→Int),(v=(.tup [(.fn 44 [(.ptr J2 0)] []),(zi (0))])∧H.nx=.i J1∧H.hp.get J2=some (ce 123 [(zi mA),(zi mB),(zi mC),(zi mD),(zi mE),(zi mF),(zi (Int.tdiv (Int.mul (16) mA) (1000))),(zi (0)),.nils,(zi (Int.tdiv (Int.mul (-16) mD) (1000))),(zi (0)),(.sa J3 0 (Nat.succ q2) 2)])∧H.hp.get J3=some (.arr (Nat.succ q2) 2 (rowK [.i64,.i64] K2) none 159 false false))∧(1≤Int.tdiv (Int.mul (16) mA) (1000)∧Int.tdiv (Int.mul (16) mA) (1000)≤16777216)∧(1≤Int.tdiv (Int.mul (-16) mD) (1000)∧Int.tdiv (Int.mul (-16) mD) (1000)≤16777216)∧q2≤100∧(∀ j k,-1000000000000≤K2 j k∧K2 j k≤1000000000000)) ∨
  (∃ (q:Nat) (K:Nat→Nat→Int),∃ (q2:Nat) (K2:Nat→Nat→Int),(v=(.tup [(.fn 44 [(.ptr J2 0)] []),(zi (0))])∧H.nx=.o J2∧H.hp.get J2=some (ce 123 [(zi mA),(zi mB),(zi mC),(zi mD),(zi mE),(zi mF),(zi (Int.tdiv (Int.mul (16) mA) (1000))),(zi (0)),(.sa J3 0 (Nat.succ q) 2),(zi (Int.tdiv (Int.mul (-16) mD) (1000))),(zi (0)),(.sa J4 0 (Nat.succ q2) 2)])∧H.hp.get J3=some (.arr (Nat.succ q) 2 (rowK [.i64,.i64] K) none 159 false false)∧H.hp.get J4=some (.arr (Nat.succ q2) 2 (rowK [.i64,.i64] K2) none 159 false false))∧(1≤Int.tdiv (Int.mul (16) mA) (1000)∧Int.tdiv (Int.mul (16) mA) (1000)≤16777216)∧(1≤Int.tdiv (Int.mul (-16) mD) (1000)∧Int.tdiv (Int.mul (-16) mD) (1000)≤16777216)∧q≤100∧(∀ j k,-1000000000000≤K j k∧K j k≤1000000000000)∧q2≤100∧(∀ j k,-1000000000000≤K2 j k∧K2 j k≤1000000000000))
theorem ofsm_ok {n:Nat} {Y:Nat→Nat→Int} {ex:Bool} {sty:Bool} {sd:Int} {wd:Int} {m:Nat} {V:Nat→Bool} {S:Nat→Nat→Int} {sex:Bool} {ssty:Bool} {mA:Int} {mB:Int} {mC:Int} {mD:Int} {mE:Int} {mF:Int} (hY:∀ j k,-32000≤Y j k∧Y j k≤32000) (hmA : -2000000≤mA∧mA≤2000000) (hmB : -2000000≤mB∧mB≤2000000) (hmC : -2000000≤mC∧mC≤2000000) (hmD : -2000000≤mD∧mD≤2000000) (hmE : -40000≤mE∧mE≤40000) (hmF : -40000≤mF∧mF≤40000) (hm8:m≤8) (hS:∀ j k,-32000≤S j k∧S j k≤32000) (hsort:Sorted m V S) (hm1:0 < m) (hV0:V 0=false):EndsX En 2 (ofsmX n Y ex sty sd wd m V S sex ssty mA mB mC mD mE mF) (QOofs mA mB mC mD mE mF):=by
  rcases ci mB (0) with ⟨b1,b1p⟩|⟨b1,b1p⟩
  · refine fi 2 [(32,8,true)] 48 (band (Bool.not (ieq mB (0))) true) [.h,J1,J4] (.tup [(.fn 43 [(.ptr J2 0)] []),(zi (0))]) [(J2,(ce 123 [(zi mA),(zi mB),(zi mC),(zi mD),(zi mE),(zi mF),(zi (0)),(zi (0)),.nils,(zi (0)),(zi (0)),.nils]))] J3 (by (try simp only [b1,gS]);(try simp only [gT] at *);try omega) ?_
    exact .inr (.inl (⟨rfl,rfl,rfl⟩))
  rcases ci mC (0) with ⟨b2,b2p⟩|⟨b2,b2p⟩
  · refine fi 2 [(32,8,false),(5,13,true)] 43 ((of4 mB mC)) [.h,J1,J4] (.tup [(.fn 43 [(.ptr J2 0)] []),(zi (0))]) [(J2,(ce 123 [(zi mA),(zi mB),(zi mC),(zi mD),(zi mE),(zi mF),(zi (0)),(zi (0)),.nils,(zi (0)),(zi (0)),.nils]))] J3 (by (try simp only [b1,b2,gS,of0,of4]);(try simp only [gT] at *);try omega) ?_
    exact .inr (.inl (⟨rfl,rfl,rfl⟩))
  rcases cl mA (0) with ⟨b3,b3p⟩|⟨b3,b3p⟩
  · rcases cl (0) mD with ⟨b4,b4p⟩|⟨b4,b4p⟩
    · rcases ct (0) (Int.tdiv (Int.mul (16) mA) (1000)) with ⟨b5,b5p⟩|⟨b5,b5p⟩
      · refine fi 2 [(32,8,false),(5,13,false),(5,18,false),(5,22,false),(11,35,false)] 33 ((of8 mB mC mA mD)) [.h,J1,J4] (.tup [(.fn 43 [(.ptr J2 0)] []),(zi (0))]) [(J2,(ce 123 [(zi mA),(zi mB),(zi mC),(zi mD),(zi mE),(zi mF),(zi (0)),(zi (0)),.nils,(zi (0)),(zi (0)),.nils]))] J3 (by have:=tdivk (Int.mul (16) mA) (k:=1000) (by decide);have:=tdivk (Int.mul (-16) mD) (k:=1000) (by decide);(try simp only [b1,b2,b3,b4,b5,gS,of0,of1,of2,of7,of8]);(try simp only [gT] at *);try omega) ?_
        exact .inr (.inl (⟨rfl,rfl,rfl⟩))
      rcases ct (0) (Int.tdiv (Int.mul (-16) mD) (1000)) with ⟨b6,b6p⟩|⟨b6,b6p⟩
      · refine fi 2 [(32,8,false),(5,13,false),(5,18,false),(5,22,false),(11,35,true),(23,21,true)] 10 ((of9 mB mC mA mD)) [.h,J1,J4] (.tup [(.fn 43 [(.ptr J2 0)] []),(zi (0))]) [(J2,(ce 123 [(zi mA),(zi mB),(zi mC),(zi mD),(zi mE),(zi mF),(zi (0)),(zi (0)),.nils,(zi (0)),(zi (0)),.nils]))] J3 (by have:=tdivk (Int.mul (-16) mD) (k:=1000) (by decide);have:=tdivk (Int.mul (16) mA) (k:=1000) (by decide);(try simp only [b1,b2,b3,b4,b5,b6,gS,of0,of1,of2,of3,of7,of9]);(try simp only [gT] at *);try omega) ?_
        exact .inr (.inl (⟨rfl,rfl,rfl⟩))
      refine ac 2 [(32,8,false),(5,13,false),(5,18,false),(5,22,false),(11,35,true),(23,21,false)] 14 ((of10 mB mC mA mD)) (ofse1X n Y ex sty sd wd m V S sex ssty mA mB mC mD mE mF) [.h,J1,J2,J4] [[2,6,8,25]] (by have:=tdivk (Int.mul (-16) mD) (k:=1000) (by decide);have:=tdivk (Int.mul (16) mA) (k:=1000) (by decide);(try simp only [b1,b2,b3,b4,b5,b6,gS,of0,of1,of2,of3,of7,of10]);(try simp only [gT] at *);try omega) ?_
      refine ca (ftmX m V S sex ssty true (Int.tdiv (Int.mul (16) mA) (1000))) [J1] (ftm_ok (m:=m) (V:=V) (Y:=S) (ex:=sex) (sty:=ssty) (vert:=true) (sc:=(Int.tdiv (Int.mul (16) mA) (1000))) hm8 hS (by have:=tdivk (Int.mul (16) mA) (k:=1000) (by decide);have:=tdivk (Int.mul (-16) mD) (k:=1000) (by decide);(try simp only [iMul] at *);omega) hsort) (fun v' H' q=>?_)
      rcases q with ⟨rfl,hnx1⟩|⟨rfl,hnx1,hnv_1⟩|⟨q_1,K_1,rfl,hnx1,ho0_1,hq_1,hK_1⟩
      · skip
        refine ⟨(.tup [(.agg [(zi (0)),(zi (0)),.nils]),(zi (2))]),[],J4,(by kernel_rfl),(by rw [hnx1];kernel_rfl),trivial,(by kernel_rfl),?_⟩
        refine fi 2 [] 22 true [.h,J1] (.tup [.nilf,(zi (2))]) [] J2 rfl ?_
        exact .inl (⟨rfl,rfl⟩)
      · skip
        refine ⟨(.tup [(.agg [(zi (Int.tdiv (Int.mul (16) mA) (1000))),(zi (0)),.nils]),(zi (0))]),[],J4,(by kernel_rfl),(by rw [hnx1];kernel_rfl),trivial,(by kernel_rfl),?_⟩
        refine ac 2 [] 23 true (ofse2X n Y ex sty m V S sex ssty mA mB mC mD mE mF) [.h,J1,J3] [[6,38]] rfl ?_
        refine ca (ftmX m V S sex ssty false (Int.tdiv (Int.mul (-16) mD) (1000))) [J1] (ftm_ok (m:=m) (V:=V) (Y:=S) (ex:=sex) (sty:=ssty) (vert:=false) (sc:=(Int.tdiv (Int.mul (-16) mD) (1000))) hm8 hS (by have:=tdivk (Int.mul (16) mA) (k:=1000) (by decide);have:=tdivk (Int.mul (-16) mD) (k:=1000) (by decide);(try simp only [iMul] at *);omega) hsort) (fun v' H' q=>?_)
        rcases q with ⟨rfl,hnx2⟩|⟨rfl,hnx2,hnv_2⟩|⟨q_2,K_2,rfl,hnx2,ho0_2,hq_2,hK_2⟩
        · skip
          refine ⟨(.tup [(.agg [(zi (0)),(zi (0)),.nils]),(zi (2))]),[],J3,(by kernel_rfl),(by rw [hnx2];kernel_rfl),trivial,(by kernel_rfl),?_⟩
          refine fi 2 [] 22 true [.h,J1] (.tup [.nilf,(zi (2))]) [] J2 rfl ?_
          exact .inl (⟨rfl,rfl⟩)
        · skip
          refine ⟨(.tup [(.agg [(zi (Int.tdiv (Int.mul (-16) mD) (1000))),(zi (0)),.nils]),(zi (0))]),[],J3,(by kernel_rfl),(by rw [hnx2];kernel_rfl),trivial,(by kernel_rfl),?_⟩
          refine fi 2 [] 24 true [.h,J1,J2] (.tup [(.fn 44 [(.ptr J2 0)] []),(zi (0))]) [(J2,(ce 123 [(zi mA),(zi mB),(zi mC),(zi mD),(zi mE),(zi mF),(zi (Int.tdiv (Int.mul (16) mA) (1000))),(zi (0)),.nils,(zi (Int.tdiv (Int.mul (-16) mD) (1000))),(zi (0)),.nils]))] J3 rfl ?_
          exact absurd hV0 (hnv_2 0 hm1)
        skip
        refine ⟨(.tup [(.agg [(zi (Int.tdiv (Int.mul (-16) mD) (1000))),(zi (0)),(.sa J3 0 (Nat.succ q_2) 2)]),(zi (0))]),[(J3,(.arr (Nat.succ q_2) 2 (rowK [.i64,.i64] K_2) none 159 false false))],J4,(by kernel_rfl),(by rw [hnx2];kernel_rfl),⟨⟨J1,_,(Nat.le_of_ble_eq_true (by kernel_rfl)),(by show _=_;kernel_rfl),ho0_2,(by show _=_;kernel_rfl)⟩,trivial⟩,(by kernel_rfl),?_⟩
        refine fi 2 [] 24 true [.h,J1,J2,J3] (.tup [(.fn 44 [(.ptr J2 0)] []),(zi (0))]) [(J2,(ce 123 [(zi mA),(zi mB),(zi mC),(zi mD),(zi mE),(zi mF),(zi (Int.tdiv (Int.mul (16) mA) (1000))),(zi (0)),.nils,(zi (Int.tdiv (Int.mul (-16) mD) (1000))),(zi (0)),(.sa J3 0 (Nat.succ q_2) 2)])),(J3,(.arr (Nat.succ q_2) 2 (rowK [.i64,.i64] K_2) none 159 false false))] J4 rfl ?_
        exact .inr (.inr (.inl (⟨q_2,K_2,⟨rfl,rfl,rfl,rfl⟩,(by have:=tdivk (Int.mul (16) mA) (k:=1000) (by decide);have:=tdivk (Int.mul (-16) mD) (k:=1000) (by decide);(try simp only [iMul] at *);omega),(by have:=tdivk (Int.mul (16) mA) (k:=1000) (by decide);have:=tdivk (Int.mul (-16) mD) (k:=1000) (by decide);(try simp only [iMul] at *);omega),hq_2,hK_2⟩)))
      skip
      refine ⟨(.tup [(.agg [(zi (Int.tdiv (Int.mul (16) mA) (1000))),(zi (0)),(.sa J4 0 (Nat.succ q_1) 2)]),(zi (0))]),[(J4,(.arr (Nat.succ q_1) 2 (rowK [.i64,.i64] K_1) none 159 false false))],J5,(by kernel_rfl),(by rw [hnx1];kernel_rfl),⟨⟨J1,_,(Nat.le_of_ble_eq_true (by kernel_rfl)),(by show _=_;kernel_rfl),ho0_1,(by show _=_;kernel_rfl)⟩,trivial⟩,(by kernel_rfl),?_⟩
      refine ac 2 [] 23 true (ofse3X n Y ex sty m V S sex ssty mA mB mC mD mE mF q_1 K_1) [.h,J1,J3,J4] [[6,38]] rfl ?_
      refine ca (ftmX m V S sex ssty false (Int.tdiv (Int.mul (-16) mD) (1000))) [J1] (ftm_ok (m:=m) (V:=V) (Y:=S) (ex:=sex) (sty:=ssty) (vert:=false) (sc:=(Int.tdiv (Int.mul (-16) mD) (1000))) hm8 hS (by have:=tdivk (Int.mul (16) mA) (k:=1000) (by decide);have:=tdivk (Int.mul (-16) mD) (k:=1000) (by decide);(try simp only [iMul] at *);omega) hsort) (fun v' H' q=>?_)
      rcases q with ⟨rfl,hnx3⟩|⟨rfl,hnx3,hnv_3⟩|⟨q_3,K_3,rfl,hnx3,ho0_3,hq_3,hK_3⟩
      · skip
        refine ⟨(.tup [(.agg [(zi (0)),(zi (0)),.nils]),(zi (2))]),[],J4,(by kernel_rfl),(by rw [hnx3];kernel_rfl),trivial,(by kernel_rfl),?_⟩
        refine fi 2 [] 22 true [.h,J1] (.tup [.nilf,(zi (2))]) [] J2 rfl ?_
        exact .inl (⟨rfl,rfl⟩)
      · skip
        refine ⟨(.tup [(.agg [(zi (Int.tdiv (Int.mul (-16) mD) (1000))),(zi (0)),.nils]),(zi (0))]),[],J4,(by kernel_rfl),(by rw [hnx3];kernel_rfl),trivial,(by kernel_rfl),?_⟩
        refine fi 2 [] 24 true [.h,J1,J2,J3] (.tup [(.fn 44 [(.ptr J2 0)] []),(zi (0))]) [(J2,(ce 123 [(zi mA),(zi mB),(zi mC),(zi mD),(zi mE),(zi mF),(zi (Int.tdiv (Int.mul (16) mA) (1000))),(zi (0)),(.sa J3 0 (Nat.succ q_1) 2),(zi (Int.tdiv (Int.mul (-16) mD) (1000))),(zi (0)),.nils])),(J3,(.arr (Nat.succ q_1) 2 (rowK [.i64,.i64] K_1) none 159 false false))] J4 rfl ?_
        exact absurd hV0 (hnv_3 0 hm1)
      skip
      refine ⟨(.tup [(.agg [(zi (Int.tdiv (Int.mul (-16) mD) (1000))),(zi (0)),(.sa J4 0 (Nat.succ q_3) 2)]),(zi (0))]),[(J4,(.arr (Nat.succ q_3) 2 (rowK [.i64,.i64] K_3) none 159 false false))],J5,(by kernel_rfl),(by rw [hnx3];kernel_rfl),⟨⟨J1,_,(Nat.le_of_ble_eq_true (by kernel_rfl)),(by show _=_;kernel_rfl),ho0_3,(by show _=_;kernel_rfl)⟩,trivial⟩,(by kernel_rfl),?_⟩
      refine fi 2 [] 24 true [.h,J1,J2,J3,J4] (.tup [(.fn 44 [(.ptr J2 0)] []),(zi (0))]) [(J2,(ce 123 [(zi mA),(zi mB),(zi mC),(zi mD),(zi mE),(zi mF),(zi (Int.tdiv (Int.mul (16) mA) (1000))),(zi (0)),(.sa J3 0 (Nat.succ q_1) 2),(zi (Int.tdiv (Int.mul (-16) mD) (1000))),(zi (0)),(.sa J4 0 (Nat.succ q_3) 2)])),(J3,(.arr (Nat.succ q_1) 2 (rowK [.i64,.i64] K_1) none 159 false false)),(J4,(.arr (Nat.succ q_3) 2 (rowK [.i64,.i64] K_3) none 159 false false))] J5 rfl ?_
      exact .inr (.inr (.inr ((⟨q_1,K_1,q_3,K_3,⟨rfl,rfl,rfl,rfl,rfl⟩,(by have:=tdivk (Int.mul (16) mA) (k:=1000) (by decide);have:=tdivk (Int.mul (-16) mD) (k:=1000) (by decide);(try simp only [iMul] at *);omega),(by have:=tdivk (Int.mul (16) mA) (k:=1000) (by decide);have:=tdivk (Int.mul (-16) mD) (k:=1000) (by decide);(try simp only [iMul] at *);omega),hq_1,hK_1,hq_3,hK_3⟩))))
    refine fi 2 [(32,8,false),(5,13,false),(5,18,false),(5,22,true)] 33 ((of6 mB mC mA mD)) [.h,J1,J4] (.tup [(.fn 43 [(.ptr J2 0)] []),(zi (0))]) [(J2,(ce 123 [(zi mA),(zi mB),(zi mC),(zi mD),(zi mE),(zi mF),(zi (0)),(zi (0)),.nils,(zi (0)),(zi (0)),.nils]))] J3 (by (try simp only [b1,b2,b3,b4,gS,of0,of1,of6]);(try simp only [gT] at *);try omega) ?_
    exact .inr (.inl (⟨rfl,rfl,rfl⟩))
  refine fi 2 [(32,8,false),(5,13,false),(5,18,true)] 38 ((of5 mB mC mA)) [.h,J1,J4] (.tup [(.fn 43 [(.ptr J2 0)] []),(zi (0))]) [(J2,(ce 123 [(zi mA),(zi mB),(zi mC),(zi mD),(zi mE),(zi mF),(zi (0)),(zi (0)),.nils,(zi (0)),(zi (0)),.nils]))] J3 (by (try simp only [b1,b2,b3,gS,of0,of1,of5]);(try simp only [gT] at *);try omega) ?_
  exact .inr (.inl (⟨rfl,rfl,rfl⟩))
def QOofz (mA:Int) (mB:Int) (mC:Int) (mD:Int) (mE:Int) (mF:Int):AV→Hp→Prop:=fun v H =>
  ((v=(.tup [(.fn 43 [(.ptr J1 0)] []),(zi (0))])∧H.nx=.i .h∧H.hp.get J1=some (ce 123 [(zi mA),(zi mB),(zi mC),(zi mD),(zi mE),(zi mF),(zi (0)),(zi (0)),.nils,(zi (0)),(zi (0)),.nils]))) ∨
  ((v=(.tup [(.fn 44 [(.ptr J1 0)] []),(zi (0))])∧H.nx=.i .h∧H.hp.get J1=some (ce 123 [(zi mA),(zi mB),(zi mC),(zi mD),(zi mE),(zi mF),(zi (Int.tdiv (Int.mul (16) mA) (1000))),(zi (0)),.nils,(zi (Int.tdiv (Int.mul (-16) mD) (1000))),(zi (0)),.nils]))∧(1≤Int.tdiv (Int.mul (16) mA) (1000)∧Int.tdiv (Int.mul (16) mA) (1000)≤16777216)∧(1≤Int.tdiv (Int.mul (-16) mD) (1000)∧Int.tdiv (Int.mul (-16) mD) (1000)≤16777216))
theorem ofzm_ok {n:Nat} {Y:Nat→Nat→Int} {ex:Bool} {sty:Bool} {sd:Int} {wd:Int} {mA:Int} {mB:Int} {mC:Int} {mD:Int} {mE:Int} {mF:Int} (hY:∀ j k,-32000≤Y j k∧Y j k≤32000) (hmA : -2000000≤mA∧mA≤2000000) (hmB : -2000000≤mB∧mB≤2000000) (hmC : -2000000≤mC∧mC≤2000000) (hmD : -2000000≤mD∧mD≤2000000) (hmE : -40000≤mE∧mE≤40000) (hmF : -40000≤mF∧mF≤40000):EndsX En 1 (ofzmX n Y ex sty sd wd mA mB mC mD mE mF) (QOofz mA mB mC mD mE mF):=by
  rcases ci mB (0) with ⟨b1,b1p⟩|⟨b1,b1p⟩
  · refine fi 1 [(32,8,true)] 48 (band (Bool.not (ieq mB (0))) true) [.h,J3] (.tup [(.fn 43 [(.ptr J1 0)] []),(zi (0))]) [(J1,(ce 123 [(zi mA),(zi mB),(zi mC),(zi mD),(zi mE),(zi mF),(zi (0)),(zi (0)),.nils,(zi (0)),(zi (0)),.nils]))] J2 (by (try simp only [b1,gS]);(try simp only [gT] at *);try omega) ?_
    exact .inl (⟨rfl,rfl,rfl⟩)
  rcases ci mC (0) with ⟨b2,b2p⟩|⟨b2,b2p⟩
  · refine fi 1 [(32,8,false),(5,13,true)] 43 ((of4 mB mC)) [.h,J3] (.tup [(.fn 43 [(.ptr J1 0)] []),(zi (0))]) [(J1,(ce 123 [(zi mA),(zi mB),(zi mC),(zi mD),(zi mE),(zi mF),(zi (0)),(zi (0)),.nils,(zi (0)),(zi (0)),.nils]))] J2 (by (try simp only [b1,b2,gS,of0,of4]);(try simp only [gT] at *);try omega) ?_
    exact .inl (⟨rfl,rfl,rfl⟩)
  rcases cl mA (0) with ⟨b3,b3p⟩|⟨b3,b3p⟩
  · rcases cl (0) mD with ⟨b4,b4p⟩|⟨b4,b4p⟩
    · rcases ct (0) (Int.tdiv (Int.mul (16) mA) (1000)) with ⟨b5,b5p⟩|⟨b5,b5p⟩
      · refine fi 1 [(32,8,false),(5,13,false),(5,18,false),(5,22,false),(11,35,false)] 33 ((of8 mB mC mA mD)) [.h,J3] (.tup [(.fn 43 [(.ptr J1 0)] []),(zi (0))]) [(J1,(ce 123 [(zi mA),(zi mB),(zi mC),(zi mD),(zi mE),(zi mF),(zi (0)),(zi (0)),.nils,(zi (0)),(zi (0)),.nils]))] J2 (by have:=tdivk (Int.mul (16) mA) (k:=1000) (by decide);have:=tdivk (Int.mul (-16) mD) (k:=1000) (by decide);(try simp only [b1,b2,b3,b4,b5,gS,of0,of1,of2,of7,of8]);(try simp only [gT] at *);try omega) ?_
        exact .inl (⟨rfl,rfl,rfl⟩)
      rcases ct (0) (Int.tdiv (Int.mul (-16) mD) (1000)) with ⟨b6,b6p⟩|⟨b6,b6p⟩
      · refine fi 1 [(32,8,false),(5,13,false),(5,18,false),(5,22,false),(11,35,true),(23,21,true)] 10 ((of9 mB mC mA mD)) [.h,J3] (.tup [(.fn 43 [(.ptr J1 0)] []),(zi (0))]) [(J1,(ce 123 [(zi mA),(zi mB),(zi mC),(zi mD),(zi mE),(zi mF),(zi (0)),(zi (0)),.nils,(zi (0)),(zi (0)),.nils]))] J2 (by have:=tdivk (Int.mul (-16) mD) (k:=1000) (by decide);have:=tdivk (Int.mul (16) mA) (k:=1000) (by decide);(try simp only [b1,b2,b3,b4,b5,b6,gS,of0,of1,of2,of3,of7,of9]);(try simp only [gT] at *);try omega) ?_
        exact .inl (⟨rfl,rfl,rfl⟩)
      refine fi 1 [(32,8,false),(5,13,false),(5,18,false),(5,22,false),(11,35,true),(23,21,false),(64,10,true),(9,9,true),(336,10,true),(9,9,true)] 287 ((of11 mB mC mA mD)) [.h,J3] (.tup [(.fn 44 [(.ptr J1 0)] []),(zi (0))]) [(J1,(ce 123 [(zi mA),(zi mB),(zi mC),(zi mD),(zi mE),(zi mF),(zi (Int.tdiv (Int.mul (16) mA) (1000))),(zi (0)),.nils,(zi (Int.tdiv (Int.mul (-16) mD) (1000))),(zi (0)),.nils]))] J2 (by have:=tdivk (Int.mul (-16) mD) (k:=1000) (by decide);have:=tdivk (Int.mul (16) mA) (k:=1000) (by decide);(try simp only [b1,b2,b3,b4,b5,b6,gS,of0,of1,of2,of3,of7,of11]);(try simp only [gT] at *);try omega) ?_
      exact .inr ((⟨⟨rfl,rfl,rfl⟩,(by have:=tdivk (Int.mul (16) mA) (k:=1000) (by decide);have:=tdivk (Int.mul (-16) mD) (k:=1000) (by decide);(try simp only [iMul] at *);omega),(by have:=tdivk (Int.mul (16) mA) (k:=1000) (by decide);have:=tdivk (Int.mul (-16) mD) (k:=1000) (by decide);(try simp only [iMul] at *);omega)⟩))
    refine fi 1 [(32,8,false),(5,13,false),(5,18,false),(5,22,true)] 33 ((of6 mB mC mA mD)) [.h,J3] (.tup [(.fn 43 [(.ptr J1 0)] []),(zi (0))]) [(J1,(ce 123 [(zi mA),(zi mB),(zi mC),(zi mD),(zi mE),(zi mF),(zi (0)),(zi (0)),.nils,(zi (0)),(zi (0)),.nils]))] J2 (by (try simp only [b1,b2,b3,b4,gS,of0,of1,of6]);(try simp only [gT] at *);try omega) ?_
    exact .inl (⟨rfl,rfl,rfl⟩)
  refine fi 1 [(32,8,false),(5,13,false),(5,18,true)] 38 ((of5 mB mC mA)) [.h,J3] (.tup [(.fn 43 [(.ptr J1 0)] []),(zi (0))]) [(J1,(ce 123 [(zi mA),(zi mB),(zi mC),(zi mD),(zi mE),(zi mF),(zi (0)),(zi (0)),.nils,(zi (0)),(zi (0)),.nils]))] J2 (by (try simp only [b1,b2,b3,gS,of0,of1,of5]);(try simp only [gT] at *);try omega) ?_
  exact .inl (⟨rfl,rfl,rfl⟩)
def QOofns (mA:Int) (mB:Int) (mC:Int) (mD:Int) (mE:Int) (mF:Int):AV→Hp→Prop:=fun v H =>
  ((v=(.tup [.nilf,(zi (2))])∧H.nx=.o .h)) ∨
  ((v=(.tup [(.fn 43 [(.ptr J1 0)] []),(zi (0))])∧H.nx=.i .h∧H.hp.get J1=some (ce 123 [(zi mA),(zi mB),(zi mC),(zi mD),(zi mE),(zi mF),(zi (0)),(zi (0)),.nils,(zi (0)),(zi (0)),.nils]))) ∨
  (∃ (q2:Nat) (K2:Nat→Nat→Int),(v=(.tup [(.fn 44 [(.ptr J1 0)] []),(zi (0))])∧H.nx=.o J1∧H.hp.get J1=some (ce 123 [(zi mA),(zi mB),(zi mC),(zi mD),(zi mE),(zi mF),(zi (Int.tdiv (Int.mul (16) mA) (1000))),(zi (0)),.nils,(zi (Int.tdiv (Int.mul (-16) mD) (1000))),(zi (0)),(.sa J2 0 (Nat.succ q2) 2)])∧H.hp.get J2=some (.arr (Nat.succ q2) 2 (rowK [.i64,.i64] K2) none 159 false false))∧(1≤Int.tdiv (Int.mul (16) mA) (1000)∧Int.tdiv (Int.mul (16) mA) (1000)≤16777216)∧(1≤Int.tdiv (Int.mul (-16) mD) (1000)∧Int.tdiv (Int.mul (-16) mD) (1000)≤16777216)∧q2≤100∧(∀ j k,-1000000000000≤K2 j k∧K2 j k≤1000000000000)) ∨
  (∃ (q:Nat) (K:Nat→Nat→Int),∃ (q2:Nat) (K2:Nat→Nat→Int),(v=(.tup [(.fn 44 [(.ptr J1 0)] []),(zi (0))])∧H.nx=.i J1∧H.hp.get J1=some (ce 123 [(zi mA),(zi mB),(zi mC),(zi mD),(zi mE),(zi mF),(zi (Int.tdiv (Int.mul (16) mA) (1000))),(zi (0)),(.sa J2 0 (Nat.succ q) 2),(zi (Int.tdiv (Int.mul (-16) mD) (1000))),(zi (0)),(.sa J3 0 (Nat.succ q2) 2)])∧H.hp.get J2=some (.arr (Nat.succ q) 2 (rowK [.i64,.i64] K) none 159 false false)∧H.hp.get J3=some (.arr (Nat.succ q2) 2 (rowK [.i64,.i64] K2) none 159 false false))∧(1≤Int.tdiv (Int.mul (16) mA) (1000)∧Int.tdiv (Int.mul (16) mA) (1000)≤16777216)∧(1≤Int.tdiv (Int.mul (-16) mD) (1000)∧Int.tdiv (Int.mul (-16) mD) (1000)≤16777216)∧q≤100∧(∀ j k,-1000000000000≤K j k∧K j k≤1000000000000)∧q2≤100∧(∀ j k,-1000000000000≤K2 j k∧K2 j k≤1000000000000))
theorem ofnsm_ok {sd:Int} {wd:Int} {m:Nat} {V:Nat→Bool} {S:Nat→Nat→Int} {sex:Bool} {ssty:Bool} {mA:Int} {mB:Int} {mC:Int} {mD:Int} {mE:Int} {mF:Int} (hmA : -2000000≤mA∧mA≤2000000) (hmB : -2000000≤mB∧mB≤2000000) (hmC : -2000000≤mC∧mC≤2000000) (hmD : -2000000≤mD∧mD≤2000000) (hmE : -40000≤mE∧mE≤40000) (hmF : -40000≤mF∧mF≤40000) (hm8:m≤8) (hS:∀ j k,-32000≤S j k∧S j k≤32000) (hsort:Sorted m V S) (hm1:0 < m) (hV0:V 0=false):EndsX En 1 (ofnsmX sd wd m V S sex ssty mA mB mC mD mE mF) (QOofns mA mB mC mD mE mF):=by
  rcases ci mB (0) with ⟨b1,b1p⟩|⟨b1,b1p⟩
  · refine fi 1 [(32,8,true)] 48 (band (Bool.not (ieq mB (0))) true) [.h,J3] (.tup [(.fn 43 [(.ptr J1 0)] []),(zi (0))]) [(J1,(ce 123 [(zi mA),(zi mB),(zi mC),(zi mD),(zi mE),(zi mF),(zi (0)),(zi (0)),.nils,(zi (0)),(zi (0)),.nils]))] J2 (by (try simp only [b1,gS]);(try simp only [gT] at *);try omega) ?_
    exact .inr (.inl (⟨rfl,rfl,rfl⟩))
  rcases ci mC (0) with ⟨b2,b2p⟩|⟨b2,b2p⟩
  · refine fi 1 [(32,8,false),(5,13,true)] 43 ((of4 mB mC)) [.h,J3] (.tup [(.fn 43 [(.ptr J1 0)] []),(zi (0))]) [(J1,(ce 123 [(zi mA),(zi mB),(zi mC),(zi mD),(zi mE),(zi mF),(zi (0)),(zi (0)),.nils,(zi (0)),(zi (0)),.nils]))] J2 (by (try simp only [b1,b2,gS,of0,of4]);(try simp only [gT] at *);try omega) ?_
    exact .inr (.inl (⟨rfl,rfl,rfl⟩))
  rcases cl mA (0) with ⟨b3,b3p⟩|⟨b3,b3p⟩
  · rcases cl (0) mD with ⟨b4,b4p⟩|⟨b4,b4p⟩
    · rcases ct (0) (Int.tdiv (Int.mul (16) mA) (1000)) with ⟨b5,b5p⟩|⟨b5,b5p⟩
      · refine fi 1 [(32,8,false),(5,13,false),(5,18,false),(5,22,false),(11,35,false)] 33 ((of8 mB mC mA mD)) [.h,J3] (.tup [(.fn 43 [(.ptr J1 0)] []),(zi (0))]) [(J1,(ce 123 [(zi mA),(zi mB),(zi mC),(zi mD),(zi mE),(zi mF),(zi (0)),(zi (0)),.nils,(zi (0)),(zi (0)),.nils]))] J2 (by have:=tdivk (Int.mul (16) mA) (k:=1000) (by decide);have:=tdivk (Int.mul (-16) mD) (k:=1000) (by decide);(try simp only [b1,b2,b3,b4,b5,gS,of0,of1,of2,of7,of8]);(try simp only [gT] at *);try omega) ?_
        exact .inr (.inl (⟨rfl,rfl,rfl⟩))
      rcases ct (0) (Int.tdiv (Int.mul (-16) mD) (1000)) with ⟨b6,b6p⟩|⟨b6,b6p⟩
      · refine fi 1 [(32,8,false),(5,13,false),(5,18,false),(5,22,false),(11,35,true),(23,21,true)] 10 ((of9 mB mC mA mD)) [.h,J3] (.tup [(.fn 43 [(.ptr J1 0)] []),(zi (0))]) [(J1,(ce 123 [(zi mA),(zi mB),(zi mC),(zi mD),(zi mE),(zi mF),(zi (0)),(zi (0)),.nils,(zi (0)),(zi (0)),.nils]))] J2 (by have:=tdivk (Int.mul (-16) mD) (k:=1000) (by decide);have:=tdivk (Int.mul (16) mA) (k:=1000) (by decide);(try simp only [b1,b2,b3,b4,b5,b6,gS,of0,of1,of2,of3,of7,of9]);(try simp only [gT] at *);try omega) ?_
        exact .inr (.inl (⟨rfl,rfl,rfl⟩))
      refine ac 1 [(32,8,false),(5,13,false),(5,18,false),(5,22,false),(11,35,true),(23,21,false)] 14 ((of10 mB mC mA mD)) (ofnse1X sd wd m V S sex ssty mA mB mC mD mE mF) [.h,J1,J3] [[2,6,8,25]] (by have:=tdivk (Int.mul (-16) mD) (k:=1000) (by decide);have:=tdivk (Int.mul (16) mA) (k:=1000) (by decide);(try simp only [b1,b2,b3,b4,b5,b6,gS,of0,of1,of2,of3,of7,of10]);(try simp only [gT] at *);try omega) ?_
      refine ca (ftmX m V S sex ssty true (Int.tdiv (Int.mul (16) mA) (1000))) [.h] (ftm_ok (m:=m) (V:=V) (Y:=S) (ex:=sex) (sty:=ssty) (vert:=true) (sc:=(Int.tdiv (Int.mul (16) mA) (1000))) hm8 hS (by have:=tdivk (Int.mul (16) mA) (k:=1000) (by decide);have:=tdivk (Int.mul (-16) mD) (k:=1000) (by decide);(try simp only [iMul] at *);omega) hsort) (fun v' H' q=>?_)
      rcases q with ⟨rfl,hnx1⟩|⟨rfl,hnx1,hnv_1⟩|⟨q_1,K_1,rfl,hnx1,ho0_1,hq_1,hK_1⟩
      · skip
        refine ⟨(.tup [(.agg [(zi (0)),(zi (0)),.nils]),(zi (2))]),[],J3,(by kernel_rfl),(by rw [hnx1];kernel_rfl),trivial,(by kernel_rfl),?_⟩
        refine fi 1 [] 22 true [.h] (.tup [.nilf,(zi (2))]) [] J1 rfl ?_
        exact .inl (⟨rfl,rfl⟩)
      · skip
        refine ⟨(.tup [(.agg [(zi (Int.tdiv (Int.mul (16) mA) (1000))),(zi (0)),.nils]),(zi (0))]),[],J3,(by kernel_rfl),(by rw [hnx1];kernel_rfl),trivial,(by kernel_rfl),?_⟩
        refine ac 1 [] 23 true (ofnse2X m V S sex ssty mA mB mC mD mE mF) [.h,J2] [[6,38]] rfl ?_
        refine ca (ftmX m V S sex ssty false (Int.tdiv (Int.mul (-16) mD) (1000))) [.h] (ftm_ok (m:=m) (V:=V) (Y:=S) (ex:=sex) (sty:=ssty) (vert:=false) (sc:=(Int.tdiv (Int.mul (-16) mD) (1000))) hm8 hS (by have:=tdivk (Int.mul (16) mA) (k:=1000) (by decide);have:=tdivk (Int.mul (-16) mD) (k:=1000) (by decide);(try simp only [iMul] at *);omega) hsort) (fun v' H' q=>?_)
        rcases q with ⟨rfl,hnx2⟩|⟨rfl,hnx2,hnv_2⟩|⟨q_2,K_2,rfl,hnx2,ho0_2,hq_2,hK_2⟩
        · skip
          refine ⟨(.tup [(.agg [(zi (0)),(zi (0)),.nils]),(zi (2))]),[],J2,(by kernel_rfl),(by rw [hnx2];kernel_rfl),trivial,(by kernel_rfl),?_⟩
          refine fi 1 [] 22 true [.h] (.tup [.nilf,(zi (2))]) [] J1 rfl ?_
          exact .inl (⟨rfl,rfl⟩)
        · skip
          refine ⟨(.tup [(.agg [(zi (Int.tdiv (Int.mul (-16) mD) (1000))),(zi (0)),.nils]),(zi (0))]),[],J2,(by kernel_rfl),(by rw [hnx2];kernel_rfl),trivial,(by kernel_rfl),?_⟩
          refine fi 1 [] 24 true [.h,J1] (.tup [(.fn 44 [(.ptr J1 0)] []),(zi (0))]) [(J1,(ce 123 [(zi mA),(zi mB),(zi mC),(zi mD),(zi mE),(zi mF),(zi (Int.tdiv (Int.mul (16) mA) (1000))),(zi (0)),.nils,(zi (Int.tdiv (Int.mul (-16) mD) (1000))),(zi (0)),.nils]))] J2 rfl ?_
          exact absurd hV0 (hnv_2 0 hm1)
        skip
        refine ⟨(.tup [(.agg [(zi (Int.tdiv (Int.mul (-16) mD) (1000))),(zi (0)),(.sa J2 0 (Nat.succ q_2) 2)]),(zi (0))]),[(J2,(.arr (Nat.succ q_2) 2 (rowK [.i64,.i64] K_2) none 159 false false))],J3,(by kernel_rfl),(by rw [hnx2];kernel_rfl),⟨⟨J1,_,(Nat.le_of_ble_eq_true (by kernel_rfl)),(by show _=_;kernel_rfl),ho0_2,(by show _=_;kernel_rfl)⟩,trivial⟩,(by kernel_rfl),?_⟩
        refine fi 1 [] 24 true [.h,J1,J2] (.tup [(.fn 44 [(.ptr J1 0)] []),(zi (0))]) [(J1,(ce 123 [(zi mA),(zi mB),(zi mC),(zi mD),(zi mE),(zi mF),(zi (Int.tdiv (Int.mul (16) mA) (1000))),(zi (0)),.nils,(zi (Int.tdiv (Int.mul (-16) mD) (1000))),(zi (0)),(.sa J2 0 (Nat.succ q_2) 2)])),(J2,(.arr (Nat.succ q_2) 2 (rowK [.i64,.i64] K_2) none 159 false false))] J3 rfl ?_
        exact .inr (.inr (.inl (⟨q_2,K_2,⟨rfl,rfl,rfl,rfl⟩,(by have:=tdivk (Int.mul (16) mA) (k:=1000) (by decide);have:=tdivk (Int.mul (-16) mD) (k:=1000) (by decide);(try simp only [iMul] at *);omega),(by have:=tdivk (Int.mul (16) mA) (k:=1000) (by decide);have:=tdivk (Int.mul (-16) mD) (k:=1000) (by decide);(try simp only [iMul] at *);omega),hq_2,hK_2⟩)))
      skip
      refine ⟨(.tup [(.agg [(zi (Int.tdiv (Int.mul (16) mA) (1000))),(zi (0)),(.sa J3 0 (Nat.succ q_1) 2)]),(zi (0))]),[(J3,(.arr (Nat.succ q_1) 2 (rowK [.i64,.i64] K_1) none 159 false false))],J4,(by kernel_rfl),(by rw [hnx1];kernel_rfl),⟨⟨J1,_,(Nat.le_of_ble_eq_true (by kernel_rfl)),(by show _=_;kernel_rfl),ho0_1,(by show _=_;kernel_rfl)⟩,trivial⟩,(by kernel_rfl),?_⟩
      refine ac 1 [] 23 true (ofnse3X m V S sex ssty mA mB mC mD mE mF q_1 K_1) [.h,J2,J3] [[6,38]] rfl ?_
      refine ca (ftmX m V S sex ssty false (Int.tdiv (Int.mul (-16) mD) (1000))) [.h] (ftm_ok (m:=m) (V:=V) (Y:=S) (ex:=sex) (sty:=ssty) (vert:=false) (sc:=(Int.tdiv (Int.mul (-16) mD) (1000))) hm8 hS (by have:=tdivk (Int.mul (16) mA) (k:=1000) (by decide);have:=tdivk (Int.mul (-16) mD) (k:=1000) (by decide);(try simp only [iMul] at *);omega) hsort) (fun v' H' q=>?_)
      rcases q with ⟨rfl,hnx3⟩|⟨rfl,hnx3,hnv_3⟩|⟨q_3,K_3,rfl,hnx3,ho0_3,hq_3,hK_3⟩
      · skip
        refine ⟨(.tup [(.agg [(zi (0)),(zi (0)),.nils]),(zi (2))]),[],J3,(by kernel_rfl),(by rw [hnx3];kernel_rfl),trivial,(by kernel_rfl),?_⟩
        refine fi 1 [] 22 true [.h] (.tup [.nilf,(zi (2))]) [] J1 rfl ?_
        exact .inl (⟨rfl,rfl⟩)
      · skip
        refine ⟨(.tup [(.agg [(zi (Int.tdiv (Int.mul (-16) mD) (1000))),(zi (0)),.nils]),(zi (0))]),[],J3,(by kernel_rfl),(by rw [hnx3];kernel_rfl),trivial,(by kernel_rfl),?_⟩
        refine fi 1 [] 24 true [.h,J1,J2] (.tup [(.fn 44 [(.ptr J1 0)] []),(zi (0))]) [(J1,(ce 123 [(zi mA),(zi mB),(zi mC),(zi mD),(zi mE),(zi mF),(zi (Int.tdiv (Int.mul (16) mA) (1000))),(zi (0)),(.sa J2 0 (Nat.succ q_1) 2),(zi (Int.tdiv (Int.mul (-16) mD) (1000))),(zi (0)),.nils])),(J2,(.arr (Nat.succ q_1) 2 (rowK [.i64,.i64] K_1) none 159 false false))] J3 rfl ?_
        exact absurd hV0 (hnv_3 0 hm1)
      skip
      refine ⟨(.tup [(.agg [(zi (Int.tdiv (Int.mul (-16) mD) (1000))),(zi (0)),(.sa J3 0 (Nat.succ q_3) 2)]),(zi (0))]),[(J3,(.arr (Nat.succ q_3) 2 (rowK [.i64,.i64] K_3) none 159 false false))],J4,(by kernel_rfl),(by rw [hnx3];kernel_rfl),⟨⟨J1,_,(Nat.le_of_ble_eq_true (by kernel_rfl)),(by show _=_;kernel_rfl),ho0_3,(by show _=_;kernel_rfl)⟩,trivial⟩,(by kernel_rfl),?_⟩
      refine fi 1 [] 24 true [.h,J1,J2,J3] (.tup [(.fn 44 [(.ptr J1 0)] []),(zi (0))]) [(J1,(ce 123 [(zi mA),(zi mB),(zi mC),(zi mD),(zi mE),(zi mF),(zi (Int.tdiv (Int.mul (16) mA) (1000))),(zi (0)),(.sa J2 0 (Nat.succ q_1) 2),(zi (Int.tdiv (Int.mul (-16) mD) (1000))),(zi (0)),(.sa J3 0 (Nat.succ q_3) 2)])),(J2,(.arr (Nat.succ q_1) 2 (rowK [.i64,.i64] K_1) none 159 false false)),(J3,(.arr (Nat.succ q_3) 2 (rowK [.i64,.i64] K_3) none 159 false false))] J4 rfl ?_
      exact .inr (.inr (.inr ((⟨q_1,K_1,q_3,K_3,⟨rfl,rfl,rfl,rfl,rfl⟩,(by have:=tdivk (Int.mul (16) mA) (k:=1000) (by decide);have:=tdivk (Int.mul (-16) mD) (k:=1000) (by decide);(try simp only [iMul] at *);omega),(by have:=tdivk (Int.mul (16) mA) (k:=1000) (by decide);have:=tdivk (Int.mul (-16) mD) (k:=1000) (by decide);(try simp only [iMul] at *);omega),hq_1,hK_1,hq_3,hK_3⟩))))
    refine fi 1 [(32,8,false),(5,13,false),(5,18,false),(5,22,true)] 33 ((of6 mB mC mA mD)) [.h,J3] (.tup [(.fn 43 [(.ptr J1 0)] []),(zi (0))]) [(J1,(ce 123 [(zi mA),(zi mB),(zi mC),(zi mD),(zi mE),(zi mF),(zi (0)),(zi (0)),.nils,(zi (0)),(zi (0)),.nils]))] J2 (by (try simp only [b1,b2,b3,b4,gS,of0,of1,of6]);(try simp only [gT] at *);try omega) ?_
    exact .inr (.inl (⟨rfl,rfl,rfl⟩))
  refine fi 1 [(32,8,false),(5,13,false),(5,18,true)] 38 ((of5 mB mC mA)) [.h,J3] (.tup [(.fn 43 [(.ptr J1 0)] []),(zi (0))]) [(J1,(ce 123 [(zi mA),(zi mB),(zi mC),(zi mD),(zi mE),(zi mF),(zi (0)),(zi (0)),.nils,(zi (0)),(zi (0)),.nils]))] J2 (by (try simp only [b1,b2,b3,gS,of0,of1,of5]);(try simp only [gT] at *);try omega) ?_
  exact .inr (.inl (⟨rfl,rfl,rfl⟩))
def QOofnz (mA:Int) (mB:Int) (mC:Int) (mD:Int) (mE:Int) (mF:Int):AV→Hp→Prop:=fun v H =>
  ((v=(.tup [(.fn 43 [(.ptr (.h) 0)] []),(zi (0))])∧H.nx=.o .h∧H.hp.get (.h)=some (ce 123 [(zi mA),(zi mB),(zi mC),(zi mD),(zi mE),(zi mF),(zi (0)),(zi (0)),.nils,(zi (0)),(zi (0)),.nils]))) ∨
  ((v=(.tup [(.fn 44 [(.ptr (.h) 0)] []),(zi (0))])∧H.nx=.o .h∧H.hp.get (.h)=some (ce 123 [(zi mA),(zi mB),(zi mC),(zi mD),(zi mE),(zi mF),(zi (Int.tdiv (Int.mul (16) mA) (1000))),(zi (0)),.nils,(zi (Int.tdiv (Int.mul (-16) mD) (1000))),(zi (0)),.nils]))∧(1≤Int.tdiv (Int.mul (16) mA) (1000)∧Int.tdiv (Int.mul (16) mA) (1000)≤16777216)∧(1≤Int.tdiv (Int.mul (-16) mD) (1000)∧Int.tdiv (Int.mul (-16) mD) (1000)≤16777216))
theorem ofnzm_ok {sd:Int} {wd:Int} {mA:Int} {mB:Int} {mC:Int} {mD:Int} {mE:Int} {mF:Int} (hmA : -2000000≤mA∧mA≤2000000) (hmB : -2000000≤mB∧mB≤2000000) (hmC : -2000000≤mC∧mC≤2000000) (hmD : -2000000≤mD∧mD≤2000000) (hmE : -40000≤mE∧mE≤40000) (hmF : -40000≤mF∧mF≤40000):EndsX En 0 (ofnzmX sd wd mA mB mC mD mE mF) (QOofnz mA mB mC mD mE mF):=by
  rcases ci mB (0) with ⟨b1,b1p⟩|⟨b1,b1p⟩
  · refine fi 0 [(32,8,true)] 48 (band (Bool.not (ieq mB (0))) true) [J2] (.tup [(.fn 43 [(.ptr .h 0)] []),(zi (0))]) [(.h,(ce 123 [(zi mA),(zi mB),(zi mC),(zi mD),(zi mE),(zi mF),(zi (0)),(zi (0)),.nils,(zi (0)),(zi (0)),.nils]))] J1 (by (try simp only [b1,gS]);(try simp only [gT] at *);try omega) ?_
    exact .inl (⟨rfl,rfl,rfl⟩)
  rcases ci mC (0) with ⟨b2,b2p⟩|⟨b2,b2p⟩
  · refine fi 0 [(32,8,false),(5,13,true)] 43 ((of4 mB mC)) [J2] (.tup [(.fn 43 [(.ptr .h 0)] []),(zi (0))]) [(.h,(ce 123 [(zi mA),(zi mB),(zi mC),(zi mD),(zi mE),(zi mF),(zi (0)),(zi (0)),.nils,(zi (0)),(zi (0)),.nils]))] J1 (by (try simp only [b1,b2,gS,of0,of4]);(try simp only [gT] at *);try omega) ?_
    exact .inl (⟨rfl,rfl,rfl⟩)
  rcases cl mA (0) with ⟨b3,b3p⟩|⟨b3,b3p⟩
  · rcases cl (0) mD with ⟨b4,b4p⟩|⟨b4,b4p⟩
    · rcases ct (0) (Int.tdiv (Int.mul (16) mA) (1000)) with ⟨b5,b5p⟩|⟨b5,b5p⟩
      · refine fi 0 [(32,8,false),(5,13,false),(5,18,false),(5,22,false),(11,35,false)] 33 ((of8 mB mC mA mD)) [J2] (.tup [(.fn 43 [(.ptr .h 0)] []),(zi (0))]) [(.h,(ce 123 [(zi mA),(zi mB),(zi mC),(zi mD),(zi mE),(zi mF),(zi (0)),(zi (0)),.nils,(zi (0)),(zi (0)),.nils]))] J1 (by have:=tdivk (Int.mul (16) mA) (k:=1000) (by decide);have:=tdivk (Int.mul (-16) mD) (k:=1000) (by decide);(try simp only [b1,b2,b3,b4,b5,gS,of0,of1,of2,of7,of8]);(try simp only [gT] at *);try omega) ?_
        exact .inl (⟨rfl,rfl,rfl⟩)
      rcases ct (0) (Int.tdiv (Int.mul (-16) mD) (1000)) with ⟨b6,b6p⟩|⟨b6,b6p⟩
      · refine fi 0 [(32,8,false),(5,13,false),(5,18,false),(5,22,false),(11,35,true),(23,21,true)] 10 ((of9 mB mC mA mD)) [J2] (.tup [(.fn 43 [(.ptr .h 0)] []),(zi (0))]) [(.h,(ce 123 [(zi mA),(zi mB),(zi mC),(zi mD),(zi mE),(zi mF),(zi (0)),(zi (0)),.nils,(zi (0)),(zi (0)),.nils]))] J1 (by have:=tdivk (Int.mul (-16) mD) (k:=1000) (by decide);have:=tdivk (Int.mul (16) mA) (k:=1000) (by decide);(try simp only [b1,b2,b3,b4,b5,b6,gS,of0,of1,of2,of3,of7,of9]);(try simp only [gT] at *);try omega) ?_
        exact .inl (⟨rfl,rfl,rfl⟩)
      refine fi 0 [(32,8,false),(5,13,false),(5,18,false),(5,22,false),(11,35,true),(23,21,false),(64,10,true),(9,9,true),(336,10,true),(9,9,true)] 287 ((of11 mB mC mA mD)) [J2] (.tup [(.fn 44 [(.ptr .h 0)] []),(zi (0))]) [(.h,(ce 123 [(zi mA),(zi mB),(zi mC),(zi mD),(zi mE),(zi mF),(zi (Int.tdiv (Int.mul (16) mA) (1000))),(zi (0)),.nils,(zi (Int.tdiv (Int.mul (-16) mD) (1000))),(zi (0)),.nils]))] J1 (by have:=tdivk (Int.mul (-16) mD) (k:=1000) (by decide);have:=tdivk (Int.mul (16) mA) (k:=1000) (by decide);(try simp only [b1,b2,b3,b4,b5,b6,gS,of0,of1,of2,of3,of7,of11]);(try simp only [gT] at *);try omega) ?_
      exact .inr ((⟨⟨rfl,rfl,rfl⟩,(by have:=tdivk (Int.mul (16) mA) (k:=1000) (by decide);have:=tdivk (Int.mul (-16) mD) (k:=1000) (by decide);(try simp only [iMul] at *);omega),(by have:=tdivk (Int.mul (16) mA) (k:=1000) (by decide);have:=tdivk (Int.mul (-16) mD) (k:=1000) (by decide);(try simp only [iMul] at *);omega)⟩))
    refine fi 0 [(32,8,false),(5,13,false),(5,18,false),(5,22,true)] 33 ((of6 mB mC mA mD)) [J2] (.tup [(.fn 43 [(.ptr .h 0)] []),(zi (0))]) [(.h,(ce 123 [(zi mA),(zi mB),(zi mC),(zi mD),(zi mE),(zi mF),(zi (0)),(zi (0)),.nils,(zi (0)),(zi (0)),.nils]))] J1 (by (try simp only [b1,b2,b3,b4,gS,of0,of1,of6]);(try simp only [gT] at *);try omega) ?_
    exact .inl (⟨rfl,rfl,rfl⟩)
  refine fi 0 [(32,8,false),(5,13,false),(5,18,true)] 38 ((of5 mB mC mA)) [J2] (.tup [(.fn 43 [(.ptr .h 0)] []),(zi (0))]) [(.h,(ce 123 [(zi mA),(zi mB),(zi mC),(zi mD),(zi mE),(zi mF),(zi (0)),(zi (0)),.nils,(zi (0)),(zi (0)),.nils]))] J1 (by (try simp only [b1,b2,b3,gS,of0,of1,of5]);(try simp only [gT] at *);try omega) ?_
  exact .inl (⟨rfl,rfl,rfl⟩)
section
variable (sd wd:Int) (m:Nat) (V:Nat→Bool) (S:Nat→Nat→Int) (sex ssty:Bool) (e_1:Int) (q_3:Nat) (K_3:Nat→Nat→Int) (q_2:Nat) (K_2:Nat→Nat→Int) (q_4:Nat) (K_4:Nat→Nat→Int)
noncomputable def gnsmX:St:=⟨getF (enterA En 17 [(.agg [(zi sd),(zi wd),.nils,(.sa .h 0 m 3)])] false),[],[(.h,(o3 m V S sex ssty))],J1,1⟩
noncomputable def gnse1X:St:=⟨cf (pcmX 0 (fun _ _=>0) true false) J3 [J1],[(fr 17 94 (ts [1,75] [.ptr J2 0,.bool false]) [rA En 17 (pb 124) 4,cA En 17 (pb 125),cA En 17 (pb 63)])],(zs [(o3 m V S sex ssty),(o7 0 (fun _ _=>0) true false),(ce 36 [(zi sd),(zi wd),.nils,(.sa .h 0 m 3)])]),J3,1⟩
noncomputable def gnse2X:St:=⟨cf (ftmX m V S sex ssty true (1)) J2 [.h],[(fr 17 94 (ts [1,80,81] [.ptr J1 0,.agg [(.bool true),(.bool false)],zi (0)]) [rA En 17 (pb 64818) 3,cA En 17 (pb 64819),.blk 5,cA En 17 (pb 8103),lA En 17 (pb 1012),.blk 4,cA En 17 (pb 127)])],(zs [(o3 m V S sex ssty),(ce 36 [(zi sd),(zi wd),.nils,(.sa .h 0 m 3)])]),J2,1⟩
noncomputable def gnse3X:St:=⟨cf (ftmX m V S sex ssty false (1)) J2 [.h],[(fr 17 94 (ts [1,80,81] [.ptr J1 0,.agg [(.bool true),(.bool false)],zi (1)]) [rA En 17 (pb 64818) 3,cA En 17 (pb 64819),.blk 5,cA En 17 (pb 8103),lA En 17 (pb 1012),.blk 4,cA En 17 (pb 127)])],(zs [(o3 m V S sex ssty),(ce 36 [(zi sd),(zi wd),.nils,(.sa .h 0 m 3)])]),J2,1⟩
noncomputable def gnse4X:St:=⟨cf (ftmX m V S sex ssty false (1)) J2 [.h],[(fr 17 94 (ts [1,80,81] [.ptr J1 0,.agg [(.bool true),(.bool false)],zi (1)]) [rA En 17 (pb 64818) 3,cA En 17 (pb 64819),.blk 5,cA En 17 (pb 8103),lA En 17 (pb 1012),.blk 4,cA En 17 (pb 127)])],(zs [(o3 m V S sex ssty),(ce 36 [(zi sd),(zi wd),.nils,(.sa .h 0 m 3)])]),J2,1⟩
end
section
variable (sd wd e_1:Int)
noncomputable def gnzmX:St:=⟨getF (enterA En 17 [(.agg [(zi sd),(zi wd),.nils,.nils])] false),[],[],.h,0⟩
noncomputable def gnze1X:St:=⟨cf (pcmX 0 (fun _ _=>0) true false) J2 [.h],[(fr 17 94 (ts [1,75] [.ptr J1 0,.bool false]) [rA En 17 (pb 124) 4,cA En 17 (pb 125),cA En 17 (pb 63)])],(zs [(o7 0 (fun _ _=>0) true false),(ce 36 [(zi sd),(zi wd),.nils,.nils])]),J2,0⟩
end
theorem z9:∀ (j k:Nat),-1000000000≤(fun (_ _:Nat)=>(0:Int)) j k∧(fun (_ _:Nat)=>(0:Int)) j k≤1000000000:=fun _ _=>⟨(by show (-1000000000:Int)≤0;decide),(by show (0:Int)≤1000000000;decide)⟩
theorem gnsm_ok {sd:Int} {wd:Int} {m:Nat} {V:Nat→Bool} {S:Nat→Nat→Int} {sex:Bool} {ssty:Bool} (hm8:m≤8) (hS:∀ j k,-32000≤S j k∧S j k≤32000) (hsort:Sorted m V S):EndsX En 1 (gnsmX sd wd m V S sex ssty) (fun v H=>∃ e:Int,v=.int .i64 e∧H.nx=.o .h):=by
  refine ac 1 [(44,75,false)] 2 (band (Bool.not (Bool.not (Nat.ble m 40))) true) (gnse1X sd wd m V S sex ssty) [.h,J2,J1] [[1,75]] (by (try simp only [gS]);(try simp only [gT] at *);try omega) ?_
  refine ca (pcmX 0 (fun _ _=>0) true false) [J1] (pcm_ok (n:=0) (Y:=(fun _ _=>0)) (ex:=true) (sty:=false) z9 (by decide)) (fun v' H' q=>?_)
  rcases q with ⟨e_1,rfl,hnx1,hq_1⟩
  refine ⟨(zi e_1),[],J3,(by kernel_rfl),(by rw [hnx1];kernel_rfl),trivial,(by kernel_rfl),?_⟩
  rcases ci e_1 (0) with ⟨b1,b1p⟩|⟨b1,b1p⟩
  · refine fi 1 [(3,79,true)] 7 (band (Bool.not (ieq e_1 (0))) true) [.h] (zi (460)) [] J1 (by (try simp only [b1,gS]);(try simp only [gT] at *);try omega) ?_
    exact ⟨_,rfl,rfl⟩
  refine ac 1 [(3,79,false)] 30 (band (Bool.not (Bool.not (ieq e_1 (0)))) true) (gnse2X sd wd m V S sex ssty) [.h,J2] [[1,80,81]] (by (try simp only [b1,gS]);(try simp only [gT] at *);try omega) ?_
  refine ca (ftmX m V S sex ssty true (1)) [.h] (ftm_ok (m:=m) (V:=V) (Y:=S) (ex:=sex) (sty:=ssty) (vert:=true) (sc:=(1)) hm8 hS (by decide) hsort) (fun v' H' q=>?_)
  rcases q with ⟨rfl,hnx2⟩|⟨rfl,hnx2,hnv_2⟩|⟨q_2,K_2,rfl,hnx2,ho0_2,hq_2,hK_2⟩
  · skip
    refine ⟨(.tup [(.agg [(zi (0)),(zi (0)),.nils]),(zi (2))]),[],J2,(by kernel_rfl),(by rw [hnx2];kernel_rfl),trivial,(by kernel_rfl),?_⟩
    refine fi 1 [] 19 true [.h] (zi (460)) [] J1 rfl ?_
    exact ⟨_,rfl,rfl⟩
  · skip
    refine ⟨(.tup [(.agg [(zi (1)),(zi (0)),.nils]),(zi (0))]),[],J2,(by kernel_rfl),(by rw [hnx2];kernel_rfl),trivial,(by kernel_rfl),?_⟩
    refine ac 1 [] 40 true (gnse3X sd wd m V S sex ssty) [.h,J1] [[1,80,81]] rfl ?_
    refine ca (ftmX m V S sex ssty false (1)) [.h] (ftm_ok (m:=m) (V:=V) (Y:=S) (ex:=sex) (sty:=ssty) (vert:=false) (sc:=(1)) hm8 hS (by decide) hsort) (fun v' H' q=>?_)
    rcases q with ⟨rfl,hnx3⟩|⟨rfl,hnx3,hnv_3⟩|⟨q_3,K_3,rfl,hnx3,ho0_3,hq_3,hK_3⟩
    · skip
      refine ⟨(.tup [(.agg [(zi (0)),(zi (0)),.nils]),(zi (2))]),[],J2,(by kernel_rfl),(by rw [hnx3];kernel_rfl),trivial,(by kernel_rfl),?_⟩
      refine fi 1 [] 19 true [.h] (zi (460)) [] J1 rfl ?_
      exact ⟨_,rfl,rfl⟩
    · skip
      refine ⟨(.tup [(.agg [(zi (1)),(zi (0)),.nils]),(zi (0))]),[],J2,(by kernel_rfl),(by rw [hnx3];kernel_rfl),trivial,(by kernel_rfl),?_⟩
      refine fi 1 [] 33 true [.h] (zi (0)) [] J1 rfl ?_
      exact ⟨_,rfl,rfl⟩
    skip
    refine ⟨(.tup [(.agg [(zi (1)),(zi (0)),(.sa J2 0 (Nat.succ q_3) 2)]),(zi (0))]),[(J2,(.arr (Nat.succ q_3) 2 (rowK [.i64,.i64] K_3) none 159 false false))],J3,(by kernel_rfl),(by rw [hnx3];kernel_rfl),⟨⟨J1,_,(Nat.le_of_ble_eq_true (by kernel_rfl)),(by show _=_;kernel_rfl),ho0_3,(by show _=_;kernel_rfl)⟩,trivial⟩,(by kernel_rfl),?_⟩
    refine fi 1 [] 33 true [.h] (zi (0)) [] J1 rfl ?_
    exact ⟨_,rfl,rfl⟩
  skip
  refine ⟨(.tup [(.agg [(zi (1)),(zi (0)),(.sa J2 0 (Nat.succ q_2) 2)]),(zi (0))]),[(J2,(.arr (Nat.succ q_2) 2 (rowK [.i64,.i64] K_2) none 159 false false))],J3,(by kernel_rfl),(by rw [hnx2];kernel_rfl),⟨⟨J1,_,(Nat.le_of_ble_eq_true (by kernel_rfl)),(by show _=_;kernel_rfl),ho0_2,(by show _=_;kernel_rfl)⟩,trivial⟩,(by kernel_rfl),?_⟩
  refine ac 1 [] 40 true (gnse4X sd wd m V S sex ssty) [.h,J1] [[1,80,81]] rfl ?_
  refine ca (ftmX m V S sex ssty false (1)) [.h] (ftm_ok (m:=m) (V:=V) (Y:=S) (ex:=sex) (sty:=ssty) (vert:=false) (sc:=(1)) hm8 hS (by decide) hsort) (fun v' H' q=>?_)
  rcases q with ⟨rfl,hnx4⟩|⟨rfl,hnx4,hnv_4⟩|⟨q_4,K_4,rfl,hnx4,ho0_4,hq_4,hK_4⟩
  · skip
    refine ⟨(.tup [(.agg [(zi (0)),(zi (0)),.nils]),(zi (2))]),[],J2,(by kernel_rfl),(by rw [hnx4];kernel_rfl),trivial,(by kernel_rfl),?_⟩
    refine fi 1 [] 19 true [.h] (zi (460)) [] J1 rfl ?_
    exact ⟨_,rfl,rfl⟩
  · skip
    refine ⟨(.tup [(.agg [(zi (1)),(zi (0)),.nils]),(zi (0))]),[],J2,(by kernel_rfl),(by rw [hnx4];kernel_rfl),trivial,(by kernel_rfl),?_⟩
    refine fi 1 [] 33 true [.h] (zi (0)) [] J1 rfl ?_
    exact ⟨_,rfl,rfl⟩
  skip
  refine ⟨(.tup [(.agg [(zi (1)),(zi (0)),(.sa J2 0 (Nat.succ q_4) 2)]),(zi (0))]),[(J2,(.arr (Nat.succ q_4) 2 (rowK [.i64,.i64] K_4) none 159 false false))],J3,(by kernel_rfl),(by rw [hnx4];kernel_rfl),⟨⟨J1,_,(Nat.le_of_ble_eq_true (by kernel_rfl)),(by show _=_;kernel_rfl),ho0_4,(by show _=_;kernel_rfl)⟩,trivial⟩,(by kernel_rfl),?_⟩
  refine fi 1 [] 33 true [.h] (zi (0)) [] J1 rfl ?_
  exact ⟨_,rfl,rfl⟩
theorem gnzm_ok {sd:Int} {wd:Int}  : EndsX En 0 (gnzmX sd wd) (fun v H=>∃ e:Int,v=.int .i64 e∧H.nx=.h):=by
  refine ac 0 [] 46 true (gnze1X sd wd) [J1,.h] [[1,75]] rfl ?_
  refine ca (pcmX 0 (fun _ _=>0) true false) [.h] (pcm_ok (n:=0) (Y:=(fun _ _=>0)) (ex:=true) (sty:=false) z9 (by decide)) (fun v' H' q=>?_)
  rcases q with ⟨e_1,rfl,hnx1,hq_1⟩
  refine ⟨(zi e_1),[],J2,(by kernel_rfl),(by rw [hnx1];kernel_rfl),trivial,(by kernel_rfl),?_⟩
  rcases ci e_1 (0) with ⟨b1,b1p⟩|⟨b1,b1p⟩
  · refine fi 0 [(3,79,true)] 7 (band (Bool.not (ieq e_1 (0))) true) [] (zi (460)) [] .h (by (try simp only [b1,gS]);(try simp only [gT] at *);try omega) ?_
    exact ⟨_,rfl,rfl⟩
  refine fi 0 [(3,79,false)] 747 (band (Bool.not (Bool.not (ieq e_1 (0)))) true) [] (zi (0)) [] .h (by (try simp only [b1,gS]);(try simp only [gT] at *);try omega) ?_
  exact ⟨_,rfl,rfl⟩
def PRow (Y:Nat→Nat→Int) (oX oY:Int→Int→Int) (x y:Int) (P:Nat→Nat→Int) (j:Nat):Prop:=
  P j 0=Y j 0∧(Y j 0=4→P j 1=Y j 1∧P j 2=Y j 2)∧(Y j 0≠4→P j 1=oX (Y j 1) (Y j 2)+x * 16∧P j 2=oY (Y j 1) (Y j 2)+y * 16) ∧
    (Y j 0=3→P j 3=oX (Y j 3) (Y j 4)+x * 16∧P j 4=oY (Y j 3) (Y j 4)+y * 16∧P j 5=oX (Y j 5) (Y j 6)+x * 16∧P j 6=oY (Y j 5) (Y j 6)+y * 16) ∧
    (Y j 0≠3→P j 3=Y j 3∧P j 4=Y j 4∧P j 5=Y j 5∧P j 6=Y j 6)
def at8 (z:Int):Prop:=-8192≤z∧z≤8192
def Near (Y P:Nat→Nat→Int) (j:Nat):Prop:=(Y j 0≠4→at8 (P j 1)∧at8 (P j 2))∧(Y j 0=3→at8 (P j 3)∧at8 (P j 4)∧at8 (P j 5)∧at8 (P j 6))
theorem prow_ne {Y:Nat→Nat→Int} {oX oY:Int→Int→Int} {x y:Int} {P:Nat→Nat→Int} {i j:Nat} {l:List Int} (h:j≠i) (hp:PRow Y oX oY x y P j):PRow Y oX oY x y (updR P i l) j:=by
  unfold PRow at *;simp only [updR_ne _ _ _ h];exact hp
theorem near_ne {Y P:Nat→Nat→Int} {i j:Nat} {l:List Int} (h:j≠i) (hp:Near Y P j):Near Y (updR P i l) j:=by
  unfold Near at *;simp only [updR_ne _ _ _ h];exact hp
theorem prow4 {Y:Nat→Nat→Int} {oX oY:Int→Int→Int} {x y:Int} {P:Nat→Nat→Int} {i:Nat} (h:Y i 0=4):PRow Y oX oY x y (updR P i [(Y i 0),(Y i 1),(Y i 2),(Y i 3),(Y i 4),(Y i 5),(Y i 6)]) i:=by
  unfold PRow;simp only [updR_at]
  exact ⟨rfl,fun _=>⟨rfl,rfl⟩,fun k=>absurd h k,fun k=>absurd (h.symm.trans k) (by decide),fun _=>⟨rfl,rfl,rfl,rfl⟩⟩
theorem near4 {Y P:Nat→Nat→Int} {i:Nat} {l:List Int} (h:Y i 0=4):Near Y (updR P i l) i:=⟨fun k=>absurd h k,fun k=>absurd (h.symm.trans k) (by decide)⟩
theorem prow1 {Y:Nat→Nat→Int} {oX oY:Int→Int→Int} {x y:Int} {P:Nat→Nat→Int} {i:Nat} (h:¬ Y i 0=4) (h3:¬ Y i 0=3):PRow Y oX oY x y (updR P i [(Y i 0),(Int.add (oX (Y i 1) (Y i 2)) (Int.mul x (16))),(Int.add (oY (Y i 1) (Y i 2)) (Int.mul y (16))),(Y i 3),(Y i 4),(Y i 5),(Y i 6)]) i:=by
  unfold PRow;simp only [updR_at]
  exact ⟨rfl,fun k=>absurd k h,fun _=>⟨rfl,rfl⟩,fun k=>absurd k h3,fun _=>⟨rfl,rfl,rfl,rfl⟩⟩
theorem near1 {Y P:Nat→Nat→Int} {i:Nat} {k a b c d e f:Int} (h3:¬ Y i 0=3) (ha:at8 a) (hb:at8 b):Near Y (updR P i [k,a,b,c,d,e,f]) i:=by
  unfold Near;simp only [updR_at]
  exact ⟨fun _=>⟨ha,hb⟩,fun k=>absurd k h3⟩
theorem prow3 {Y:Nat→Nat→Int} {oX oY:Int→Int→Int} {x y:Int} {P:Nat→Nat→Int} {i:Nat} (h3:Y i 0=3):PRow Y oX oY x y (updR P i [(Y i 0),(Int.add (oX (Y i 1) (Y i 2)) (Int.mul x (16))),(Int.add (oY (Y i 1) (Y i 2)) (Int.mul y (16))),(Int.add (oX (Y i 3) (Y i 4)) (Int.mul x (16))),(Int.add (oY (Y i 3) (Y i 4)) (Int.mul y (16))),(Int.add (oX (Y i 5) (Y i 6)) (Int.mul x (16))),(Int.add (oY (Y i 5) (Y i 6)) (Int.mul y (16)))]) i:=by
  unfold PRow;simp only [updR_at]
  exact ⟨rfl,fun k=>absurd (h3.symm.trans k) (by decide),fun _=>⟨rfl,rfl⟩,fun _=>⟨rfl,rfl,rfl,rfl⟩,fun k=>absurd h3 k⟩
theorem near3 {Y P:Nat→Nat→Int} {i:Nat} {k a b c d e f:Int} (ha:at8 a) (hb:at8 b) (hc:at8 c) (hd:at8 d) (he:at8 e) (hf:at8 f):Near Y (updR P i [k,a,b,c,d,e,f]) i:=by
  unfold Near;simp only [updR_at]
  exact ⟨fun _=>⟨ha,hb⟩,fun _=>⟨hc,hd,he,hf⟩⟩
theorem le_nf {a b:Int} (h:Bool.not (ile a b)=false):a≤b:=(ile_iff _ _).1 (by cases e:ile a b <;> rw [e] at h <;> first|rfl|cases h)
def QP (n:Nat) (Y:Nat→Nat→Int) (oX oY:Int→Int→Int) (x y:Int) (k k1:Ps):AV→Hp→Prop:=fun v H =>
  (∃ e:Int,v=.tup [.nils,.int .i64 e]∧H.nx=k∧¬ e=0) ∨
  (∃ P,v=.tup [.sa k 0 n 7,.int .i64 0]∧H.nx=k1∧H.hp.get k=some (o7 n P true false)∧(∀ j,j < n→PRow Y oX oY x y P j)∧(∀ j,j < n→Near Y P j)∧StepsOK n Y)
section
variable (n:Nat) (Y:Nat→Nat→Int) (ex sty:Bool) (sd wd:Int) (m:Nat) (V:Nat→Bool) (S:Nat→Nat→Int) (sex ssty:Bool) (mA mB mC mD mE mF x y e_1:Int)
noncomputable def psemX:St:=⟨getF (enterA En 9 [(.agg [(zi sd),(zi wd),(.sa .h 0 n 7),(.sa J1 0 m 3)]),(az [mA,mB,mC,mD,mE,mF]),(zi x),(zi y)] false),[],(zs [(o7 n Y ex sty),(o3 m V S sex ssty)]),J2,2⟩
noncomputable def psee1X:St:=⟨cf (gsmX n Y ex sty sd wd m V S sex ssty) J4 [.h,J1],[(fr 9 118 (ts [2,3,4,5] [zi x,zi y,.ptr J2 0,.ptr J3 0]) [rA En 9 (pb 12) 1,cA En 9 (pb 13),cA En 9 (pb 7)])],(zs [(o7 n Y ex sty),(o3 m V S sex ssty),(ce 36 [(zi sd),(zi wd),(.sa .h 0 n 7),(.sa J1 0 m 3)]),(zc 39 [mA,mB,mC,mD,mE,mF])]),J4,2⟩
noncomputable def psee2X:St:=⟨cf (ofsmX n Y ex sty sd wd m V S sex ssty mA mB mC mD mE mF) J3 [.h,J1],[(fr 9 118 (ts [2,3,4] [zi x,zi y,.ptr J2 0]) [rA En 9 (pb 62) 2,cA En 9 (pb 63)])],(zs [(o7 n Y ex sty),(o3 m V S sex ssty),(ce 36 [(zi sd),(zi wd),(.sa .h 0 n 7),(.sa J1 0 m 3)])]),J3,2⟩
end
theorem psem_ok {n:Nat} {Y:Nat→Nat→Int} {ex:Bool} {sty:Bool} {sd:Int} {wd:Int} {m:Nat} {V:Nat→Bool} {S:Nat→Nat→Int} {sex:Bool} {ssty:Bool} {mA:Int} {mB:Int} {mC:Int} {mD:Int} {mE:Int} {mF:Int} {x:Int} {y:Int} (hn:n≤1000) (hY:∀ j k,-32000≤Y j k∧Y j k≤32000) (hm8:m≤8) (hS:∀ j k,-32000≤S j k∧S j k≤32000) (hsort:Sorted m V S) (hmA : -2000000≤mA∧mA≤2000000) (hmB : -2000000≤mB∧mB≤2000000) (hmC : -2000000≤mC∧mC≤2000000) (hmD : -2000000≤mD∧mD≤2000000) (hmE : -40000≤mE∧mE≤40000) (hmF : -40000≤mF∧mF≤40000) (hx : -128≤x∧x≤127) (hy : -128≤y∧y≤127) (hof:EndsX En 2 (ofsmX n Y ex sty sd wd m V S sex ssty mA mB mC mD mE mF) (fun v H=>v=(.tup [.nilf,(zi (2))])∧H.nx=.i .h)):EndsX En 2 (psemX n Y ex sty sd wd m V S sex ssty mA mB mC mD mE mF x y) (QP n Y (fun _ _=>0) (fun _ _=>0) x y J2 J3):=by
  have hY9:∀ j k,-1000000000≤Y j k∧Y j k≤1000000000:=fun j k=>by have:=hY j k;omega
  refine ac 2 [] 12 true (psee1X n Y ex sty sd wd m V S sex ssty mA mB mC mD mE mF x y) [.h,J1,J2,J3] [[2,3,4,5]] rfl ?_
  refine ca (gsmX n Y ex sty sd wd m V S sex ssty) [.h,J1] (gsm_ok (n:=n) (Y:=Y) (ex:=ex) (sty:=sty) (sd:=sd) (wd:=wd) (m:=m) (V:=V) (S:=S) (sex:=sex) (ssty:=ssty) hY9 hn hm8 hS hsort) (fun v' H' q=>?_)
  rcases q with ⟨e_1,rfl,hnx1,hg_1⟩
  refine ⟨(zi e_1),[],J4,(by kernel_rfl),(by rw [hnx1];kernel_rfl),trivial,(by kernel_rfl),?_⟩
  rcases ci e_1 (0) with ⟨b1,b1p⟩|⟨b1,b1p⟩
  · refine fi 2 [(7,24,true)] 9 (band (Bool.not (ieq e_1 (0))) true) [.h,J1] (.tup [.nils,(zi e_1)]) [] J2 (by (try simp only [b1,gS]);(try simp only [gT] at *);try omega) ?_
    exact .inl ⟨_,rfl,rfl,by assumption⟩
  refine ac 2 [(7,24,false),(60,17,false),(5,21,false),(30,17,false),(5,21,false),(30,17,false),(5,21,false),(30,17,false),(5,21,false),(63,17,false),(5,21,false),(30,17,false),(5,21,false),(55,9,true),(10,34,false),(13,9,true),(11,38,false)] 7 (band (Bool.not (Bool.not (ieq e_1 (0)))) (band (Bool.not (ilt mA (-16777216))) (band (Bool.not (ilt (16777216) mA)) (band (Bool.not (ilt mB (-16777216))) (band (Bool.not (ilt (16777216) mB)) (band (Bool.not (ilt mC (-16777216))) (band (Bool.not (ilt (16777216) mC)) (band (Bool.not (ilt mD (-16777216))) (band (Bool.not (ilt (16777216) mD)) (band (Bool.not (ilt mE (-536870912))) (band (Bool.not (ilt (536870912) mE)) (band (Bool.not (ilt mF (-536870912))) (band (Bool.not (ilt (536870912) mF)) (band (ile (-600) x) (band (Bool.not (Bool.not (ile x (600)))) (band (ile (-600) y) (band (Bool.not (Bool.not (ile y (600)))) true))))))))))))))))) (psee2X n Y ex sty sd wd m V S sex ssty mA mB mC mD mE mF x y) [.h,J1,J2] [[2,3,4]] (by (try simp only [b1,gS]);(try simp only [gT] at *);try omega) ?_
  refine ca (ofsmX n Y ex sty sd wd m V S sex ssty mA mB mC mD mE mF) [.h,J1] (hof) (fun v' H' q=>?_)
  rcases q with ⟨rfl,hnx2⟩
  refine ⟨(.tup [.nilf,(zi (2))]),[],J3,(by kernel_rfl),(by rw [hnx2];kernel_rfl),trivial,(by kernel_rfl),?_⟩
  refine fi 2 [] 21 true [.h,J1] (.tup [.nils,(zi (2))]) [] J2 rfl ?_
  exact .inl ⟨2,rfl,rfl,by decide⟩
section
variable (n:Nat) (Y:Nat→Nat→Int) (ex sty:Bool) (sd wd:Int) (m:Nat) (V:Nat→Bool) (S:Nat→Nat→Int) (sex ssty:Bool) (mA mB mC mD mE mF x y e_1:Int) (oX oY oE:Int→Int→Int) (i:Nat) (far:Bool) (P:Nat→Nat→Int)
noncomputable def pspmX:St:=⟨getF (enterA En 9 [(.agg [(zi sd),(zi wd),(.sa .h 0 n 7),(.sa J1 0 m 3)]),(az [mA,mB,mC,mD,mE,mF]),(zi x),(zi y)] false),[],(zs [(o7 n Y ex sty),(o3 m V S sex ssty)]),J2,2⟩
noncomputable def pspe1X:St:=⟨cf (gsmX n Y ex sty sd wd m V S sex ssty) J4 [.h,J1],[(fr 9 118 (ts [2,3,4,5] [zi x,zi y,.ptr J2 0,.ptr J3 0]) [rA En 9 (pb 12) 1,cA En 9 (pb 13),cA En 9 (pb 7)])],(zs [(o7 n Y ex sty),(o3 m V S sex ssty),(ce 36 [(zi sd),(zi wd),(.sa .h 0 n 7),(.sa J1 0 m 3)]),(zc 39 [mA,mB,mC,mD,mE,mF])]),J4,2⟩
noncomputable def pspe2X:St:=⟨cf (ofsmX n Y ex sty sd wd m V S sex ssty mA mB mC mD mE mF) J3 [.h,J1],[(fr 9 118 (ts [2,3,4] [zi x,zi y,.ptr J2 0]) [rA En 9 (pb 62) 2,cA En 9 (pb 63)])],(zs [(o7 n Y ex sty),(o3 m V S sex ssty),(ce 36 [(zi sd),(zi wd),(.sa .h 0 n 7),(.sa J1 0 m 3)])]),J3,2⟩
noncomputable def pspoX:St:=⟨(fr 9 118 (ts [2,3,12,14,15,53,54,55] [zi x,zi y,.fn 43 [(.ptr J2 0)] [],.bool far,.sa J3 0 n 7,.sa .h 0 n 7,zn n,zn i]) [cA En 9 (pb 8180),lA En 9 (pb 8180),.blk 0,cA En 9 (pb 1023)]),[],(zs [(o7 n Y ex sty),(o3 m V S sex ssty),(ce 123 [(zi mA),(zi mB),(zi mC),(zi mD),(zi mE),(zi mF),(zi (0)),(zi (0)),.nils,(zi (0)),(zi (0)),.nils]),(o7 n P true false)]),J4,2⟩
noncomputable def pspe3X:St:=⟨cf (plmX mA mB mC mD mE mF (Y i 1) (Y i 2)) J5 [J2],[(fr 9 118 (ts [2,3,12,14,15,16,17,18,53,54,55,61,62] [zi x,zi y,.fn 43 [(.ptr J2 0)] [],.bool far,.sa J3 0 n 7,zn i,.ptr J4 0,zi (0),.sa .h 0 n 7,zn n,zn i,zi (1),zi (0)]) [rA En 9 (pb 268068146) 5,cA En 9 (pb 268068147),.blk 3,cA En 9 (pb 33508519),lA En 9 (pb 4188564),.blk 2,cA En 9 (pb 523571),.blk 1,cA En 9 (pb 65447),lA En 9 (pb 8180),.blk 0,cA En 9 (pb 1023)])],(zs [(o7 n Y ex sty),(o3 m V S sex ssty),(ce 123 [(zi mA),(zi mB),(zi mC),(zi mD),(zi mE),(zi mF),(zi (0)),(zi (0)),.nils,(zi (0)),(zi (0)),.nils]),(o7 n P true false),(zc 63 [Y i 0,Y i 1,Y i 2,Y i 3,Y i 4,Y i 5,Y i 6])]),J5,2⟩
noncomputable def pspe4X:St:=⟨cf (plmX mA mB mC mD mE mF (Y i 1) (Y i 2)) J5 [J2],[(fr 9 118 (ts [2,3,12,14,15,16,17,18,53,54,55,61,62] [zi x,zi y,.fn 43 [(.ptr J2 0)] [],.bool far,.sa J3 0 n 7,zn i,.ptr J4 0,zi (0),.sa .h 0 n 7,zn n,zn i,zi (3),zi (0)]) [rA En 9 (pb 268068146) 5,cA En 9 (pb 268068147),.blk 3,cA En 9 (pb 33508519),lA En 9 (pb 4188564),.blk 2,cA En 9 (pb 523571),.blk 1,cA En 9 (pb 65447),lA En 9 (pb 8180),.blk 0,cA En 9 (pb 1023)])],(zs [(o7 n Y ex sty),(o3 m V S sex ssty),(ce 123 [(zi mA),(zi mB),(zi mC),(zi mD),(zi mE),(zi mF),(zi (0)),(zi (0)),.nils,(zi (0)),(zi (0)),.nils]),(o7 n P true false),(zc 63 [Y i 0,Y i 1,Y i 2,Y i 3,Y i 4,Y i 5,Y i 6])]),J5,2⟩
noncomputable def pspk1X:St:=⟨(fr 9 118 (ts [2,3,12,14,15,16,17,53,54,55,61,62] [zi x,zi y,.fn 43 [(.ptr J2 0)] [],.bool far,.sa J3 0 n 7,zn i,.ptr J4 0,.sa .h 0 n 7,zn n,zn i,zi (3),zi (1)]) [cA En 9 (pb 4188564),lA En 9 (pb 4188564),.blk 2,cA En 9 (pb 523571),.blk 1,cA En 9 (pb 65447),lA En 9 (pb 8180),.blk 0,cA En 9 (pb 1023)]),[],(zs [(o7 n Y ex sty),(o3 m V S sex ssty),(ce 123 [(zi mA),(zi mB),(zi mC),(zi mD),(zi mE),(zi mF),(zi (0)),(zi (0)),.nils,(zi (0)),(zi (0)),.nils]),(o7 n P true false),(zc 63 [Y i 0,Int.add (oX (Y i 1) (Y i 2)) (Int.mul x (16)),Int.add (oY (Y i 1) (Y i 2)) (Int.mul y (16)),Y i 3,Y i 4,Y i 5,Y i 6])]),J5,2⟩
noncomputable def pspe5X:St:=⟨cf (plmX mA mB mC mD mE mF (Y i 3) (Y i 4)) J5 [J2],[(fr 9 118 (ts [2,3,12,14,15,16,17,18,53,54,55,61,62] [zi x,zi y,.fn 43 [(.ptr J2 0)] [],.bool far,.sa J3 0 n 7,zn i,.ptr J4 0,zi (1),.sa .h 0 n 7,zn n,zn i,zi (3),zi (1)]) [rA En 9 (pb 268068146) 5,cA En 9 (pb 268068147),.blk 3,cA En 9 (pb 33508519),lA En 9 (pb 4188564),.blk 2,cA En 9 (pb 523571),.blk 1,cA En 9 (pb 65447),lA En 9 (pb 8180),.blk 0,cA En 9 (pb 1023)])],(zs [(o7 n Y ex sty),(o3 m V S sex ssty),(ce 123 [(zi mA),(zi mB),(zi mC),(zi mD),(zi mE),(zi mF),(zi (0)),(zi (0)),.nils,(zi (0)),(zi (0)),.nils]),(o7 n P true false),(zc 63 [Y i 0,Int.add (oX (Y i 1) (Y i 2)) (Int.mul x (16)),Int.add (oY (Y i 1) (Y i 2)) (Int.mul y (16)),Y i 3,Y i 4,Y i 5,Y i 6])]),J5,2⟩
noncomputable def pspk2X:St:=⟨(fr 9 118 (ts [2,3,12,14,15,16,17,53,54,55,61,62] [zi x,zi y,.fn 43 [(.ptr J2 0)] [],.bool far,.sa J3 0 n 7,zn i,.ptr J4 0,.sa .h 0 n 7,zn n,zn i,zi (3),zi (2)]) [cA En 9 (pb 4188564),lA En 9 (pb 4188564),.blk 2,cA En 9 (pb 523571),.blk 1,cA En 9 (pb 65447),lA En 9 (pb 8180),.blk 0,cA En 9 (pb 1023)]),[],(zs [(o7 n Y ex sty),(o3 m V S sex ssty),(ce 123 [(zi mA),(zi mB),(zi mC),(zi mD),(zi mE),(zi mF),(zi (0)),(zi (0)),.nils,(zi (0)),(zi (0)),.nils]),(o7 n P true false),(zc 63 [Y i 0,Int.add (oX (Y i 1) (Y i 2)) (Int.mul x (16)),Int.add (oY (Y i 1) (Y i 2)) (Int.mul y (16)),Int.add (oX (Y i 3) (Y i 4)) (Int.mul x (16)),Int.add (oY (Y i 3) (Y i 4)) (Int.mul y (16)),Y i 5,Y i 6])]),J5,2⟩
noncomputable def pspe6X:St:=⟨cf (plmX mA mB mC mD mE mF (Y i 5) (Y i 6)) J5 [J2],[(fr 9 118 (ts [2,3,12,14,15,16,17,18,53,54,55,61,62] [zi x,zi y,.fn 43 [(.ptr J2 0)] [],.bool far,.sa J3 0 n 7,zn i,.ptr J4 0,zi (2),.sa .h 0 n 7,zn n,zn i,zi (3),zi (2)]) [rA En 9 (pb 268068146) 5,cA En 9 (pb 268068147),.blk 3,cA En 9 (pb 33508519),lA En 9 (pb 4188564),.blk 2,cA En 9 (pb 523571),.blk 1,cA En 9 (pb 65447),lA En 9 (pb 8180),.blk 0,cA En 9 (pb 1023)])],(zs [(o7 n Y ex sty),(o3 m V S sex ssty),(ce 123 [(zi mA),(zi mB),(zi mC),(zi mD),(zi mE),(zi mF),(zi (0)),(zi (0)),.nils,(zi (0)),(zi (0)),.nils]),(o7 n P true false),(zc 63 [Y i 0,Int.add (oX (Y i 1) (Y i 2)) (Int.mul x (16)),Int.add (oY (Y i 1) (Y i 2)) (Int.mul y (16)),Int.add (oX (Y i 3) (Y i 4)) (Int.mul x (16)),Int.add (oY (Y i 3) (Y i 4)) (Int.mul y (16)),Y i 5,Y i 6])]),J5,2⟩
end
noncomputable abbrev psp0 (i n:Nat):Bool:=(Nat.ble (Nat.succ i) n)
noncomputable abbrev psp1 (oX:Int→Int→Int) (Y:Nat→Nat→Int) (i:Nat) (x:Int):Int:=(Int.add (oX (Y i 5) (Y i 6)) (Int.mul x (16)))
noncomputable abbrev psp2 (oX:Int→Int→Int) (Y:Nat→Nat→Int) (i:Nat) (x:Int):Int:=(Int.add (oX (Y i 3) (Y i 4)) (Int.mul x (16)))
noncomputable abbrev psp3 (oE:Int→Int→Int) (Y:Nat→Nat→Int) (i:Nat):Bool:=(Bool.not (Bool.not (ieq (oE (Y i 5) (Y i 6)) (0))))
noncomputable abbrev psp4 (oE:Int→Int→Int) (Y:Nat→Nat→Int) (i:Nat):Bool:=(Bool.not (Bool.not (ieq (oE (Y i 3) (Y i 4)) (0))))
noncomputable abbrev psp5 (oE:Int→Int→Int) (Y:Nat→Nat→Int) (i:Nat):Bool:=(Bool.not (Bool.not (ieq (oE (Y i 1) (Y i 2)) (0))))
noncomputable abbrev psp6 (oX:Int→Int→Int) (Y:Nat→Nat→Int) (i:Nat) (x:Int):Bool:=(ile (-8192) (Int.add (oX (Y i 1) (Y i 2)) (Int.mul x (16))))
noncomputable abbrev psp7 (oY:Int→Int→Int) (Y:Nat→Nat→Int) (i:Nat) (y:Int):Bool:=(ile (-8192) (Int.add (oY (Y i 1) (Y i 2)) (Int.mul y (16))))
noncomputable abbrev psp8 (oX:Int→Int→Int) (Y:Nat→Nat→Int) (i:Nat) (x:Int):Bool:=(Bool.not (Bool.not (ile (Int.add (oX (Y i 1) (Y i 2)) (Int.mul x (16))) (8192))))
noncomputable abbrev psp9 (i n:Nat):Bool:=(band (band (psp0 i n) true) (band (band (band (psp0 i n) true) true) true))
noncomputable abbrev psp10 (x:Int) (oX:Int→Int→Int) (Y:Nat→Nat→Int) (i:Nat) (y:Int) (oY:Int→Int→Int):Bool:=(band (r64 (Int.mul x (16))) (band (r64 (psp1 oX Y i x)) (band (r64 (Int.mul y (16))) (band (r64 (Int.add (oY (Y i 5) (Y i 6)) (Int.mul y (16)))) true))))
noncomputable abbrev psp11 (x:Int) (oX:Int→Int→Int) (Y:Nat→Nat→Int) (i:Nat) (y:Int) (oY:Int→Int→Int):Bool:=(band (r64 (Int.mul x (16))) (band (r64 (psp2 oX Y i x)) (band (r64 (Int.mul y (16))) (band (r64 (Int.add (oY (Y i 3) (Y i 4)) (Int.mul y (16)))) true))))
noncomputable abbrev psp12 (x:Int) (oX:Int→Int→Int) (Y:Nat→Nat→Int) (i:Nat) (y:Int) (oY:Int→Int→Int):Bool:=(band (r64 (Int.mul x (16))) (band (r64 (Int.add (oX (Y i 1) (Y i 2)) (Int.mul x (16)))) (band (r64 (Int.mul y (16))) (band (r64 (Int.add (oY (Y i 1) (Y i 2)) (Int.mul y (16)))) true))))
noncomputable abbrev psp13 (i n:Nat):Bool:=(band (band (psp0 i n) true) (band (band (band (psp0 i n) true) true) (band (band (ile (-9223372036854775808) (.ofNat (Nat.add i 1))) (Nat.ble (Nat.add i 1) 9223372036854775807)) true)))
noncomputable abbrev psp14 (oE:Int→Int→Int) (Y:Nat→Nat→Int) (i:Nat) (x:Int) (oX:Int→Int→Int) (y:Int) (oY:Int→Int→Int) (zz:Bool):Bool:=(band (psp5 oE Y i) (band (psp12 x oX Y i y oY) zz))
section
variable {n:Nat} {Y:Nat→Nat→Int} {ex:Bool} {sty:Bool} {sd:Int} {wd:Int} {m:Nat} {V:Nat→Bool} {S:Nat→Nat→Int} {sex:Bool} {ssty:Bool} {mA:Int} {mB:Int} {mC:Int} {mD:Int} {mE:Int} {mF:Int} {x:Int} {y:Int} {oX:Int→Int→Int} {oY:Int→Int→Int} {oE:Int→Int→Int} {i:Nat} {far:Bool} {P:Nat→Nat→Int} (hn:n≤1000) (hY:∀ j k,-32000≤Y j k∧Y j k≤32000) (hm8:m≤8) (hS:∀ j k,-32000≤S j k∧S j k≤32000) (hsort:Sorted m V S) (hmA : -2000000≤mA∧mA≤2000000) (hmB : -2000000≤mB∧mB≤2000000) (hmC : -2000000≤mC∧mC≤2000000) (hmD : -2000000≤mD∧mD≤2000000) (hmE : -40000≤mE∧mE≤40000) (hmF : -40000≤mF∧mF≤40000) (hx : -128≤x∧x≤127) (hy : -128≤y∧y≤127) (hoX:∀ j k,-1000000000000000000≤oX j k∧oX j k≤1000000000000000000) (hoY:∀ j k,-1000000000000000000≤oY j k∧oY j k≤1000000000000000000) (hof:EndsX En 2 (ofsmX n Y ex sty sd wd m V S sex ssty mA mB mC mD mE mF) (fun v H=>v=(.tup [(.fn 43 [(.ptr J2 0)] []),(zi (0))])∧H.nx=.o J1∧H.hp.get J2=some (ce 123 [(zi mA),(zi mB),(zi mC),(zi mD),(zi mE),(zi mF),(zi (0)),(zi (0)),.nils,(zi (0)),(zi (0)),.nils]))) (hmv:∀ (px py:Int),(-32000≤px∧px≤32000)→(-32000≤py∧py≤32000)→EndsX En 1 (plmX mA mB mC mD mE mF px py) (fun v H=>v=.tup [.agg [.int .i64 (oX px py),.int .i64 (oY px py)],.int .i64 (oE px py)]∧H.nx=.o .h)) (far0:Bool) (hi:i < n) (h3:Y i 0=3)
include hn hY hm8 hS hsort hmA hmB hmC hmD hmE hmF hx hy hoX hoY hof hmv far0 hi h3
theorem pspk2_ok (hF:far=false→far0=false∧at8 (Int.add (oX (Y i 1) (Y i 2)) (Int.mul x (16)))∧at8 (Int.add (oY (Y i 1) (Y i 2)) (Int.mul y (16)))∧at8 (Int.add (oX (Y i 3) (Y i 4)) (Int.mul x (16)))∧at8 (Int.add (oY (Y i 3) (Y i 4)) (Int.mul y (16)))) (ih:∀ (f:Bool) (l:List Int),PRow Y oX oY x y (updR P i l) i→(f=false→far0=false∧Near Y (updR P i l) i)→EndsX En 2 (pspoX n Y ex sty m V S sex ssty mA mB mC mD mE mF x y (Nat.add i 1) f (updR P i l)) (QP n Y oX oY x y J2 J3)):EndsX En 2 (pspk2X n Y ex sty m V S sex ssty mA mB mC mD mE mF x y oX oY i far P) (QP n Y oX oY x y J2 J3):=by
  have hY32:=hY
  refine ac 2 [] 22 true (pspe6X n Y ex sty m V S sex ssty mA mB mC mD mE mF x y oX oY i far P) [.h,J1,J2,J3,J4] [[2,3,12,14,15,16,17,18,53,54,55,61,62]] rfl ?_
  refine ca (plmX mA mB mC mD mE mF (Y i 5) (Y i 6)) [J2] (hmv (px:=(Y i 5)) (py:=(Y i 6)) (hY32 _ _) (hY32 _ _)) (fun v' H' q=>?_)
  rcases q with ⟨rfl,hnx6⟩
  refine ⟨(.tup [(az [oX (Y i 5) (Y i 6),oY (Y i 5) (Y i 6)]),(zi (oE (Y i 5) (Y i 6)))]),[],J5,(by kernel_rfl),(by rw [hnx6];kernel_rfl),trivial,(by kernel_rfl),?_⟩
  rcases ci (oE (Y i 5) (Y i 6)) (0) with ⟨b1,b1p⟩|⟨b1,b1p⟩
  · refine fi 2 [(13,75,true)] 9 (band (Bool.not (ieq (oE (Y i 5) (Y i 6)) (0))) true) [.h,J1] (.tup [.nils,(zi (oE (Y i 5) (Y i 6)))]) [] J2 (by (try simp only [b1,gS]);(try simp only [gT] at *);try omega) ?_
    exact .inl ⟨_,rfl,rfl,by assumption⟩
  rcases btf far with b2|b2
  · have b2p:=b2
    rcases cl (-8192) (Int.add (oX (Y i 5) (Y i 6)) (Int.mul x (16))) with ⟨b3,b3p⟩|⟨b3,b3p⟩
    · refine arF 3 2 [(13,75,false),(23,92,false),(17,9,false)] 47 ((band (psp3 oE Y i) (band (psp10 x oX Y i y oY) (band (Bool.not far) (band (Bool.not (ile (-8192) (psp1 oX Y i x))) (psp13 i n)))))) (pspoX n Y ex sty m V S sex ssty mA mB mC mD mE mF x y (Nat.add i 1) true (updR P i [(Y i 0),(Int.add (oX (Y i 1) (Y i 2)) (Int.mul x (16))),(Int.add (oY (Y i 1) (Y i 2)) (Int.mul y (16))),(Int.add (oX (Y i 3) (Y i 4)) (Int.mul x (16))),(Int.add (oY (Y i 3) (Y i 4)) (Int.mul y (16))),(Int.add (oX (Y i 5) (Y i 6)) (Int.mul x (16))),(Int.add (oY (Y i 5) (Y i 6)) (Int.mul y (16)))])) [.h,J1,J2,J3] [2,3,12,14,15,53,54,55] [] ⟨oeFold (by kernel_rfl) rfl (by kernel_rfl),trivial⟩ (by have:=hoX (Y i 5) (Y i 6);have:=hoY (Y i 5) (Y i 6);(try simp only [b1,b2,b3,gS,psp0,psp1,psp3,psp10,psp13]);(try simp only [gT] at *);try omega) ?_
      exact ih _ _ (prow3 h3) (fun e=>absurd e (by decide))
    rcases cl (Int.add (oX (Y i 5) (Y i 6)) (Int.mul x (16))) (8192) with ⟨b4,b4p⟩|⟨b4,b4p⟩
    · refine arF 3 2 [(13,75,false),(23,92,false),(17,9,true),(11,101,true)] 36 ((band (psp3 oE Y i) (band (psp10 x oX Y i y oY) (band (Bool.not far) (band (ile (-8192) (psp1 oX Y i x)) (band (Bool.not (ile (psp1 oX Y i x) (8192))) (psp13 i n))))))) (pspoX n Y ex sty m V S sex ssty mA mB mC mD mE mF x y (Nat.add i 1) true (updR P i [(Y i 0),(Int.add (oX (Y i 1) (Y i 2)) (Int.mul x (16))),(Int.add (oY (Y i 1) (Y i 2)) (Int.mul y (16))),(Int.add (oX (Y i 3) (Y i 4)) (Int.mul x (16))),(Int.add (oY (Y i 3) (Y i 4)) (Int.mul y (16))),(Int.add (oX (Y i 5) (Y i 6)) (Int.mul x (16))),(Int.add (oY (Y i 5) (Y i 6)) (Int.mul y (16)))])) [.h,J1,J2,J3] [2,3,12,14,15,53,54,55] [] ⟨oeFold (by kernel_rfl) rfl (by kernel_rfl),trivial⟩ (by have:=hoX (Y i 5) (Y i 6);have:=hoY (Y i 5) (Y i 6);(try simp only [b1,b2,b3,b4,gS,psp0,psp1,psp3,psp10,psp13]);(try simp only [gT] at *);try omega) ?_
      exact ih _ _ (prow3 h3) (fun e=>absurd e (by decide))
    rcases cl (-8192) (Int.add (oY (Y i 5) (Y i 6)) (Int.mul y (16))) with ⟨b5,b5p⟩|⟨b5,b5p⟩
    · refine arF 3 2 [(13,75,false),(23,92,false),(17,9,true),(11,101,false),(17,9,false)] 38 ((band (psp3 oE Y i) (band (psp10 x oX Y i y oY) (band (Bool.not far) (band (ile (-8192) (psp1 oX Y i x)) (band (Bool.not (Bool.not (ile (psp1 oX Y i x) (8192)))) (band (Bool.not (ile (-8192) (Int.add (oY (Y i 5) (Y i 6)) (Int.mul y (16))))) (psp13 i n)))))))) (pspoX n Y ex sty m V S sex ssty mA mB mC mD mE mF x y (Nat.add i 1) true (updR P i [(Y i 0),(Int.add (oX (Y i 1) (Y i 2)) (Int.mul x (16))),(Int.add (oY (Y i 1) (Y i 2)) (Int.mul y (16))),(Int.add (oX (Y i 3) (Y i 4)) (Int.mul x (16))),(Int.add (oY (Y i 3) (Y i 4)) (Int.mul y (16))),(Int.add (oX (Y i 5) (Y i 6)) (Int.mul x (16))),(Int.add (oY (Y i 5) (Y i 6)) (Int.mul y (16)))])) [.h,J1,J2,J3] [2,3,12,14,15,53,54,55] [] ⟨oeFold (by kernel_rfl) rfl (by kernel_rfl),trivial⟩ (by have:=hoY (Y i 5) (Y i 6);have:=hoX (Y i 5) (Y i 6);(try simp only [b1,b2,b3,b4,b5,gS,psp0,psp1,psp3,psp10,psp13]);(try simp only [gT] at *);try omega) ?_
      exact ih _ _ (prow3 h3) (fun e=>absurd e (by decide))
    refine arF 3 2 [(13,75,false),(23,92,false),(17,9,true),(11,101,false),(17,9,true)] 38 ((band (psp3 oE Y i) (band (psp10 x oX Y i y oY) (band (Bool.not far) (band (ile (-8192) (psp1 oX Y i x)) (band (Bool.not (Bool.not (ile (psp1 oX Y i x) (8192)))) (band (ile (-8192) (Int.add (oY (Y i 5) (Y i 6)) (Int.mul y (16)))) (psp13 i n)))))))) (pspoX n Y ex sty m V S sex ssty mA mB mC mD mE mF x y (Nat.add i 1) (Bool.not (ile (Int.add (oY (Y i 5) (Y i 6)) (Int.mul y (16))) (8192))) (updR P i [(Y i 0),(Int.add (oX (Y i 1) (Y i 2)) (Int.mul x (16))),(Int.add (oY (Y i 1) (Y i 2)) (Int.mul y (16))),(Int.add (oX (Y i 3) (Y i 4)) (Int.mul x (16))),(Int.add (oY (Y i 3) (Y i 4)) (Int.mul y (16))),(Int.add (oX (Y i 5) (Y i 6)) (Int.mul x (16))),(Int.add (oY (Y i 5) (Y i 6)) (Int.mul y (16)))])) [.h,J1,J2,J3] [2,3,12,14,15,53,54,55] [] ⟨oeFold (by kernel_rfl) rfl (by kernel_rfl),trivial⟩ (by have:=hoY (Y i 5) (Y i 6);have:=hoX (Y i 5) (Y i 6);(try simp only [b1,b2,b3,b4,b5,gS,psp0,psp1,psp3,psp10,psp13]);(try simp only [gT] at *);try omega) ?_
    exact ih _ _ (prow3 h3) (fun e=>⟨(hF b2).1,near3 (hF b2).2.1 (hF b2).2.2.1 (hF b2).2.2.2.1 (hF b2).2.2.2.2 ⟨b3p,b4p⟩ ⟨b5p,le_nf e⟩⟩)
  have b2p:=b2
  refine arF 3 2 [(13,75,false),(23,92,true)] 45 ((band (psp3 oE Y i) (band (psp10 x oX Y i y oY) (band far (psp13 i n))))) (pspoX n Y ex sty m V S sex ssty mA mB mC mD mE mF x y (Nat.add i 1) true (updR P i [(Y i 0),(Int.add (oX (Y i 1) (Y i 2)) (Int.mul x (16))),(Int.add (oY (Y i 1) (Y i 2)) (Int.mul y (16))),(Int.add (oX (Y i 3) (Y i 4)) (Int.mul x (16))),(Int.add (oY (Y i 3) (Y i 4)) (Int.mul y (16))),(Int.add (oX (Y i 5) (Y i 6)) (Int.mul x (16))),(Int.add (oY (Y i 5) (Y i 6)) (Int.mul y (16)))])) [.h,J1,J2,J3] [2,3,12,14,15,53,54,55] [] ⟨oeFold (by kernel_rfl) rfl (by kernel_rfl),trivial⟩ (by have:=hoY (Y i 5) (Y i 6);have:=hoX (Y i 5) (Y i 6);(try simp only [b1,b2,gS,psp0,psp1,psp3,psp10,psp13]);(try simp only [gT] at *);try omega) ?_
  exact ih _ _ (prow3 h3) (fun e=>absurd e (by decide))
theorem pspk1_ok (hF:far=false→far0=false∧at8 (Int.add (oX (Y i 1) (Y i 2)) (Int.mul x (16)))∧at8 (Int.add (oY (Y i 1) (Y i 2)) (Int.mul y (16)))) (ih:∀ (f:Bool) (l:List Int),PRow Y oX oY x y (updR P i l) i→(f=false→far0=false∧Near Y (updR P i l) i)→EndsX En 2 (pspoX n Y ex sty m V S sex ssty mA mB mC mD mE mF x y (Nat.add i 1) f (updR P i l)) (QP n Y oX oY x y J2 J3)):EndsX En 2 (pspk1X n Y ex sty m V S sex ssty mA mB mC mD mE mF x y oX oY i far P) (QP n Y oX oY x y J2 J3):=by
  have hY32:=hY
  refine ac 2 [] 22 true (pspe5X n Y ex sty m V S sex ssty mA mB mC mD mE mF x y oX oY i far P) [.h,J1,J2,J3,J4] [[2,3,12,14,15,16,17,18,53,54,55,61,62]] rfl ?_
  refine ca (plmX mA mB mC mD mE mF (Y i 3) (Y i 4)) [J2] (hmv (px:=(Y i 3)) (py:=(Y i 4)) (hY32 _ _) (hY32 _ _)) (fun v' H' q=>?_)
  rcases q with ⟨rfl,hnx5⟩
  refine ⟨(.tup [(az [oX (Y i 3) (Y i 4),oY (Y i 3) (Y i 4)]),(zi (oE (Y i 3) (Y i 4)))]),[],J5,(by kernel_rfl),(by rw [hnx5];kernel_rfl),trivial,(by kernel_rfl),?_⟩
  rcases ci (oE (Y i 3) (Y i 4)) (0) with ⟨b1,b1p⟩|⟨b1,b1p⟩
  · refine fi 2 [(13,75,true)] 9 (band (Bool.not (ieq (oE (Y i 3) (Y i 4)) (0))) true) [.h,J1] (.tup [.nils,(zi (oE (Y i 3) (Y i 4)))]) [] J2 (by (try simp only [b1,gS]);(try simp only [gT] at *);try omega) ?_
    exact .inl ⟨_,rfl,rfl,by assumption⟩
  rcases btf far with b2|b2
  · have b2p:=b2
    rcases cl (-8192) (Int.add (oX (Y i 3) (Y i 4)) (Int.mul x (16))) with ⟨b3,b3p⟩|⟨b3,b3p⟩
    · refine ar 2 [(13,75,false),(23,92,false),(17,9,false)] 27 ((band (psp4 oE Y i) (band (psp11 x oX Y i y oY) (band (Bool.not far) (band (Bool.not (ile (-8192) (psp2 oX Y i x))) true))))) (pspk2X n Y ex sty m V S sex ssty mA mB mC mD mE mF x y oX oY i true P) [.h,J1,J2,J3,J4] [2,3,12,14,15,16,17,53,54,55,61,62] [] (by have:=hoX (Y i 3) (Y i 4);have:=hoY (Y i 3) (Y i 4);(try simp only [b1,b2,b3,gS,psp2,psp4,psp11]);(try simp only [gT] at *);try omega) ?_
      exact pspk2_ok hn hY hm8 hS hsort hmA hmB hmC hmD hmE hmF hx hy hoX hoY hof hmv far0 hi h3 (fun e=>absurd e (by decide)) ih
    rcases cl (Int.add (oX (Y i 3) (Y i 4)) (Int.mul x (16))) (8192) with ⟨b4,b4p⟩|⟨b4,b4p⟩
    · refine ar 2 [(13,75,false),(23,92,false),(17,9,true),(11,101,true)] 16 ((band (psp4 oE Y i) (band (psp11 x oX Y i y oY) (band (Bool.not far) (band (ile (-8192) (psp2 oX Y i x)) (band (Bool.not (ile (psp2 oX Y i x) (8192))) true)))))) (pspk2X n Y ex sty m V S sex ssty mA mB mC mD mE mF x y oX oY i true P) [.h,J1,J2,J3,J4] [2,3,12,14,15,16,17,53,54,55,61,62] [] (by have:=hoX (Y i 3) (Y i 4);have:=hoY (Y i 3) (Y i 4);(try simp only [b1,b2,b3,b4,gS,psp2,psp4,psp11]);(try simp only [gT] at *);try omega) ?_
      exact pspk2_ok hn hY hm8 hS hsort hmA hmB hmC hmD hmE hmF hx hy hoX hoY hof hmv far0 hi h3 (fun e=>absurd e (by decide)) ih
    rcases cl (-8192) (Int.add (oY (Y i 3) (Y i 4)) (Int.mul y (16))) with ⟨b5,b5p⟩|⟨b5,b5p⟩
    · refine ar 2 [(13,75,false),(23,92,false),(17,9,true),(11,101,false),(17,9,false)] 18 ((band (psp4 oE Y i) (band (psp11 x oX Y i y oY) (band (Bool.not far) (band (ile (-8192) (psp2 oX Y i x)) (band (Bool.not (Bool.not (ile (psp2 oX Y i x) (8192)))) (band (Bool.not (ile (-8192) (Int.add (oY (Y i 3) (Y i 4)) (Int.mul y (16))))) true))))))) (pspk2X n Y ex sty m V S sex ssty mA mB mC mD mE mF x y oX oY i true P) [.h,J1,J2,J3,J4] [2,3,12,14,15,16,17,53,54,55,61,62] [] (by have:=hoY (Y i 3) (Y i 4);have:=hoX (Y i 3) (Y i 4);(try simp only [b1,b2,b3,b4,b5,gS,psp2,psp4,psp11]);(try simp only [gT] at *);try omega) ?_
      exact pspk2_ok hn hY hm8 hS hsort hmA hmB hmC hmD hmE hmF hx hy hoX hoY hof hmv far0 hi h3 (fun e=>absurd e (by decide)) ih
    refine ar 2 [(13,75,false),(23,92,false),(17,9,true),(11,101,false),(17,9,true)] 18 ((band (psp4 oE Y i) (band (psp11 x oX Y i y oY) (band (Bool.not far) (band (ile (-8192) (psp2 oX Y i x)) (band (Bool.not (Bool.not (ile (psp2 oX Y i x) (8192)))) (band (ile (-8192) (Int.add (oY (Y i 3) (Y i 4)) (Int.mul y (16)))) true))))))) (pspk2X n Y ex sty m V S sex ssty mA mB mC mD mE mF x y oX oY i (Bool.not (ile (Int.add (oY (Y i 3) (Y i 4)) (Int.mul y (16))) (8192))) P) [.h,J1,J2,J3,J4] [2,3,12,14,15,16,17,53,54,55,61,62] [] (by have:=hoY (Y i 3) (Y i 4);have:=hoX (Y i 3) (Y i 4);(try simp only [b1,b2,b3,b4,b5,gS,psp2,psp4,psp11]);(try simp only [gT] at *);try omega) ?_
    exact pspk2_ok hn hY hm8 hS hsort hmA hmB hmC hmD hmE hmF hx hy hoX hoY hof hmv far0 hi h3 (fun e=>⟨(hF b2).1,(hF b2).2.1,(hF b2).2.2,⟨b3p,b4p⟩,⟨b5p,le_nf e⟩⟩) ih
  have b2p:=b2
  refine ar 2 [(13,75,false),(23,92,true)] 25 ((band (psp4 oE Y i) (band (psp11 x oX Y i y oY) (band far true)))) (pspk2X n Y ex sty m V S sex ssty mA mB mC mD mE mF x y oX oY i true P) [.h,J1,J2,J3,J4] [2,3,12,14,15,16,17,53,54,55,61,62] [] (by have:=hoY (Y i 3) (Y i 4);have:=hoX (Y i 3) (Y i 4);(try simp only [b1,b2,gS,psp2,psp4,psp11]);(try simp only [gT] at *);try omega) ?_
  exact pspk2_ok hn hY hm8 hS hsort hmA hmB hmC hmD hmE hmF hx hy hoX hoY hof hmv far0 hi h3 (fun e=>absurd e (by decide)) ih
end
section
variable {n:Nat} {Y:Nat→Nat→Int} {ex:Bool} {sty:Bool} {sd:Int} {wd:Int} {m:Nat} {V:Nat→Bool} {S:Nat→Nat→Int} {sex:Bool} {ssty:Bool} {mA:Int} {mB:Int} {mC:Int} {mD:Int} {mE:Int} {mF:Int} {x:Int} {y:Int} {oX:Int→Int→Int} {oY:Int→Int→Int} {oE:Int→Int→Int} (hn:n≤1000) (hY:∀ j k,-32000≤Y j k∧Y j k≤32000) (hm8:m≤8) (hS:∀ j k,-32000≤S j k∧S j k≤32000) (hsort:Sorted m V S) (hmA : -2000000≤mA∧mA≤2000000) (hmB : -2000000≤mB∧mB≤2000000) (hmC : -2000000≤mC∧mC≤2000000) (hmD : -2000000≤mD∧mD≤2000000) (hmE : -40000≤mE∧mE≤40000) (hmF : -40000≤mF∧mF≤40000) (hx : -128≤x∧x≤127) (hy : -128≤y∧y≤127) (hoX:∀ j k,-1000000000000000000≤oX j k∧oX j k≤1000000000000000000) (hoY:∀ j k,-1000000000000000000≤oY j k∧oY j k≤1000000000000000000) (hof:EndsX En 2 (ofsmX n Y ex sty sd wd m V S sex ssty mA mB mC mD mE mF) (fun v H=>v=(.tup [(.fn 43 [(.ptr J2 0)] []),(zi (0))])∧H.nx=.o J1∧H.hp.get J2=some (ce 123 [(zi mA),(zi mB),(zi mC),(zi mD),(zi mE),(zi mF),(zi (0)),(zi (0)),.nils,(zi (0)),(zi (0)),.nils]))) (hmv:∀ (px py:Int),(-32000≤px∧px≤32000)→(-32000≤py∧py≤32000)→EndsX En 1 (plmX mA mB mC mD mE mF px py) (fun v H=>v=.tup [.agg [.int .i64 (oX px py),.int .i64 (oY px py)],.int .i64 (oE px py)]∧H.nx=.o .h))
include hn hY hm8 hS hsort hmA hmB hmC hmD hmE hmF hx hy hoX hoY hof hmv
theorem pspo_ok (hok:StepsOK n Y) (d:Nat):∀ (i:Nat) (far:Bool) (P:Nat→Nat→Int),n - i=d→i≤n→(∀ j,j < i→PRow Y oX oY x y P j)→(far=false→∀ j,j < i→Near Y P j)→EndsX En 2 (pspoX n Y ex sty m V S sex ssty mA mB mC mD mE mF x y i far P) (QP n Y oX oY x y J2 J3):=by
  induction d using Nat.strongRecOn with
  | ind d IH =>
    intro i far P hd hi hP hN
    have hY32:=hY
    have ih:∀ (f:Bool) (l:List Int),i < n→PRow Y oX oY x y (updR P i l) i→(f=false→far=false∧Near Y (updR P i l) i)→EndsX En 2 (pspoX n Y ex sty m V S sex ssty mA mB mC mD mE mF x y (Nat.add i 1) f (updR P i l)) (QP n Y oX oY x y J2 J3):=fun f l h1 h2 h3 =>
      IH (n - (i+1)) (by omega) (i+1) f _ rfl (by omega) (fun j hj=>by
        by_cases e:j=i
        · subst e;exact h2
        · exact prow_ne e (hP j (by omega))) (fun e j hj=>by
        obtain ⟨g1,g2⟩:=h3 e
        by_cases e2:j=i
        · subst e2;exact g2
        exact near_ne e2 (hN g1 j (by omega)))
    clear IH
    rcases ce_ (Nat.succ i) n with ⟨b1,b1p⟩|⟨b1,b1p⟩
    · rcases btf far with b2|b2
      · have b2p:=b2
        refine fi 2 [(5,56,false),(7,116,false)] 10 ((band (Bool.not (psp0 i n)) (band (Bool.not far) true))) [.h,J1,J3] (.tup [(.sa J2 0 n 7),(zi (0))]) [(J2,(o7 n P true false))] J3 (by (try simp only [b1,b2,gS,psp0]);(try simp only [gT] at *);try omega) ?_
        exact .inr ⟨P,rfl,rfl,rfl,fun j hj=>hP j (by omega),fun j hj=>hN b2 j (by omega),hok⟩
      have b2p:=b2
      refine fi 2 [(5,56,false),(7,116,true)] 8 ((band (Bool.not (psp0 i n)) (band far true))) [.h,J1] (.tup [.nils,(zi (26))]) [] J2 (by (try simp only [b1,b2,gS,psp0]);(try simp only [gT] at *);try omega) ?_
      exact .inl ⟨26,rfl,rfl,by decide⟩
    rcases ci (Y i 0) (4) with ⟨b3,b3p⟩|⟨b3,b3p⟩
    · rcases ci (Y i 0) (3) with ⟨b4,b4p⟩|⟨b4,b4p⟩
      · refine ac 2 [(5,56,true),(35,5,false),(6,7,false)] 35 ((band (psp0 i n) (band (psp9 i n) (band (Bool.not (ieq (Y i 0) (4))) (band (Bool.not (ieq (Y i 0) (3))) true))))) (pspe3X n Y ex sty m V S sex ssty mA mB mC mD mE mF x y i far P) [.h,J1,J2,J3,J4] [[2,3,12,14,15,16,17,18,53,54,55,61,62]] (by have:=hY i 0;(try simp only [b1,b3,b4,gS,psp0,psp9]);(try simp only [gT] at *);try omega) ?_
        refine ca (plmX mA mB mC mD mE mF (Y i 1) (Y i 2)) [J2] (hmv (px:=(Y i 1)) (py:=(Y i 2)) (hY32 _ _) (hY32 _ _)) (fun v' H' q=>?_)
        rcases q with ⟨rfl,hnx3⟩
        refine ⟨(.tup [(az [oX (Y i 1) (Y i 2),oY (Y i 1) (Y i 2)]),(zi (oE (Y i 1) (Y i 2)))]),[],J5,(by kernel_rfl),(by rw [hnx3];kernel_rfl),trivial,(by kernel_rfl),?_⟩
        rcases ci (oE (Y i 1) (Y i 2)) (0) with ⟨b5,b5p⟩|⟨b5,b5p⟩
        · refine fi 2 [(13,75,true)] 9 (band (Bool.not (ieq (oE (Y i 1) (Y i 2)) (0))) true) [.h,J1] (.tup [.nils,(zi (oE (Y i 1) (Y i 2)))]) [] J2 (by have:=hY i 0;(try simp only [b1,b3,b4,b5,gS]);(try simp only [gT] at *);try omega) ?_
          exact .inl ⟨_,rfl,rfl,by assumption⟩
        rcases btf far with b6|b6
        · have b6p:=b6
          rcases cl (-8192) (Int.add (oX (Y i 1) (Y i 2)) (Int.mul x (16))) with ⟨b7,b7p⟩|⟨b7,b7p⟩
          · refine arF 3 2 [(13,75,false),(23,92,false),(17,9,false)] 47 ((psp14 oE Y i x oX y oY (band (Bool.not far) (band (Bool.not (psp6 oX Y i x)) (psp13 i n))))) (pspoX n Y ex sty m V S sex ssty mA mB mC mD mE mF x y (Nat.add i 1) true (updR P i [(Y i 0),(Int.add (oX (Y i 1) (Y i 2)) (Int.mul x (16))),(Int.add (oY (Y i 1) (Y i 2)) (Int.mul y (16))),(Y i 3),(Y i 4),(Y i 5),(Y i 6)])) [.h,J1,J2,J3] [2,3,12,14,15,53,54,55] [] ⟨oeFold (by kernel_rfl) rfl (by kernel_rfl),trivial⟩ (by have:=hoX (Y i 1) (Y i 2);have:=hoY (Y i 1) (Y i 2);have:=hY i 0;(try simp only [b1,b3,b4,b5,b6,b7,gS,psp0,psp5,psp6,psp12,psp13,psp14]);(try simp only [gT] at *);try omega) ?_
            exact ih _ _ (by omega) (prow1 b3p b4p) (fun e=>absurd e (by decide))
          rcases cl (Int.add (oX (Y i 1) (Y i 2)) (Int.mul x (16))) (8192) with ⟨b8,b8p⟩|⟨b8,b8p⟩
          · refine arF 3 2 [(13,75,false),(23,92,false),(17,9,true),(11,101,true)] 36 ((psp14 oE Y i x oX y oY (band (Bool.not far) (band (psp6 oX Y i x) (band (Bool.not (ile (Int.add (oX (Y i 1) (Y i 2)) (Int.mul x (16))) (8192))) (psp13 i n)))))) (pspoX n Y ex sty m V S sex ssty mA mB mC mD mE mF x y (Nat.add i 1) true (updR P i [(Y i 0),(Int.add (oX (Y i 1) (Y i 2)) (Int.mul x (16))),(Int.add (oY (Y i 1) (Y i 2)) (Int.mul y (16))),(Y i 3),(Y i 4),(Y i 5),(Y i 6)])) [.h,J1,J2,J3] [2,3,12,14,15,53,54,55] [] ⟨oeFold (by kernel_rfl) rfl (by kernel_rfl),trivial⟩ (by have:=hoX (Y i 1) (Y i 2);have:=hoY (Y i 1) (Y i 2);have:=hY i 0;(try simp only [b1,b3,b4,b5,b6,b7,b8,gS,psp0,psp5,psp6,psp12,psp13,psp14]);(try simp only [gT] at *);try omega) ?_
            exact ih _ _ (by omega) (prow1 b3p b4p) (fun e=>absurd e (by decide))
          rcases cl (-8192) (Int.add (oY (Y i 1) (Y i 2)) (Int.mul y (16))) with ⟨b9,b9p⟩|⟨b9,b9p⟩
          · refine arF 3 2 [(13,75,false),(23,92,false),(17,9,true),(11,101,false),(17,9,false)] 38 ((psp14 oE Y i x oX y oY (band (Bool.not far) (band (psp6 oX Y i x) (band (psp8 oX Y i x) (band (Bool.not (psp7 oY Y i y)) (psp13 i n))))))) (pspoX n Y ex sty m V S sex ssty mA mB mC mD mE mF x y (Nat.add i 1) true (updR P i [(Y i 0),(Int.add (oX (Y i 1) (Y i 2)) (Int.mul x (16))),(Int.add (oY (Y i 1) (Y i 2)) (Int.mul y (16))),(Y i 3),(Y i 4),(Y i 5),(Y i 6)])) [.h,J1,J2,J3] [2,3,12,14,15,53,54,55] [] ⟨oeFold (by kernel_rfl) rfl (by kernel_rfl),trivial⟩ (by have:=hoY (Y i 1) (Y i 2);have:=hoX (Y i 1) (Y i 2);have:=hY i 0;(try simp only [b1,b3,b4,b5,b6,b7,b8,b9,gS,psp0,psp5,psp6,psp7,psp8,psp12,psp13,psp14]);(try simp only [gT] at *);try omega) ?_
            exact ih _ _ (by omega) (prow1 b3p b4p) (fun e=>absurd e (by decide))
          refine arF 3 2 [(13,75,false),(23,92,false),(17,9,true),(11,101,false),(17,9,true)] 38 ((psp14 oE Y i x oX y oY (band (Bool.not far) (band (psp6 oX Y i x) (band (psp8 oX Y i x) (band (psp7 oY Y i y) (psp13 i n))))))) (pspoX n Y ex sty m V S sex ssty mA mB mC mD mE mF x y (Nat.add i 1) (Bool.not (ile (Int.add (oY (Y i 1) (Y i 2)) (Int.mul y (16))) (8192))) (updR P i [(Y i 0),(Int.add (oX (Y i 1) (Y i 2)) (Int.mul x (16))),(Int.add (oY (Y i 1) (Y i 2)) (Int.mul y (16))),(Y i 3),(Y i 4),(Y i 5),(Y i 6)])) [.h,J1,J2,J3] [2,3,12,14,15,53,54,55] [] ⟨oeFold (by kernel_rfl) rfl (by kernel_rfl),trivial⟩ (by have:=hoY (Y i 1) (Y i 2);have:=hoX (Y i 1) (Y i 2);have:=hY i 0;(try simp only [b1,b3,b4,b5,b6,b7,b8,b9,gS,psp0,psp5,psp6,psp7,psp8,psp12,psp13,psp14]);(try simp only [gT] at *);try omega) ?_
          exact ih _ _ (by omega) (prow1 b3p b4p) (fun e=>⟨b6,near1 b4p ⟨b7p,b8p⟩ ⟨b9p,le_nf e⟩⟩)
        have b6p:=b6
        refine arF 3 2 [(13,75,false),(23,92,true)] 45 ((psp14 oE Y i x oX y oY (band far (psp13 i n)))) (pspoX n Y ex sty m V S sex ssty mA mB mC mD mE mF x y (Nat.add i 1) true (updR P i [(Y i 0),(Int.add (oX (Y i 1) (Y i 2)) (Int.mul x (16))),(Int.add (oY (Y i 1) (Y i 2)) (Int.mul y (16))),(Y i 3),(Y i 4),(Y i 5),(Y i 6)])) [.h,J1,J2,J3] [2,3,12,14,15,53,54,55] [] ⟨oeFold (by kernel_rfl) rfl (by kernel_rfl),trivial⟩ (by have:=hoY (Y i 1) (Y i 2);have:=hoX (Y i 1) (Y i 2);have:=hY i 0;(try simp only [b1,b3,b4,b5,b6,gS,psp0,psp5,psp12,psp13,psp14]);(try simp only [gT] at *);try omega) ?_
        exact ih _ _ (by omega) (prow1 b3p b4p) (fun e=>absurd e (by decide))
      refine ac 2 [(5,56,true),(35,5,false),(6,7,true)] 33 ((band (psp0 i n) (band (psp9 i n) (band (Bool.not (ieq (Y i 0) (4))) (band (ieq (Y i 0) (3)) true))))) (pspe4X n Y ex sty m V S sex ssty mA mB mC mD mE mF x y i far P) [.h,J1,J2,J3,J4] [[2,3,12,14,15,16,17,18,53,54,55,61,62]] (by have:=hY i 0;(try simp only [b1,b3,b4,gS,psp0,psp9]);(try simp only [gT] at *);try omega) ?_
      refine ca (plmX mA mB mC mD mE mF (Y i 1) (Y i 2)) [J2] (hmv (px:=(Y i 1)) (py:=(Y i 2)) (hY32 _ _) (hY32 _ _)) (fun v' H' q=>?_)
      rcases q with ⟨rfl,hnx4⟩
      refine ⟨(.tup [(az [oX (Y i 1) (Y i 2),oY (Y i 1) (Y i 2)]),(zi (oE (Y i 1) (Y i 2)))]),[],J5,(by kernel_rfl),(by rw [hnx4];kernel_rfl),trivial,(by kernel_rfl),?_⟩
      rcases ci (oE (Y i 1) (Y i 2)) (0) with ⟨b10,b10p⟩|⟨b10,b10p⟩
      · refine fi 2 [(13,75,true)] 9 (band (Bool.not (ieq (oE (Y i 1) (Y i 2)) (0))) true) [.h,J1] (.tup [.nils,(zi (oE (Y i 1) (Y i 2)))]) [] J2 (by have:=hY i 0;(try simp only [b1,b3,b4,b10,gS]);(try simp only [gT] at *);try omega) ?_
        exact .inl ⟨_,rfl,rfl,by assumption⟩
      rcases btf far with b11|b11
      · have b11p:=b11
        rcases cl (-8192) (Int.add (oX (Y i 1) (Y i 2)) (Int.mul x (16))) with ⟨b12,b12p⟩|⟨b12,b12p⟩
        · refine ar 2 [(13,75,false),(23,92,false),(17,9,false)] 27 ((psp14 oE Y i x oX y oY (band (Bool.not far) (band (Bool.not (psp6 oX Y i x)) true)))) (pspk1X n Y ex sty m V S sex ssty mA mB mC mD mE mF x y oX oY i true P) [.h,J1,J2,J3,J4] [2,3,12,14,15,16,17,53,54,55,61,62] [] (by have:=hoX (Y i 1) (Y i 2);have:=hoY (Y i 1) (Y i 2);have:=hY i 0;(try simp only [b1,b3,b4,b10,b11,b12,gS,psp5,psp6,psp12,psp14]);(try simp only [gT] at *);try omega) ?_
          exact pspk1_ok hn hY hm8 hS hsort hmA hmB hmC hmD hmE hmF hx hy hoX hoY hof hmv far (by omega) b4p (fun e=>absurd e (by decide)) (fun f l a b=>ih f l (by omega) a b)
        rcases cl (Int.add (oX (Y i 1) (Y i 2)) (Int.mul x (16))) (8192) with ⟨b13,b13p⟩|⟨b13,b13p⟩
        · refine ar 2 [(13,75,false),(23,92,false),(17,9,true),(11,101,true)] 16 ((psp14 oE Y i x oX y oY (band (Bool.not far) (band (psp6 oX Y i x) (band (Bool.not (ile (Int.add (oX (Y i 1) (Y i 2)) (Int.mul x (16))) (8192))) true))))) (pspk1X n Y ex sty m V S sex ssty mA mB mC mD mE mF x y oX oY i true P) [.h,J1,J2,J3,J4] [2,3,12,14,15,16,17,53,54,55,61,62] [] (by have:=hoX (Y i 1) (Y i 2);have:=hoY (Y i 1) (Y i 2);have:=hY i 0;(try simp only [b1,b3,b4,b10,b11,b12,b13,gS,psp5,psp6,psp12,psp14]);(try simp only [gT] at *);try omega) ?_
          exact pspk1_ok hn hY hm8 hS hsort hmA hmB hmC hmD hmE hmF hx hy hoX hoY hof hmv far (by omega) b4p (fun e=>absurd e (by decide)) (fun f l a b=>ih f l (by omega) a b)
        rcases cl (-8192) (Int.add (oY (Y i 1) (Y i 2)) (Int.mul y (16))) with ⟨b14,b14p⟩|⟨b14,b14p⟩
        · refine ar 2 [(13,75,false),(23,92,false),(17,9,true),(11,101,false),(17,9,false)] 18 ((psp14 oE Y i x oX y oY (band (Bool.not far) (band (psp6 oX Y i x) (band (psp8 oX Y i x) (band (Bool.not (psp7 oY Y i y)) true)))))) (pspk1X n Y ex sty m V S sex ssty mA mB mC mD mE mF x y oX oY i true P) [.h,J1,J2,J3,J4] [2,3,12,14,15,16,17,53,54,55,61,62] [] (by have:=hoY (Y i 1) (Y i 2);have:=hoX (Y i 1) (Y i 2);have:=hY i 0;(try simp only [b1,b3,b4,b10,b11,b12,b13,b14,gS,psp5,psp6,psp7,psp8,psp12,psp14]);(try simp only [gT] at *);try omega) ?_
          exact pspk1_ok hn hY hm8 hS hsort hmA hmB hmC hmD hmE hmF hx hy hoX hoY hof hmv far (by omega) b4p (fun e=>absurd e (by decide)) (fun f l a b=>ih f l (by omega) a b)
        refine ar 2 [(13,75,false),(23,92,false),(17,9,true),(11,101,false),(17,9,true)] 18 ((psp14 oE Y i x oX y oY (band (Bool.not far) (band (psp6 oX Y i x) (band (psp8 oX Y i x) (band (psp7 oY Y i y) true)))))) (pspk1X n Y ex sty m V S sex ssty mA mB mC mD mE mF x y oX oY i (Bool.not (ile (Int.add (oY (Y i 1) (Y i 2)) (Int.mul y (16))) (8192))) P) [.h,J1,J2,J3,J4] [2,3,12,14,15,16,17,53,54,55,61,62] [] (by have:=hoY (Y i 1) (Y i 2);have:=hoX (Y i 1) (Y i 2);have:=hY i 0;(try simp only [b1,b3,b4,b10,b11,b12,b13,b14,gS,psp5,psp6,psp7,psp8,psp12,psp14]);(try simp only [gT] at *);try omega) ?_
        exact pspk1_ok hn hY hm8 hS hsort hmA hmB hmC hmD hmE hmF hx hy hoX hoY hof hmv far (by omega) b4p (fun e=>⟨b11,⟨b12p,b13p⟩,⟨b14p,le_nf e⟩⟩) (fun f l a b=>ih f l (by omega) a b)
      have b11p:=b11
      refine ar 2 [(13,75,false),(23,92,true)] 25 ((psp14 oE Y i x oX y oY (band far true))) (pspk1X n Y ex sty m V S sex ssty mA mB mC mD mE mF x y oX oY i true P) [.h,J1,J2,J3,J4] [2,3,12,14,15,16,17,53,54,55,61,62] [] (by have:=hoY (Y i 1) (Y i 2);have:=hoX (Y i 1) (Y i 2);have:=hY i 0;(try simp only [b1,b3,b4,b10,b11,gS,psp5,psp12,psp14]);(try simp only [gT] at *);try omega) ?_
      exact pspk1_ok hn hY hm8 hS hsort hmA hmB hmC hmD hmE hmF hx hy hoX hoY hof hmv far (by omega) b4p (fun e=>absurd e (by decide)) (fun f l a b=>ih f l (by omega) a b)
    refine arF 3 2 [(5,56,true),(35,5,true)] 31 ((band (psp0 i n) (band (psp9 i n) (band (ieq (Y i 0) (4)) (psp13 i n))))) (pspoX n Y ex sty m V S sex ssty mA mB mC mD mE mF x y (Nat.add i 1) far (updR P i [(Y i 0),(Y i 1),(Y i 2),(Y i 3),(Y i 4),(Y i 5),(Y i 6)])) [.h,J1,J2,J3] [2,3,12,14,15,53,54,55] [] ⟨oeFold (by kernel_rfl) rfl (by kernel_rfl),trivial⟩ (by have:=hY i 0;(try simp only [b1,b3,gS,psp0,psp9,psp13]);(try simp only [gT] at *);try omega) ?_
    exact ih _ _ (by omega) (prow4 b3p) (fun e=>⟨e,near4 b3p⟩)
theorem pspm_ok:EndsX En 2 (pspmX n Y ex sty sd wd m V S sex ssty mA mB mC mD mE mF x y) (QP n Y oX oY x y J2 J3):=by
  have hY9:∀ j k,-1000000000≤Y j k∧Y j k≤1000000000:=fun j k=>by have:=hY j k;omega
  refine ac 2 [] 12 true (pspe1X n Y ex sty sd wd m V S sex ssty mA mB mC mD mE mF x y) [.h,J1,J2,J3] [[2,3,4,5]] rfl ?_
  refine ca (gsmX n Y ex sty sd wd m V S sex ssty) [.h,J1] (gsm_ok (n:=n) (Y:=Y) (ex:=ex) (sty:=sty) (sd:=sd) (wd:=wd) (m:=m) (V:=V) (S:=S) (sex:=sex) (ssty:=ssty) hY9 hn hm8 hS hsort) (fun v' H' q=>?_)
  rcases q with ⟨e_1,rfl,hnx1,hg_1⟩
  refine ⟨(zi e_1),[],J4,(by kernel_rfl),(by rw [hnx1];kernel_rfl),trivial,(by kernel_rfl),?_⟩
  rcases ci e_1 (0) with ⟨b1,b1p⟩|⟨b1,b1p⟩
  · refine fi 2 [(7,24,true)] 9 (band (Bool.not (ieq e_1 (0))) true) [.h,J1] (.tup [.nils,(zi e_1)]) [] J2 (by (try simp only [b1,gS]);(try simp only [gT] at *);try omega) ?_
    exact .inl ⟨_,rfl,rfl,by assumption⟩
  refine ac 2 [(7,24,false),(60,17,false),(5,21,false),(30,17,false),(5,21,false),(30,17,false),(5,21,false),(30,17,false),(5,21,false),(63,17,false),(5,21,false),(30,17,false),(5,21,false),(55,9,true),(10,34,false),(13,9,true),(11,38,false)] 7 (band (Bool.not (Bool.not (ieq e_1 (0)))) (band (Bool.not (ilt mA (-16777216))) (band (Bool.not (ilt (16777216) mA)) (band (Bool.not (ilt mB (-16777216))) (band (Bool.not (ilt (16777216) mB)) (band (Bool.not (ilt mC (-16777216))) (band (Bool.not (ilt (16777216) mC)) (band (Bool.not (ilt mD (-16777216))) (band (Bool.not (ilt (16777216) mD)) (band (Bool.not (ilt mE (-536870912))) (band (Bool.not (ilt (536870912) mE)) (band (Bool.not (ilt mF (-536870912))) (band (Bool.not (ilt (536870912) mF)) (band (ile (-600) x) (band (Bool.not (Bool.not (ile x (600)))) (band (ile (-600) y) (band (Bool.not (Bool.not (ile y (600)))) true))))))))))))))))) (pspe2X n Y ex sty sd wd m V S sex ssty mA mB mC mD mE mF x y) [.h,J1,J2] [[2,3,4]] (by (try simp only [b1,gS]);(try simp only [gT] at *);try omega) ?_
  refine ca (ofsmX n Y ex sty sd wd m V S sex ssty mA mB mC mD mE mF) [.h,J1] (hof) (fun v' H' q=>?_)
  rcases q with ⟨rfl,hnx2,ho0_2⟩
  refine ⟨(.tup [(.fn 43 [(.ptr J3 0)] []),(zi (0))]),[(J3,(ce 123 [(zi mA),(zi mB),(zi mC),(zi mD),(zi mE),(zi mF),(zi (0)),(zi (0)),.nils,(zi (0)),(zi (0)),.nils]))],J4,(by kernel_rfl),(by rw [hnx2];kernel_rfl),⟨⟨J2,_,(Nat.le_of_ble_eq_true (by kernel_rfl)),(by show _=_;kernel_rfl),ho0_2,(by show _=_;kernel_rfl)⟩,trivial⟩,(by kernel_rfl),?_⟩
  refine ar 2 [] 36 (band (band (band (Nat.beq n n) (band (Nat.ble n 1099511627776) (Nat.ble (Nat.mul 56 n) 1099511627776))) true) true) (pspoX n Y ex sty m V S sex ssty mA mB mC mD mE mF x y 0 false (fun _ _=>0)) [.h,J1,J3,J4] [2,3,12,14,15,53,54,55] [] (by (try simp only [b1,gS]);(try simp only [gT] at *);try omega) ?_
  exact pspo_ok hn hY hm8 hS hsort hmA hmB hmC hmD hmE hmF hx hy hoX hoY hof hmv (hg_1 b1p) (n - 0) 0 false _ rfl (by omega) (fun j hj=>by omega) (fun _ j hj=>by omega)
end
section
variable (n:Nat) (Y:Nat→Nat→Int) (ex sty:Bool) (sd wd:Int) (m:Nat) (V:Nat→Bool) (S:Nat→Nat→Int) (sex ssty:Bool) (mA mB mC mD mE mF x y e_1 sx sy:Int) (q2:Nat) (K2:Nat→Nat→Int) (oX oY oE:Int→Int→Int) (i:Nat) (far:Bool) (P:Nat→Nat→Int)
noncomputable def psbmX:St:=⟨getF (enterA En 9 [(.agg [(zi sd),(zi wd),(.sa .h 0 n 7),(.sa J1 0 m 3)]),(az [mA,mB,mC,mD,mE,mF]),(zi x),(zi y)] false),[],(zs [(o7 n Y ex sty),(o3 m V S sex ssty)]),J2,2⟩
noncomputable def psbe1X:St:=⟨cf (gsmX n Y ex sty sd wd m V S sex ssty) J4 [.h,J1],[(fr 9 118 (ts [2,3,4,5] [zi x,zi y,.ptr J2 0,.ptr J3 0]) [rA En 9 (pb 12) 1,cA En 9 (pb 13),cA En 9 (pb 7)])],(zs [(o7 n Y ex sty),(o3 m V S sex ssty),(ce 36 [(zi sd),(zi wd),(.sa .h 0 n 7),(.sa J1 0 m 3)]),(zc 39 [mA,mB,mC,mD,mE,mF])]),J4,2⟩
noncomputable def psbe2X:St:=⟨cf (ofsmX n Y ex sty sd wd m V S sex ssty mA mB mC mD mE mF) J3 [.h,J1],[(fr 9 118 (ts [2,3,4] [zi x,zi y,.ptr J2 0]) [rA En 9 (pb 62) 2,cA En 9 (pb 63)])],(zs [(o7 n Y ex sty),(o3 m V S sex ssty),(ce 36 [(zi sd),(zi wd),(.sa .h 0 n 7),(.sa J1 0 m 3)])]),J3,2⟩
noncomputable def psboX:St:=⟨(fr 9 118 (ts [2,3,12,14,15,53,54,55] [zi x,zi y,.fn 44 [(.ptr J2 0)] [],.bool far,.sa J3 0 n 7,.sa .h 0 n 7,zn n,zn i]) [cA En 9 (pb 8180),lA En 9 (pb 8180),.blk 0,cA En 9 (pb 1023)]),[],(zs [(o7 n Y ex sty),(o3 m V S sex ssty),(ce 123 [(zi mA),(zi mB),(zi mC),(zi mD),(zi mE),(zi mF),(zi sx),(zi (0)),.nils,(zi sy),(zi (0)),(.sa J4 0 (Nat.succ q2) 2)]),(o7 n P true false),(.arr (Nat.succ q2) 2 (rowK [.i64,.i64] K2) none 159 false false)]),J5,2⟩
noncomputable def psbe3X:St:=⟨cf (hoimX mA mB mC mD mE mF sx sy q2 K2 false false (Y i 1) (Y i 2)) J6 [J2,J5],[(fr 9 118 (ts [2,3,12,14,15,16,17,18,53,54,55,61,62] [zi x,zi y,.fn 44 [(.ptr J2 0)] [],.bool far,.sa J3 0 n 7,zn i,.ptr J4 0,zi (0),.sa .h 0 n 7,zn n,zn i,zi (1),zi (0)]) [rA En 9 (pb 268068146) 5,cA En 9 (pb 268068147),.blk 3,cA En 9 (pb 33508519),lA En 9 (pb 4188564),.blk 2,cA En 9 (pb 523571),.blk 1,cA En 9 (pb 65447),lA En 9 (pb 8180),.blk 0,cA En 9 (pb 1023)])],(zs [(o7 n Y ex sty),(o3 m V S sex ssty),(ce 123 [(zi mA),(zi mB),(zi mC),(zi mD),(zi mE),(zi mF),(zi sx),(zi (0)),.nils,(zi sy),(zi (0)),(.sa J5 0 (Nat.succ q2) 2)]),(o7 n P true false),(zc 63 [Y i 0,Y i 1,Y i 2,Y i 3,Y i 4,Y i 5,Y i 6]),(.arr (Nat.succ q2) 2 (rowK [.i64,.i64] K2) none 159 false false)]),J6,2⟩
noncomputable def psbe4X:St:=⟨cf (hoimX mA mB mC mD mE mF sx sy q2 K2 false false (Y i 1) (Y i 2)) J6 [J2,J5],[(fr 9 118 (ts [2,3,12,14,15,16,17,18,53,54,55,61,62] [zi x,zi y,.fn 44 [(.ptr J2 0)] [],.bool far,.sa J3 0 n 7,zn i,.ptr J4 0,zi (0),.sa .h 0 n 7,zn n,zn i,zi (3),zi (0)]) [rA En 9 (pb 268068146) 5,cA En 9 (pb 268068147),.blk 3,cA En 9 (pb 33508519),lA En 9 (pb 4188564),.blk 2,cA En 9 (pb 523571),.blk 1,cA En 9 (pb 65447),lA En 9 (pb 8180),.blk 0,cA En 9 (pb 1023)])],(zs [(o7 n Y ex sty),(o3 m V S sex ssty),(ce 123 [(zi mA),(zi mB),(zi mC),(zi mD),(zi mE),(zi mF),(zi sx),(zi (0)),.nils,(zi sy),(zi (0)),(.sa J5 0 (Nat.succ q2) 2)]),(o7 n P true false),(zc 63 [Y i 0,Y i 1,Y i 2,Y i 3,Y i 4,Y i 5,Y i 6]),(.arr (Nat.succ q2) 2 (rowK [.i64,.i64] K2) none 159 false false)]),J6,2⟩
noncomputable def psbk1X:St:=⟨(fr 9 118 (ts [2,3,12,14,15,16,17,53,54,55,61,62] [zi x,zi y,.fn 44 [(.ptr J2 0)] [],.bool far,.sa J3 0 n 7,zn i,.ptr J4 0,.sa .h 0 n 7,zn n,zn i,zi (3),zi (1)]) [cA En 9 (pb 4188564),lA En 9 (pb 4188564),.blk 2,cA En 9 (pb 523571),.blk 1,cA En 9 (pb 65447),lA En 9 (pb 8180),.blk 0,cA En 9 (pb 1023)]),[],(zs [(o7 n Y ex sty),(o3 m V S sex ssty),(ce 123 [(zi mA),(zi mB),(zi mC),(zi mD),(zi mE),(zi mF),(zi sx),(zi (0)),.nils,(zi sy),(zi (0)),(.sa J5 0 (Nat.succ q2) 2)]),(o7 n P true false),(zc 63 [Y i 0,Int.add (oX (Y i 1) (Y i 2)) (Int.mul x (16)),Int.add (oY (Y i 1) (Y i 2)) (Int.mul y (16)),Y i 3,Y i 4,Y i 5,Y i 6]),(.arr (Nat.succ q2) 2 (rowK [.i64,.i64] K2) none 159 false false)]),J6,2⟩
noncomputable def psbe5X:St:=⟨cf (hoimX mA mB mC mD mE mF sx sy q2 K2 false false (Y i 3) (Y i 4)) J6 [J2,J5],[(fr 9 118 (ts [2,3,12,14,15,16,17,18,53,54,55,61,62] [zi x,zi y,.fn 44 [(.ptr J2 0)] [],.bool far,.sa J3 0 n 7,zn i,.ptr J4 0,zi (1),.sa .h 0 n 7,zn n,zn i,zi (3),zi (1)]) [rA En 9 (pb 268068146) 5,cA En 9 (pb 268068147),.blk 3,cA En 9 (pb 33508519),lA En 9 (pb 4188564),.blk 2,cA En 9 (pb 523571),.blk 1,cA En 9 (pb 65447),lA En 9 (pb 8180),.blk 0,cA En 9 (pb 1023)])],(zs [(o7 n Y ex sty),(o3 m V S sex ssty),(ce 123 [(zi mA),(zi mB),(zi mC),(zi mD),(zi mE),(zi mF),(zi sx),(zi (0)),.nils,(zi sy),(zi (0)),(.sa J5 0 (Nat.succ q2) 2)]),(o7 n P true false),(zc 63 [Y i 0,Int.add (oX (Y i 1) (Y i 2)) (Int.mul x (16)),Int.add (oY (Y i 1) (Y i 2)) (Int.mul y (16)),Y i 3,Y i 4,Y i 5,Y i 6]),(.arr (Nat.succ q2) 2 (rowK [.i64,.i64] K2) none 159 false false)]),J6,2⟩
noncomputable def psbk2X:St:=⟨(fr 9 118 (ts [2,3,12,14,15,16,17,53,54,55,61,62] [zi x,zi y,.fn 44 [(.ptr J2 0)] [],.bool far,.sa J3 0 n 7,zn i,.ptr J4 0,.sa .h 0 n 7,zn n,zn i,zi (3),zi (2)]) [cA En 9 (pb 4188564),lA En 9 (pb 4188564),.blk 2,cA En 9 (pb 523571),.blk 1,cA En 9 (pb 65447),lA En 9 (pb 8180),.blk 0,cA En 9 (pb 1023)]),[],(zs [(o7 n Y ex sty),(o3 m V S sex ssty),(ce 123 [(zi mA),(zi mB),(zi mC),(zi mD),(zi mE),(zi mF),(zi sx),(zi (0)),.nils,(zi sy),(zi (0)),(.sa J5 0 (Nat.succ q2) 2)]),(o7 n P true false),(zc 63 [Y i 0,Int.add (oX (Y i 1) (Y i 2)) (Int.mul x (16)),Int.add (oY (Y i 1) (Y i 2)) (Int.mul y (16)),Int.add (oX (Y i 3) (Y i 4)) (Int.mul x (16)),Int.add (oY (Y i 3) (Y i 4)) (Int.mul y (16)),Y i 5,Y i 6]),(.arr (Nat.succ q2) 2 (rowK [.i64,.i64] K2) none 159 false false)]),J6,2⟩
noncomputable def psbe6X:St:=⟨cf (hoimX mA mB mC mD mE mF sx sy q2 K2 false false (Y i 5) (Y i 6)) J6 [J2,J5],[(fr 9 118 (ts [2,3,12,14,15,16,17,18,53,54,55,61,62] [zi x,zi y,.fn 44 [(.ptr J2 0)] [],.bool far,.sa J3 0 n 7,zn i,.ptr J4 0,zi (2),.sa .h 0 n 7,zn n,zn i,zi (3),zi (2)]) [rA En 9 (pb 268068146) 5,cA En 9 (pb 268068147),.blk 3,cA En 9 (pb 33508519),lA En 9 (pb 4188564),.blk 2,cA En 9 (pb 523571),.blk 1,cA En 9 (pb 65447),lA En 9 (pb 8180),.blk 0,cA En 9 (pb 1023)])],(zs [(o7 n Y ex sty),(o3 m V S sex ssty),(ce 123 [(zi mA),(zi mB),(zi mC),(zi mD),(zi mE),(zi mF),(zi sx),(zi (0)),.nils,(zi sy),(zi (0)),(.sa J5 0 (Nat.succ q2) 2)]),(o7 n P true false),(zc 63 [Y i 0,Int.add (oX (Y i 1) (Y i 2)) (Int.mul x (16)),Int.add (oY (Y i 1) (Y i 2)) (Int.mul y (16)),Int.add (oX (Y i 3) (Y i 4)) (Int.mul x (16)),Int.add (oY (Y i 3) (Y i 4)) (Int.mul y (16)),Y i 5,Y i 6]),(.arr (Nat.succ q2) 2 (rowK [.i64,.i64] K2) none 159 false false)]),J6,2⟩
end
end Go.Proofs.Ytoahnefofelglaa.gm
end
