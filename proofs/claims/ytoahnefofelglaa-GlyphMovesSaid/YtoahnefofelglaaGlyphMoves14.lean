/- A part of the proof of GlyphMoves; no condition. -/
import Derived.Test.YtoahnefofelglaaGlyphMoves13
set_option linter.unusedVariables false
set_option linter.unusedSimpArgs false
set_option linter.unusedSectionVars false
section
namespace Go.Proofs.Ytoahnefofelglaa.gm
open Go Go.AM
section
variable (nd:Nat) (D:Nat→Nat→Int) (dx dy:Bool) (de md:Nat) (T:Nat→Nat→Int) (tx ty:Bool) (te:Nat) (n0 n1 n2 n3:Int) (up:Bool) (x y:Int) (n:Nat) (Y:Nat→Nat→Int) (m:Nat) (V:Nat→Bool) (S:Nat→Nat→Int) (mA mB mC mD mE mF e_10 e_11 e_12 e_13 e_14:Int) (P_14 P_13:Nat→Nat→Int) (e_15:Int) (P_15 R_16:Nat→Nat→Int) (e_18 e_19 e_20 e_21 e_22 e_23:Int) (P_23 P_22:Nat→Nat→Int) (e_24:Int) (P_24 R_25:Nat→Nat→Int) (e_27:Int)
noncomputable def wkmX:St:=⟨getF (enterA En 5 [] false),[],[],.h,0⟩
noncomputable def lwaannX:St:=⟨getF (enterA En 4 [(.agg [(.sa .h 0 nd 7),(.sa J1 0 md 2)]),(.agg [(.int .i16 n0),(.int .i16 n1),(.int .i16 n2),(.int .i16 n3)]),(.bool up),(.int .i8 x),(.int .i8 y)] false),[],(zs [(.arr nd 7 (rowK RD D) none de dx dy),(.arr md 2 (rowK [.u8,.u8] T) none te tx ty)]),J2,2⟩
noncomputable def lwaaanX:St:=⟨getF (enterA En 4 [(.agg [(.sa .h 0 nd 7),(.sa J1 0 md 2)]),(.agg [(.int .i16 n0),(.int .i16 n1),(.int .i16 n2),(.int .i16 n3)]),(.bool up),(.int .i8 x),(.int .i8 y)] false),[],(zs [(.arr nd 7 (rowK RD D) none de dx dy),(.arr md 2 (rowK [.u8,.u8] T) none te tx ty)]),J2,2⟩
noncomputable def lwaanaX:St:=⟨getF (enterA En 4 [(.agg [(.sa .h 0 nd 7),(.sa J1 0 md 2)]),(.agg [(.int .i16 n0),(.int .i16 n1),(.int .i16 n2),(.int .i16 n3)]),(.bool up),(.int .i8 x),(.int .i8 y)] false),[],(zs [(.arr nd 7 (rowK RD D) none de dx dy),(.arr md 2 (rowK [.u8,.u8] T) none te tx ty)]),J2,2⟩
noncomputable def lwaaaaX:St:=⟨getF (enterA En 4 [(.agg [(.sa .h 0 nd 7),(.sa J1 0 md 2)]),(.agg [(.int .i16 n0),(.int .i16 n1),(.int .i16 n2),(.int .i16 n3)]),(.bool up),(.int .i8 x),(.int .i8 y)] false),[],(zs [(.arr nd 7 (rowK RD D) none de dx dy),(.arr md 2 (rowK [.u8,.u8] T) none te tx ty)]),J2,2⟩
noncomputable def lwannnX:St:=⟨getF (enterA En 4 [(.agg [(.sa .h 0 nd 7),.nils]),(.agg [(.int .i16 n0),(.int .i16 n1),(.int .i16 n2),(.int .i16 n3)]),(.bool up),(.int .i8 x),(.int .i8 y)] false),[],[(.h,(.arr nd 7 (rowK RD D) none de dx dy))],J2,2⟩
noncomputable def lwananX:St:=⟨getF (enterA En 4 [(.agg [(.sa .h 0 nd 7),.nils]),(.agg [(.int .i16 n0),(.int .i16 n1),(.int .i16 n2),(.int .i16 n3)]),(.bool up),(.int .i8 x),(.int .i8 y)] false),[],[(.h,(.arr nd 7 (rowK RD D) none de dx dy))],J2,2⟩
noncomputable def lwnannX:St:=⟨getF (enterA En 4 [(.agg [.nils,(.sa J1 0 md 2)]),(.agg [(.int .i16 n0),(.int .i16 n1),(.int .i16 n2),(.int .i16 n3)]),(.bool up),(.int .i8 x),(.int .i8 y)] false),[],[(J1,(.arr md 2 (rowK [.u8,.u8] T) none te tx ty))],J2,2⟩
noncomputable def lwnanaX:St:=⟨getF (enterA En 4 [(.agg [.nils,(.sa J1 0 md 2)]),(.agg [(.int .i16 n0),(.int .i16 n1),(.int .i16 n2),(.int .i16 n3)]),(.bool up),(.int .i8 x),(.int .i8 y)] false),[],[(J1,(.arr md 2 (rowK [.u8,.u8] T) none te tx ty))],J2,2⟩
noncomputable def lwnnnnX:St:=⟨getF (enterA En 4 [(.agg [.nils,.nils]),(.agg [(.int .i16 n0),(.int .i16 n1),(.int .i16 n2),(.int .i16 n3)]),(.bool up),(.int .i8 x),(.int .i8 y)] false),[],[],J2,2⟩
noncomputable def lwe1X:St:=⟨cf wkmX J4 [],[(fr 4 79 (ts [2,3,4,5,6] [.bool up,.int .i8 x,.int .i8 y,.ptr J2 0,.ptr J3 0]) [rA En 4 (pb 12) 0,cA En 4 (pb 13),cA En 4 (pb 7)])],(zs [(.arr nd 7 (rowK RD D) none de dx dy),(.arr md 2 (rowK [.u8,.u8] T) none te tx ty),(ce 25 [(.sa .h 0 nd 7),(.sa J1 0 md 2)]),(ce 27 [(.int .i16 n0),(.int .i16 n1),(.int .i16 n2),(.int .i16 n3)])]),J4,2⟩
noncomputable def lwgnnX:St:=⟨(fr 4 79 (ts [3,4,11,12] [.int .i8 x,.int .i8 y,.ptr J2 0,.ptr J3 0]) [cA En 4 (pb 30),cA En 4 (pb 31)]),[],[(J2,(ce 36 [(zi (0)),(zi (500)),.nils,.nils])),(J3,(zc 39 [mA,mB,mC,mD,mE,mF]))],J4,2⟩
noncomputable def lwe2X:St:=⟨cf wkmX J4 [],[(fr 4 79 (ts [2,3,4,5,6] [.bool up,.int .i8 x,.int .i8 y,.ptr J2 0,.ptr J3 0]) [rA En 4 (pb 12) 0,cA En 4 (pb 13),cA En 4 (pb 7)])],(zs [(.arr nd 7 (rowK RD D) none de dx dy),(.arr md 2 (rowK [.u8,.u8] T) none te tx ty),(ce 25 [(.sa .h 0 nd 7),(.sa J1 0 md 2)]),(ce 27 [(.int .i16 n0),(.int .i16 n1),(.int .i16 n2),(.int .i16 n3)])]),J4,2⟩
noncomputable def lwganX:St:=⟨(fr 4 79 (ts [3,4,11,12] [.int .i8 x,.int .i8 y,.ptr J2 0,.ptr J3 0]) [cA En 4 (pb 30),cA En 4 (pb 31)]),[],[(J2,(ce 36 [(zi (0)),(zi (500)),(.sa J4 0 n 7),.nils])),(J3,(zc 39 [mA,mB,mC,mD,mE,mF])),(J4,(o7 n Y false false))],J5,2⟩
noncomputable def lwe3X:St:=⟨cf wkmX J4 [],[(fr 4 79 (ts [2,3,4,5,6] [.bool up,.int .i8 x,.int .i8 y,.ptr J2 0,.ptr J3 0]) [rA En 4 (pb 12) 0,cA En 4 (pb 13),cA En 4 (pb 7)])],(zs [(.arr nd 7 (rowK RD D) none de dx dy),(.arr md 2 (rowK [.u8,.u8] T) none te tx ty),(ce 25 [(.sa .h 0 nd 7),(.sa J1 0 md 2)]),(ce 27 [(.int .i16 n0),(.int .i16 n1),(.int .i16 n2),(.int .i16 n3)])]),J4,2⟩
noncomputable def lwgnaX:St:=⟨(fr 4 79 (ts [3,4,11,12] [.int .i8 x,.int .i8 y,.ptr J2 0,.ptr J3 0]) [cA En 4 (pb 30),cA En 4 (pb 31)]),[],[(J2,(ce 36 [(zi (0)),(zi (500)),.nils,(.sa J4 0 m 3)])),(J3,(zc 39 [mA,mB,mC,mD,mE,mF])),(J4,(o3 m V S false false))],J5,2⟩
noncomputable def lwe4X:St:=⟨cf wkmX J4 [],[(fr 4 79 (ts [2,3,4,5,6] [.bool up,.int .i8 x,.int .i8 y,.ptr J2 0,.ptr J3 0]) [rA En 4 (pb 12) 0,cA En 4 (pb 13),cA En 4 (pb 7)])],(zs [(.arr nd 7 (rowK RD D) none de dx dy),(.arr md 2 (rowK [.u8,.u8] T) none te tx ty),(ce 25 [(.sa .h 0 nd 7),(.sa J1 0 md 2)]),(ce 27 [(.int .i16 n0),(.int .i16 n1),(.int .i16 n2),(.int .i16 n3)])]),J4,2⟩
noncomputable def lwgaaX:St:=⟨(fr 4 79 (ts [3,4,11,12] [.int .i8 x,.int .i8 y,.ptr J2 0,.ptr J3 0]) [cA En 4 (pb 30),cA En 4 (pb 31)]),[],[(J2,(ce 36 [(zi (0)),(zi (500)),(.sa J4 0 n 7),(.sa J5 0 m 3)])),(J3,(zc 39 [mA,mB,mC,mD,mE,mF])),(J4,(o7 n Y false false)),(J5,(o3 m V S false false))],J6,2⟩
noncomputable def lwe5X:St:=⟨cf wkmX J4 [],[(fr 4 79 (ts [2,3,4,5,6] [.bool up,.int .i8 x,.int .i8 y,.ptr J2 0,.ptr J3 0]) [rA En 4 (pb 12) 0,cA En 4 (pb 13),cA En 4 (pb 7)])],[(.h,(.arr nd 7 (rowK RD D) none de dx dy)),(J2,(ce 25 [(.sa .h 0 nd 7),.nils])),(J3,(ce 27 [(.int .i16 n0),(.int .i16 n1),(.int .i16 n2),(.int .i16 n3)]))],J4,2⟩
noncomputable def lwe6X:St:=⟨cf wkmX J4 [],[(fr 4 79 (ts [2,3,4,5,6] [.bool up,.int .i8 x,.int .i8 y,.ptr J2 0,.ptr J3 0]) [rA En 4 (pb 12) 0,cA En 4 (pb 13),cA En 4 (pb 7)])],[(.h,(.arr nd 7 (rowK RD D) none de dx dy)),(J2,(ce 25 [(.sa .h 0 nd 7),.nils])),(J3,(ce 27 [(.int .i16 n0),(.int .i16 n1),(.int .i16 n2),(.int .i16 n3)]))],J4,2⟩
noncomputable def lwe7X:St:=⟨cf wkmX J4 [],[(fr 4 79 (ts [2,3,4,5,6] [.bool up,.int .i8 x,.int .i8 y,.ptr J2 0,.ptr J3 0]) [rA En 4 (pb 12) 0,cA En 4 (pb 13),cA En 4 (pb 7)])],[(J1,(.arr md 2 (rowK [.u8,.u8] T) none te tx ty)),(J2,(ce 25 [.nils,(.sa J1 0 md 2)])),(J3,(ce 27 [(.int .i16 n0),(.int .i16 n1),(.int .i16 n2),(.int .i16 n3)]))],J4,2⟩
noncomputable def lwe8X:St:=⟨cf wkmX J4 [],[(fr 4 79 (ts [2,3,4,5,6] [.bool up,.int .i8 x,.int .i8 y,.ptr J2 0,.ptr J3 0]) [rA En 4 (pb 12) 0,cA En 4 (pb 13),cA En 4 (pb 7)])],[(J1,(.arr md 2 (rowK [.u8,.u8] T) none te tx ty)),(J2,(ce 25 [.nils,(.sa J1 0 md 2)])),(J3,(ce 27 [(.int .i16 n0),(.int .i16 n1),(.int .i16 n2),(.int .i16 n3)]))],J4,2⟩
noncomputable def lwe9X:St:=⟨cf wkmX J4 [],[(fr 4 79 (ts [2,3,4,5,6] [.bool up,.int .i8 x,.int .i8 y,.ptr J2 0,.ptr J3 0]) [rA En 4 (pb 12) 0,cA En 4 (pb 13),cA En 4 (pb 7)])],[(J2,(ce 25 [.nils,.nils])),(J3,(ce 27 [(.int .i16 n0),(.int .i16 n1),(.int .i16 n2),(.int .i16 n3)]))],J4,2⟩
noncomputable def lwe10X:St:=⟨cf (pnzAmX (0) (500) mA mB mC mD mE mF (0) (0)) J4 [],[(fr 4 79 (ts [3,4,11,12] [.int .i8 x,.int .i8 y,.ptr J2 0,.ptr J3 0]) [rA En 4 (pb 30) 2,cA En 4 (pb 31)])],[(J2,(ce 36 [(zi (0)),(zi (500)),.nils,.nils])),(J3,(zc 39 [mA,mB,mC,mD,mE,mF]))],J4,2⟩
noncomputable def lwe11X:St:=⟨cf (pnzAmX (0) (500) mA mB mC mD mE mF x y) J2 [],[(fr 4 79 (ts [3,4,13,14] [.int .i8 x,.int .i8 y,.nils,zi e_10]) [rA En 4 (pb 62) 6,cA En 4 (pb 63)])],[],J2,2⟩
noncomputable def lwe12X:St:=⟨cf (pnzAmX (0) (500) mA mB mC mD mE mF x y) J3 [],[(fr 4 79 (ts [3,4,13,14] [.int .i8 x,.int .i8 y,.su J2 0 0 7,zi (0)]) [rA En 4 (pb 62) 6,cA En 4 (pb 63)])],[(J2,(ce 63 []))],J3,2⟩
noncomputable def lwe13X:St:=⟨cf (pzAmX n Y false false (0) (500) mA mB mC mD mE mF (0) (0)) J5 [J2],[(fr 4 79 (ts [3,4,11,12] [.int .i8 x,.int .i8 y,.ptr J3 0,.ptr J4 0]) [rA En 4 (pb 30) 2,cA En 4 (pb 31)])],[(J2,(o7 n Y false false)),(J3,(ce 36 [(zi (0)),(zi (500)),(.sa J2 0 n 7),.nils])),(J4,(zc 39 [mA,mB,mC,mD,mE,mF]))],J5,2⟩
noncomputable def lwe14X:St:=⟨cf (pzAmX n Y false false (0) (500) mA mB mC mD mE mF x y) J3 [J2],[(fr 4 79 (ts [3,4,13,14] [.int .i8 x,.int .i8 y,.nils,zi e_13]) [rA En 4 (pb 62) 6,cA En 4 (pb 63)])],[(J2,(o7 n Y false false))],J3,2⟩
noncomputable def lwe15X:St:=⟨cf (pzAmX n Y false false (0) (500) mA mB mC mD mE mF x y) J4 [J2],[(fr 4 79 (ts [3,4,13,14] [.int .i8 x,.int .i8 y,.sa J3 0 n 7,zi (0)]) [rA En 4 (pb 62) 6,cA En 4 (pb 63)])],[(J2,(o7 n Y false false)),(J3,(o7 n P_13 true false))],J4,2⟩
noncomputable def lwe16X:St:=⟨cf (shmX n P_13 true false (Int.mul (16) x) (Int.mul (16) y)) J4 [J2],[(fr 4 79 (ts [15] [.sa J3 0 n 7]) [rA En 4 (pb 254) 7,cA En 4 (pb 255)])],[(J2,(o7 n P_13 true false)),(J3,(o7 n P_15 true false))],J4,2⟩
noncomputable def lwe17X:St:=⟨cf (spmX n R_16 P_15 false false true false) J4 [J2,J3],[(fr 4 79 (ts [15,69] [.sa J3 0 n 7,.bool true]) [rA En 4 (pb 510) 5,cA En 4 (pb 53)])],[(J2,(o7 n R_16 false false)),(J3,(o7 n P_15 true false))],J4,2⟩
noncomputable def lwe18X:St:=⟨cf (pcmX n P_15 true false) J3 [J2],[(fr 4 79 (ts [74] [.bool true]) [rA En 4 (pb 510) 9,cA En 4 (pb 53)])],[(J2,(o7 n P_15 true false))],J3,2⟩
noncomputable def lwe19X:St:=⟨cf (pnsAmX (0) (500) m V S false false mA mB mC mD mE mF (0) (0)) J5 [J2],[(fr 4 79 (ts [3,4,11,12] [.int .i8 x,.int .i8 y,.ptr J3 0,.ptr J4 0]) [rA En 4 (pb 30) 2,cA En 4 (pb 31)])],[(J2,(o3 m V S false false)),(J3,(ce 36 [(zi (0)),(zi (500)),.nils,(.sa J2 0 m 3)])),(J4,(zc 39 [mA,mB,mC,mD,mE,mF]))],J5,2⟩
noncomputable def lwe20X:St:=⟨cf (pnsAmX (0) (500) m V S false false mA mB mC mD mE mF x y) J3 [J2],[(fr 4 79 (ts [3,4,13,14] [.int .i8 x,.int .i8 y,.nils,zi e_19]) [rA En 4 (pb 62) 6,cA En 4 (pb 63)])],[(J2,(o3 m V S false false))],J3,2⟩
noncomputable def lwe21X:St:=⟨cf (pnsAmX (0) (500) m V S false false mA mB mC mD mE mF x y) J4 [J2],[(fr 4 79 (ts [3,4,13,14] [.int .i8 x,.int .i8 y,.su J3 0 0 7,zi (0)]) [rA En 4 (pb 62) 6,cA En 4 (pb 63)])],[(J2,(o3 m V S false false)),(J3,(ce 63 []))],J4,2⟩
noncomputable def lwe22X:St:=⟨cf (psAmX n Y false false (0) (500) m V S false false mA mB mC mD mE mF (0) (0)) J6 [J2,J3],[(fr 4 79 (ts [3,4,11,12] [.int .i8 x,.int .i8 y,.ptr J4 0,.ptr J5 0]) [rA En 4 (pb 30) 2,cA En 4 (pb 31)])],[(J2,(o7 n Y false false)),(J3,(o3 m V S false false)),(J4,(ce 36 [(zi (0)),(zi (500)),(.sa J2 0 n 7),(.sa J3 0 m 3)])),(J5,(zc 39 [mA,mB,mC,mD,mE,mF]))],J6,2⟩
noncomputable def lwe23X:St:=⟨cf (psAmX n Y false false (0) (500) m V S false false mA mB mC mD mE mF x y) J4 [J2,J3],[(fr 4 79 (ts [3,4,13,14] [.int .i8 x,.int .i8 y,.nils,zi e_22]) [rA En 4 (pb 62) 6,cA En 4 (pb 63)])],[(J2,(o7 n Y false false)),(J3,(o3 m V S false false))],J4,2⟩
noncomputable def lwe24X:St:=⟨cf (psAmX n Y false false (0) (500) m V S false false mA mB mC mD mE mF x y) J5 [J2,J3],[(fr 4 79 (ts [3,4,13,14] [.int .i8 x,.int .i8 y,.sa J4 0 n 7,zi (0)]) [rA En 4 (pb 62) 6,cA En 4 (pb 63)])],[(J2,(o7 n Y false false)),(J3,(o3 m V S false false)),(J4,(o7 n P_22 true false))],J5,2⟩
noncomputable def lwe25X:St:=⟨cf (shmX n P_22 true false (Int.mul (16) x) (Int.mul (16) y)) J4 [J2],[(fr 4 79 (ts [15] [.sa J3 0 n 7]) [rA En 4 (pb 254) 7,cA En 4 (pb 255)])],[(J2,(o7 n P_22 true false)),(J3,(o7 n P_24 true false))],J4,2⟩
noncomputable def lwe26X:St:=⟨cf (spmX n R_25 P_24 false false true false) J4 [J2,J3],[(fr 4 79 (ts [15,69] [.sa J3 0 n 7,.bool true]) [rA En 4 (pb 510) 5,cA En 4 (pb 53)])],[(J2,(o7 n R_25 false false)),(J3,(o7 n P_24 true false))],J4,2⟩
noncomputable def lwe27X:St:=⟨cf (pcmX n P_24 true false) J3 [J2],[(fr 4 79 (ts [74] [.bool true]) [rA En 4 (pb 510) 9,cA En 4 (pb 53)])],[(J2,(o7 n P_24 true false))],J3,2⟩
end
noncomputable abbrev lw0 (x y:Int):Bool:=(band (r64 x) (band (r64 y) true))
noncomputable abbrev lw1 (x y:Int):Bool:=(band (r64 x) (band (r64 (Int.mul (16) x)) (band (r64 y) (band (r64 (Int.mul (16) y)) true))))
noncomputable abbrev lw2 (n0 n1 n2 n3:Int):Bool:=(band (band (ieq n0 n0) (band (ieq n1 n1) (band (ieq n2 n2) (band (ieq n3 n3) true)))) (band (band (ieq n0 n0) (band (ieq n1 n1) (band (ieq n2 n2) (band (ieq n3 n3) true)))) true))
noncomputable abbrev lw3 (n0 n1 n2 n3:Int) (nd md:Nat):Bool:=(band (lw2 n0 n1 n2 n3) (band (band (band (band (Nat.beq nd nd) true) (band (band (Nat.beq md md) true) true)) true) true))
noncomputable abbrev lw4 (x y:Int):Bool:=(band (lw1 x y) (band (Bool.not (ilt (Int.mul (16) x) (-32768))) (band (Bool.not (ilt (32768) (Int.mul (16) x))) (band (Bool.not (ilt (Int.mul (16) y) (-32768))) (band (Bool.not (ilt (32768) (Int.mul (16) y))) true)))))
theorem same_of {n:Nat} {Y P0 P1 R:Nat→Nat→Int} {oX oY:Int→Int→Int} {x y:Int} (h0:∀ j,j < n→PRow Y oX oY (0) (0) P0 j) (h1:∀ j,j < n→PRow Y oX oY x y P1 j) (hs:∀ j,j < n→SRow P0 (Int.mul (16) x) (Int.mul (16) y) R j) :
    ∀ i,i < n→∀ k,k < 7→R i k=P1 i k:=fun i hi=>by
  obtain ⟨a0,a1,a2,a3,a4⟩:=h0 i hi
  obtain ⟨b0,b1,b2,b3,b4⟩:=h1 i hi
  obtain ⟨s0,s1,s2,s3,s4⟩:=hs i hi
  rw [a0] at s1 s2 s3 s4
  simp only [iMul] at s2 s3
  have e12:R i 1=P1 i 1∧R i 2=P1 i 2:=by
    by_cases e:Y i 0=4
    · have:=a1 e;have:=b1 e;have:=s1 e;omega
    have:=a2 e;have:=b2 e;have:=s2 e;omega
  have e36:R i 3=P1 i 3∧R i 4=P1 i 4∧R i 5=P1 i 5∧R i 6=P1 i 6:=by
    by_cases e:Y i 0=3
    · have:=a3 e;have:=b3 e;have:=s3 e;omega
    have:=a4 e;have:=b4 e;have:=s4 e;omega
  intro k hk
  match k,hk with
  | 0,_=>omega
  | 1,_=>exact e12.1
  | 2,_=>exact e12.2
  | 3,_=>exact e36.1
  | 4,_=>exact e36.2.1
  | 5,_=>exact e36.2.2.1
  | 6,_=>exact e36.2.2.2
theorem b9 {P:Nat→Nat→Int} (h:∀ j k,-8192≤P j k∧P j k≤8192):∀ j k,-1000000000≤P j k∧P j k≤1000000000:=fun j k=>by have:=h j k;omega
section
variable {nd:Nat} {D:Nat→Nat→Int} {dx:Bool} {dy:Bool} {de:Nat} {md:Nat} {T:Nat→Nat→Int} {tx:Bool} {ty:Bool} {te:Nat} {n0:Int} {n1:Int} {n2:Int} {n3:Int} {up:Bool} {x:Int} {y:Int} {n:Nat} {Y:Nat→Nat→Int} {m:Nat} {V:Nat→Bool} {S:Nat→Nat→Int} {mA:Int} {mB:Int} {mC:Int} {mD:Int} {mE:Int} {mF:Int} {oX:Int→Int→Int} {oY:Int→Int→Int} (hx : -128≤x∧x≤127) (hy : -128≤y∧y≤127)
include hx hy
theorem lwgaa_ok (hn:n≤1000) (hn1:1≤n) (hpa:∀ (x y:Int),(-128≤x∧x≤127)→(-128≤y∧y≤127)→EndsX En 2 (psAmX n Y false false (0) (500) m V S false false mA mB mC mD mE mF x y) (QR n Y oX oY x y J2 J3)):EndsX En 2 (lwgaaX x y n Y m V S mA mB mC mD mE mF) (fun v H=>v=.bool true∧H.nx=.i .h):=by
  refine ac 2 [] 4 true (lwe22X x y n Y m V S mA mB mC mD mE mF) [.h,J1,J4,J5,J2,J3] [[3,4,11,12]] rfl ?_
  refine ca (psAmX n Y false false (0) (500) m V S false false mA mB mC mD mE mF (0) (0)) [J2,J3] (hpa (x:=(0)) (y:=(0)) (by omega) (by omega)) (fun v' H' q=>?_)
  rcases q with ⟨e_22,rfl,hnx22,he_22⟩|⟨P_22,rfl,hnx22,ho0_22,hb_22,hk_22,hr_22⟩
  · skip
    refine ⟨(.tup [.nils,(zi e_22)]),[],J6,(by kernel_rfl),(by rw [hnx22];kernel_rfl),trivial,(by kernel_rfl),?_⟩
    refine ac 2 [] 15 ((lw0 x y)) (lwe23X x y n Y m V S mA mB mC mD mE mF e_22) [.h,J1,J2,J3] [[3,4,13,14]] (by (try simp only [he_22,gS,lw0]);(try simp only [gT] at *);try omega) ?_
    refine ca (psAmX n Y false false (0) (500) m V S false false mA mB mC mD mE mF x y) [J2,J3] (hpa (x:=x) (y:=y) (by omega) (by omega)) (fun v' H' q=>?_)
    rcases q with ⟨e_23,rfl,hnx23,he_23⟩|⟨P_23,rfl,hnx23,ho0_23,hb_23,hk_23,hr_23⟩
    · skip
      refine ⟨(.tup [.nils,(zi e_23)]),[],J4,(by kernel_rfl),(by rw [hnx23];kernel_rfl),trivial,(by kernel_rfl),?_⟩
      refine fi 2 [(12,44,true)] 19 (band (Bool.not (ieq e_22 (0))) true) [.h,J1] (.bool true) [] J2 (by (try simp only [he_22,he_23,gS]);(try simp only [gT] at *);try omega) ?_
      exact ⟨rfl,rfl⟩
    skip
    refine ⟨(.tup [(.sa J4 0 n 7),(zi (0))]),[(J4,(o7 n P_23 true false))],J5,(by kernel_rfl),(by rw [hnx23];kernel_rfl),⟨⟨J2,_,(Nat.le_of_ble_eq_true (by kernel_rfl)),(by show _=_;kernel_rfl),ho0_23,(by show _=_;kernel_rfl)⟩,trivial⟩,(by kernel_rfl),?_⟩
    refine fi 2 [(12,44,true)] 19 (band (Bool.not (ieq e_22 (0))) true) [.h,J1] (.bool true) [] J2 (by (try simp only [he_22,gS]);(try simp only [gT] at *);try omega) ?_
    exact ⟨rfl,rfl⟩
  skip
  refine ⟨(.tup [(.sa J6 0 n 7),(zi (0))]),[(J6,(o7 n P_22 true false))],J7,(by kernel_rfl),(by rw [hnx22];kernel_rfl),⟨⟨J2,_,(Nat.le_of_ble_eq_true (by kernel_rfl)),(by show _=_;kernel_rfl),ho0_22,(by show _=_;kernel_rfl)⟩,trivial⟩,(by kernel_rfl),?_⟩
  refine ac 2 [] 15 ((lw0 x y)) (lwe24X x y n Y m V S mA mB mC mD mE mF P_22) [.h,J1,J2,J3,J6] [[3,4,13,14]] (by (try simp only [gS,lw0]);(try simp only [gT] at *);try omega) ?_
  refine ca (psAmX n Y false false (0) (500) m V S false false mA mB mC mD mE mF x y) [J2,J3] (hpa (x:=x) (y:=y) (by omega) (by omega)) (fun v' H' q=>?_)
  rcases q with ⟨e_24,rfl,hnx24,he_24⟩|⟨P_24,rfl,hnx24,ho0_24,hb_24,hk_24,hr_24⟩
  · skip
    refine ⟨(.tup [.nils,(zi e_24)]),[],J5,(by kernel_rfl),(by rw [hnx24];kernel_rfl),trivial,(by kernel_rfl),?_⟩
    refine fi 2 [(16,47,true),(7,51,false)] 8 (band (Bool.not (ieq e_24 (0))) (band (Bool.not (Nat.beq n 0)) true)) [.h,J1] (.bool true) [] J2 (by (try simp only [he_24,gS]);(try simp only [gT] at *);try omega) ?_
    exact ⟨rfl,rfl⟩
  skip
  refine ⟨(.tup [(.sa J5 0 n 7),(zi (0))]),[(J5,(o7 n P_24 true false))],J6,(by kernel_rfl),(by rw [hnx24];kernel_rfl),⟨⟨J2,_,(Nat.le_of_ble_eq_true (by kernel_rfl)),(by show _=_;kernel_rfl),ho0_24,(by show _=_;kernel_rfl)⟩,trivial⟩,(by kernel_rfl),?_⟩
  refine ac 2 [] 28 ((lw1 x y)) (lwe25X x y n P_22 P_24) [.h,J1,J4,J5] [[15]] (by (try simp only [gS,lw1]);(try simp only [gT] at *);try omega) ?_
  refine ca (shmX n P_22 true false (Int.mul (16) x) (Int.mul (16) y)) [J2] (shm_ok (n:=n) (P:=P_22) (ex:=true) (sty:=false) (x:=(Int.mul (16) x)) (y:=(Int.mul (16) y)) hn hn1 (by simp only [iMul];omega) (by simp only [iMul];omega) (by assumption) (by assumption)) (fun v' H' q=>?_)
  rcases q with ⟨R_25,rfl,hnx25,ho0_25,hb_25,hs_25⟩
  refine ⟨(.tup [(.sa J4 0 n 7),(zi (0))]),[(J4,(o7 n R_25 false false))],J5,(by kernel_rfl),(by rw [hnx25];kernel_rfl),⟨⟨J1,_,(Nat.le_of_ble_eq_true (by kernel_rfl)),(by show _=_;kernel_rfl),ho0_25,(by show _=_;kernel_rfl)⟩,trivial⟩,(by kernel_rfl),?_⟩
  refine ac 2 [] 14 true (lwe26X n P_24 R_25) [.h,J1,J4,J3] [[15,69]] rfl ?_
  refine ca (spmX n R_25 P_24 false false true false) [J2,J3] (spm_ok (n:=n) (R:=R_25) (P:=P_24) (xa:=false) (ya:=false) (xb:=true) (yb:=false) hn (same_of hr_22 hr_24 hs_25)) (fun v' H' q=>?_)
  rcases q with ⟨rfl,hnx26⟩
  refine ⟨(.bool true),[],J4,(by kernel_rfl),(by rw [hnx26];kernel_rfl),trivial,(by kernel_rfl),?_⟩
  refine ac 2 [] 4 true (lwe27X n P_24) [.h,J1,J3] [[74]] rfl ?_
  refine ca (pcmX n P_24 true false) [J2] (pcm_ok (n:=n) (Y:=P_24) (ex:=true) (sty:=false) (b9 (by assumption)) hn) (fun v' H' q=>?_)
  rcases q with ⟨e_27,rfl,hnx27,hq_27⟩
  refine ⟨(zi e_27),[],J3,(by kernel_rfl),(by rw [hnx27];kernel_rfl),trivial,(by kernel_rfl),?_⟩
  refine fi 2 [] 6 true [.h,J1] (.bool (ieq e_27 (0))) [] J2 rfl ?_
  exact ⟨congrArg AV.bool ((ieq_iff _ _).2 ((by assumption:_↔PathOK _ _).2 (by assumption))),rfl⟩
theorem lwgan_ok (hn:n≤1000) (hn1:1≤n) (hpa:∀ (x y:Int),(-128≤x∧x≤127)→(-128≤y∧y≤127)→EndsX En 1 (pzAmX n Y false false (0) (500) mA mB mC mD mE mF x y) (QR n Y oX oY x y J1 J2)):EndsX En 2 (lwganX x y n Y mA mB mC mD mE mF) (fun v H=>v=.bool true∧H.nx=.i .h):=by
  refine ac 2 [] 4 true (lwe13X x y n Y mA mB mC mD mE mF) [.h,J1,J4,J2,J3] [[3,4,11,12]] rfl ?_
  refine ca (pzAmX n Y false false (0) (500) mA mB mC mD mE mF (0) (0)) [J2] (hpa (x:=(0)) (y:=(0)) (by omega) (by omega)) (fun v' H' q=>?_)
  rcases q with ⟨e_13,rfl,hnx13,he_13⟩|⟨P_13,rfl,hnx13,ho0_13,hb_13,hk_13,hr_13⟩
  · skip
    refine ⟨(.tup [.nils,(zi e_13)]),[],J5,(by kernel_rfl),(by rw [hnx13];kernel_rfl),trivial,(by kernel_rfl),?_⟩
    refine ac 2 [] 15 ((lw0 x y)) (lwe14X x y n Y mA mB mC mD mE mF e_13) [.h,J1,J2] [[3,4,13,14]] (by (try simp only [he_13,gS,lw0]);(try simp only [gT] at *);try omega) ?_
    refine ca (pzAmX n Y false false (0) (500) mA mB mC mD mE mF x y) [J2] (hpa (x:=x) (y:=y) (by omega) (by omega)) (fun v' H' q=>?_)
    rcases q with ⟨e_14,rfl,hnx14,he_14⟩|⟨P_14,rfl,hnx14,ho0_14,hb_14,hk_14,hr_14⟩
    · skip
      refine ⟨(.tup [.nils,(zi e_14)]),[],J3,(by kernel_rfl),(by rw [hnx14];kernel_rfl),trivial,(by kernel_rfl),?_⟩
      refine fi 2 [(12,44,true)] 19 (band (Bool.not (ieq e_13 (0))) true) [.h,J1] (.bool true) [] J2 (by (try simp only [he_13,he_14,gS]);(try simp only [gT] at *);try omega) ?_
      exact ⟨rfl,rfl⟩
    skip
    refine ⟨(.tup [(.sa J3 0 n 7),(zi (0))]),[(J3,(o7 n P_14 true false))],J4,(by kernel_rfl),(by rw [hnx14];kernel_rfl),⟨⟨J1,_,(Nat.le_of_ble_eq_true (by kernel_rfl)),(by show _=_;kernel_rfl),ho0_14,(by show _=_;kernel_rfl)⟩,trivial⟩,(by kernel_rfl),?_⟩
    refine fi 2 [(12,44,true)] 19 (band (Bool.not (ieq e_13 (0))) true) [.h,J1] (.bool true) [] J2 (by (try simp only [he_13,gS]);(try simp only [gT] at *);try omega) ?_
    exact ⟨rfl,rfl⟩
  skip
  refine ⟨(.tup [(.sa J5 0 n 7),(zi (0))]),[(J5,(o7 n P_13 true false))],J6,(by kernel_rfl),(by rw [hnx13];kernel_rfl),⟨⟨J1,_,(Nat.le_of_ble_eq_true (by kernel_rfl)),(by show _=_;kernel_rfl),ho0_13,(by show _=_;kernel_rfl)⟩,trivial⟩,(by kernel_rfl),?_⟩
  refine ac 2 [] 15 ((lw0 x y)) (lwe15X x y n Y mA mB mC mD mE mF P_13) [.h,J1,J2,J5] [[3,4,13,14]] (by (try simp only [gS,lw0]);(try simp only [gT] at *);try omega) ?_
  refine ca (pzAmX n Y false false (0) (500) mA mB mC mD mE mF x y) [J2] (hpa (x:=x) (y:=y) (by omega) (by omega)) (fun v' H' q=>?_)
  rcases q with ⟨e_15,rfl,hnx15,he_15⟩|⟨P_15,rfl,hnx15,ho0_15,hb_15,hk_15,hr_15⟩
  · skip
    refine ⟨(.tup [.nils,(zi e_15)]),[],J4,(by kernel_rfl),(by rw [hnx15];kernel_rfl),trivial,(by kernel_rfl),?_⟩
    refine fi 2 [(16,47,true),(7,51,false)] 8 (band (Bool.not (ieq e_15 (0))) (band (Bool.not (Nat.beq n 0)) true)) [.h,J1] (.bool true) [] J2 (by (try simp only [he_15,gS]);(try simp only [gT] at *);try omega) ?_
    exact ⟨rfl,rfl⟩
  skip
  refine ⟨(.tup [(.sa J4 0 n 7),(zi (0))]),[(J4,(o7 n P_15 true false))],J5,(by kernel_rfl),(by rw [hnx15];kernel_rfl),⟨⟨J1,_,(Nat.le_of_ble_eq_true (by kernel_rfl)),(by show _=_;kernel_rfl),ho0_15,(by show _=_;kernel_rfl)⟩,trivial⟩,(by kernel_rfl),?_⟩
  refine ac 2 [] 28 ((lw1 x y)) (lwe16X x y n P_13 P_15) [.h,J1,J3,J4] [[15]] (by (try simp only [gS,lw1]);(try simp only [gT] at *);try omega) ?_
  refine ca (shmX n P_13 true false (Int.mul (16) x) (Int.mul (16) y)) [J2] (shm_ok (n:=n) (P:=P_13) (ex:=true) (sty:=false) (x:=(Int.mul (16) x)) (y:=(Int.mul (16) y)) hn hn1 (by simp only [iMul];omega) (by simp only [iMul];omega) (by assumption) (by assumption)) (fun v' H' q=>?_)
  rcases q with ⟨R_16,rfl,hnx16,ho0_16,hb_16,hs_16⟩
  refine ⟨(.tup [(.sa J4 0 n 7),(zi (0))]),[(J4,(o7 n R_16 false false))],J5,(by kernel_rfl),(by rw [hnx16];kernel_rfl),⟨⟨J1,_,(Nat.le_of_ble_eq_true (by kernel_rfl)),(by show _=_;kernel_rfl),ho0_16,(by show _=_;kernel_rfl)⟩,trivial⟩,(by kernel_rfl),?_⟩
  refine ac 2 [] 14 true (lwe17X n P_15 R_16) [.h,J1,J4,J3] [[15,69]] rfl ?_
  refine ca (spmX n R_16 P_15 false false true false) [J2,J3] (spm_ok (n:=n) (R:=R_16) (P:=P_15) (xa:=false) (ya:=false) (xb:=true) (yb:=false) hn (same_of hr_13 hr_15 hs_16)) (fun v' H' q=>?_)
  rcases q with ⟨rfl,hnx17⟩
  refine ⟨(.bool true),[],J4,(by kernel_rfl),(by rw [hnx17];kernel_rfl),trivial,(by kernel_rfl),?_⟩
  refine ac 2 [] 4 true (lwe18X n P_15) [.h,J1,J3] [[74]] rfl ?_
  refine ca (pcmX n P_15 true false) [J2] (pcm_ok (n:=n) (Y:=P_15) (ex:=true) (sty:=false) (b9 (by assumption)) hn) (fun v' H' q=>?_)
  rcases q with ⟨e_18,rfl,hnx18,hq_18⟩
  refine ⟨(zi e_18),[],J3,(by kernel_rfl),(by rw [hnx18];kernel_rfl),trivial,(by kernel_rfl),?_⟩
  refine fi 2 [] 6 true [.h,J1] (.bool (ieq e_18 (0))) [] J2 rfl ?_
  exact ⟨congrArg AV.bool ((ieq_iff _ _).2 ((by assumption:_↔PathOK _ _).2 (by assumption))),rfl⟩
theorem lwgna_ok (hpa:∀ (x y:Int),(-128≤x∧x≤127)→(-128≤y∧y≤127)→EndsX En 1 (pnsAmX (0) (500) m V S false false mA mB mC mD mE mF x y) (QR0 J1 J2)):EndsX En 2 (lwgnaX x y m V S mA mB mC mD mE mF) (fun v H=>v=.bool true∧H.nx=.i .h):=by
  refine ac 2 [] 4 true (lwe19X x y m V S mA mB mC mD mE mF) [.h,J1,J4,J2,J3] [[3,4,11,12]] rfl ?_
  refine ca (pnsAmX (0) (500) m V S false false mA mB mC mD mE mF (0) (0)) [J2] (hpa (x:=(0)) (y:=(0)) (by omega) (by omega)) (fun v' H' q=>?_)
  rcases q with ⟨e_19,rfl,hnx19,he_19⟩|⟨rfl,hnx19,ho0_19⟩
  · skip
    refine ⟨(.tup [.nils,(zi e_19)]),[],J5,(by kernel_rfl),(by rw [hnx19];kernel_rfl),trivial,(by kernel_rfl),?_⟩
    refine ac 2 [] 15 ((lw0 x y)) (lwe20X x y m V S mA mB mC mD mE mF e_19) [.h,J1,J2] [[3,4,13,14]] (by (try simp only [he_19,gS,lw0]);(try simp only [gT] at *);try omega) ?_
    refine ca (pnsAmX (0) (500) m V S false false mA mB mC mD mE mF x y) [J2] (hpa (x:=x) (y:=y) (by omega) (by omega)) (fun v' H' q=>?_)
    rcases q with ⟨e_20,rfl,hnx20,he_20⟩|⟨rfl,hnx20,ho0_20⟩
    · skip
      refine ⟨(.tup [.nils,(zi e_20)]),[],J3,(by kernel_rfl),(by rw [hnx20];kernel_rfl),trivial,(by kernel_rfl),?_⟩
      refine fi 2 [(12,44,true)] 19 (band (Bool.not (ieq e_19 (0))) true) [.h,J1] (.bool true) [] J2 (by (try simp only [he_19,he_20,gS]);(try simp only [gT] at *);try omega) ?_
      exact ⟨rfl,rfl⟩
    skip
    refine ⟨(.tup [(.su J3 0 0 7),(zi (0))]),[(J3,(ce 63 []))],J4,(by kernel_rfl),(by rw [hnx20];kernel_rfl),⟨⟨J1,_,(Nat.le_of_ble_eq_true (by kernel_rfl)),(by show _=_;kernel_rfl),ho0_20,(by show _=_;kernel_rfl)⟩,trivial⟩,(by kernel_rfl),?_⟩
    refine fi 2 [(12,44,true)] 19 (band (Bool.not (ieq e_19 (0))) true) [.h,J1] (.bool true) [] J2 (by (try simp only [he_19,gS]);(try simp only [gT] at *);try omega) ?_
    exact ⟨rfl,rfl⟩
  skip
  refine ⟨(.tup [(.su J5 0 0 7),(zi (0))]),[(J5,(ce 63 []))],J6,(by kernel_rfl),(by rw [hnx19];kernel_rfl),⟨⟨J1,_,(Nat.le_of_ble_eq_true (by kernel_rfl)),(by show _=_;kernel_rfl),ho0_19,(by show _=_;kernel_rfl)⟩,trivial⟩,(by kernel_rfl),?_⟩
  refine ac 2 [] 15 ((lw0 x y)) (lwe21X x y m V S mA mB mC mD mE mF) [.h,J1,J2,J5] [[3,4,13,14]] (by (try simp only [gS,lw0]);(try simp only [gT] at *);try omega) ?_
  refine ca (pnsAmX (0) (500) m V S false false mA mB mC mD mE mF x y) [J2] (hpa (x:=x) (y:=y) (by omega) (by omega)) (fun v' H' q=>?_)
  rcases q with ⟨e_21,rfl,hnx21,he_21⟩|⟨rfl,hnx21,ho0_21⟩
  · skip
    refine ⟨(.tup [.nils,(zi e_21)]),[],J4,(by kernel_rfl),(by rw [hnx21];kernel_rfl),trivial,(by kernel_rfl),?_⟩
    refine fi 2 [(16,47,true)] 15 (band (Bool.not (ieq e_21 (0))) true) [.h,J1] (.bool true) [] J2 (by (try simp only [he_21,gS]);(try simp only [gT] at *);try omega) ?_
    exact ⟨rfl,rfl⟩
  skip
  refine ⟨(.tup [(.su J4 0 0 7),(zi (0))]),[(J4,(ce 63 []))],J5,(by kernel_rfl),(by rw [hnx21];kernel_rfl),⟨⟨J1,_,(Nat.le_of_ble_eq_true (by kernel_rfl)),(by show _=_;kernel_rfl),ho0_21,(by show _=_;kernel_rfl)⟩,trivial⟩,(by kernel_rfl),?_⟩
  refine fi 2 [(98,24,false),(5,29,false),(6,35,false),(5,39,false)] 223 ((lw4 x y)) [.h,J1] (.bool true) [] J2 (by (try simp only [gS,lw1,lw4]);(try simp only [gT] at *);try omega) ?_
  exact ⟨rfl,rfl⟩
theorem lwgnn_ok (hpa:∀ (x y:Int),(-128≤x∧x≤127)→(-128≤y∧y≤127)→EndsX En 0 (pnzAmX (0) (500) mA mB mC mD mE mF x y) (QR0 (.h) J1)):EndsX En 2 (lwgnnX x y mA mB mC mD mE mF) (fun v H=>v=.bool true∧H.nx=.i .h):=by
  refine ac 2 [] 4 true (lwe10X x y mA mB mC mD mE mF) [.h,J1,J2,J3] [[3,4,11,12]] rfl ?_
  refine ca (pnzAmX (0) (500) mA mB mC mD mE mF (0) (0)) [] (hpa (x:=(0)) (y:=(0)) (by omega) (by omega)) (fun v' H' q=>?_)
  rcases q with ⟨e_10,rfl,hnx10,he_10⟩|⟨rfl,hnx10,ho0_10⟩
  · skip
    refine ⟨(.tup [.nils,(zi e_10)]),[],J4,(by kernel_rfl),(by rw [hnx10];kernel_rfl),trivial,(by kernel_rfl),?_⟩
    refine ac 2 [] 15 ((lw0 x y)) (lwe11X x y mA mB mC mD mE mF e_10) [.h,J1] [[3,4,13,14]] (by (try simp only [he_10,gS,lw0]);(try simp only [gT] at *);try omega) ?_
    refine ca (pnzAmX (0) (500) mA mB mC mD mE mF x y) [] (hpa (x:=x) (y:=y) (by omega) (by omega)) (fun v' H' q=>?_)
    rcases q with ⟨e_11,rfl,hnx11,he_11⟩|⟨rfl,hnx11,ho0_11⟩
    · skip
      refine ⟨(.tup [.nils,(zi e_11)]),[],J2,(by kernel_rfl),(by rw [hnx11];kernel_rfl),trivial,(by kernel_rfl),?_⟩
      refine fi 2 [(12,44,true)] 19 (band (Bool.not (ieq e_10 (0))) true) [.h,J1] (.bool true) [] J2 (by (try simp only [he_10,he_11,gS]);(try simp only [gT] at *);try omega) ?_
      exact ⟨rfl,rfl⟩
    skip
    refine ⟨(.tup [(.su J2 0 0 7),(zi (0))]),[(J2,(ce 63 []))],J3,(by kernel_rfl),(by rw [hnx11];kernel_rfl),⟨⟨.h,_,(Nat.le_of_ble_eq_true (by kernel_rfl)),(by show _=_;kernel_rfl),ho0_11,(by show _=_;kernel_rfl)⟩,trivial⟩,(by kernel_rfl),?_⟩
    refine fi 2 [(12,44,true)] 19 (band (Bool.not (ieq e_10 (0))) true) [.h,J1] (.bool true) [] J2 (by (try simp only [he_10,gS]);(try simp only [gT] at *);try omega) ?_
    exact ⟨rfl,rfl⟩
  skip
  refine ⟨(.tup [(.su J4 0 0 7),(zi (0))]),[(J4,(ce 63 []))],J5,(by kernel_rfl),(by rw [hnx10];kernel_rfl),⟨⟨.h,_,(Nat.le_of_ble_eq_true (by kernel_rfl)),(by show _=_;kernel_rfl),ho0_10,(by show _=_;kernel_rfl)⟩,trivial⟩,(by kernel_rfl),?_⟩
  refine ac 2 [] 15 ((lw0 x y)) (lwe12X x y mA mB mC mD mE mF) [.h,J1,J4] [[3,4,13,14]] (by (try simp only [gS,lw0]);(try simp only [gT] at *);try omega) ?_
  refine ca (pnzAmX (0) (500) mA mB mC mD mE mF x y) [] (hpa (x:=x) (y:=y) (by omega) (by omega)) (fun v' H' q=>?_)
  rcases q with ⟨e_12,rfl,hnx12,he_12⟩|⟨rfl,hnx12,ho0_12⟩
  · skip
    refine ⟨(.tup [.nils,(zi e_12)]),[],J3,(by kernel_rfl),(by rw [hnx12];kernel_rfl),trivial,(by kernel_rfl),?_⟩
    refine fi 2 [(16,47,true)] 15 (band (Bool.not (ieq e_12 (0))) true) [.h,J1] (.bool true) [] J2 (by (try simp only [he_12,gS]);(try simp only [gT] at *);try omega) ?_
    exact ⟨rfl,rfl⟩
  skip
  refine ⟨(.tup [(.su J3 0 0 7),(zi (0))]),[(J3,(ce 63 []))],J4,(by kernel_rfl),(by rw [hnx12];kernel_rfl),⟨⟨.h,_,(Nat.le_of_ble_eq_true (by kernel_rfl)),(by show _=_;kernel_rfl),ho0_12,(by show _=_;kernel_rfl)⟩,trivial⟩,(by kernel_rfl),?_⟩
  refine fi 2 [(98,24,false),(5,29,false),(6,35,false),(5,39,false)] 223 ((lw4 x y)) [.h,J1] (.bool true) [] J2 (by (try simp only [gS,lw1,lw4]);(try simp only [gT] at *);try omega) ?_
  exact ⟨rfl,rfl⟩
theorem lwaann_ok (hpa:∀ (x y:Int),(-128≤x∧x≤127)→(-128≤y∧y≤127)→EndsX En 0 (pnzAmX (0) (500) mA mB mC mD mE mF x y) (QR0 (.h) J1)) (hwk:EndsX En 0 wkmX (fun v H=>v=.bool true∧H.nx=.h)) (hT:TabOk (tbLnn [(.agg [(.sa (.h) 0 nd 7),(.sa J1 0 md 2)])] [(.agg [(.int .i16 n0),(.int .i16 n1),(.int .i16 n2),(.int .i16 n3)]),(.bool up)] (some (.arr nd 7 (rowK RD D) none de dx dy)) (some (.arr md 2 (rowK [.u8,.u8] T) none te tx ty)) (az [mA,mB,mC,mD,mE,mF])) En):EndsX En 2 (lwaannX nd D dx dy de md T tx ty te n0 n1 n2 n3 up x y) (fun v H=>v=.bool true∧H.nx=.i .h):=by
  refine acT hT 2 [] 10 true (lwe1X nd D dx dy de md T tx ty te n0 n1 n2 n3 up x y) [.h,J1,J2,J3] [[2,3,4,5,6]] rfl ?_
  refine ca (wkmX) [] (hwk) (fun v' H' q=>?_)
  rcases q with ⟨rfl,hnx1⟩
  refine ⟨(.bool true),[],J4,(by kernel_rfl),(by rw [hnx1];kernel_rfl),trivial,(by kernel_rfl),?_⟩
  refine arT hT 2 [] 7 ((band (band (band (band (cEqL (.cons (.agg (.cons (.sa .h 0 nd 7) (.cons (.sa J1 0 md 2) .nil))) .nil) (.cons (.agg (.cons (.sa .h 0 nd 7) (.cons (.sa J1 0 md 2) .nil))) .nil)) (band (cEqO (.some (.arr nd 7 (rowK RD D) .none de dx dy)) (.some (.arr nd 7 (rowK RD D) .none de dx dy))) (band (cEqO (.some (.arr md 2 (rowK [.u8,.u8] T) .none te tx ty)) (.some (.arr md 2 (rowK [.u8,.u8] T) .none te tx ty))) true))) (band (cEqL (.cons (.agg (.cons (.int .i16 n0) (.cons (.int .i16 n1) (.cons (.int .i16 n2) (.cons (.int .i16 n3) .nil))))) (.cons (.bool up) .nil)) (.cons (.agg (.cons (.int .i16 n0) (.cons (.int .i16 n1) (.cons (.int .i16 n2) (.cons (.int .i16 n3) .nil))))) (.cons (.bool up) .nil))) true)) (lw3 n0 n1 n2 n3 nd md)) true)) (lwgnnX x y mA mB mC mD mE mF) [.h,J1,J4,J5] [3,4,11,12] [] (by (try simp only [cEqL_rfl,cEqO_rfl,gS,lw2,lw3]);(try simp only [gT] at *);try omega) ?_
  exact lwgnn_ok hx hy  hpa
theorem lwaaan_ok (hn:n≤1000) (hn1:1≤n) (hpa:∀ (x y:Int),(-128≤x∧x≤127)→(-128≤y∧y≤127)→EndsX En 1 (pzAmX n Y false false (0) (500) mA mB mC mD mE mF x y) (QR n Y oX oY x y J1 J2)) (hwk:EndsX En 0 wkmX (fun v H=>v=.bool true∧H.nx=.h)) (hT:TabOk (tbLan [(.agg [(.sa (.h) 0 nd 7),(.sa J1 0 md 2)])] [(.agg [(.int .i16 n0),(.int .i16 n1),(.int .i16 n2),(.int .i16 n3)]),(.bool up)] (some (.arr nd 7 (rowK RD D) none de dx dy)) (some (.arr md 2 (rowK [.u8,.u8] T) none te tx ty)) (az [mA,mB,mC,mD,mE,mF]) n Y) En):EndsX En 2 (lwaaanX nd D dx dy de md T tx ty te n0 n1 n2 n3 up x y) (fun v H=>v=.bool true∧H.nx=.i .h):=by
  refine acT hT 2 [] 10 true (lwe2X nd D dx dy de md T tx ty te n0 n1 n2 n3 up x y) [.h,J1,J2,J3] [[2,3,4,5,6]] rfl ?_
  refine ca (wkmX) [] (hwk) (fun v' H' q=>?_)
  rcases q with ⟨rfl,hnx2⟩
  refine ⟨(.bool true),[],J4,(by kernel_rfl),(by rw [hnx2];kernel_rfl),trivial,(by kernel_rfl),?_⟩
  refine arT hT 2 [] 7 ((band (band (band (band (cEqL (.cons (.agg (.cons (.sa .h 0 nd 7) (.cons (.sa J1 0 md 2) .nil))) .nil) (.cons (.agg (.cons (.sa .h 0 nd 7) (.cons (.sa J1 0 md 2) .nil))) .nil)) (band (cEqO (.some (.arr nd 7 (rowK RD D) .none de dx dy)) (.some (.arr nd 7 (rowK RD D) .none de dx dy))) (band (cEqO (.some (.arr md 2 (rowK [.u8,.u8] T) .none te tx ty)) (.some (.arr md 2 (rowK [.u8,.u8] T) .none te tx ty))) true))) (band (cEqL (.cons (.agg (.cons (.int .i16 n0) (.cons (.int .i16 n1) (.cons (.int .i16 n2) (.cons (.int .i16 n3) .nil))))) (.cons (.bool up) .nil)) (.cons (.agg (.cons (.int .i16 n0) (.cons (.int .i16 n1) (.cons (.int .i16 n2) (.cons (.int .i16 n3) .nil))))) (.cons (.bool up) .nil))) true)) (lw3 n0 n1 n2 n3 nd md)) true)) (lwganX x y n Y mA mB mC mD mE mF) [.h,J1,J5,J6,J4] [3,4,11,12] [] (by (try simp only [cEqL_rfl,cEqO_rfl,gS,lw2,lw3]);(try simp only [gT] at *);try omega) ?_
  exact lwgan_ok hx hy hn hn1 hpa
theorem lwaana_ok (hpa:∀ (x y:Int),(-128≤x∧x≤127)→(-128≤y∧y≤127)→EndsX En 1 (pnsAmX (0) (500) m V S false false mA mB mC mD mE mF x y) (QR0 J1 J2)) (hwk:EndsX En 0 wkmX (fun v H=>v=.bool true∧H.nx=.h)) (hT:TabOk (tbLna [(.agg [(.sa (.h) 0 nd 7),(.sa J1 0 md 2)])] [(.agg [(.int .i16 n0),(.int .i16 n1),(.int .i16 n2),(.int .i16 n3)]),(.bool up)] (some (.arr nd 7 (rowK RD D) none de dx dy)) (some (.arr md 2 (rowK [.u8,.u8] T) none te tx ty)) (az [mA,mB,mC,mD,mE,mF]) m V S) En):EndsX En 2 (lwaanaX nd D dx dy de md T tx ty te n0 n1 n2 n3 up x y) (fun v H=>v=.bool true∧H.nx=.i .h):=by
  refine acT hT 2 [] 10 true (lwe3X nd D dx dy de md T tx ty te n0 n1 n2 n3 up x y) [.h,J1,J2,J3] [[2,3,4,5,6]] rfl ?_
  refine ca (wkmX) [] (hwk) (fun v' H' q=>?_)
  rcases q with ⟨rfl,hnx3⟩
  refine ⟨(.bool true),[],J4,(by kernel_rfl),(by rw [hnx3];kernel_rfl),trivial,(by kernel_rfl),?_⟩
  refine arT hT 2 [] 7 ((band (band (band (band (cEqL (.cons (.agg (.cons (.sa .h 0 nd 7) (.cons (.sa J1 0 md 2) .nil))) .nil) (.cons (.agg (.cons (.sa .h 0 nd 7) (.cons (.sa J1 0 md 2) .nil))) .nil)) (band (cEqO (.some (.arr nd 7 (rowK RD D) .none de dx dy)) (.some (.arr nd 7 (rowK RD D) .none de dx dy))) (band (cEqO (.some (.arr md 2 (rowK [.u8,.u8] T) .none te tx ty)) (.some (.arr md 2 (rowK [.u8,.u8] T) .none te tx ty))) true))) (band (cEqL (.cons (.agg (.cons (.int .i16 n0) (.cons (.int .i16 n1) (.cons (.int .i16 n2) (.cons (.int .i16 n3) .nil))))) (.cons (.bool up) .nil)) (.cons (.agg (.cons (.int .i16 n0) (.cons (.int .i16 n1) (.cons (.int .i16 n2) (.cons (.int .i16 n3) .nil))))) (.cons (.bool up) .nil))) true)) (lw3 n0 n1 n2 n3 nd md)) true)) (lwgnaX x y m V S mA mB mC mD mE mF) [.h,J1,J5,J6,J4] [3,4,11,12] [] (by (try simp only [cEqL_rfl,cEqO_rfl,gS,lw2,lw3]);(try simp only [gT] at *);try omega) ?_
  exact lwgna_ok hx hy  hpa
theorem lwaaaa_ok (hn:n≤1000) (hn1:1≤n) (hpa:∀ (x y:Int),(-128≤x∧x≤127)→(-128≤y∧y≤127)→EndsX En 2 (psAmX n Y false false (0) (500) m V S false false mA mB mC mD mE mF x y) (QR n Y oX oY x y J2 J3)) (hwk:EndsX En 0 wkmX (fun v H=>v=.bool true∧H.nx=.h)) (hT:TabOk (tbLaa [(.agg [(.sa (.h) 0 nd 7),(.sa J1 0 md 2)])] [(.agg [(.int .i16 n0),(.int .i16 n1),(.int .i16 n2),(.int .i16 n3)]),(.bool up)] (some (.arr nd 7 (rowK RD D) none de dx dy)) (some (.arr md 2 (rowK [.u8,.u8] T) none te tx ty)) (az [mA,mB,mC,mD,mE,mF]) n Y m V S) En):EndsX En 2 (lwaaaaX nd D dx dy de md T tx ty te n0 n1 n2 n3 up x y) (fun v H=>v=.bool true∧H.nx=.i .h):=by
  refine acT hT 2 [] 10 true (lwe4X nd D dx dy de md T tx ty te n0 n1 n2 n3 up x y) [.h,J1,J2,J3] [[2,3,4,5,6]] rfl ?_
  refine ca (wkmX) [] (hwk) (fun v' H' q=>?_)
  rcases q with ⟨rfl,hnx4⟩
  refine ⟨(.bool true),[],J4,(by kernel_rfl),(by rw [hnx4];kernel_rfl),trivial,(by kernel_rfl),?_⟩
  refine arT hT 2 [] 7 ((band (band (band (band (cEqL (.cons (.agg (.cons (.sa .h 0 nd 7) (.cons (.sa J1 0 md 2) .nil))) .nil) (.cons (.agg (.cons (.sa .h 0 nd 7) (.cons (.sa J1 0 md 2) .nil))) .nil)) (band (cEqO (.some (.arr nd 7 (rowK RD D) .none de dx dy)) (.some (.arr nd 7 (rowK RD D) .none de dx dy))) (band (cEqO (.some (.arr md 2 (rowK [.u8,.u8] T) .none te tx ty)) (.some (.arr md 2 (rowK [.u8,.u8] T) .none te tx ty))) true))) (band (cEqL (.cons (.agg (.cons (.int .i16 n0) (.cons (.int .i16 n1) (.cons (.int .i16 n2) (.cons (.int .i16 n3) .nil))))) (.cons (.bool up) .nil)) (.cons (.agg (.cons (.int .i16 n0) (.cons (.int .i16 n1) (.cons (.int .i16 n2) (.cons (.int .i16 n3) .nil))))) (.cons (.bool up) .nil))) true)) (lw3 n0 n1 n2 n3 nd md)) true)) (lwgaaX x y n Y m V S mA mB mC mD mE mF) [.h,J1,J6,J7,J4,J5] [3,4,11,12] [] (by (try simp only [cEqL_rfl,cEqO_rfl,gS,lw2,lw3]);(try simp only [gT] at *);try omega) ?_
  exact lwgaa_ok hx hy hn hn1 hpa
theorem lwannn_ok (hpa:∀ (x y:Int),(-128≤x∧x≤127)→(-128≤y∧y≤127)→EndsX En 0 (pnzAmX (0) (500) mA mB mC mD mE mF x y) (QR0 (.h) J1)) (hwk:EndsX En 0 wkmX (fun v H=>v=.bool true∧H.nx=.h)) (hT:TabOk (tbLnn [(.agg [(.sa (.h) 0 nd 7),.nils])] [(.agg [(.int .i16 n0),(.int .i16 n1),(.int .i16 n2),(.int .i16 n3)]),(.bool up)] (some (.arr nd 7 (rowK RD D) none de dx dy)) none (az [mA,mB,mC,mD,mE,mF])) En):EndsX En 2 (lwannnX nd D dx dy de n0 n1 n2 n3 up x y) (fun v H=>v=.bool true∧H.nx=.i .h):=by
  refine acT hT 2 [] 10 true (lwe5X nd D dx dy de n0 n1 n2 n3 up x y) [.h,J1,J2,J3] [[2,3,4,5,6]] rfl ?_
  refine ca (wkmX) [] (hwk) (fun v' H' q=>?_)
  rcases q with ⟨rfl,hnx5⟩
  refine ⟨(.bool true),[],J4,(by kernel_rfl),(by rw [hnx5];kernel_rfl),trivial,(by kernel_rfl),?_⟩
  refine arT hT 2 [] 7 ((band (band (band (band (cEqL (.cons (.agg (.cons (.sa .h 0 nd 7) (.cons .nils .nil))) .nil) (.cons (.agg (.cons (.sa .h 0 nd 7) (.cons .nils .nil))) .nil)) (band (cEqO (.some (.arr nd 7 (rowK RD D) .none de dx dy)) (.some (.arr nd 7 (rowK RD D) .none de dx dy))) (band (cEqO .none .none) true))) (band (cEqL (.cons (.agg (.cons (.int .i16 n0) (.cons (.int .i16 n1) (.cons (.int .i16 n2) (.cons (.int .i16 n3) .nil))))) (.cons (.bool up) .nil)) (.cons (.agg (.cons (.int .i16 n0) (.cons (.int .i16 n1) (.cons (.int .i16 n2) (.cons (.int .i16 n3) .nil))))) (.cons (.bool up) .nil))) true)) (band (lw2 n0 n1 n2 n3) (band (band (band (band (Nat.beq nd nd) true) true) true) true))) true)) (lwgnnX x y mA mB mC mD mE mF) [.h,J1,J4,J5] [3,4,11,12] [] (by (try simp only [cEqL_rfl,cEqO_rfl,gS,lw2]);(try simp only [gT] at *);try omega) ?_
  exact lwgnn_ok hx hy  hpa
theorem lwanan_ok (hn:n≤1000) (hn1:1≤n) (hpa:∀ (x y:Int),(-128≤x∧x≤127)→(-128≤y∧y≤127)→EndsX En 1 (pzAmX n Y false false (0) (500) mA mB mC mD mE mF x y) (QR n Y oX oY x y J1 J2)) (hwk:EndsX En 0 wkmX (fun v H=>v=.bool true∧H.nx=.h)) (hT:TabOk (tbLan [(.agg [(.sa (.h) 0 nd 7),.nils])] [(.agg [(.int .i16 n0),(.int .i16 n1),(.int .i16 n2),(.int .i16 n3)]),(.bool up)] (some (.arr nd 7 (rowK RD D) none de dx dy)) none (az [mA,mB,mC,mD,mE,mF]) n Y) En):EndsX En 2 (lwananX nd D dx dy de n0 n1 n2 n3 up x y) (fun v H=>v=.bool true∧H.nx=.i .h):=by
  refine acT hT 2 [] 10 true (lwe6X nd D dx dy de n0 n1 n2 n3 up x y) [.h,J1,J2,J3] [[2,3,4,5,6]] rfl ?_
  refine ca (wkmX) [] (hwk) (fun v' H' q=>?_)
  rcases q with ⟨rfl,hnx6⟩
  refine ⟨(.bool true),[],J4,(by kernel_rfl),(by rw [hnx6];kernel_rfl),trivial,(by kernel_rfl),?_⟩
  refine arT hT 2 [] 7 ((band (band (band (band (cEqL (.cons (.agg (.cons (.sa .h 0 nd 7) (.cons .nils .nil))) .nil) (.cons (.agg (.cons (.sa .h 0 nd 7) (.cons .nils .nil))) .nil)) (band (cEqO (.some (.arr nd 7 (rowK RD D) .none de dx dy)) (.some (.arr nd 7 (rowK RD D) .none de dx dy))) (band (cEqO .none .none) true))) (band (cEqL (.cons (.agg (.cons (.int .i16 n0) (.cons (.int .i16 n1) (.cons (.int .i16 n2) (.cons (.int .i16 n3) .nil))))) (.cons (.bool up) .nil)) (.cons (.agg (.cons (.int .i16 n0) (.cons (.int .i16 n1) (.cons (.int .i16 n2) (.cons (.int .i16 n3) .nil))))) (.cons (.bool up) .nil))) true)) (band (lw2 n0 n1 n2 n3) (band (band (band (band (Nat.beq nd nd) true) true) true) true))) true)) (lwganX x y n Y mA mB mC mD mE mF) [.h,J1,J5,J6,J4] [3,4,11,12] [] (by (try simp only [cEqL_rfl,cEqO_rfl,gS,lw2]);(try simp only [gT] at *);try omega) ?_
  exact lwgan_ok hx hy hn hn1 hpa
theorem lwnann_ok (hpa:∀ (x y:Int),(-128≤x∧x≤127)→(-128≤y∧y≤127)→EndsX En 0 (pnzAmX (0) (500) mA mB mC mD mE mF x y) (QR0 (.h) J1)) (hwk:EndsX En 0 wkmX (fun v H=>v=.bool true∧H.nx=.h)) (hT:TabOk (tbLnn [(.agg [.nils,(.sa J1 0 md 2)])] [(.agg [(.int .i16 n0),(.int .i16 n1),(.int .i16 n2),(.int .i16 n3)]),(.bool up)] none (some (.arr md 2 (rowK [.u8,.u8] T) none te tx ty)) (az [mA,mB,mC,mD,mE,mF])) En):EndsX En 2 (lwnannX md T tx ty te n0 n1 n2 n3 up x y) (fun v H=>v=.bool true∧H.nx=.i .h):=by
  refine acT hT 2 [] 10 true (lwe7X md T tx ty te n0 n1 n2 n3 up x y) [.h,J1,J2,J3] [[2,3,4,5,6]] rfl ?_
  refine ca (wkmX) [] (hwk) (fun v' H' q=>?_)
  rcases q with ⟨rfl,hnx7⟩
  refine ⟨(.bool true),[],J4,(by kernel_rfl),(by rw [hnx7];kernel_rfl),trivial,(by kernel_rfl),?_⟩
  refine arT hT 2 [] 7 ((band (band (band (band (cEqL (.cons (.agg (.cons .nils (.cons (.sa J1 0 md 2) .nil))) .nil) (.cons (.agg (.cons .nils (.cons (.sa J1 0 md 2) .nil))) .nil)) (band (cEqO .none .none) (band (cEqO (.some (.arr md 2 (rowK [.u8,.u8] T) .none te tx ty)) (.some (.arr md 2 (rowK [.u8,.u8] T) .none te tx ty))) true))) (band (cEqL (.cons (.agg (.cons (.int .i16 n0) (.cons (.int .i16 n1) (.cons (.int .i16 n2) (.cons (.int .i16 n3) .nil))))) (.cons (.bool up) .nil)) (.cons (.agg (.cons (.int .i16 n0) (.cons (.int .i16 n1) (.cons (.int .i16 n2) (.cons (.int .i16 n3) .nil))))) (.cons (.bool up) .nil))) true)) (band (lw2 n0 n1 n2 n3) (band (band (band (band (Nat.beq md md) true) true) true) true))) true)) (lwgnnX x y mA mB mC mD mE mF) [.h,J1,J4,J5] [3,4,11,12] [] (by (try simp only [cEqL_rfl,cEqO_rfl,gS,lw2]);(try simp only [gT] at *);try omega) ?_
  exact lwgnn_ok hx hy  hpa
theorem lwnana_ok (hpa:∀ (x y:Int),(-128≤x∧x≤127)→(-128≤y∧y≤127)→EndsX En 1 (pnsAmX (0) (500) m V S false false mA mB mC mD mE mF x y) (QR0 J1 J2)) (hwk:EndsX En 0 wkmX (fun v H=>v=.bool true∧H.nx=.h)) (hT:TabOk (tbLna [(.agg [.nils,(.sa J1 0 md 2)])] [(.agg [(.int .i16 n0),(.int .i16 n1),(.int .i16 n2),(.int .i16 n3)]),(.bool up)] none (some (.arr md 2 (rowK [.u8,.u8] T) none te tx ty)) (az [mA,mB,mC,mD,mE,mF]) m V S) En):EndsX En 2 (lwnanaX md T tx ty te n0 n1 n2 n3 up x y) (fun v H=>v=.bool true∧H.nx=.i .h):=by
  refine acT hT 2 [] 10 true (lwe8X md T tx ty te n0 n1 n2 n3 up x y) [.h,J1,J2,J3] [[2,3,4,5,6]] rfl ?_
  refine ca (wkmX) [] (hwk) (fun v' H' q=>?_)
  rcases q with ⟨rfl,hnx8⟩
  refine ⟨(.bool true),[],J4,(by kernel_rfl),(by rw [hnx8];kernel_rfl),trivial,(by kernel_rfl),?_⟩
  refine arT hT 2 [] 7 ((band (band (band (band (cEqL (.cons (.agg (.cons .nils (.cons (.sa J1 0 md 2) .nil))) .nil) (.cons (.agg (.cons .nils (.cons (.sa J1 0 md 2) .nil))) .nil)) (band (cEqO .none .none) (band (cEqO (.some (.arr md 2 (rowK [.u8,.u8] T) .none te tx ty)) (.some (.arr md 2 (rowK [.u8,.u8] T) .none te tx ty))) true))) (band (cEqL (.cons (.agg (.cons (.int .i16 n0) (.cons (.int .i16 n1) (.cons (.int .i16 n2) (.cons (.int .i16 n3) .nil))))) (.cons (.bool up) .nil)) (.cons (.agg (.cons (.int .i16 n0) (.cons (.int .i16 n1) (.cons (.int .i16 n2) (.cons (.int .i16 n3) .nil))))) (.cons (.bool up) .nil))) true)) (band (lw2 n0 n1 n2 n3) (band (band (band (band (Nat.beq md md) true) true) true) true))) true)) (lwgnaX x y m V S mA mB mC mD mE mF) [.h,J1,J5,J6,J4] [3,4,11,12] [] (by (try simp only [cEqL_rfl,cEqO_rfl,gS,lw2]);(try simp only [gT] at *);try omega) ?_
  exact lwgna_ok hx hy  hpa
theorem lwnnnn_ok (hpa:∀ (x y:Int),(-128≤x∧x≤127)→(-128≤y∧y≤127)→EndsX En 0 (pnzAmX (0) (500) mA mB mC mD mE mF x y) (QR0 (.h) J1)) (hwk:EndsX En 0 wkmX (fun v H=>v=.bool true∧H.nx=.h)) (hT:TabOk (tbLnn [(.agg [.nils,.nils])] [(.agg [(.int .i16 n0),(.int .i16 n1),(.int .i16 n2),(.int .i16 n3)]),(.bool up)] none none (az [mA,mB,mC,mD,mE,mF])) En):EndsX En 2 (lwnnnnX n0 n1 n2 n3 up x y) (fun v H=>v=.bool true∧H.nx=.i .h):=by
  refine acT hT 2 [] 10 true (lwe9X n0 n1 n2 n3 up x y) [.h,J1,J2,J3] [[2,3,4,5,6]] rfl ?_
  refine ca (wkmX) [] (hwk) (fun v' H' q=>?_)
  rcases q with ⟨rfl,hnx9⟩
  refine ⟨(.bool true),[],J4,(by kernel_rfl),(by rw [hnx9];kernel_rfl),trivial,(by kernel_rfl),?_⟩
  refine arT hT 2 [] 7 ((band (band (band (band (cEqL (.cons (.agg (.cons .nils (.cons .nils .nil))) .nil) (.cons (.agg (.cons .nils (.cons .nils .nil))) .nil)) (band (cEqO .none .none) (band (cEqO .none .none) true))) (band (cEqL (.cons (.agg (.cons (.int .i16 n0) (.cons (.int .i16 n1) (.cons (.int .i16 n2) (.cons (.int .i16 n3) .nil))))) (.cons (.bool up) .nil)) (.cons (.agg (.cons (.int .i16 n0) (.cons (.int .i16 n1) (.cons (.int .i16 n2) (.cons (.int .i16 n3) .nil))))) (.cons (.bool up) .nil))) true)) (band (lw2 n0 n1 n2 n3) true)) true)) (lwgnnX x y mA mB mC mD mE mF) [.h,J1,J4,J5] [3,4,11,12] [] (by (try simp only [cEqL_rfl,cEqO_rfl,gS,lw2]);(try simp only [gT] at *);try omega) ?_
  exact lwgnn_ok hx hy  hpa
end
noncomputable def lawaaX (nd:Nat) (D:Nat→Nat→Int) (dx:Bool) (dy:Bool) (de:Nat) (md:Nat) (T:Nat→Nat→Int) (tx:Bool) (ty:Bool) (te:Nat) (n0:Int) (n1:Int) (n2:Int) (n3:Int) (up:Bool) (x:Int) (y:Int):St:=lwaannX nd D dx dy de md T tx ty te n0 n1 n2 n3 up x y
theorem lawaa_ok {nd:Nat} {D:Nat→Nat→Int} {dx:Bool} {dy:Bool} {de:Nat} {md:Nat} {T:Nat→Nat→Int} {tx:Bool} {ty:Bool} {te:Nat} {n0:Int} {n1:Int} {n2:Int} {n3:Int} {up:Bool} {x:Int} {y:Int} (hD:∀ j k,-32768≤D j k∧D j k≤32767) (hD0:∀ j,0≤D j 0) (hT:∀ j k,0≤T j k∧T j k≤255) (hn0 : -32768≤n0∧n0≤32767) (hn1 : -32768≤n1∧n1≤32767) (hn2 : -32768≤n2∧n2≤32767) (hn3 : -32768≤n3∧n3≤32767) (hx : -128≤x∧x≤127) (hy : -128≤y∧y≤127) (hwk:EndsX En 0 wkmX (fun v H=>v=.bool true∧H.nx=.h)) :
    EndsX En 2 (lawaaX nd D dx dy de md T tx ty te n0 n1 n2 n3 up x y) (fun v H=>v=.bool true∧H.nx=.i .h):=by
  obtain ⟨vm,Hm,⟨mA,mB,mC,mD,mE,mF,e1,_,hmA,hmB,hmC,hmD,hmE,hmF⟩,hrm⟩:=EndsX.split (mom_ok (up:=up) hn0 hn1 hn2 hn3)
  have h7:=ent7_of (n0:=n0) (n1:=n1) (n2:=n2) (n3:=n3) (up:=up) (mr:=vm) (by rw [e1];kernel_rfl) (hrm _ rfl)
  subst e1
  obtain ⟨v,H,hq,hr⟩:=EndsX.split (glaa_ok (nd:=nd) (D:=D) (dx:=dx) (dy:=dy) (de:=de) (md:=md) (T:=T) (tx:=tx) (ty:=ty) (te:=te) hD hD0 hT)
  rcases hq with h|⟨n,Y,h1,h2,h3,hn1',hn,hY,q1⟩|⟨m,V,S,h1,h2,h3,hst,q2⟩|⟨n,Y,m,V,S,h1,h2,h3,h4,hn1',hn,hY,hst,q1,q2⟩
  · obtain ⟨oX,oY,hp⟩:=pnzA_ok (sd:=0) (wd:=500) hmA hmB hmC hmD hmE hmF
    exact lwaann_ok (nd:=nd) (D:=D) (dx:=dx) (dy:=dy) (de:=de) (md:=md) (T:=T) (tx:=tx) (ty:=ty) (te:=te) (n0:=n0) (n1:=n1) (n2:=n2) (n3:=n3) (up:=up) (x:=x) (y:=y) (mA:=mA) (mB:=mB) (mC:=mC) (mD:=mD) (mE:=mE) (mF:=mF) hx hy (fun x y a b=>EndsN.redressV (hp x y a b) qr_qr0) hwk (tlaann h7 (hr _ h))
  · obtain ⟨oX,oY,hp⟩:=pzA_ok (ex:=false) (sty:=false) (sd:=0) (wd:=500) hn hY hmA hmB hmC hmD hmE hmF
    exact lwaaan_ok (nd:=nd) (D:=D) (dx:=dx) (dy:=dy) (de:=de) (md:=md) (T:=T) (tx:=tx) (ty:=ty) (te:=te) (n0:=n0) (n1:=n1) (n2:=n2) (n3:=n3) (up:=up) (x:=x) (y:=y) (mA:=mA) (mB:=mB) (mC:=mC) (mD:=mD) (mE:=mE) (mF:=mF) (n:=n) (Y:=Y) (oX:=oX) (oY:=oY) hx hy hn hn1' hp hwk (tlaaan h7 (hr _ ⟨h1,h2,h3⟩))
  · obtain ⟨s1,s2,s3,s4,s5⟩:=hst
    obtain ⟨oX,oY,hp⟩:=pnsA_ok (sex:=false) (ssty:=false) (sd:=0) (wd:=500) s2 s5 s3 s1 s4 hmA hmB hmC hmD hmE hmF
    exact lwaana_ok (nd:=nd) (D:=D) (dx:=dx) (dy:=dy) (de:=de) (md:=md) (T:=T) (tx:=tx) (ty:=ty) (te:=te) (n0:=n0) (n1:=n1) (n2:=n2) (n3:=n3) (up:=up) (x:=x) (y:=y) (mA:=mA) (mB:=mB) (mC:=mC) (mD:=mD) (mE:=mE) (mF:=mF) (m:=m) (V:=V) (S:=S) hx hy (fun x y a b=>EndsN.redressV (hp x y a b) qr_qr0) hwk (tlaana h7 (hr _ ⟨h1,h2,h3⟩))
  obtain ⟨s1,s2,s3,s4,s5⟩:=hst
  obtain ⟨oX,oY,hp⟩:=psA_ok (ex:=false) (sty:=false) (sex:=false) (ssty:=false) (sd:=0) (wd:=500) hn hY s2 s5 s3 s1 s4 hmA hmB hmC hmD hmE hmF
  exact lwaaaa_ok (nd:=nd) (D:=D) (dx:=dx) (dy:=dy) (de:=de) (md:=md) (T:=T) (tx:=tx) (ty:=ty) (te:=te) (n0:=n0) (n1:=n1) (n2:=n2) (n3:=n3) (up:=up) (x:=x) (y:=y) (mA:=mA) (mB:=mB) (mC:=mC) (mD:=mD) (mE:=mE) (mF:=mF) (n:=n) (Y:=Y) (m:=m) (V:=V) (S:=S) (oX:=oX) (oY:=oY) hx hy hn hn1' hp hwk (tlaaaa h7 (hr _ ⟨h1,h2,h3,h4⟩))
noncomputable def lawanX (nd:Nat) (D:Nat→Nat→Int) (dx:Bool) (dy:Bool) (de:Nat) (n0:Int) (n1:Int) (n2:Int) (n3:Int) (up:Bool) (x:Int) (y:Int):St:=lwannnX nd D dx dy de n0 n1 n2 n3 up x y
theorem lawan_ok {nd:Nat} {D:Nat→Nat→Int} {dx:Bool} {dy:Bool} {de:Nat} {md:Nat} {T:Nat→Nat→Int} {tx:Bool} {ty:Bool} {te:Nat} {n0:Int} {n1:Int} {n2:Int} {n3:Int} {up:Bool} {x:Int} {y:Int} (hD:∀ j k,-32768≤D j k∧D j k≤32767) (hD0:∀ j,0≤D j 0) (hn0 : -32768≤n0∧n0≤32767) (hn1 : -32768≤n1∧n1≤32767) (hn2 : -32768≤n2∧n2≤32767) (hn3 : -32768≤n3∧n3≤32767) (hx : -128≤x∧x≤127) (hy : -128≤y∧y≤127) (hwk:EndsX En 0 wkmX (fun v H=>v=.bool true∧H.nx=.h)) :
    EndsX En 2 (lawanX nd D dx dy de n0 n1 n2 n3 up x y) (fun v H=>v=.bool true∧H.nx=.i .h):=by
  obtain ⟨vm,Hm,⟨mA,mB,mC,mD,mE,mF,e1,_,hmA,hmB,hmC,hmD,hmE,hmF⟩,hrm⟩:=EndsX.split (mom_ok (up:=up) hn0 hn1 hn2 hn3)
  have h7:=ent7_of (n0:=n0) (n1:=n1) (n2:=n2) (n3:=n3) (up:=up) (mr:=vm) (by rw [e1];kernel_rfl) (hrm _ rfl)
  subst e1
  obtain ⟨v,H,hq,hr⟩:=EndsX.split (glan_ok (nd:=nd) (D:=D) (dx:=dx) (dy:=dy) (de:=de) hD hD0 )
  rcases hq with h|⟨n,Y,h1,h2,h3,hn1',hn,hY,q1⟩|⟨m,V,S,h1,h2,h3,hst,q2⟩|⟨n,Y,m,V,S,h1,h2,h3,h4,hn1',hn,hY,hst,q1,q2⟩
  · obtain ⟨oX,oY,hp⟩:=pnzA_ok (sd:=0) (wd:=500) hmA hmB hmC hmD hmE hmF
    exact lwannn_ok (nd:=nd) (D:=D) (dx:=dx) (dy:=dy) (de:=de) (n0:=n0) (n1:=n1) (n2:=n2) (n3:=n3) (up:=up) (x:=x) (y:=y) (mA:=mA) (mB:=mB) (mC:=mC) (mD:=mD) (mE:=mE) (mF:=mF) hx hy (fun x y a b=>EndsN.redressV (hp x y a b) qr_qr0) hwk (tlannn h7 (hr _ h))
  · obtain ⟨oX,oY,hp⟩:=pzA_ok (ex:=false) (sty:=false) (sd:=0) (wd:=500) hn hY hmA hmB hmC hmD hmE hmF
    exact lwanan_ok (nd:=nd) (D:=D) (dx:=dx) (dy:=dy) (de:=de) (n0:=n0) (n1:=n1) (n2:=n2) (n3:=n3) (up:=up) (x:=x) (y:=y) (mA:=mA) (mB:=mB) (mC:=mC) (mD:=mD) (mE:=mE) (mF:=mF) (n:=n) (Y:=Y) (oX:=oX) (oY:=oY) hx hy hn hn1' hp hwk (tlanan h7 (hr _ ⟨h1,h2,h3⟩))
  · first|(cases q1;done)|(cases q2;done)
  first|(cases q1;done)|(cases q2;done)
noncomputable def lawnaX (md:Nat) (T:Nat→Nat→Int) (tx:Bool) (ty:Bool) (te:Nat) (n0:Int) (n1:Int) (n2:Int) (n3:Int) (up:Bool) (x:Int) (y:Int):St:=lwnannX md T tx ty te n0 n1 n2 n3 up x y
theorem lawna_ok {nd:Nat} {D:Nat→Nat→Int} {dx:Bool} {dy:Bool} {de:Nat} {md:Nat} {T:Nat→Nat→Int} {tx:Bool} {ty:Bool} {te:Nat} {n0:Int} {n1:Int} {n2:Int} {n3:Int} {up:Bool} {x:Int} {y:Int} (hT:∀ j k,0≤T j k∧T j k≤255) (hn0 : -32768≤n0∧n0≤32767) (hn1 : -32768≤n1∧n1≤32767) (hn2 : -32768≤n2∧n2≤32767) (hn3 : -32768≤n3∧n3≤32767) (hx : -128≤x∧x≤127) (hy : -128≤y∧y≤127) (hwk:EndsX En 0 wkmX (fun v H=>v=.bool true∧H.nx=.h)) :
    EndsX En 2 (lawnaX md T tx ty te n0 n1 n2 n3 up x y) (fun v H=>v=.bool true∧H.nx=.i .h):=by
  obtain ⟨vm,Hm,⟨mA,mB,mC,mD,mE,mF,e1,_,hmA,hmB,hmC,hmD,hmE,hmF⟩,hrm⟩:=EndsX.split (mom_ok (up:=up) hn0 hn1 hn2 hn3)
  have h7:=ent7_of (n0:=n0) (n1:=n1) (n2:=n2) (n3:=n3) (up:=up) (mr:=vm) (by rw [e1];kernel_rfl) (hrm _ rfl)
  subst e1
  obtain ⟨v,H,hq,hr⟩:=EndsX.split (glna_ok (md:=md) (T:=T) (tx:=tx) (ty:=ty) (te:=te) hT)
  rcases hq with h|⟨n,Y,h1,h2,h3,hn1',hn,hY,q1⟩|⟨m,V,S,h1,h2,h3,hst,q2⟩|⟨n,Y,m,V,S,h1,h2,h3,h4,hn1',hn,hY,hst,q1,q2⟩
  · obtain ⟨oX,oY,hp⟩:=pnzA_ok (sd:=0) (wd:=500) hmA hmB hmC hmD hmE hmF
    exact lwnann_ok (md:=md) (T:=T) (tx:=tx) (ty:=ty) (te:=te) (n0:=n0) (n1:=n1) (n2:=n2) (n3:=n3) (up:=up) (x:=x) (y:=y) (mA:=mA) (mB:=mB) (mC:=mC) (mD:=mD) (mE:=mE) (mF:=mF) hx hy (fun x y a b=>EndsN.redressV (hp x y a b) qr_qr0) hwk (tlnann h7 (hr _ h))
  · first|(cases q1;done)|(cases q2;done)
  · obtain ⟨s1,s2,s3,s4,s5⟩:=hst
    obtain ⟨oX,oY,hp⟩:=pnsA_ok (sex:=false) (ssty:=false) (sd:=0) (wd:=500) s2 s5 s3 s1 s4 hmA hmB hmC hmD hmE hmF
    exact lwnana_ok (md:=md) (T:=T) (tx:=tx) (ty:=ty) (te:=te) (n0:=n0) (n1:=n1) (n2:=n2) (n3:=n3) (up:=up) (x:=x) (y:=y) (mA:=mA) (mB:=mB) (mC:=mC) (mD:=mD) (mE:=mE) (mF:=mF) (m:=m) (V:=V) (S:=S) hx hy (fun x y a b=>EndsN.redressV (hp x y a b) qr_qr0) hwk (tlnana h7 (hr _ ⟨h1,h2,h3⟩))
  first|(cases q1;done)|(cases q2;done)
noncomputable def lawnnX (n0:Int) (n1:Int) (n2:Int) (n3:Int) (up:Bool) (x:Int) (y:Int):St:=lwnnnnX n0 n1 n2 n3 up x y
theorem lawnn_ok {nd:Nat} {D:Nat→Nat→Int} {dx:Bool} {dy:Bool} {de:Nat} {md:Nat} {T:Nat→Nat→Int} {tx:Bool} {ty:Bool} {te:Nat} {n0:Int} {n1:Int} {n2:Int} {n3:Int} {up:Bool} {x:Int} {y:Int} (hn0 : -32768≤n0∧n0≤32767) (hn1 : -32768≤n1∧n1≤32767) (hn2 : -32768≤n2∧n2≤32767) (hn3 : -32768≤n3∧n3≤32767) (hx : -128≤x∧x≤127) (hy : -128≤y∧y≤127) (hwk:EndsX En 0 wkmX (fun v H=>v=.bool true∧H.nx=.h)) :
    EndsX En 2 (lawnnX n0 n1 n2 n3 up x y) (fun v H=>v=.bool true∧H.nx=.i .h):=by
  obtain ⟨vm,Hm,⟨mA,mB,mC,mD,mE,mF,e1,_,hmA,hmB,hmC,hmD,hmE,hmF⟩,hrm⟩:=EndsX.split (mom_ok (up:=up) hn0 hn1 hn2 hn3)
  have h7:=ent7_of (n0:=n0) (n1:=n1) (n2:=n2) (n3:=n3) (up:=up) (mr:=vm) (by rw [e1];kernel_rfl) (hrm _ rfl)
  subst e1
  obtain ⟨v,H,hq,hr⟩:=EndsX.split (glnn_ok )
  rcases hq with h|⟨n,Y,h1,h2,h3,hn1',hn,hY,q1⟩|⟨m,V,S,h1,h2,h3,hst,q2⟩|⟨n,Y,m,V,S,h1,h2,h3,h4,hn1',hn,hY,hst,q1,q2⟩
  · obtain ⟨oX,oY,hp⟩:=pnzA_ok (sd:=0) (wd:=500) hmA hmB hmC hmD hmE hmF
    exact lwnnnn_ok (n0:=n0) (n1:=n1) (n2:=n2) (n3:=n3) (up:=up) (x:=x) (y:=y) (mA:=mA) (mB:=mB) (mC:=mC) (mD:=mD) (mE:=mE) (mF:=mF) hx hy (fun x y a b=>EndsN.redressV (hp x y a b) qr_qr0) hwk (tlnnnn h7 (hr _ h))
  · first|(cases q1;done)|(cases q2;done)
  · first|(cases q1;done)|(cases q2;done)
  first|(cases q1;done)|(cases q2;done)
end Go.Proofs.Ytoahnefofelglaa.gm
end
