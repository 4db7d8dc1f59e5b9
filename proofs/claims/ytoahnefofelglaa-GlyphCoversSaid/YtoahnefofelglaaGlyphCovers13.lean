/- A part of the proof of GlyphCovers; no condition. -/
import Derived.Test.YtoahnefofelglaaGlyphCovers12
import Derived.Test.YtoahnefofelglaaGlyphCovers08
import Derived.Test.YtoahnefofelglaaGlyphCovers09
set_option linter.unusedVariables false
set_option linter.unusedSimpArgs false
set_option linter.unusedSectionVars false
noncomputable section
section
namespace Go.Proofs.Ytoahnefofelglaa.gm
open Go Go.AM
abbrev BO (ax bx qy b ay qx:Int):Bool:=(a6 (f8 (Int.sub ax bx)) (a6 (f8 (Int.sub qy b)) (a6 (f8 (Int.mul (Int.sub ax bx) (Int.sub qy b))) (a6 (f8 (Int.sub ay b)) (a6 (f8 (Int.sub qx bx)) (a6 (f8 (Int.mul (Int.sub ay b) (Int.sub qx bx))) true))))))
abbrev BP (bx ax qy ay b qx:Int):Bool:=(a6 (f8 (Int.sub bx ax)) (a6 (f8 (Int.sub qy ay)) (a6 (f8 (Int.mul (Int.sub bx ax) (Int.sub qy ay))) (a6 (f8 (Int.sub b ay)) (a6 (f8 (Int.sub qx ax)) (a6 (f8 (Int.mul (Int.sub b ay) (Int.sub qx ax))) true))))))
abbrev xF (b ay:Int) (zz:Bool):Bool:=(a6 (i4 b ay) (a6 (Bool.not (i4 ay b)) zz))
theorem fZ {x y A B:Int} (hx : -A≤x∧x≤A) (hy : -B≤y∧y≤B) : -(A * B)≤Int.mul x y∧Int.mul x y≤A * B:=by
 have h1:x.natAbs≤A.natAbs:=by omega
 have h2:y.natAbs≤B.natAbs:=by omega
 have h3:(x * y).natAbs≤A.natAbs * B.natAbs:=by rw [Int.natAbs_mul];exact Nat.mul_le_mul h1 h2
 have hA:(A.natAbs:Int)=A:=by omega
 have hB:(B.natAbs:Int)=B:=by omega
 have h4:((A.natAbs * B.natAbs:Nat):Int)=A * B:=by rw [Int.natCast_mul,hA,hB]
 show -(A * B)≤x * y∧x * y≤A * B
 omega
theorem KX {ax ay bx b qx qy:Int} (hax : -16384≤ax∧ax≤16384) (hay : -16384≤ay∧ay≤16384) (hbx : -16384≤bx∧bx≤16384) (hb : -16384≤b∧b≤16384) (hqx : -16384≤qx∧qx≤16384) (hqy : -16384≤qy∧qy≤16384):a7 En 0 (Ss ax ay bx b qx qy) (fun v _=>v=.int .i64 (W5 ax ay bx b qx qy)):=by
 have m1 : -(32768 * 32768)≤Int.mul (Int.sub b ay) (Int.sub qx ax)∧Int.mul (Int.sub b ay) (Int.sub qx ax)≤32768 * 32768:=fZ (by simp only [j7];omega) (by simp only [j7];omega)
 have m2 : -(32768 * 32768)≤Int.mul (Int.sub bx ax) (Int.sub qy ay)∧Int.mul (Int.sub bx ax) (Int.sub qy ay)≤32768 * 32768:=fZ (by simp only [j7];omega) (by simp only [j7];omega)
 have m3 : -(32768 * 32768)≤Int.mul (Int.sub ay b) (Int.sub qx bx)∧Int.mul (Int.sub ay b) (Int.sub qx bx)≤32768 * 32768:=fZ (by simp only [j7];omega) (by simp only [j7];omega)
 have m4 : -(32768 * 32768)≤Int.mul (Int.sub ax bx) (Int.sub qy b)∧Int.mul (Int.sub ax bx) (Int.sub qy b)≤32768 * 32768:=fZ (by simp only [j7];omega) (by simp only [j7];omega)
 rcases ct b ay with ⟨b1,b1p⟩|⟨b1,b1p⟩
 ·rcases ct qy ay with ⟨b2,b2p⟩|⟨b2,b2p⟩
  ·rcases cl b qy with ⟨b3,b3p⟩|⟨b3,b3p⟩
   ·rcases ct (Int.mul (Int.sub b ay) (Int.sub qx ax)) (Int.mul (Int.sub bx ax) (Int.sub qy ay)) with ⟨b4,b4p⟩|⟨b4,b4p⟩
    ·refine A5 N5 0 [(17,11,false),(12,26,false),(8,33,false),(35,62,false)] 8 ((a6 (Bool.not (i4 b ay)) (a6 (Bool.not (i4 qy ay)) (a6 (Bool.not (f9 b qy)) (a6 (BP bx ax qy ay b qx) (a6 (Bool.not (i4 (Int.mul (Int.sub b ay) (Int.sub qx ax)) (Int.mul (Int.sub bx ax) (Int.sub qy ay)))) true)))))) [] (zi (0)) [] .h (by (try simp only [b1,b2,b3,b4,gS,BP]);(try simp only [gT] at *);try omega) ?_
     exact congrArg (AV.int .i64) (by unfold W5 cQ;(try simp only [j8,j7,m8,H3] at *);repeat' split <;> omega)
    refine A5 N5 0 [(17,11,false),(12,26,false),(8,33,false),(35,62,true)] 7 ((a6 (Bool.not (i4 b ay)) (a6 (Bool.not (i4 qy ay)) (a6 (Bool.not (f9 b qy)) (a6 (BP bx ax qy ay b qx) (a6 (i4 (Int.mul (Int.sub b ay) (Int.sub qx ax)) (Int.mul (Int.sub bx ax) (Int.sub qy ay))) true)))))) [] (zi (1)) [] .h (by (try simp only [b1,b2,b3,b4,gS,BP]);(try simp only [gT] at *);try omega) ?_
    exact congrArg (AV.int .i64) (by unfold W5 cQ;(try simp only [j8,j7,m8,H3] at *);repeat' split <;> omega)
   refine A5 N5 0 [(17,11,false),(12,26,false),(8,33,true)] 7 (a6 (Bool.not (i4 b ay)) (a6 (Bool.not (i4 qy ay)) (a6 (f9 b qy) true))) [] (zi (0)) [] .h (by (try simp only [b1,b2,b3,gS]);(try simp only [gT] at *);try omega) ?_
   exact congrArg (AV.int .i64) (by unfold W5 cQ;(try simp only [j8,j7,m8,H3] at *);repeat' split <;> omega)
  refine A5 N5 0 [(17,11,false),(12,26,true)] 15 (a6 (Bool.not (i4 b ay)) (a6 (i4 qy ay) true)) [] (zi (0)) [] .h (by (try simp only [b1,b2,gS]);(try simp only [gT] at *);try omega) ?_
  exact congrArg (AV.int .i64) (by unfold W5 cQ;(try simp only [j8,j7,m8,H3] at *);repeat' split <;> omega)
 rcases ct qy b with ⟨b5,b5p⟩|⟨b5,b5p⟩
 ·rcases cl ay qy with ⟨b6,b6p⟩|⟨b6,b6p⟩
  ·rcases ct (Int.mul (Int.sub ay b) (Int.sub qx bx)) (Int.mul (Int.sub ax bx) (Int.sub qy b)) with ⟨b7,b7p⟩|⟨b7,b7p⟩
   ·refine A5 N5 0 [(17,11,true),(27,11,false),(12,26,false),(8,33,false),(35,62,false)] 13 ((xF b ay (a6 (Bool.not (i4 qy b)) (a6 (Bool.not (f9 ay qy)) (a6 (BO ax bx qy b ay qx) (a6 (Bool.not (i4 (Int.mul (Int.sub ay b) (Int.sub qx bx)) (Int.mul (Int.sub ax bx) (Int.sub qy b)))) true)))))) [] (zi (0)) [] .h (by (try simp only [b1,b5,b6,b7,gS,BO,xF]);(try simp only [gT] at *);try omega) ?_
    exact congrArg (AV.int .i64) (by unfold W5 cQ;(try simp only [j8,j7,m8,H3] at *);repeat' split <;> omega)
   refine A5 N5 0 [(17,11,true),(27,11,false),(12,26,false),(8,33,false),(35,62,true)] 12 ((xF b ay (a6 (Bool.not (i4 qy b)) (a6 (Bool.not (f9 ay qy)) (a6 (BO ax bx qy b ay qx) (a6 (i4 (Int.mul (Int.sub ay b) (Int.sub qx bx)) (Int.mul (Int.sub ax bx) (Int.sub qy b))) true)))))) [] (zi (-1)) [] .h (by (try simp only [b1,b5,b6,b7,gS,BO,xF]);(try simp only [gT] at *);try omega) ?_
   exact congrArg (AV.int .i64) (by unfold W5 cQ;(try simp only [j8,j7,m8,H3] at *);repeat' split <;> omega)
  refine A5 N5 0 [(17,11,true),(27,11,false),(12,26,false),(8,33,true)] 12 ((xF b ay (a6 (Bool.not (i4 qy b)) (a6 (f9 ay qy) true)))) [] (zi (0)) [] .h (by (try simp only [b1,b5,b6,gS,xF]);(try simp only [gT] at *);try omega) ?_
  exact congrArg (AV.int .i64) (by unfold W5 cQ;(try simp only [j8,j7,m8,H3] at *);repeat' split <;> omega)
 refine A5 N5 0 [(17,11,true),(27,11,false),(12,26,true)] 20 ((xF b ay (a6 (i4 qy b) true))) [] (zi (0)) [] .h (by (try simp only [b1,b5,gS,xF]);(try simp only [gT] at *);try omega) ?_
 exact congrArg (AV.int .i64) (by unfold W5 cQ;(try simp only [j8,j7,m8,H3] at *);repeat' split <;> omega)
def Su (ax:Int) (ay:Int) (bx:Int) (b:Int) (cx:Int) (cy:Int) (dx:Int) (dy:Int):St:=⟨o4 (d9 En 31 [(az [ax,ay,bx,b,cx,cy,dx,dy]),(zi (4))] false),[],[],.h,0⟩
theorem TG (ax:Int) (ay:Int) (bx:Int) (b:Int) (cx:Int) (cy:Int) (dx:Int) (dy:Int):d9 En 31 [(az [ax,ay,bx,b,cx,cy,dx,dy]),(zi (4))] false=some (Su ax ay bx b cx cy dx dy).f:=by kernel_rfl
def TH (m:Int):St:=⟨(fr 31 24 (ts [1,5,6] [zi (4),zi m,zi (1)]) [cA En 31 (pb 56),lA En 31 (pb 56),.blk 0,cA En 31 (pb 15)]),[],[],.h,0⟩
abbrev M4 (m:Int):Int:=(Int.mul (3) m)
abbrev N8 (m:Int):Bool:=(a6 (f8 (M4 m)) true)
abbrev Bv (ay b cy:Int):Int:=(Int.add (Int.sub ay (Int.mul (2) b)) cy)
abbrev Bw (b cy dy:Int):Int:=(Int.add (Int.sub b (Int.mul (2) cy)) dy)
abbrev Bx (ax bx cx:Int):Int:=(Int.add (Int.sub ax (Int.mul (2) bx)) cx)
abbrev By (bx cx dx:Int):Int:=(Int.add (Int.sub bx (Int.mul (2) cx)) dx)
abbrev BQ (ax ay bx b cx cy dx dy:Int):Bool:=(a6 (c9 ax ax) (a6 (c9 ay ay) (a6 (c9 bx bx) (a6 (c9 b b) (a6 (c9 cx cx) (a6 (c9 cy cy) (a6 (c9 dx dx) (a6 (c9 dy dy) true))))))))
abbrev gA (m:Int) (zz:Bool):Bool:=(a6 (i4 (16) (M4 m)) (a6 (N8 m) zz))
abbrev jY (m:Int) (zz:Bool):Bool:=(a6 (i4 (64) (M4 m)) (a6 (N8 m) zz))
abbrev pF (m:Int) (zz:Bool):Bool:=(a6 (i4 (256) (M4 m)) (a6 (N8 m) zz))
abbrev jJ (m:Int) (zz:Bool):Bool:=(a6 (i4 (1024) (M4 m)) (a6 (N8 m) zz))
theorem KY {ax ay bx b cx cy dx dy m:Int} (hm:0≤m∧m≤65536):a7 En 0 (TH m) (fun v _=>v=.int .i64 (Fy m)):=by
 rcases ct (16) (Int.mul (3) m) with ⟨b1,b1p⟩|⟨b1,b1p⟩
 ·refine A5 N5 0 [(13,20,false)] 9 ((a6 (N8 m) (a6 (Bool.not (i4 (16) (M4 m))) true))) [] (zi (1)) [] .h (by (try simp only [b1,gS,M4,N8]);(try simp only [gT] at *);try omega) ?_
  exact congrArg (AV.int .i64) (by unfold Fy;(try simp only [m8] at *);repeat' split <;> omega)
 rcases ct (64) (Int.mul (3) m) with ⟨b2,b2p⟩|⟨b2,b2p⟩
 ·refine A5 N5 0 [(13,20,true),(23,20,false)] 9 ((a6 (N8 m) (gA m (a6 (Bool.not (i4 (64) (M4 m))) true)))) [] (zi (2)) [] .h (by (try simp only [b1,b2,gS,M4,N8,gA]);(try simp only [gT] at *);try omega) ?_
  exact congrArg (AV.int .i64) (by unfold Fy;(try simp only [m8] at *);repeat' split <;> omega)
 rcases ct (256) (Int.mul (3) m) with ⟨b3,b3p⟩|⟨b3,b3p⟩
 ·refine A5 N5 0 [(13,20,true),(23,20,true),(23,20,false)] 9 ((a6 (N8 m) (gA m (jY m (a6 (Bool.not (i4 (256) (M4 m))) true))))) [] (zi (4)) [] .h (by (try simp only [b1,b2,b3,gS,M4,N8,gA,jY]);(try simp only [gT] at *);try omega) ?_
  exact congrArg (AV.int .i64) (by unfold Fy;(try simp only [m8] at *);repeat' split <;> omega)
 rcases ct (1024) (Int.mul (3) m) with ⟨b4,b4p⟩|⟨b4,b4p⟩
 ·refine A5 N5 0 [(13,20,true),(23,20,true),(23,20,true),(23,20,false)] 9 ((a6 (N8 m) (gA m (jY m (pF m (a6 (Bool.not (i4 (1024) (M4 m))) true)))))) [] (zi (8)) [] .h (by (try simp only [b1,b2,b3,b4,gS,M4,N8,gA,jY,pF]);(try simp only [gT] at *);try omega) ?_
  exact congrArg (AV.int .i64) (by unfold Fy;(try simp only [m8] at *);repeat' split <;> omega)
 rcases ct (4096) (Int.mul (3) m) with ⟨b5,b5p⟩|⟨b5,b5p⟩
 ·refine A5 N5 0 [(13,20,true),(23,20,true),(23,20,true),(23,20,true),(23,20,false)] 9 ((a6 (N8 m) (gA m (jY m (pF m (jJ m (a6 (Bool.not (i4 (4096) (M4 m))) true))))))) [] (zi (16)) [] .h (by (try simp only [b1,b2,b3,b4,b5,gS,M4,N8,gA,jY,pF,jJ]);(try simp only [gT] at *);try omega) ?_
  exact congrArg (AV.int .i64) (by unfold Fy;(try simp only [m8] at *);repeat' split <;> omega)
 rcases ct (16384) (Int.mul (3) m) with ⟨b6,b6p⟩|⟨b6,b6p⟩
 ·refine A5 N5 0 [(13,20,true),(23,20,true),(23,20,true),(23,20,true),(23,20,true),(23,20,false)] 9 ((a6 (N8 m) (gA m (jY m (pF m (jJ m (a6 (i4 (4096) (M4 m)) (a6 (N8 m) (a6 (Bool.not (i4 (16384) (M4 m))) true))))))))) [] (zi (32)) [] .h (by (try simp only [b1,b2,b3,b4,b5,b6,gS,M4,N8,gA,jY,pF,jJ]);(try simp only [gT] at *);try omega) ?_
  exact congrArg (AV.int .i64) (by unfold Fy;(try simp only [m8] at *);repeat' split <;> omega)
 rcases ct (65536) (Int.mul (3) m) with ⟨b7,b7p⟩|⟨b7,b7p⟩
 ·refine A5 N5 0 [(13,20,true),(23,20,true),(23,20,true),(23,20,true),(23,20,true),(23,20,true),(23,20,false)] 9 ((a6 (N8 m) (gA m (jY m (pF m (jJ m (a6 (i4 (4096) (M4 m)) (a6 (N8 m) (a6 (i4 (16384) (M4 m)) (a6 (N8 m) (a6 (Bool.not (i4 (65536) (M4 m))) true))))))))))) [] (zi (64)) [] .h (by (try simp only [b1,b2,b3,b4,b5,b6,b7,gS,M4,N8,gA,jY,pF,jJ]);(try simp only [gT] at *);try omega) ?_
  exact congrArg (AV.int .i64) (by unfold Fy;(try simp only [m8] at *);repeat' split <;> omega)
 refine A5 N5 0 [(13,20,true),(23,20,true),(23,20,true),(23,20,true),(23,20,true),(23,20,true),(23,20,true),(23,20,false)] 9 ((a6 (N8 m) (gA m (jY m (pF m (jJ m (a6 (i4 (4096) (M4 m)) (a6 (N8 m) (a6 (i4 (16384) (M4 m)) (a6 (N8 m) (a6 (i4 (65536) (M4 m)) (a6 (N8 m) (a6 (Bool.not (i4 (262144) (M4 m))) true))))))))))))) [] (zi (128)) [] .h (by (try simp only [b1,b2,b3,b4,b5,b6,b7,gS,M4,N8,gA,jY,pF,jJ]);(try simp only [gT] at *);try omega) ?_
 exact congrArg (AV.int .i64) (by unfold Fy;(try simp only [m8] at *);repeat' split <;> omega)
theorem TI {ax ay bx b cx cy dx dy:Int}:Fy (d7 (i4 (Int.add (d7 (i4 (Int.add (Int.sub ax (Int.mul (2) bx)) cx) (Int.sub (0) (Int.add (Int.sub ax (Int.mul (2) bx)) cx))) (Int.sub (0) (Int.add (Int.sub ax (Int.mul (2) bx)) cx)) (Int.add (Int.sub ax (Int.mul (2) bx)) cx)) (d7 (i4 (Int.add (Int.sub ay (Int.mul (2) b)) cy) (Int.sub (0) (Int.add (Int.sub ay (Int.mul (2) b)) cy))) (Int.sub (0) (Int.add (Int.sub ay (Int.mul (2) b)) cy)) (Int.add (Int.sub ay (Int.mul (2) b)) cy))) (Int.add (d7 (i4 (Int.add (Int.sub bx (Int.mul (2) cx)) dx) (Int.sub (0) (Int.add (Int.sub bx (Int.mul (2) cx)) dx))) (Int.sub (0) (Int.add (Int.sub bx (Int.mul (2) cx)) dx)) (Int.add (Int.sub bx (Int.mul (2) cx)) dx)) (d7 (i4 (Int.add (Int.sub b (Int.mul (2) cy)) dy) (Int.sub (0) (Int.add (Int.sub b (Int.mul (2) cy)) dy))) (Int.sub (0) (Int.add (Int.sub b (Int.mul (2) cy)) dy)) (Int.add (Int.sub b (Int.mul (2) cy)) dy)))) (Int.add (d7 (i4 (Int.add (Int.sub bx (Int.mul (2) cx)) dx) (Int.sub (0) (Int.add (Int.sub bx (Int.mul (2) cx)) dx))) (Int.sub (0) (Int.add (Int.sub bx (Int.mul (2) cx)) dx)) (Int.add (Int.sub bx (Int.mul (2) cx)) dx)) (d7 (i4 (Int.add (Int.sub b (Int.mul (2) cy)) dy) (Int.sub (0) (Int.add (Int.sub b (Int.mul (2) cy)) dy))) (Int.sub (0) (Int.add (Int.sub b (Int.mul (2) cy)) dy)) (Int.add (Int.sub b (Int.mul (2) cy)) dy))) (Int.add (d7 (i4 (Int.add (Int.sub ax (Int.mul (2) bx)) cx) (Int.sub (0) (Int.add (Int.sub ax (Int.mul (2) bx)) cx))) (Int.sub (0) (Int.add (Int.sub ax (Int.mul (2) bx)) cx)) (Int.add (Int.sub ax (Int.mul (2) bx)) cx)) (d7 (i4 (Int.add (Int.sub ay (Int.mul (2) b)) cy) (Int.sub (0) (Int.add (Int.sub ay (Int.mul (2) b)) cy))) (Int.sub (0) (Int.add (Int.sub ay (Int.mul (2) b)) cy)) (Int.add (Int.sub ay (Int.mul (2) b)) cy))))=jX ax ay bx b cx cy dx dy:=by
 unfold jX TE Sq
 simp only [q8,j8,j7,m8,H3,m5]
theorem KZ {ax ay bx b cx cy dx dy:Int} (hax : -8192≤ax∧ax≤8192) (hay : -8192≤ay∧ay≤8192) (hbx : -8192≤bx∧bx≤8192) (hb : -8192≤b∧b≤8192) (hcx : -8192≤cx∧cx≤8192) (hcy : -8192≤cy∧cy≤8192) (hdx : -8192≤dx∧dx≤8192) (hdy : -8192≤dy∧dy≤8192):a7 En 0 (Su ax ay bx b cx cy dx dy) (fun v _=>v=.int .i64 (jX ax ay bx b cx cy dx dy)):=by
 refine Z1 N5 0 [] 10 ((a6 (a6 (a6 (a6 (a6 (a6 (f8 (Int.mul (2) bx)) (a6 (f8 (Int.sub ax (Int.mul (2) bx))) (a6 (f8 (Bx ax bx cx)) (a6 (f8 (Int.mul (2) b)) (a6 (f8 (Int.sub ay (Int.mul (2) b))) (a6 (f8 (Bv ay b cy)) true)))))) (a6 (a6 (c9 cy cy) true) (a6 (a6 (c9 b b) true) (a6 (a6 (c9 ay ay) true) (a6 (a6 (c9 cx cx) true) (a6 (a6 (c9 bx bx) true) (a6 (a6 (c9 ax ax) true) true))))))) (a6 (f8 (Int.sub (0) (Bx ax bx cx))) (a6 (f8 (Int.sub (0) (Bv ay b cy))) (a6 (f8 (Int.add (d7 (i4 (Bx ax bx cx) (Int.sub (0) (Bx ax bx cx))) (Int.sub (0) (Bx ax bx cx)) (Bx ax bx cx)) (d7 (i4 (Bv ay b cy) (Int.sub (0) (Bv ay b cy))) (Int.sub (0) (Bv ay b cy)) (Bv ay b cy)))) true)))) (a6 (a6 (a6 (a6 (f8 (Int.mul (2) cx)) (a6 (f8 (Int.sub bx (Int.mul (2) cx))) (a6 (f8 (By bx cx dx)) (a6 (f8 (Int.mul (2) cy)) (a6 (f8 (Int.sub b (Int.mul (2) cy))) (a6 (f8 (Bw b cy dy)) true)))))) (a6 (a6 (c9 dy dy) true) (a6 (a6 (c9 cy cy) true) (a6 (a6 (c9 b b) true) (a6 (a6 (c9 dx dx) true) (a6 (a6 (c9 cx cx) true) (a6 (a6 (c9 bx bx) true) true))))))) (a6 (f8 (Int.sub (0) (By bx cx dx))) (a6 (f8 (Int.sub (0) (Bw b cy dy))) (a6 (f8 (Int.add (d7 (i4 (By bx cx dx) (Int.sub (0) (By bx cx dx))) (Int.sub (0) (By bx cx dx)) (By bx cx dx)) (d7 (i4 (Bw b cy dy) (Int.sub (0) (Bw b cy dy))) (Int.sub (0) (Bw b cy dy)) (Bw b cy dy)))) true)))) true)) (a6 (a6 (BQ ax ay bx b cx cy dx dy) (a6 (BQ ax ay bx b cx cy dx dy) true)) (a6 (a6 (BQ ax ay bx b cx cy dx dy) true) true))) true)) (TH (d7 (i4 (Int.add (d7 (i4 (Int.add (Int.sub ax (Int.mul (2) bx)) cx) (Int.sub (0) (Int.add (Int.sub ax (Int.mul (2) bx)) cx))) (Int.sub (0) (Int.add (Int.sub ax (Int.mul (2) bx)) cx)) (Int.add (Int.sub ax (Int.mul (2) bx)) cx)) (d7 (i4 (Int.add (Int.sub ay (Int.mul (2) b)) cy) (Int.sub (0) (Int.add (Int.sub ay (Int.mul (2) b)) cy))) (Int.sub (0) (Int.add (Int.sub ay (Int.mul (2) b)) cy)) (Int.add (Int.sub ay (Int.mul (2) b)) cy))) (Int.add (d7 (i4 (Int.add (Int.sub bx (Int.mul (2) cx)) dx) (Int.sub (0) (Int.add (Int.sub bx (Int.mul (2) cx)) dx))) (Int.sub (0) (Int.add (Int.sub bx (Int.mul (2) cx)) dx)) (Int.add (Int.sub bx (Int.mul (2) cx)) dx)) (d7 (i4 (Int.add (Int.sub b (Int.mul (2) cy)) dy) (Int.sub (0) (Int.add (Int.sub b (Int.mul (2) cy)) dy))) (Int.sub (0) (Int.add (Int.sub b (Int.mul (2) cy)) dy)) (Int.add (Int.sub b (Int.mul (2) cy)) dy)))) (Int.add (d7 (i4 (Int.add (Int.sub bx (Int.mul (2) cx)) dx) (Int.sub (0) (Int.add (Int.sub bx (Int.mul (2) cx)) dx))) (Int.sub (0) (Int.add (Int.sub bx (Int.mul (2) cx)) dx)) (Int.add (Int.sub bx (Int.mul (2) cx)) dx)) (d7 (i4 (Int.add (Int.sub b (Int.mul (2) cy)) dy) (Int.sub (0) (Int.add (Int.sub b (Int.mul (2) cy)) dy))) (Int.sub (0) (Int.add (Int.sub b (Int.mul (2) cy)) dy)) (Int.add (Int.sub b (Int.mul (2) cy)) dy))) (Int.add (d7 (i4 (Int.add (Int.sub ax (Int.mul (2) bx)) cx) (Int.sub (0) (Int.add (Int.sub ax (Int.mul (2) bx)) cx))) (Int.sub (0) (Int.add (Int.sub ax (Int.mul (2) bx)) cx)) (Int.add (Int.sub ax (Int.mul (2) bx)) cx)) (d7 (i4 (Int.add (Int.sub ay (Int.mul (2) b)) cy) (Int.sub (0) (Int.add (Int.sub ay (Int.mul (2) b)) cy))) (Int.sub (0) (Int.add (Int.sub ay (Int.mul (2) b)) cy)) (Int.add (Int.sub ay (Int.mul (2) b)) cy))))) [] [1,5,6] [] (by (try simp only [gS,Bv,Bw,Bx,By,BQ]);(try simp only [gT] at *);try omega) ?_
 have hm:=KY (ax:=ax) (ay:=ay) (bx:=bx) (b:=b) (cx:=cx) (cy:=cy) (dx:=dx) (dy:=dy) (m:=(d7 (i4 (Int.add (d7 (i4 (Int.add (Int.sub ax (Int.mul (2) bx)) cx) (Int.sub (0) (Int.add (Int.sub ax (Int.mul (2) bx)) cx))) (Int.sub (0) (Int.add (Int.sub ax (Int.mul (2) bx)) cx)) (Int.add (Int.sub ax (Int.mul (2) bx)) cx)) (d7 (i4 (Int.add (Int.sub ay (Int.mul (2) b)) cy) (Int.sub (0) (Int.add (Int.sub ay (Int.mul (2) b)) cy))) (Int.sub (0) (Int.add (Int.sub ay (Int.mul (2) b)) cy)) (Int.add (Int.sub ay (Int.mul (2) b)) cy))) (Int.add (d7 (i4 (Int.add (Int.sub bx (Int.mul (2) cx)) dx) (Int.sub (0) (Int.add (Int.sub bx (Int.mul (2) cx)) dx))) (Int.sub (0) (Int.add (Int.sub bx (Int.mul (2) cx)) dx)) (Int.add (Int.sub bx (Int.mul (2) cx)) dx)) (d7 (i4 (Int.add (Int.sub b (Int.mul (2) cy)) dy) (Int.sub (0) (Int.add (Int.sub b (Int.mul (2) cy)) dy))) (Int.sub (0) (Int.add (Int.sub b (Int.mul (2) cy)) dy)) (Int.add (Int.sub b (Int.mul (2) cy)) dy)))) (Int.add (d7 (i4 (Int.add (Int.sub bx (Int.mul (2) cx)) dx) (Int.sub (0) (Int.add (Int.sub bx (Int.mul (2) cx)) dx))) (Int.sub (0) (Int.add (Int.sub bx (Int.mul (2) cx)) dx)) (Int.add (Int.sub bx (Int.mul (2) cx)) dx)) (d7 (i4 (Int.add (Int.sub b (Int.mul (2) cy)) dy) (Int.sub (0) (Int.add (Int.sub b (Int.mul (2) cy)) dy))) (Int.sub (0) (Int.add (Int.sub b (Int.mul (2) cy)) dy)) (Int.add (Int.sub b (Int.mul (2) cy)) dy))) (Int.add (d7 (i4 (Int.add (Int.sub ax (Int.mul (2) bx)) cx) (Int.sub (0) (Int.add (Int.sub ax (Int.mul (2) bx)) cx))) (Int.sub (0) (Int.add (Int.sub ax (Int.mul (2) bx)) cx)) (Int.add (Int.sub ax (Int.mul (2) bx)) cx)) (d7 (i4 (Int.add (Int.sub ay (Int.mul (2) b)) cy) (Int.sub (0) (Int.add (Int.sub ay (Int.mul (2) b)) cy))) (Int.sub (0) (Int.add (Int.sub ay (Int.mul (2) b)) cy)) (Int.add (Int.sub ay (Int.mul (2) b)) cy))))) (by simp only [q8,j8,j7,m8,H3,m5];repeat' split <;> omega)
 rw [TI] at hm
 exact hm
def oB (z:Int):Bool:=a6 (f9 (-16384) z) (f9 z 16384)
def bO (z:Int):Bool:=a6 (f9 (-8192) z) (f9 z 8192)
theorem N2 {z:Int} (h:oB z=true) : -16384≤z∧z≤16384:=⟨(n4 _ _).1 (a9.1 h).1,(n4 _ _).1 (a9.1 h).2⟩
theorem t5 {z:Int} (h:bO z=true) : -8192≤z∧z≤8192:=⟨(n4 _ _).1 (a9.1 h).1,(n4 _ _).1 (a9.1 h).2⟩
def TJ (args:List AV) (H:Hp):Option (Bool × AV × Hp):=match args with
 | [.agg [.int .i64 ax,.int .i64 ay,.int .i64 bx,.int .i64 b],.agg [.int .i64 qx,.int .i64 qy]] =>
   some (a6 (oB ax) (a6 (oB ay) (a6 (oB bx) (a6 (oB b) (a6 (oB qx) (oB qy))))),.int .i64 (W5 ax ay bx b qx qy),H)
 | _=>none
def TK (args:List AV) (H:Hp):Option (Bool × AV × Hp):=match args with
 | [.agg [.int .i64 ax,.int .i64 ay,.int .i64 bx,.int .i64 b,.int .i64 cx,.int .i64 cy,.int .i64 dx,.int .i64 dy],.int .i64 t] =>
   some (a6 (c9 t 4) (a6 (bO ax) (a6 (bO ay) (a6 (bO bx) (a6 (bO b) (a6 (bO cx) (a6 (bO cy) (a6 (bO dx) (bO dy)))))))),.int .i64 (jX ax ay bx b cx cy dx dy),H)
 | _=>none
def TL:M8:=fun f args H=>Bool.rec (Bool.rec (tb f args H) (TJ args H) (Nat.beq f 53)) (TK args H) (Nat.beq f 31)
theorem BR {ax ay bx b qx qy:Int}:∀ x ∈ [AV.agg [.int .i64 ax,.int .i64 ay,.int .i64 bx,.int .i64 b],.agg [.int .i64 qx,.int .i64 qy]],vN En.ng x=true:=by
 intro x hx
 rcases List.mem_cons.1 hx with rfl|hx
 ·rfl
 rcases List.mem_cons.1 hx with rfl|hx
 ·rfl
 cases hx
theorem BS {ax ay bx b cx cy dx dy t:Int}:∀ x ∈ [AV.agg [.int .i64 ax,.int .i64 ay,.int .i64 bx,.int .i64 b,.int .i64 cx,.int .i64 cy,.int .i64 dx,.int .i64 dy],.int .i64 t],vN En.ng x=true:=by
 intro x hx
 rcases List.mem_cons.1 hx with rfl|hx
 ·rfl
 rcases List.mem_cons.1 hx with rfl|hx
 ·rfl
 cases hx
theorem s9:q9 TL En:=fun f args v H S' h γ w s hH ho=>by
 unfold TL at h
 cases hf:Nat.beq f 31 with
 | true =>
   rw [hf] at h
   have ef:=Nat.eq_of_beq_eq_true hf
   subst ef
   simp only at h
   unfold TK at h
   split at h
   ·rename_i ax ay bx b cx cy dx dy t
    injection h with h
    injection h with h1 h2
    injection h2 with h2 h3
    subst h3 h2
    obtain ⟨g0,h1⟩:=a9.1 h1
    obtain ⟨g1,h1⟩:=a9.1 h1
    obtain ⟨g2,h1⟩:=a9.1 h1
    obtain ⟨g3,h1⟩:=a9.1 h1
    obtain ⟨g4,h1⟩:=a9.1 h1
    obtain ⟨g5,h1⟩:=a9.1 h1
    obtain ⟨g6,h1⟩:=a9.1 h1
    obtain ⟨g7,g8⟩:=a9.1 h1
    have g0:=(E2 _ _).1 g0
    subst g0
    have hm:i6 En 0 (Su ax ay bx b cx cy dx dy).f [] (Su ax ay bx b cx cy dx dy).S _:=KZ (t5 g1) (t5 g2) (t5 g3) (t5 g4) (t5 g5) (t5 g6) (t5 g7) (t5 g8)
    rw [show (0:Nat)=En.ng from Iy.symm,show (Su ax ay bx b cx cy dx dy).S=H0 En from by kernel_rfl] at hm
    exact dQ cY (TG ax ay bx b cx cy dx dy) (cW.of_endsN (y7 (TG ax ay bx b cx cy dx dy) BS) rfl hm) H γ w s hH ho
   ·cases h
 | false =>
   rw [hf] at h
   dsimp only at h
   cases hf2:Nat.beq f 53 with
   | true =>
     rw [hf2] at h
     have ef:=Nat.eq_of_beq_eq_true hf2
     subst ef
     simp only at h
     unfold TJ at h
     split at h
     ·rename_i ax ay bx b qx qy
      injection h with h
      injection h with h1 h2
      injection h2 with h2 h3
      subst h3 h2
      obtain ⟨g1,h1⟩:=a9.1 h1
      obtain ⟨g2,h1⟩:=a9.1 h1
      obtain ⟨g3,h1⟩:=a9.1 h1
      obtain ⟨g4,h1⟩:=a9.1 h1
      obtain ⟨g5,g6⟩:=a9.1 h1
      have hm:i6 En 0 (Ss ax ay bx b qx qy).f [] (Ss ax ay bx b qx qy).S _:=KX (N2 g1) (N2 g2) (N2 g3) (N2 g4) (N2 g5) (N2 g6)
      rw [show (0:Nat)=En.ng from Iy.symm,show (Ss ax ay bx b qx qy).S=H0 En from by kernel_rfl] at hm
      exact dQ cY (TF ax ay bx b qx qy) (cW.of_endsN (y7 (TF ax ay bx b qx qy) BR) rfl hm) H γ w s hH ho
     ·cases h
   | false =>
     rw [hf2] at h
     exact V9 f args v H S' h γ w s hH ho
def N9 (P:Nat→Nat→Int) (i:Nat):Int:=if P i 0=3 then jX (fX P i) (eA P i) (P i 1) (P i 2) (P i 3) (P i 4) (P i 5) (P i 6) else 1
def v8 (P:Nat→Nat→Int):Nat→Int|0=>0|i+1=>v8 P i+N9 P i
theorem O4 (P:Nat→Nat→Int) (i:Nat):v8 P (i+1)=v8 P i+N9 P i:=rfl
theorem tU (P:Nat→Nat→Int) (i:Nat):1≤N9 P i∧N9 P i≤128:=by
 have:=oA (fX P i) (eA P i) (P i 1) (P i 2) (P i 3) (P i 4) (P i 5) (P i 6)
 unfold N9;split <;> omega
theorem I7 (P:Nat→Nat→Int):∀ i:Nat,(i:Int)≤v8 P i∧v8 P i≤128 * i
 | 0=>⟨by show (0:Int)≤0;omega,by show (0:Int)≤0;omega⟩
 | i+1=>by
   have h:=I7 P i
   have h1:=tU P i
   rw [O4];omega
section
variable (cu w0 w1 w2 w3 c0 c1 c2 c3 c4 c5 c6 c7:Int)
def Bz:St:=⟨o4 (d9 En 47 [(.fn 48 [] []),(.ptr .h 0),(.ptr J1 0),(.ptr J2 0)] false),[],(zs [(zc 3 [cu]),(zc 130 [w0,w1,w2,w3]),(zc 128 [c0,c1,c2,c3,c4,c5,c6,c7])]),J3,3⟩
def Ca:St:=⟨o4 (d9 En 47 [(.fn 49 [] []),(.ptr .h 0),(.ptr J1 0),(.ptr J2 0)] false),[],(zs [(zc 3 [cu]),(zc 130 [w0,w1,w2,w3]),(zc 128 [c0,c1,c2,c3,c4,c5,c6,c7])]),J3,3⟩
end
abbrev gH (cu:Int):Int:=(Int.mul (2) cu)
abbrev Sv (cu w0 c0 w1 c2 w2 c4 w3 c6:Int):Int:=(Int.add (Int.add (Int.add (Int.add cu (Int.mul (Int.mul (2) w0) c0)) (Int.mul (Int.mul (2) w1) c2)) (Int.mul (Int.mul (2) w2) c4)) (Int.mul (Int.mul (2) w3) c6))
abbrev Sw (cu w0 c1 w1 c3 w2 c5 w3 c7:Int):Int:=(Int.add (Int.add (Int.add (Int.add cu (Int.mul (Int.mul (2) w0) c1)) (Int.mul (Int.mul (2) w1) c3)) (Int.mul (Int.mul (2) w2) c5)) (Int.mul (Int.mul (2) w3) c7))
abbrev VU (w0 c0 cu w1 c2 w2 c4 w3 c6:Int):Bool:=(a6 (f8 (Int.mul (2) w0)) (a6 (f8 (Int.mul (Int.mul (2) w0) c0)) (a6 (f8 (Int.add cu (Int.mul (Int.mul (2) w0) c0))) (a6 (f8 (Int.mul (2) w1)) (a6 (f8 (Int.mul (Int.mul (2) w1) c2)) (a6 (f8 (Int.add (Int.add cu (Int.mul (Int.mul (2) w0) c0)) (Int.mul (Int.mul (2) w1) c2))) (a6 (f8 (Int.mul (2) w2)) (a6 (f8 (Int.mul (Int.mul (2) w2) c4)) (a6 (f8 (Int.add (Int.add (Int.add cu (Int.mul (Int.mul (2) w0) c0)) (Int.mul (Int.mul (2) w1) c2)) (Int.mul (Int.mul (2) w2) c4))) (a6 (f8 (Int.mul (2) w3)) (a6 (f8 (Int.mul (Int.mul (2) w3) c6)) (a6 (f8 (Sv cu w0 c0 w1 c2 w2 c4 w3 c6)) true))))))))))))
abbrev VV (w0 c1 cu w1 c3 w2 c5 w3 c7:Int):Bool:=(a6 (f8 (Int.mul (2) w0)) (a6 (f8 (Int.mul (Int.mul (2) w0) c1)) (a6 (f8 (Int.add cu (Int.mul (Int.mul (2) w0) c1))) (a6 (f8 (Int.mul (2) w1)) (a6 (f8 (Int.mul (Int.mul (2) w1) c3)) (a6 (f8 (Int.add (Int.add cu (Int.mul (Int.mul (2) w0) c1)) (Int.mul (Int.mul (2) w1) c3))) (a6 (f8 (Int.mul (2) w2)) (a6 (f8 (Int.mul (Int.mul (2) w2) c5)) (a6 (f8 (Int.add (Int.add (Int.add cu (Int.mul (Int.mul (2) w0) c1)) (Int.mul (Int.mul (2) w1) c3)) (Int.mul (Int.mul (2) w2) c5))) (a6 (f8 (Int.mul (2) w3)) (a6 (f8 (Int.mul (Int.mul (2) w3) c7)) (a6 (f8 (Sw cu w0 c1 w1 c3 w2 c5 w3 c7)) true))))))))))))
theorem Gb (x d:Int) {C:Int} (h : -C≤x∧x≤C) : -C≤Int.tdiv x d∧Int.tdiv x d≤C:=by
 have h1:=Int.natAbs_tdiv x d
 have h2:x.natAbs.div d.natAbs≤x.natAbs:=Nat.div_le_self _ _
 rw [← h1] at h2
 omega
def Sx (cu w0 w1 w2 w3 a b c d:Int):Int:=(cu+2 * w0 * a+2 * w1 * b+2 * w2 * c+2 * w3 * d) / (2 * cu)
theorem Sy {cu w0 w1 w2 w3 a b c d:Int} (hc:1≤cu) (h:¬ Int.add (Int.add (Int.add (Int.add cu (Int.mul (Int.mul (2) w0) a)) (Int.mul (Int.mul (2) w1) b)) (Int.mul (Int.mul (2) w2) c)) (Int.mul (Int.mul (2) w3) d) < 0) :
 Int.tdiv (Int.add (Int.add (Int.add (Int.add cu (Int.mul (Int.mul (2) w0) a)) (Int.mul (Int.mul (2) w1) b)) (Int.mul (Int.mul (2) w2) c)) (Int.mul (Int.mul (2) w3) d)) (Int.mul (2) cu)=Sx cu w0 w1 w2 w3 a b c d:=
 Int.tdiv_eq_ediv_of_nonneg (by omega)
theorem Sz {cu w0 w1 w2 w3 a b c d:Int} (hc:1≤cu) (h:Int.add (Int.add (Int.add (Int.add cu (Int.mul (Int.mul (2) w0) a)) (Int.mul (Int.mul (2) w1) b)) (Int.mul (Int.mul (2) w2) c)) (Int.mul (Int.mul (2) w3) d) < 0) :
 Int.sub (0) (Int.tdiv (Int.sub (Int.add (Int.sub (0) (Int.add (Int.add (Int.add (Int.add cu (Int.mul (Int.mul (2) w0) a)) (Int.mul (Int.mul (2) w1) b)) (Int.mul (Int.mul (2) w2) c)) (Int.mul (Int.mul (2) w3) d))) (Int.mul (2) cu)) (1)) (Int.mul (2) cu))=Sx cu w0 w1 w2 w3 a b c d:=by
 have key:∀ S D:Int,0 < D→S < 0→0 - Int.tdiv (0 - S+D - 1) D=S / D:=fun S D hD hS=>by
  rw [Int.tdiv_eq_ediv_of_nonneg (by omega)]
  have e1:=Int.emod_nonneg S (b:=D) (by omega)
  have e2:=Int.emod_lt_of_pos S hD
  have e3:=Int.emod_add_mul_ediv S D
  have e4:0 - S+D - 1=(D - 1 - S % D)+(-(S / D)) * D:=by rw [Int.neg_mul,Int.mul_comm (S / D) D];omega
  rw [e4,Int.add_mul_ediv_right _ _ (by omega),Int.ediv_eq_zero_of_lt (by omega) (by omega)]
  omega
 exact key _ _ (by show 0 < 2 * cu;omega) h
section
variable {cu w0 w1 w2 w3 c0 c1 c2 c3 c4 c5 c6 c7:Int} (hc:1≤cu∧cu≤2097152) (h0:0≤w0∧w0≤6291456) (h1:0≤w1∧w1≤6291456) (h2:0≤w2∧w2≤6291456) (h3:0≤w3∧w3≤6291456) (k0 : -8192≤c0∧c0≤8192) (k1 : -8192≤c1∧c1≤8192) (k2 : -8192≤c2∧c2≤8192) (k3 : -8192≤c3∧c3≤8192) (k4 : -8192≤c4∧c4≤8192) (k5 : -8192≤c5∧c5≤8192) (k6 : -8192≤c6∧c6≤8192) (k7 : -8192≤c7∧c7≤8192)
include hc h0 h1 h2 h3 k0 k1 k2 k3 k4 k5 k6 k7
theorem LA:a7 En 3 (Bz cu w0 w1 w2 w3 c0 c1 c2 c3 c4 c5 c6 c7) (fun v H=>v=.int .i64 (Sx cu w0 w1 w2 w3 c0 c2 c4 c6)∧H.nx=J3):=by
 have m0 : -(12582912 * 8192)≤Int.mul (Int.mul (2) w0) c0∧Int.mul (Int.mul (2) w0) c0≤12582912 * 8192:=fZ (by simp only [m8];omega) k0
 have m1 : -(12582912 * 8192)≤Int.mul (Int.mul (2) w1) c2∧Int.mul (Int.mul (2) w1) c2≤12582912 * 8192:=fZ (by simp only [m8];omega) k2
 have m2 : -(12582912 * 8192)≤Int.mul (Int.mul (2) w2) c4∧Int.mul (Int.mul (2) w2) c4≤12582912 * 8192:=fZ (by simp only [m8];omega) k4
 have m3 : -(12582912 * 8192)≤Int.mul (Int.mul (2) w3) c6∧Int.mul (Int.mul (2) w3) c6≤12582912 * 8192:=fZ (by simp only [m8];omega) k6
 have hS : -1000000000000≤(Int.add (Int.add (Int.add (Int.add cu (Int.mul (Int.mul (2) w0) c0)) (Int.mul (Int.mul (2) w1) c2)) (Int.mul (Int.mul (2) w2) c4)) (Int.mul (Int.mul (2) w3) c6))∧(Int.add (Int.add (Int.add (Int.add cu (Int.mul (Int.mul (2) w0) c0)) (Int.mul (Int.mul (2) w1) c2)) (Int.mul (Int.mul (2) w2) c4)) (Int.mul (Int.mul (2) w3) c6))≤1000000000000:=by simp only [j8];omega
 have t1:=Gb (Int.add (Int.add (Int.add (Int.add cu (Int.mul (Int.mul (2) w0) c0)) (Int.mul (Int.mul (2) w1) c2)) (Int.mul (Int.mul (2) w2) c4)) (Int.mul (Int.mul (2) w3) c6)) (Int.mul (2) cu) hS
 have t2:=Gb (Int.sub (Int.add (Int.sub (0) (Int.add (Int.add (Int.add (Int.add cu (Int.mul (Int.mul (2) w0) c0)) (Int.mul (Int.mul (2) w1) c2)) (Int.mul (Int.mul (2) w2) c4)) (Int.mul (Int.mul (2) w3) c6))) (Int.mul (2) cu)) (1)) (Int.mul (2) cu) (C:=2000000000000) (by simp only [j8,j7,m8] at *;omega)
 rcases ct (Int.add (Int.add (Int.add (Int.add cu (Int.mul (Int.mul (2) w0) c0)) (Int.mul (Int.mul (2) w1) c2)) (Int.mul (Int.mul (2) w2) c4)) (Int.mul (Int.mul (2) w3) c6)) (0) with ⟨b1,b1p⟩|⟨b1,b1p⟩
 ·refine A5 N5 3 [(222,27,false)] 12 ((a6 (VU w0 c0 cu w1 c2 w2 c4 w3 c6) (a6 (Bool.not (i4 (Sv cu w0 c0 w1 c2 w2 c4 w3 c6) (0))) (a6 (f8 (gH cu)) (a6 (a6 (Bool.not (c9 (gH cu) (0))) (f8 (Int.tdiv (Sv cu w0 c0 w1 c2 w2 c4 w3 c6) (gH cu)))) true))))) [.h,J1,J2] (zi (Int.tdiv (Int.add (Int.add (Int.add (Int.add cu (Int.mul (Int.mul (2) w0) c0)) (Int.mul (Int.mul (2) w1) c2)) (Int.mul (Int.mul (2) w2) c4)) (Int.mul (Int.mul (2) w3) c6)) (Int.mul (2) cu))) [] J3 (by (try simp only [b1,gS,gH,Sv,VU]);(try simp only [gT] at *);try omega) ?_
  refine ⟨congrArg (AV.int .i64) (Sy hc.1 b1p),rfl⟩
 refine A5 N5 3 [(222,27,true)] 17 ((a6 (VU w0 c0 cu w1 c2 w2 c4 w3 c6) (a6 (i4 (Sv cu w0 c0 w1 c2 w2 c4 w3 c6) (0)) (a6 (f8 (Int.sub (0) (Sv cu w0 c0 w1 c2 w2 c4 w3 c6))) (a6 (f8 (gH cu)) (a6 (f8 (Int.add (Int.sub (0) (Sv cu w0 c0 w1 c2 w2 c4 w3 c6)) (gH cu))) (a6 (f8 (Int.sub (Int.add (Int.sub (0) (Sv cu w0 c0 w1 c2 w2 c4 w3 c6)) (gH cu)) (1))) (a6 (f8 (gH cu)) (a6 (a6 (Bool.not (c9 (gH cu) (0))) (f8 (Int.tdiv (Int.sub (Int.add (Int.sub (0) (Sv cu w0 c0 w1 c2 w2 c4 w3 c6)) (gH cu)) (1)) (gH cu)))) (a6 (f8 (Int.sub (0) (Int.tdiv (Int.sub (Int.add (Int.sub (0) (Sv cu w0 c0 w1 c2 w2 c4 w3 c6)) (gH cu)) (1)) (gH cu)))) true)))))))))) [.h,J1,J2] (zi (Int.sub (0) (Int.tdiv (Int.sub (Int.add (Int.sub (0) (Int.add (Int.add (Int.add (Int.add cu (Int.mul (Int.mul (2) w0) c0)) (Int.mul (Int.mul (2) w1) c2)) (Int.mul (Int.mul (2) w2) c4)) (Int.mul (Int.mul (2) w3) c6))) (Int.mul (2) cu)) (1)) (Int.mul (2) cu)))) [] J3 (by (try simp only [b1,gS,gH,Sv,VU]);(try simp only [gT] at *);try omega) ?_
 refine ⟨congrArg (AV.int .i64) (Sz hc.1 b1p),rfl⟩
theorem LB:a7 En 3 (Ca cu w0 w1 w2 w3 c0 c1 c2 c3 c4 c5 c6 c7) (fun v H=>v=.int .i64 (Sx cu w0 w1 w2 w3 c1 c3 c5 c7)∧H.nx=J3):=by
 have m0 : -(12582912 * 8192)≤Int.mul (Int.mul (2) w0) c1∧Int.mul (Int.mul (2) w0) c1≤12582912 * 8192:=fZ (by simp only [m8];omega) k1
 have m1 : -(12582912 * 8192)≤Int.mul (Int.mul (2) w1) c3∧Int.mul (Int.mul (2) w1) c3≤12582912 * 8192:=fZ (by simp only [m8];omega) k3
 have m2 : -(12582912 * 8192)≤Int.mul (Int.mul (2) w2) c5∧Int.mul (Int.mul (2) w2) c5≤12582912 * 8192:=fZ (by simp only [m8];omega) k5
 have m3 : -(12582912 * 8192)≤Int.mul (Int.mul (2) w3) c7∧Int.mul (Int.mul (2) w3) c7≤12582912 * 8192:=fZ (by simp only [m8];omega) k7
 have hS : -1000000000000≤(Int.add (Int.add (Int.add (Int.add cu (Int.mul (Int.mul (2) w0) c1)) (Int.mul (Int.mul (2) w1) c3)) (Int.mul (Int.mul (2) w2) c5)) (Int.mul (Int.mul (2) w3) c7))∧(Int.add (Int.add (Int.add (Int.add cu (Int.mul (Int.mul (2) w0) c1)) (Int.mul (Int.mul (2) w1) c3)) (Int.mul (Int.mul (2) w2) c5)) (Int.mul (Int.mul (2) w3) c7))≤1000000000000:=by simp only [j8];omega
 have t1:=Gb (Int.add (Int.add (Int.add (Int.add cu (Int.mul (Int.mul (2) w0) c1)) (Int.mul (Int.mul (2) w1) c3)) (Int.mul (Int.mul (2) w2) c5)) (Int.mul (Int.mul (2) w3) c7)) (Int.mul (2) cu) hS
 have t2:=Gb (Int.sub (Int.add (Int.sub (0) (Int.add (Int.add (Int.add (Int.add cu (Int.mul (Int.mul (2) w0) c1)) (Int.mul (Int.mul (2) w1) c3)) (Int.mul (Int.mul (2) w2) c5)) (Int.mul (Int.mul (2) w3) c7))) (Int.mul (2) cu)) (1)) (Int.mul (2) cu) (C:=2000000000000) (by simp only [j8,j7,m8] at *;omega)
 rcases ct (Int.add (Int.add (Int.add (Int.add cu (Int.mul (Int.mul (2) w0) c1)) (Int.mul (Int.mul (2) w1) c3)) (Int.mul (Int.mul (2) w2) c5)) (Int.mul (Int.mul (2) w3) c7)) (0) with ⟨b1,b1p⟩|⟨b1,b1p⟩
 ·refine A5 N5 3 [(222,27,false)] 12 ((a6 (VV w0 c1 cu w1 c3 w2 c5 w3 c7) (a6 (Bool.not (i4 (Sw cu w0 c1 w1 c3 w2 c5 w3 c7) (0))) (a6 (f8 (gH cu)) (a6 (a6 (Bool.not (c9 (gH cu) (0))) (f8 (Int.tdiv (Sw cu w0 c1 w1 c3 w2 c5 w3 c7) (gH cu)))) true))))) [.h,J1,J2] (zi (Int.tdiv (Int.add (Int.add (Int.add (Int.add cu (Int.mul (Int.mul (2) w0) c1)) (Int.mul (Int.mul (2) w1) c3)) (Int.mul (Int.mul (2) w2) c5)) (Int.mul (Int.mul (2) w3) c7)) (Int.mul (2) cu))) [] J3 (by (try simp only [b1,gS,gH,Sw,VV]);(try simp only [gT] at *);try omega) ?_
  refine ⟨congrArg (AV.int .i64) (Sy hc.1 b1p),rfl⟩
 refine A5 N5 3 [(222,27,true)] 17 ((a6 (VV w0 c1 cu w1 c3 w2 c5 w3 c7) (a6 (i4 (Sw cu w0 c1 w1 c3 w2 c5 w3 c7) (0)) (a6 (f8 (Int.sub (0) (Sw cu w0 c1 w1 c3 w2 c5 w3 c7))) (a6 (f8 (gH cu)) (a6 (f8 (Int.add (Int.sub (0) (Sw cu w0 c1 w1 c3 w2 c5 w3 c7)) (gH cu))) (a6 (f8 (Int.sub (Int.add (Int.sub (0) (Sw cu w0 c1 w1 c3 w2 c5 w3 c7)) (gH cu)) (1))) (a6 (f8 (gH cu)) (a6 (a6 (Bool.not (c9 (gH cu) (0))) (f8 (Int.tdiv (Int.sub (Int.add (Int.sub (0) (Sw cu w0 c1 w1 c3 w2 c5 w3 c7)) (gH cu)) (1)) (gH cu)))) (a6 (f8 (Int.sub (0) (Int.tdiv (Int.sub (Int.add (Int.sub (0) (Sw cu w0 c1 w1 c3 w2 c5 w3 c7)) (gH cu)) (1)) (gH cu)))) true)))))))))) [.h,J1,J2] (zi (Int.sub (0) (Int.tdiv (Int.sub (Int.add (Int.sub (0) (Int.add (Int.add (Int.add (Int.add cu (Int.mul (Int.mul (2) w0) c1)) (Int.mul (Int.mul (2) w1) c3)) (Int.mul (Int.mul (2) w2) c5)) (Int.mul (Int.mul (2) w3) c7))) (Int.mul (2) cu)) (1)) (Int.mul (2) cu)))) [] J3 (by (try simp only [b1,gS,gH,Sw,VV]);(try simp only [gT] at *);try omega) ?_
 refine ⟨congrArg (AV.int .i64) (Sz hc.1 b1p),rfl⟩
end
def Ta (z:Int):Bool:=a6 (f9 0 z) (f9 z 6291456)
def LC (args:List AV) (H:Hp):Option (Bool × AV × Hp):=match args with
 | [.fn g [] [],.ptr a 0,.ptr b 0,.ptr c 0]=>(match AM.T.get a H.hp with
   | some (.cells [.int .i64 cu] e1 true false 0 0)=>(match AM.T.get b H.hp with
     | some (.cells [.int .i64 w0,.int .i64 w1,.int .i64 w2,.int .i64 w3] e2 true false 0 0)=>(match AM.T.get c H.hp with
       | some (.cells [.int .i64 c0,.int .i64 c1,.int .i64 c2,.int .i64 c3,.int .i64 c4,.int .i64 c5,.int .i64 c6,.int .i64 c7] e3 true false 0 0)=>some (a6 (Nat.beq e1 3) (a6 (Nat.beq e2 130) (a6 (Nat.beq e3 128) (a6 (f9 1 cu) (a6 (f9 cu 2097152) (a6 (Ta w0) (a6 (Ta w1) (a6 (Ta w2) (a6 (Ta w3) (a6 (bO c0) (a6 (bO c1) (a6 (bO c2) (a6 (bO c3) (a6 (bO c4) (a6 (bO c5) (a6 (bO c6) (a6 (bO c7) (a6 (Nat.ble 48 g) (a6 (Nat.ble g 49) (H6 En.ng 3 H.nx.idx 0 3 H.fl [a,b,c]))))))))))))))))))),.int .i64 (Bool.rec (Sx cu w0 w1 w2 w3 c1 c3 c5 c7) (Sx cu w0 w1 w2 w3 c0 c2 c4 c6) (Nat.beq g 48)),H)
       | _=>none)
     | _=>none)
   | _=>none)
 | _=>none
def ZA:M8:=fun f args H=>Bool.rec (TL f args H) (LC args H) (Nat.beq f 1000047)
theorem T9 {z:Int} (h:Ta z=true):0≤z∧z≤6291456:=⟨(n4 _ _).1 (a9.1 h).1,(n4 _ _).1 (a9.1 h).2⟩
theorem dD:q9 ZA En:=fun f args v H S' h γ w s hH ho=>by
 unfold ZA at h
 cases hf:Nat.beq f 1000047 with
 | false=>rw [hf] at h;exact s9 f args v H S' h γ w s hH ho
 | true =>
   rw [hf] at h
   have ef:=Nat.eq_of_beq_eq_true hf
   subst ef
   have h:LC args H=some (true,v,S'):=h
   have ho:O7 En γ H w s (.call 47 args):=ho
   unfold LC at h
   split at h <;> try (cases h;done)
   rename_i g a b c _ _
   split at h <;> try (cases h;done)
   rename_i cu e1 ha
   split at h <;> try (cases h;done)
   rename_i w0 w1 w2 w3 e2 hb
   split at h <;> try (cases h;done)
   rename_i c0 c1 c2 c3 c4 c5 c6 c7 e3 hc
   injection h with h
   injection h with h1 h2
   injection h2 with h2 h3
   subst h3
   obtain ⟨g1,h1⟩:=a9.1 h1
   obtain ⟨g2,h1⟩:=a9.1 h1
   obtain ⟨g3,h1⟩:=a9.1 h1
   obtain ⟨g4,h1⟩:=a9.1 h1
   obtain ⟨g5,h1⟩:=a9.1 h1
   obtain ⟨q0,h1⟩:=a9.1 h1
   obtain ⟨q1,h1⟩:=a9.1 h1
   obtain ⟨q2,h1⟩:=a9.1 h1
   obtain ⟨q3,h1⟩:=a9.1 h1
   obtain ⟨p0,h1⟩:=a9.1 h1
   obtain ⟨p1,h1⟩:=a9.1 h1
   obtain ⟨p2,h1⟩:=a9.1 h1
   obtain ⟨p3,h1⟩:=a9.1 h1
   obtain ⟨p4,h1⟩:=a9.1 h1
   obtain ⟨p5,h1⟩:=a9.1 h1
   obtain ⟨p6,h1⟩:=a9.1 h1
   obtain ⟨p7,h1⟩:=a9.1 h1
   obtain ⟨r1,h1⟩:=a9.1 h1
   obtain ⟨r2,hkk⟩:=a9.1 h1
   have e1:=Nat.eq_of_beq_eq_true g1
   have e2:=Nat.eq_of_beq_eq_true g2
   have e3:=Nat.eq_of_beq_eq_true g3
   subst e1 e2 e3
   have key:∀ (k:Nat),k=En.ng→H6 k 3 H.nx.idx 0 3 H.fl [a,b,c]=true→∃ fr',F8 En.P s w fr'∧∀ cc bot,∃ γ' v' w',Steps En.P (lone fr' (cc::bot) w) (lone (cc.finish v') bot w')∧VR γ' v v'∧HR γ' En.ng H w'∧j6 H γ w H γ' w':=fun k hk hkeys=>by
    subst hk
    rcases (show g=48∨g=49 from by have:=Nat.le_of_ble_eq_true r1;have:=Nat.le_of_ble_eq_true r2;omega) with rfl|rfl
    ·subst h2
     have hm:i6 En (Bz cu w0 w1 w2 w3 c0 c1 c2 c3 c4 c5 c6 c7).S.nx.idx (Bz cu w0 w1 w2 w3 c0 c1 c2 c3 c4 c5 c6 c7).f [] (Bz cu w0 w1 w2 w3 c0 c1 c2 c3 c4 c5 c6 c7).S _:=LA ⟨(n4 _ _).1 g4,(n4 _ _).1 g5⟩ (T9 q0) (T9 q1) (T9 q2) (T9 q3) (t5 p0) (t5 p1) (t5 p2) (t5 p3) (t5 p4) (t5 p5) (t5 p6) (t5 p7)
     refine bK cY (f:=47) (t:=[a,b,c]) (f0:=(Bz cu w0 w1 w2 w3 c0 c1 c2 c3 c4 c5 c6 c7).f) (H:=(Bz cu w0 w1 w2 w3 c0 c1 c2 c3 c4 c5 c6 c7).S) (os:=(Bz cu w0 w1 w2 w3 c0 c1 c2 c3 c4 c5 c6 c7).os) (show d9 En 47 [.fn 48 [] [],.ptr a 0,.ptr b 0,.ptr c 0] false=some (o4 (d9 En 47 [.fn 48 [] [],.ptr a 0,.ptr b 0,.ptr c 0] false)) from by kernel_rfl) hkeys rfl ⟨?_,?_,?_,trivial⟩ (by kernel_rfl) ?_ hm (fun v1 H' q=>?_) γ w s hH ho
     ·exact ha
     ·exact hb
     ·exact hc
     ·kernel_rfl
     ·exact ⟨q.2,by rw [q.1];rfl⟩
    ·subst h2
     have hm:i6 En (Ca cu w0 w1 w2 w3 c0 c1 c2 c3 c4 c5 c6 c7).S.nx.idx (Ca cu w0 w1 w2 w3 c0 c1 c2 c3 c4 c5 c6 c7).f [] (Ca cu w0 w1 w2 w3 c0 c1 c2 c3 c4 c5 c6 c7).S _:=LB ⟨(n4 _ _).1 g4,(n4 _ _).1 g5⟩ (T9 q0) (T9 q1) (T9 q2) (T9 q3) (t5 p0) (t5 p1) (t5 p2) (t5 p3) (t5 p4) (t5 p5) (t5 p6) (t5 p7)
     refine bK cY (f:=47) (t:=[a,b,c]) (f0:=(Ca cu w0 w1 w2 w3 c0 c1 c2 c3 c4 c5 c6 c7).f) (H:=(Ca cu w0 w1 w2 w3 c0 c1 c2 c3 c4 c5 c6 c7).S) (os:=(Ca cu w0 w1 w2 w3 c0 c1 c2 c3 c4 c5 c6 c7).os) (show d9 En 47 [.fn 49 [] [],.ptr a 0,.ptr b 0,.ptr c 0] false=some (o4 (d9 En 47 [.fn 49 [] [],.ptr a 0,.ptr b 0,.ptr c 0] false)) from by kernel_rfl) hkeys rfl ⟨?_,?_,?_,trivial⟩ (by kernel_rfl) ?_ hm (fun v1 H' q=>?_) γ w s hH ho
     ·exact ha
     ·exact hb
     ·exact hc
     ·kernel_rfl
     ·exact ⟨q.2,by rw [q.1];rfl⟩
   exact key En.ng rfl hkk
theorem S4 {a b A B:Int} (ha:0≤a∧a≤A) (hb:0≤b∧b≤B):0≤a * b∧a * b≤A * B:=
 ⟨Int.mul_nonneg ha.1 hb.1,Int.mul_le_mul ha.2 hb.2 hb.1 (by omega)⟩
theorem VW {m j:Int} (hm:1≤m∧m≤128) (hj:1≤j) (hjm:j≤m) :
 (0≤Int.mul (Int.sub m j) (Int.sub m j)∧Int.mul (Int.sub m j) (Int.sub m j)≤16384)∧(0≤Int.mul (Int.mul (Int.sub m j) (Int.sub m j)) (Int.sub m j)∧Int.mul (Int.mul (Int.sub m j) (Int.sub m j)) (Int.sub m j)≤2097152) ∧
 (0≤Int.mul (Int.mul (3) (Int.sub m j)) (Int.sub m j)∧Int.mul (Int.mul (3) (Int.sub m j)) (Int.sub m j)≤49152)∧(0≤Int.mul (Int.mul (Int.mul (3) (Int.sub m j)) (Int.sub m j)) j∧Int.mul (Int.mul (Int.mul (3) (Int.sub m j)) (Int.sub m j)) j≤6291456) ∧
 (0≤Int.mul (Int.mul (3) (Int.sub m j)) j∧Int.mul (Int.mul (3) (Int.sub m j)) j≤49152)∧(0≤Int.mul (Int.mul (Int.mul (3) (Int.sub m j)) j) j∧Int.mul (Int.mul (Int.mul (3) (Int.sub m j)) j) j≤6291456) ∧
 (0≤Int.mul j j∧Int.mul j j≤16384)∧(0≤Int.mul (Int.mul j j) j∧Int.mul (Int.mul j j) j≤2097152)∧(1≤Int.mul m m∧Int.mul m m≤16384)∧(1≤Int.mul (Int.mul m m) m∧Int.mul (Int.mul m m) m≤2097152):=by
 have a0:0≤m - j∧m - j≤128:=by omega
 have j0:0≤j∧j≤128:=by omega
 have t0:0≤3 * (m - j)∧3 * (m - j)≤384:=by omega
 have a2:=S4 a0 a0
 have a3:=S4 a2 a0
 have b2:=S4 t0 a0
 have b3:=S4 b2 j0
 have c2:=S4 t0 j0
 have c3:=S4 c2 j0
 have j2:=S4 j0 j0
 have j3:=S4 j2 j0
 have m0:0≤m∧m≤128:=by omega
 have m2:=S4 m0 m0
 have m3:=S4 m2 m0
 have p2:1 * 1≤m * m:=Int.mul_le_mul hm.1 hm.1 (by decide) (by omega)
 have p3:1 * 1≤m * m * m:=Int.mul_le_mul (by omega) hm.1 (by decide) (by omega)
 exact ⟨a2,a3,b2,b3,c2,c3,j2,j3,⟨(by show 1≤m * m;omega),m2.2⟩,⟨(by show 1≤m * m * m;omega),m3.2⟩⟩
def Gc (m j a b c d:Int):Int:=Sx (Int.mul (Int.mul m m) m) (Int.mul (Int.mul (Int.sub m j) (Int.sub m j)) (Int.sub m j)) (Int.mul (Int.mul (Int.mul (3) (Int.sub m j)) (Int.sub m j)) j) (Int.mul (Int.mul (Int.mul (3) (Int.sub m j)) j) j) (Int.mul (Int.mul j j) j) a b c d
theorem xG (m j:Int):(m - j) * (m - j) * (m - j)+3 * (m - j) * (m - j) * j+3 * (m - j) * j * j+j * j * j=m * m * m:=by
 obtain ⟨a,rfl⟩:∃ a,m=a+j:=⟨m - j,by omega⟩
 rw [show a+j - j=a from by omega]
 simp only [Int.add_mul,Int.mul_add]
 have e1:3 * a * a * j=a * a * j+a * a * j+a * a * j:=by rw [Int.mul_assoc,Int.mul_assoc,← Int.mul_assoc a a j];omega
 have e2:3 * a * j * j=a * j * j+a * j * j+a * j * j:=by rw [Int.mul_assoc,Int.mul_assoc,← Int.mul_assoc a j j];omega
 rw [e1,e2]
 have f1:a * j * a=a * a * j:=by rw [Int.mul_assoc,Int.mul_comm j a,← Int.mul_assoc]
 have f2:j * a * a=a * a * j:=by rw [Int.mul_comm j a,f1]
 have f3:j * a * j=a * j * j:=by rw [Int.mul_comm j a]
 have f4:j * j * a=a * j * j:=by rw [Int.mul_assoc,Int.mul_comm j a,← Int.mul_assoc,f3]
 rw [f1,f2,f3,f4]
 omega
theorem Y8 {w p B:Int} (hw:0≤w) (hp : -B≤p∧p≤B) : -(w * B)≤w * p∧w * p≤w * B:=by
 have h1:=Int.mul_le_mul_of_nonneg_left hp.1 hw
 have h2:=Int.mul_le_mul_of_nonneg_left hp.2 hw
 rw [Int.mul_neg] at h1
 exact ⟨h1,h2⟩
theorem Tb {m j a b c d:Int} (hm:1≤m∧m≤128) (hj:1≤j) (hjm:j≤m) (ha : -8192≤a∧a≤8192) (hb : -8192≤b∧b≤8192) (hc : -8192≤c∧c≤8192) (hd : -8192≤d∧d≤8192) : -8192≤Gc m j a b c d∧Gc m j a b c d≤8192:=by
 obtain ⟨_,w0,_,w1,_,w2,_,w3,_,wm⟩:=VW hm hj hjm
 have hs:=xG m j
 unfold Gc Sx
 simp only [m8,j7] at *
 generalize (m - j) * (m - j) * (m - j)=x0 at *
 generalize 3 * (m - j) * (m - j) * j=x1 at *
 generalize 3 * (m - j) * j * j=x2 at *
 generalize j * j * j=x3 at *
 generalize m * m * m=y at *
 have e0:=Y8 w0.1 ha
 have e1:=Y8 w1.1 hb
 have e2:=Y8 w2.1 hc
 have e3:=Y8 w3.1 hd
 rw [Int.mul_assoc 2 x0 a,Int.mul_assoc 2 x1 b,Int.mul_assoc 2 x2 c,Int.mul_assoc 2 x3 d]
 generalize x0 * a=z0 at *
 generalize x1 * b=z1 at *
 generalize x2 * c=z2 at *
 generalize x3 * d=z3 at *
 have h1:(-8192) * (2 * y)≤y+2 * z0+2 * z1+2 * z2+2 * z3:=by omega
 have h2:y+2 * z0+2 * z1+2 * z2+2 * z3 < (8192+1) * (2 * y):=by omega
 have hy:0 < 2 * y:=by omega
 have g1:=(Int.le_ediv_iff_mul_le hy).2 h1
 have g2:=Int.ediv_lt_of_lt_mul hy h2
 omega
def iR (P:Nat→Nat→Int) (i r c:Nat):Int:=
 if P i 0=3 then (match c with
  | 0=>2
  | 1=>Gc (jX (fX P i) (eA P i) (P i 1) (P i 2) (P i 3) (P i 4) (P i 5) (P i 6)) ((r:Int)+1) (fX P i) (P i 1) (P i 3) (P i 5)
  | 2=>Gc (jX (fX P i) (eA P i) (P i 1) (P i 2) (P i 3) (P i 4) (P i 5) (P i 6)) ((r:Int)+1) (eA P i) (P i 2) (P i 4) (P i 6)
  | _=>0) else P i c
def z7 (P R:Nat→Nat→Int) (i:Nat):Prop:=∀ i',i' < i→∀ r:Nat,(r:Int) < N9 P i'→∀ c,c < 7→R ((v8 P i').toNat+r) c=iR P i' r c
theorem qY (P:Nat→Nat→Int) {i j:Nat} (h:i≤j):v8 P i≤v8 P j:=by
 induction h with
 | refl=>omega
 | step _ ih=>have:=tU P (by assumption);rw [O4];omega
theorem Gd {P:Nat→Nat→Int} {i j:Nat} (h:i < j):v8 P i+N9 P i≤v8 P j:=by
 have:=qY P (show i+1≤j from h);rw [O4] at this;exact this
theorem z7.upd {P R:Nat→Nat→Int} {i k:Nat} {l:List Int} (h:z7 P R i) (hk:v8 P i≤k):z7 P (i2 R k l) i:=fun i' hi r hr c hc=>by
 have h1:=Gd (P:=P) hi
 have h0:=(I7 P i').1
 rw [N1 _ _ _ (by omega)]
 exact h i' hi r hr c hc
section
variable (n:Nat) (F:Nat→Nat→Int) (ex sty:Bool) (e_1:Int) (i:Nat)
def LD:St:=⟨o4 (d9 En 51 [(.sa .h 0 n 7)] false),[],[(.h,(o7 n F ex sty))],J1,1⟩
def TM:St:=⟨cf (dS n F ex sty) J1 [.h],[(fr 51 13 (ts [0] [.sa .h 0 n 7]) [rA En 51 (pb 12) 1,cA En 51 (pb 13),cA En 51 (pb 7)])],[(.h,(o7 n F ex sty))],J1,1⟩
def BT:St:=⟨(fr 74 19 (ts [0,1,7,8] [.sa .h 0 n 7,.fn 62 [] [],zn n,zn i]) [cA En 74 (pb 52),lA En 74 (pb 52),.blk 0,cA En 74 (pb 7)]),[(fr 61 9 oO [rA En 61 (pb 6) 2,cA En 61 (pb 7)]),(fr 51 13 oO [rA En 51 (pb 14) 1,cA En 51 (pb 109)])],[(.h,(o7 n F ex sty))],J1,1⟩
end
abbrev VX (i n:Nat) (zz:Bool):Bool:=(a6 (Nat.ble (Nat.succ i) n) (a6 (a6 (a6 (Nat.ble (Nat.succ i) n) true) (a6 (a6 (a6 (Nat.ble (Nat.succ i) n) true) true) true)) zz))
def YB:AV→Hp→Prop:=fun v H=>v=.tup [.bool true,.int .i64 0]∧H.nx=.o .h
section
variable {n:Nat} {F:Nat→Nat→Int} {ex sty:Bool} (hn:n≤1000) (hF:∀ j k,-16384≤F j k∧F j k≤16384) (hok:u2 n F) (hfl:∀ j,j < n→F j 0≠3)
include hn hF hok hfl
theorem LE (d:Nat):∀ (i:Nat),n - i=d→i≤n→a7 En 1 (BT n F ex sty i) YB:=by
 induction d using Nat.strongRecOn with
 | ind d IH =>
   intro i hd hi
   have ih:i < n→a7 En 1 (BT n F ex sty (Nat.add i 1)) YB:=fun h1=>IH (n - (i+1)) (by omega) (i+1) rfl (by omega)
   clear IH
   rcases T6 (Nat.succ i) n with ⟨b1,b1p⟩|⟨b1,b1p⟩
   ·refine A5 s9 1 [(5,9,false)] 19 (a6 (Bool.not (Nat.ble (Nat.succ i) n)) true) [.h] (.tup [(.bool true),(zi (0))]) [] J1 (by (try simp only [b1,gS]);(try simp only [gT] at *);try omega) ?_
    exact ⟨rfl,rfl⟩
   rcases ci (F i 0) (3) with ⟨b2,b2p⟩|⟨b2,b2p⟩
   ·refine Z1 s9 1 [(5,9,true),(32,16,false)] 8 ((VX i n (a6 (Bool.not (c9 (F i 0) (3))) (a6 (a6 (f9 (-9223372036854775808) (.ofNat (Nat.add i 1))) (Nat.ble (Nat.add i 1) 9223372036854775807)) true)))) (BT n F ex sty (Nat.add i 1)) [.h] [0,1,7,8] [[],[]] (by have:=hF i 0;(try simp only [b1,b2,gS,VX]);(try simp only [gT] at *);try omega) ?_
    exact ih (by omega)
   refine A5 s9 1 [(5,9,true),(32,16,true)] 19 ((VX i n (a6 (c9 (F i 0) (3)) true))) [.h] (.tup [(.bool false),(zi (0))]) [] J1 (by have:=hF i 0;(try simp only [b1,b2,gS,VX]);(try simp only [gT] at *);try omega) ?_
   exact absurd b2p (hfl i (by omega))
theorem LF:a7 En 1 (LD n F ex sty) YB:=by
 have h9F:∀ j k,-1000000000≤F j k∧F j k≤1000000000:=fun j k=>by have:=hF j k;omega
 refine J0 s9 1 [] 10 true (TM n F ex sty) [.h] [[0]] rfl ?_
 refine ca (dS n F ex sty) [.h] (dU (n:=n) (Y:=F) (ex:=ex) (sty:=sty) h9F (by omega)) (fun v' H' q=>?_)
 rcases q with ⟨e_1,rfl,hnx1,hq_1⟩
 refine ⟨(zi e_1),[],J1,(by kernel_rfl),(by rw [hnx1];kernel_rfl),trivial,(by kernel_rfl),?_⟩
 rcases ci e_1 (0) with ⟨b1,b1p⟩|⟨b1,b1p⟩
 ·refine A5 s9 1 [(7,8,true)] 9 (a6 (Bool.not (c9 e_1 (0))) true) [.h] (.tup [(.bool false),(zi e_1)]) [] J1 (by (try simp only [b1,gS]);(try simp only [gT] at *);try omega) ?_
  exact absurd (hq_1.2 hok) b1p
 refine Z1 s9 1 [(7,8,false)] 28 (a6 (Bool.not (Bool.not (c9 e_1 (0)))) true) (BT n F ex sty 0) [.h] [0,1,7,8] [[],[]] (by (try simp only [b1,gS]);(try simp only [gT] at *);try omega) ?_
 exact LE hn hF hok hfl (n - 0) 0 rfl (by omega)
end
section
variable (n:Nat) (F:Nat→Nat→Int) (ex sty:Bool) (x y:Int) (i:Nat) (fx fy lx ly s:Int)
def LG:St:=⟨o4 (d9 En 32 [(.sa .h 0 n 7),(az [x,y])] false),[],[(.h,(o7 n F ex sty))],J1,1⟩
def TN:St:=⟨cf (LD n F ex sty) J2 [.h],[(fr 32 50 (ts [0,3,4,5,9,43,44,45,46,47,48] [.sa .h 0 n 7,.ptr J1 0,zi (0),zi (0),.tup [],.tup [],.tup [],.tup [],.tup [],.tup [],.tup []]) [rA En 32 (pb 6) 1,cA En 32 (pb 7)])],(zs [(o7 n F ex sty),(zc 54 [x,y])]),J2,1⟩
def Jr:St:=⟨(fr 63 49 (ts [0,3,4,7,8,9] [.yl J1,.ptr J2 0,.ptr J3 0,.sa .h 0 n 7,zn n,zn i]) [cA En 63 (pb 52),lA En 63 (pb 52),.blk 0,cA En 63 (pb 7)]),[⟨32,50,(ts [4,5,8] [zi (0),zi (0),.ptr J4 0]),[.inRF J1,.blk 1,cA En 32 (pb 63)],[.mark J5],.run,false,false,none⟩],(zs [(o7 n F ex sty),(.loop .ready (none) 32 50 (ts [3,4,5,8,43] [.ptr J6 0,zi (0),zi (0),.ptr J4 0,.tup []]) [43] (U3 (A8 En 32) [1,1,1,1,0,1,0,0]) (U3 (A8 En 32) [1,1,1,1,0,1,0,1]) J5),(zc 54 [fx,fy]),(zc 54 [lx,ly]),(zc 3 [s]),(.dfr false),(zc 54 [x,y])]),J7,1⟩
end
abbrev OY (F:Nat→Nat→Int) (i:Nat):Bool:=(a6 (c9 (F i 1) (F i 1)) (a6 (c9 (F i 2) (F i 2)) true))
abbrev VY (i n:Nat):Bool:=(a6 (a6 (Nat.ble (Nat.succ i) n) true) (a6 (a6 (a6 (Nat.ble (Nat.succ i) n) true) true) true))
abbrev OZ (i:Nat):Bool:=(a6 (a6 (f9 (-9223372036854775808) (.ofNat (Nat.add i 1))) (Nat.ble (Nat.add i 1) 9223372036854775807)) true)
abbrev PA (x y lx ly fx fy s:Int):Bool:=(a6 (a6 (a6 (c9 x x) (a6 (c9 y y) true)) true) (a6 (a6 (a6 (c9 lx lx) (a6 (c9 ly ly) (a6 (c9 fx fx) (a6 (c9 fy fy) true)))) true) (a6 (a6 (c9 s s) (a6 (c9 s s) true)) true)))
abbrev PB (lx ly fx fy x y:Int):Bool:=(a6 (a6 (f9 (-16384) lx) (f9 lx (16384))) (a6 (a6 (f9 (-16384) ly) (f9 ly (16384))) (a6 (a6 (f9 (-16384) fx) (f9 fx (16384))) (a6 (a6 (f9 (-16384) fy) (f9 fy (16384))) (a6 (a6 (f9 (-16384) x) (f9 x (16384))) (a6 (f9 (-16384) y) (f9 y (16384))))))))
abbrev PC (i n:Nat) (zz:Bool):Bool:=(a6 (Nat.ble (Nat.succ i) n) (a6 (VY i n) zz))
def YC (n:Nat) (F:Nat→Nat→Int) (x y:Int):AV→Hp→Prop:=fun v H=>∃ w:Int,v=.tup [.int .i64 w,.int .i64 0]∧H.nx=.o .h∧w=wn F n x y
section
variable {n:Nat} {F:Nat→Nat→Int} {ex sty:Bool} {x y:Int} (hn:n≤1000) (hx : -16384≤x∧x≤16384) (hy : -16384≤y∧y≤16384) (hF:∀ j k,-16384≤F j k∧F j k≤16384) (hok:u2 n F) (hfl:∀ j,j < n→F j 0≠3)
include hn hx hy hF hok hfl
theorem LH (d:Nat):∀ (i:Nat) (fx fy lx ly s:Int),n - i=d→i≤n→fx=qX F i→fy=pE F i→lx=fX F i→ly=eA F i→s=Fz F x y i→a7 En 1 (Jr n F ex sty x y i fx fy lx ly s) (YC n F x y):=by
 induction d using Nat.strongRecOn with
 | ind d IH =>
   intro i fx fy lx ly s hd hi hfx hfy hlx hly hs
   have hfb:=xE (F:=F) (B:=16384) (by decide) hF i
   have hlb:=Ga (F:=F) (B:=16384) (by decide) hF i
   have hsb:=Sr F x y i
   have hp1:=tT lx ly fx fy x y
   have hp2:=tT lx ly (F i 1) (F i 2) x y
   rw [← hfx,← hfy] at hfb
   rw [← hlx,← hly] at hlb
   rw [← hs] at hsb
   have ih:∀ fx' fy' lx' ly' s':Int,i < n→fx'=(if F i 0=1 then F i 1 else fx)→fy'=(if F i 0=1 then F i 2 else fy)→lx'=(if F i 0=1∨F i 0=2 then F i 1 else fx)→ly'=(if F i 0=1∨F i 0=2 then F i 2 else fy) →
    s'=s+(if F i 0=2 then W5 lx ly (F i 1) (F i 2) x y else W5 lx ly fx fy x y)→a7 En 1 (Jr n F ex sty x y (Nat.add i 1) fx' fy' lx' ly' s') (YC n F x y):=fun fx' fy' lx' ly' s' h1 e1 e2 e3 e4 e5=>by
    have h3:=hfl i h1
    exact IH (n - (i+1)) (by omega) (i+1) _ _ _ _ _ rfl (by omega) (by rw [Z7,← hfx];exact e1) (by rw [Z8,← hfy];exact e2) (by rw [Z9,if_neg h3,← hfx];exact e3) (by rw [aA,if_neg h3,← hfy];exact e4) (by rw [fY,← hs,← hlx,← hly,← hfx,← hfy];exact e5)
   clear IH
   rcases T6 (Nat.succ i) n with ⟨b1,b1p⟩|⟨b1,b1p⟩
   ·refine A5 s9 1 [(5,10,false)] 31 ((a6 (Bool.not (Nat.ble (Nat.succ i) n)) (a6 (a6 (a6 (PB lx ly fx fy x y) (a6 (f8 (Int.add s (W5 lx ly fx fy x y))) true)) (PA x y lx ly fx fy s)) true))) [.h] (.tup [(zi (Int.add s (W5 lx ly fx fy x y))),(zi (0))]) [] J1 (by (try simp only [b1,gS,PA,PB]);(try simp only [gT] at *);try omega) ?_
    obtain rfl:i=n:=(by omega);subst hfx hfy hlx hly hs;exact ⟨_,rfl,rfl,rfl⟩
   rcases ci (F i 0) (2) with ⟨b2,b2p⟩|⟨b2,b2p⟩
   ·rcases ci (F i 0) (1) with ⟨b3,b3p⟩|⟨b3,b3p⟩
    ·refine I9 s9 1 1 [(5,10,true),(18,15,false),(34,36,false)] 8 ((PC i n (a6 (Bool.not (c9 (F i 0) (2))) (a6 (a6 (a6 (a6 (PB lx ly fx fy x y) (a6 (f8 (Int.add s (W5 lx ly fx fy x y))) true)) (PA x y lx ly fx fy s)) true) (a6 (Bool.not (c9 (F i 0) (1))) (OZ i)))))) (Jr n F ex sty x y (Nat.add i 1) fx fy fx fy (Int.add s (W5 lx ly fx fy x y))) [.h,J1,J2,J3,J4,J5,J6] [0,3,4,7,8,9] [[4,5,8]] ⟨R5 [3,4,5,8,43] (by kernel_rfl),.inl (by kernel_rfl),.inl (by kernel_rfl),.inl (by kernel_rfl),.inl (by kernel_rfl),.inl (by kernel_rfl),trivial⟩ (by have:=hF i 0;(try simp only [b1,b2,b3,gS,VY,OZ,PA,PB,PC]);(try simp only [gT] at *);try omega) ?_
     exact ih _ _ _ _ _ (by omega) (by split <;> omega) (by split <;> omega) (by split <;> omega) (by split <;> omega) (by simp only [j8];split <;> first|rfl|omega)
    refine I9 s9 1 1 [(5,10,true),(18,15,false),(34,36,true)] 8 ((PC i n (a6 (Bool.not (c9 (F i 0) (2))) (a6 (a6 (a6 (a6 (PB lx ly fx fy x y) (a6 (f8 (Int.add s (W5 lx ly fx fy x y))) true)) (PA x y lx ly fx fy s)) true) (a6 (c9 (F i 0) (1)) (a6 (a6 (a6 (OY F i) (a6 (OY F i) true)) (a6 (a6 (OY F i) true) true)) (OZ i))))))) (Jr n F ex sty x y (Nat.add i 1) (F i 1) (F i 2) (F i 1) (F i 2) (Int.add s (W5 lx ly fx fy x y))) [.h,J1,J2,J3,J4,J5,J6] [0,3,4,7,8,9] [[4,5,8]] ⟨R5 [3,4,5,8,43] (by kernel_rfl),.inl (by kernel_rfl),.inl (by kernel_rfl),.inl (by kernel_rfl),.inl (by kernel_rfl),.inl (by kernel_rfl),trivial⟩ (by have:=n7 (hF i);(try simp only [b1,b2,b3,gS,OY,VY,OZ,PA,PB,PC]);(try simp only [gT] at *);try omega) ?_
    exact ih _ _ _ _ _ (by omega) (by split <;> omega) (by split <;> omega) (by split <;> omega) (by split <;> omega) (by simp only [j8];split <;> first|rfl|omega)
   refine I9 s9 1 1 [(5,10,true),(18,15,true)] 37 ((PC i n (a6 (c9 (F i 0) (2)) (a6 (a6 (a6 (a6 (a6 (f9 (-16384) lx) (f9 lx (16384))) (a6 (a6 (f9 (-16384) ly) (f9 ly (16384))) (a6 (a6 (f9 (-16384) (F i 1)) (f9 (F i 1) (16384))) (a6 (a6 (f9 (-16384) (F i 2)) (f9 (F i 2) (16384))) (a6 (a6 (f9 (-16384) x) (f9 x (16384))) (a6 (f9 (-16384) y) (f9 y (16384)))))))) (a6 (f8 (Int.add s (W5 lx ly (F i 1) (F i 2) x y))) true)) (a6 (a6 (a6 (c9 x x) (a6 (c9 y y) true)) true) (a6 (a6 (a6 (c9 lx lx) (a6 (c9 ly ly) (OY F i))) true) (a6 (a6 (c9 s s) (a6 (c9 s s) true)) true)))) (OZ i))))) (Jr n F ex sty x y (Nat.add i 1) fx fy (F i 1) (F i 2) (Int.add s (W5 lx ly (F i 1) (F i 2) x y))) [.h,J1,J2,J3,J4,J5,J6] [0,3,4,7,8,9] [[4,5,8]] ⟨R5 [3,4,5,8,43] (by kernel_rfl),.inl (by kernel_rfl),.inl (by kernel_rfl),.inl (by kernel_rfl),.inl (by kernel_rfl),.inl (by kernel_rfl),trivial⟩ (by have:=n7 (hF i);(try simp only [b1,b2,gS,OY,VY,OZ,PC]);(try simp only [gT] at *);try omega) ?_
   exact ih _ _ _ _ _ (by omega) (by split <;> omega) (by split <;> omega) (by split <;> omega) (by split <;> omega) (by simp only [j8];split <;> first|rfl|omega)
theorem LI:a7 En 1 (LG n F ex sty x y) (YC n F x y):=by
 have h9F:∀ j k,-1000000000≤F j k∧F j k≤1000000000:=fun j k=>by have:=hF j k;omega
 refine J0 s9 1 [] 10 true (TN n F ex sty x y) [.h,J1] [[0,3,4,5,9,43,44,45,46,47,48]] rfl ?_
 refine ca (LD n F ex sty) [.h] (LF (n:=n) (F:=F) (ex:=ex) (sty:=sty) hn hF hok hfl) (fun v' H' q=>?_)
 rcases q with ⟨rfl,hnx1⟩
 refine ⟨(.tup [(.bool true),(zi (0))]),[],J2,(by kernel_rfl),(by rw [hnx1];kernel_rfl),trivial,(by kernel_rfl),?_⟩
 refine I9 s9 1 1 [(28,26,false),(5,31,false),(5,36,false),(6,22,false)] 42 (a6 (Bool.not (i4 x (-16384))) (a6 (Bool.not (i4 (16384) x)) (a6 (Bool.not (i4 y (-16384))) (a6 (Bool.not (i4 (16384) y)) true)))) (Jr n F ex sty x y 0 (0) (0) (0) (0) (0)) [.h,J5,J6,J7,J2,J4,J1] [0,3,4,7,8,9] [[4,5,8]] ⟨R5 [3,4,5,8,43] (by kernel_rfl),.inl (by kernel_rfl),.inl (by kernel_rfl),.inl (by kernel_rfl),.inl (by kernel_rfl),.inl (by kernel_rfl),trivial⟩ (by (try simp only [gS]);(try simp only [gT] at *);try omega) ?_
 exact LH hn hx hy hF hok hfl (n - 0) 0 _ _ _ _ _ rfl (by omega) rfl rfl rfl rfl rfl
end
section
variable (n:Nat) (F:Nat→Nat→Int) (ex sty:Bool) (x y w_1:Int)
def iS:St:=⟨o4 (d9 En 11 [(.sa .h 0 n 7),(.bool false),(az [x,y])] false),[],[(.h,(o7 n F ex sty))],J1,1⟩
def TO:St:=⟨cf (LG n F ex sty x y) J1 [.h],[(fr 11 31 (ts [1] [.bool false]) [rA En 11 (pb 6) 2,cA En 11 (pb 7)])],[(.h,(o7 n F ex sty))],J1,1⟩
end
def S5 (F:Nat→Nat→Int) (n:Nat) (x y:Int):Bool:=Bool.not (c9 (wn F n x y) 0)
def ZT (n:Nat) (F:Nat→Nat→Int) (x y:Int):AV→Hp→Prop:=fun v H=>∃ b:Bool,v=.tup [.bool b,.int .i64 0]∧H.nx=.o .h∧b=S5 F n x y
theorem Tc {n:Nat} {F:Nat→Nat→Int} {ex sty:Bool} {x y:Int} (hn:n≤1000) (hx : -16384≤x∧x≤16384) (hy : -16384≤y∧y≤16384) (hF:∀ j k,-16384≤F j k∧F j k≤16384) (hok:u2 n F) (hfl:∀ j,j < n→F j 0≠3):a7 En 1 (iS n F ex sty x y) (ZT n F x y):=by
 refine J0 s9 1 [] 11 true (TO n F ex sty x y) [.h] [[1]] rfl ?_
 refine ca (LG n F ex sty x y) [.h] (LI (n:=n) (F:=F) (ex:=ex) (sty:=sty) (x:=x) (y:=y) hn hx hy hF hok hfl) (fun v' H' q=>?_)
 rcases q with ⟨w_1,rfl,hnx1,hq_1⟩
 refine ⟨(.tup [(zi w_1),(zi (0))]),[],J1,(by kernel_rfl),(by rw [hnx1];kernel_rfl),trivial,(by kernel_rfl),?_⟩
 refine A5 s9 1 [] 59 true [.h] (.tup [(.bool (Bool.not (c9 w_1 (0)))),(zi (0))]) [] J1 rfl ?_
 exact ⟨_,rfl,rfl,by rw [hq_1];rfl⟩
section
variable (n:Nat) (P:Nat→Nat→Int) (ex sty:Bool) (e_1:Int) (i:Nat) (fx fy lx ly s:Int)
def LJ:St:=⟨o4 (d9 En 28 [(.sa .h 0 n 7),(zi (4))] false),[],[(.h,(o7 n P ex sty))],J1,1⟩
def TP:St:=⟨cf (dS n P ex sty) J2 [.h],[(fr 28 37 (ts [0,3,4,5,9,10,25,26,27,28,29,30,31,32,33,34,35] [.sa .h 0 n 7,.ptr J1 0,zi (0),zi (0),.tup [],.tup [],.tup [],.tup [],.tup [],.tup [],.tup [],.tup [],.tup [],.tup [],.tup [],.tup [],.tup []]) [rA En 28 (pb 12) 1,cA En 28 (pb 13),cA En 28 (pb 7)])],(zs [(o7 n P ex sty),(zc 3 [4])]),J2,1⟩
def Cb:St:=⟨(fr 45 53 (ts [0,3,4,8,9,10] [.yl J1,.ptr J2 0,.ptr J3 0,.sa .h 0 n 7,zn n,zn i]) [cA En 45 (pb 56),cA En 45 (pb 57),lA En 45 (pb 28),.blk 0]),[⟨28,37,(ts [4,5,7] [zi (0),zi (0),.ptr J4 0]),[.inRF J1,.blk 0,cA En 28 (pb 63)],[.mark J5],.run,false,false,none⟩],(zs [(o7 n P ex sty),(.loop .ready (none) 28 37 (ts [3,4,5,7,25] [.ptr J6 0,zi (0),zi (0),.ptr J4 0,.tup []]) [24,25] (U3 (A8 En 28) [1,1,1,1,0,1,0,0]) (U3 (A8 En 28) [1,1,1,1,0,1,0,1]) J5),(zc 54 [lx,ly]),(zc 54 [fx,fy]),(zc 3 [s]),(.dfr false),(zc 3 [4])]),J7,1⟩
end
abbrev VZ (P:Nat→Nat→Int) (i:Nat):Bool:=(a6 (c9 (P i 1) (P i 1)) (a6 (c9 (P i 2) (P i 2)) true))
abbrev TQ (i n:Nat):Bool:=(a6 (a6 (Nat.ble (Nat.succ i) n) true) (a6 (a6 (a6 (Nat.ble (Nat.succ i) n) true) true) true))
abbrev FG (i:Nat):Bool:=(a6 (a6 (f9 (-9223372036854775808) (.ofNat (Nat.add i 1))) (Nat.ble (Nat.add i 1) 9223372036854775807)) true)
abbrev FH (i n:Nat) (zz:Bool):Bool:=(a6 (Nat.ble (Nat.succ i) n) (a6 (TQ i n) zz))
def YD (n:Nat) (P:Nat→Nat→Int):AV→Hp→Prop:=fun v H=>∃ s:Int,v=.tup [.int .i64 s,.int .i64 0]∧H.nx=.o .h∧s=v8 P n
section
variable {n:Nat} {P:Nat→Nat→Int} {ex sty:Bool} (hn:n≤300) (hP:∀ j k,-8192≤P j k∧P j k≤8192) (hok:u2 n P)
include hn hP hok
theorem LK (d:Nat):∀ (i:Nat) (fx fy lx ly s:Int),n - i=d→i≤n→fx=qX P i→fy=pE P i→lx=fX P i→ly=eA P i→s=v8 P i→a7 En 1 (Cb n P ex sty i fx fy lx ly s) (YD n P):=by
 induction d using Nat.strongRecOn with
 | ind d IH =>
   intro i fx fy lx ly s hd hi hfx hfy hlx hly hs
   have hfb:=xE (F:=P) (B:=8192) (by decide) hP i
   have hlb:=Ga (F:=P) (B:=8192) (by decide) hP i
   have hsb:=I7 P i
   rw [← hfx,← hfy] at hfb
   rw [← hlx,← hly] at hlb
   rw [← hs] at hsb
   have hp1:=oA lx ly (P i 1) (P i 2) (P i 3) (P i 4) (P i 5) (P i 6)
   have hk:i < n→P i 0=1∨P i 0=2∨P i 0=3∨P i 0=4:=fun h=>(hok.2 i h).1.1
   have ih:∀ fx' fy' lx' ly' s':Int,i < n→fx'=(if P i 0=1 then P i 1 else fx)→fy'=(if P i 0=1 then P i 2 else fy)→lx'=(if P i 0=1∨P i 0=2 then P i 1 else if P i 0=3 then P i 5 else fx)→ly'=(if P i 0=1∨P i 0=2 then P i 2 else if P i 0=3 then P i 6 else fy) →
    s'=s+(if P i 0=3 then jX lx ly (P i 1) (P i 2) (P i 3) (P i 4) (P i 5) (P i 6) else 1)→a7 En 1 (Cb n P ex sty (Nat.add i 1) fx' fy' lx' ly' s') (YD n P):=fun fx' fy' lx' ly' s' h1 e1 e2 e3 e4 e5 =>
    IH (n - (i+1)) (by omega) (i+1) _ _ _ _ _ rfl (by omega) (by rw [Z7,← hfx];exact e1) (by rw [Z8,← hfy];exact e2) (by rw [Z9,← hfx];exact e3) (by rw [aA,← hfy];exact e4) (by rw [O4,← hs];unfold N9;rw [← hlx,← hly];exact e5)
   clear IH
   rcases T6 (Nat.succ i) n with ⟨b1,b1p⟩|⟨b1,b1p⟩
   ·refine A5 s9 1 [(4,11,false)] 15 (a6 (Bool.not (Nat.ble (Nat.succ i) n)) true) [.h] (.tup [(zi s),(zi (0))]) [] J1 (by (try simp only [b1,gS]);(try simp only [gT] at *);try omega) ?_
    obtain rfl:i=n:=(by omega);exact ⟨_,rfl,rfl,hs⟩
   rcases ci (P i 0) (1) with ⟨b2,b2p⟩|⟨b2,b2p⟩
   ·rcases ci (P i 0) (2) with ⟨b3,b3p⟩|⟨b3,b3p⟩
    ·rcases ci (P i 0) (3) with ⟨b4,b4p⟩|⟨b4,b4p⟩
     ·refine I9 s9 1 1 [(4,11,true),(27,17,false),(6,25,false),(6,30,false)] 48 ((FH i n (a6 (Bool.not (c9 (P i 0) (1))) (a6 (Bool.not (c9 (P i 0) (2))) (a6 (Bool.not (c9 (P i 0) (3))) (a6 (f8 (Int.add s (1))) (FG i))))))) (Cb n P ex sty (Nat.add i 1) fx fy fx fy (Int.add s (1))) [.h,J1,J2,J3,J4,J5,J6] [0,3,4,8,9,10] [[4,5,7]] ⟨R5 [3,4,5,7,25] (by kernel_rfl),.inl (by kernel_rfl),.inl (by kernel_rfl),.inl (by kernel_rfl),.inl (by kernel_rfl),.inl (by kernel_rfl),trivial⟩ (by have:=hP i 0;(try simp only [b1,b2,b3,b4,gS,TQ,FG,FH]);(try simp only [gT] at *);try omega) ?_
      exact ih _ _ _ _ _ (by omega) (by repeat' split <;> omega) (by repeat' split <;> omega) (by repeat' split <;> omega) (by repeat' split <;> omega) (by simp only [j8];split <;> first|rfl|omega)
     refine I9 s9 1 1 [(4,11,true),(27,17,false),(6,25,false),(6,30,true)] 66 ((FH i n (a6 (Bool.not (c9 (P i 0) (1))) (a6 (Bool.not (c9 (P i 0) (2))) (a6 (c9 (P i 0) (3)) (a6 (a6 (a6 (a6 (a6 (f9 (-8192) lx) (f9 lx (8192))) (a6 (a6 (f9 (-8192) ly) (f9 ly (8192))) (a6 (a6 (f9 (-8192) (P i 1)) (f9 (P i 1) (8192))) (a6 (a6 (f9 (-8192) (P i 2)) (f9 (P i 2) (8192))) (a6 (a6 (f9 (-8192) (P i 3)) (f9 (P i 3) (8192))) (a6 (a6 (f9 (-8192) (P i 4)) (f9 (P i 4) (8192))) (a6 (a6 (f9 (-8192) (P i 5)) (f9 (P i 5) (8192))) (a6 (f9 (-8192) (P i 6)) (f9 (P i 6) (8192)))))))))) true) (a6 (a6 (a6 (c9 lx lx) (a6 (c9 ly ly) (a6 (c9 (P i 1) (P i 1)) (a6 (c9 (P i 2) (P i 2)) (a6 (c9 (P i 3) (P i 3)) (a6 (c9 (P i 4) (P i 4)) (a6 (c9 (P i 5) (P i 5)) (a6 (c9 (P i 6) (P i 6)) true)))))))) true) true)) (a6 (f8 (Int.add s (jX lx ly (P i 1) (P i 2) (P i 3) (P i 4) (P i 5) (P i 6)))) (FG i)))))))) (Cb n P ex sty (Nat.add i 1) fx fy (P i 5) (P i 6) (Int.add s (jX lx ly (P i 1) (P i 2) (P i 3) (P i 4) (P i 5) (P i 6)))) [.h,J1,J2,J3,J4,J5,J6] [0,3,4,8,9,10] [[4,5,7]] ⟨R5 [3,4,5,7,25] (by kernel_rfl),.inl (by kernel_rfl),.inl (by kernel_rfl),.inl (by kernel_rfl),.inl (by kernel_rfl),.inl (by kernel_rfl),trivial⟩ (by have:=n7 (hP i);(try simp only [b1,b2,b3,b4,gS,TQ,FG,FH]);(try simp only [gT] at *);try omega) ?_
     exact ih _ _ _ _ _ (by omega) (by repeat' split <;> omega) (by repeat' split <;> omega) (by repeat' split <;> omega) (by repeat' split <;> omega) (by simp only [j8];split <;> first|rfl|omega)
    refine I9 s9 1 1 [(4,11,true),(27,17,false),(6,25,true)] 50 ((FH i n (a6 (Bool.not (c9 (P i 0) (1))) (a6 (c9 (P i 0) (2)) (a6 (f8 (Int.add s (1))) (FG i)))))) (Cb n P ex sty (Nat.add i 1) fx fy (P i 1) (P i 2) (Int.add s (1))) [.h,J1,J2,J3,J4,J5,J6] [0,3,4,8,9,10] [[4,5,7]] ⟨R5 [3,4,5,7,25] (by kernel_rfl),.inl (by kernel_rfl),.inl (by kernel_rfl),.inl (by kernel_rfl),.inl (by kernel_rfl),.inl (by kernel_rfl),trivial⟩ (by have:=hP i 0;(try simp only [b1,b2,b3,gS,TQ,FG,FH]);(try simp only [gT] at *);try omega) ?_
    exact ih _ _ _ _ _ (by omega) (by repeat' split <;> omega) (by repeat' split <;> omega) (by repeat' split <;> omega) (by repeat' split <;> omega) (by simp only [j8];split <;> first|rfl|omega)
   refine I9 s9 1 1 [(4,11,true),(27,17,true)] 45 ((FH i n (a6 (c9 (P i 0) (1)) (a6 (a6 (a6 (VZ P i) (a6 (VZ P i) true)) (a6 (a6 (VZ P i) true) true)) (a6 (f8 (Int.add s (1))) (FG i)))))) (Cb n P ex sty (Nat.add i 1) (P i 1) (P i 2) (P i 1) (P i 2) (Int.add s (1))) [.h,J1,J2,J3,J4,J5,J6] [0,3,4,8,9,10] [[4,5,7]] ⟨R5 [3,4,5,7,25] (by kernel_rfl),.inl (by kernel_rfl),.inl (by kernel_rfl),.inl (by kernel_rfl),.inl (by kernel_rfl),.inl (by kernel_rfl),trivial⟩ (by have:=n7 (hP i);(try simp only [b1,b2,gS,VZ,TQ,FG,FH]);(try simp only [gT] at *);try omega) ?_
   exact ih _ _ _ _ _ (by omega) (by repeat' split <;> omega) (by repeat' split <;> omega) (by repeat' split <;> omega) (by repeat' split <;> omega) (by simp only [j8];split <;> first|rfl|omega)
theorem LL:a7 En 1 (LJ n P ex sty) (YD n P):=by
 have h9P:∀ j k,-1000000000≤P j k∧P j k≤1000000000:=fun j k=>by have:=hP j k;omega
 refine J0 s9 1 [] 11 true (TP n P ex sty) [.h,J1] [[0,3,4,5,9,10,25,26,27,28,29,30,31,32,33,34,35]] rfl ?_
 refine ca (dS n P ex sty) [.h] (dU (n:=n) (Y:=P) (ex:=ex) (sty:=sty) h9P (by omega)) (fun v' H' q=>?_)
 rcases q with ⟨e_1,rfl,hnx1,hq_1⟩
 refine ⟨(zi e_1),[],J2,(by kernel_rfl),(by rw [hnx1];kernel_rfl),trivial,(by kernel_rfl),?_⟩
 rcases ci e_1 (0) with ⟨b1,b1p⟩|⟨b1,b1p⟩
 ·refine A5 s9 1 [(7,14,true)] 9 (a6 (Bool.not (c9 e_1 (0))) true) [.h] (.tup [(zi (0)),(zi e_1)]) [] J1 (by (try simp only [b1,gS]);(try simp only [gT] at *);try omega) ?_
  exact absurd (hq_1.2 hok) b1p
 refine I9 s9 1 1 [(7,14,false)] 53 (a6 (Bool.not (Bool.not (c9 e_1 (0)))) true) (Cb n P ex sty 0 (0) (0) (0) (0) (0)) [.h,J5,J6,J7,J2,J4,J1] [0,3,4,8,9,10] [[4,5,7]] ⟨R5 [3,4,5,7,25] (by kernel_rfl),.inl (by kernel_rfl),.inl (by kernel_rfl),.inl (by kernel_rfl),.inl (by kernel_rfl),.inl (by kernel_rfl),trivial⟩ (by (try simp only [b1,gS]);(try simp only [gT] at *);try omega) ?_
 exact LK hn hP hok (n - 0) 0 _ _ _ _ _ rfl (by omega) rfl rfl rfl rfl rfl
end
section
variable (n:Nat) (P:Nat→Nat→Int) (ex sty:Bool) (s_1:Int) (i:Nat) (fx fy lx ly m j:Int) (k:Nat) (R:Nat→Nat→Int) (oe:Bool)
def Cc:St:=⟨o4 (d9 En 10 [(.sa .h 0 n 7),(zi (4))] false),[],[(.h,(o7 n P ex sty))],J1,1⟩
def TS:St:=⟨cf (LJ n P ex sty) J2 [.h],[(fr 10 52 (ts [0,3,4,5,9,10,11,27,28,29,30,31,32,33,34,35,36,37,38,39,40,41,42,43,44,45,46,47,48,49,50] [.sa .h 0 n 7,.ptr J1 0,.nils,zi (0),.tup [],.tup [],.tup [],.tup [],.tup [],.tup [],.tup [],.tup [],.tup [],.tup [],.tup [],.tup [],.tup [],.tup [],.tup [],.tup [],.tup [],.tup [],.tup [],.tup [],.tup [],.tup [],.tup [],.tup [],.tup [],.tup [],.tup []]) [rA En 10 (pb 6) 2,cA En 10 (pb 7)])],(zs [(o7 n P ex sty),(zc 3 [4])]),J2,1⟩
def xH:St:=⟨(fr 45 53 (ts [0,3,4,8,9,10] [.yl J1,.ptr J2 0,.ptr J3 0,.sa .h 0 n 7,zn n,zn i]) [cA En 45 (pb 56),cA En 45 (pb 57),lA En 45 (pb 28),.blk 0]),[⟨10,52,(ts [4,5,8] [.nils,zi (0),.ptr J4 0]),[.inRF J1,.blk 0,cA En 10 (pb 127)],[.mark J5],.run,false,false,none⟩],(zs [(o7 n P ex sty),(.loop .ready (none) 10 52 (ts [3,4,5,8,11,27,28,44,45,46,47,48,49,50] [.ptr J6 0,.nils,zi (0),.ptr J4 0,.tup [],.tup [],.tup [],.tup [],.tup [],.tup [],.tup [],.tup [],.tup [],.tup []]) [27,28] (U3 (A8 En 10) [1,1,1,1,1,0,1,0,0]) (U3 (A8 En 10) [1,1,1,1,1,0,1,0,1]) J5),(zc 54 [lx,ly]),(zc 54 [fx,fy]),(ce 33 [(.sa J7 0 k 7)]),(.dfr false),(zc 3 [4]),(o7 k R oe false)]),J8,1⟩
def BU:St:=⟨(fr 46 49 (ts [0,1,2,3,5] [.yl J1,.ptr J2 0,.ptr J3 0,.ptr J4 0,zi j]) [cA En 46 (pb 12),lA En 46 (pb 12),.blk 0]),[⟨10,52,(ts [4,5] [.nils,zi (0)]),[.inRF J1,.blk 2,.blk 1],[],.run,false,false,some J5⟩,(fr 45 53 (ts [0,3,4,8,9,10] [.yl J5,.ptr J6 0,.ptr J7 0,.sa .h 0 n 7,zn n,zn i]) [rA En 45 (pb 7374) 3,cA En 45 (pb 7375),.blk 1,cA En 45 (pb 231),lA En 45 (pb 28),.blk 0]),⟨10,52,(ts [4,5,8] [.nils,zi (0),.ptr J8 0]),[.inRF J5,.blk 0,cA En 10 (pb 127)],[.mark J9],.run,false,false,none⟩],(zs [(o7 n P ex sty),(.loop .ready (none) 10 52 (ts [4,5,8,44] [.nils,zi (0),.ptr J8 0,.tup []]) [44] (U3 (A8 En 10) [1,1,1,1,1,0,1,0,1,0,1,1,0,0]) (U3 (A8 En 10) [1,1,1,1,1,0,1,0,1,0,1,1,0,1]) J9),(zc 3 [m]),(zc 3 [Int.mul (Int.mul m m) m]),(zc 128 [lx,ly,P i 1,P i 2,P i 3,P i 4,P i 5,P i 6]),(.loop .busy (none) 10 52 (ts [3,4,5,8,11,27,28,44,45,46,47,48,49,50] [.ptr nQ 0,.nils,zi (0),.ptr J8 0,.tup [],.tup [],.tup [],.tup [],.tup [],.tup [],.tup [],.tup [],.tup [],.tup []]) [27,28] (U3 (A8 En 10) [1,1,1,1,1,0,1,0,0]) (U3 (A8 En 10) [1,1,1,1,1,0,1,0,1]) J9),(zc 54 [P i 5,P i 6]),(zc 54 [fx,fy]),(ce 33 [(.sa Ko 0 k 7)]),(.dfr false),(zc 3 [4]),(o7 k R oe false)]),ON,1⟩
end
abbrev Td (m j:Int):Int:=(Int.mul (3) (Int.sub m j))
abbrev WA (m j:Int):Int:=(Int.mul (Int.mul (Int.sub m j) (Int.sub m j)) (Int.sub m j))
abbrev WB (P:Nat→Nat→Int) (i:Nat):Bool:=(a6 (c9 (P i 1) (P i 1)) (a6 (c9 (P i 2) (P i 2)) true))
abbrev TT (i n:Nat):Bool:=(a6 (a6 (Nat.ble (Nat.succ i) n) true) (a6 (a6 (a6 (Nat.ble (Nat.succ i) n) true) true) true))
abbrev FJ (i:Nat):Bool:=(a6 (a6 (f9 (-9223372036854775808) (.ofNat (Nat.add i 1))) (Nat.ble (Nat.add i 1) 9223372036854775807)) true)
abbrev WC (lx ly:Int) (P:Nat→Nat→Int) (i:Nat):Bool:=(a6 (c9 lx lx) (a6 (c9 ly ly) (a6 (c9 (P i 1) (P i 1)) (a6 (c9 (P i 2) (P i 2)) (a6 (c9 (P i 3) (P i 3)) (a6 (c9 (P i 4) (P i 4)) (a6 (c9 (P i 5) (P i 5)) (a6 (c9 (P i 6) (P i 6)) true))))))))
abbrev YE (m j lx ly:Int) (P:Nat→Nat→Int) (i:Nat):Bool:=(a6 (a6 (f9 (1) (Int.mul (Int.mul m m) m)) (a6 (f9 (Int.mul (Int.mul m m) m) (2097152)) (a6 (a6 (f9 (0) (WA m j)) (f9 (WA m j) (6291456))) (a6 (a6 (f9 (0) (Int.mul (Int.mul (Td m j) (Int.sub m j)) j)) (f9 (Int.mul (Int.mul (Td m j) (Int.sub m j)) j) (6291456))) (a6 (a6 (f9 (0) (Int.mul (Int.mul (Td m j) j) j)) (f9 (Int.mul (Int.mul (Td m j) j) j) (6291456))) (a6 (a6 (f9 (0) (Int.mul (Int.mul j j) j)) (f9 (Int.mul (Int.mul j j) j) (6291456))) (a6 (a6 (f9 (-8192) lx) (f9 lx (8192))) (a6 (a6 (f9 (-8192) ly) (f9 ly (8192))) (a6 (a6 (f9 (-8192) (P i 1)) (f9 (P i 1) (8192))) (a6 (a6 (f9 (-8192) (P i 2)) (f9 (P i 2) (8192))) (a6 (a6 (f9 (-8192) (P i 3)) (f9 (P i 3) (8192))) (a6 (a6 (f9 (-8192) (P i 4)) (f9 (P i 4) (8192))) (a6 (a6 (f9 (-8192) (P i 5)) (f9 (P i 5) (8192))) (a6 (a6 (f9 (-8192) (P i 6)) (f9 (P i 6) (8192))) true)))))))))))))) true)
abbrev FK (i n:Nat) (zz:Bool):Bool:=(a6 (Nat.ble (Nat.succ i) n) (a6 (TT i n) zz))
def PD (n:Nat) (P:Nat→Nat→Int):AV→Hp→Prop:=fun v H =>
 (v=.tup [.nils,.int .i64 26]∧H.nx=.o .h∧300 < v8 P n) ∨
 ∃ (N:Nat) (F:Nat→Nat→Int) (oe:Bool),v=.tup [.sa J1 0 N 7,.int .i64 0]∧H.nx=.i .h∧AM.T.get J1 H.hp=some (o7 N F oe false)∧(N:Int)=v8 P n∧N≤300∧z7 P F n∧∀ j k,-8192≤F j k∧F j k≤8192
theorem Cd {P:Nat→Nat→Int} (hP:∀ j k,-8192≤P j k∧P j k≤8192) (i:Nat):∀ x ∈ [(P i 0),(P i 1),(P i 2),(P i 3),(P i 4),(P i 5),(P i 6)],-8192≤x∧x≤8192:=by
 intro x hx
 simp only [List.mem_cons,List.not_mem_nil,or_false] at hx
 rcases hx with rfl|rfl|rfl|rfl|rfl|rfl|rfl <;> exact hP i _
theorem TU {a b:Int} (ha : -8192≤a∧a≤8192) (hb : -8192≤b∧b≤8192):∀ x ∈ [2,a,b,0,0,0,0],-8192≤x∧x≤8192:=by
 intro x hx
 simp only [List.mem_cons,List.not_mem_nil,or_false] at hx
 rcases hx with rfl|rfl|rfl|rfl|rfl|rfl|rfl <;> omega
theorem oC {P R:Nat→Nat→Int} {i k:Nat} (h3:P i 0≠3) (hk:(k:Int)=v8 P i) (hL:z7 P R i):z7 P (i2 R k [(P i 0),(P i 1),(P i 2),(P i 3),(P i 4),(P i 5),(P i 6)]) (i+1):=fun i' hi r hr c hc=>by
 by_cases e:i'=i
 ·subst e
  unfold N9 at hr
  rw [if_neg h3] at hr
  obtain rfl:r=0:=by omega
  rw [show (v8 P i').toNat+0=k from by omega,x9]
  unfold iR
  rw [if_neg h3]
  match c,hc with
  | 0,_=>rfl
  | 1,_=>rfl
  | 2,_=>rfl
  | 3,_=>rfl
  | 4,_=>rfl
  | 5,_=>rfl
  | 6,_=>rfl
 exact hL.upd (by omega) i' (by omega) r hr c hc
theorem Te {P R:Nat→Nat→Int} {i:Nat} {j:Int} (hL:z7 P R i) (hE:∀ r:Nat,(r:Int) < j - 1→∀ c,c < 7→R ((v8 P i).toNat+r) c=iR P i r c) (hj:N9 P i≤j - 1):z7 P R (i+1):=fun i' hi r hr c hc=>by
 by_cases e:i'=i
 ·subst e;exact hE r (by omega) c hc
 exact hL i' (by omega) r hr c hc
theorem BV {P R:Nat→Nat→Int} {i k:Nat} {lx ly m j:Int} (h3:P i 0=3) (hlx:lx=fX P i) (hly:ly=eA P i) (hmp:m=jX lx ly (P i 1) (P i 2) (P i 3) (P i 4) (P i 5) (P i 6)) (hj:1≤j) (hk:(k:Int)=v8 P i+(j - 1))
 (hE:∀ r:Nat,(r:Int) < j - 1→∀ c,c < 7→R ((v8 P i).toNat+r) c=iR P i r c) :
 ∀ r:Nat,(r:Int) < j+1 - 1→∀ c,c < 7→i2 R k [2,Gc m j lx (P i 1) (P i 3) (P i 5),Gc m j ly (P i 2) (P i 4) (P i 6),0,0,0,0] ((v8 P i).toNat+r) c=iR P i r c:=fun r hr c hc=>by
 have h0:=(I7 P i).1
 by_cases e:(r:Int)=j - 1
 ·rw [show (v8 P i).toNat+r=k from by omega,x9]
  unfold iR
  rw [if_pos h3,← hlx,← hly,← hmp,show (r:Int)+1=j from by omega]
  match c,hc with
  | 0,_=>rfl
  | 1,_=>rfl
  | 2,_=>rfl
  | 3,_=>rfl
  | 4,_=>rfl
  | 5,_=>rfl
  | 6,_=>rfl
 rw [N1 _ _ _ (by omega)]
 exact hE r (by omega) c hc
section
variable {n:Nat} {P:Nat→Nat→Int} {ex sty:Bool} (hn:n≤300) (hP:∀ j k,-8192≤P j k∧P j k≤8192) (hok:u2 n P)
include hn hP hok
theorem LM {i:Nat} {fx fy lx ly m:Int} (hi:i < n) (h3:P i 0=3) (hlx:lx=fX P i) (hly:ly=eA P i) (hmp:m=jX lx ly (P i 1) (P i 2) (P i 3) (P i 4) (P i 5) (P i 6)) (hNn:v8 P n≤300) (hl:∀ (k:Nat) (R:Nat→Nat→Int) (oe:Bool),(k:Int)=v8 P (i+1)→z7 P R (i+1)→(∀ j k,-8192≤R j k∧R j k≤8192)→a7 En 1 (xH n P ex sty (Nat.add i 1) fx fy (P i 5) (P i 6) k R oe) (PD n P)) (d:Nat) :
 ∀ (j:Int) (k:Nat) (R:Nat→Nat→Int) (oe:Bool),(m+1 - j).toNat=d→1≤j→j≤m+1→(k:Int)=v8 P i+(j - 1)→z7 P R i→(∀ r:Nat,(r:Int) < j - 1→∀ c,c < 7→R ((v8 P i).toNat+r) c=iR P i r c)→(∀ j k,-8192≤R j k∧R j k≤8192) →
   a7 En 1 (BU n P ex sty i fx fy lx ly m j k R oe) (PD n P):=by
 have hm:1≤m∧m≤128:=by rw [hmp];exact oA ..
 have hlb:=Ga (F:=P) (B:=8192) (by decide) hP i
 rw [← hlx,← hly] at hlb
 have hcnt:N9 P i=m:=by unfold N9;rw [if_pos h3,hmp,hlx,hly]
 have hof:=Gd (P:=P) hi
 have hob:=I7 P i
 have hNb:=I7 P n
 induction d using Nat.strongRecOn with
 | ind d IH =>
   intro j k R oe hd hj hjm hk hL hE hR
   have ih:∀ (d':Nat) (j':Int) (k':Nat) (R':Nat→Nat→Int) (oe':Bool),d' < d→(m+1 - j').toNat=d'→1≤j'→j'≤m+1→(k':Int)=v8 P i+(j' - 1)→z7 P R' i→(∀ r:Nat,(r:Int) < j' - 1→∀ c,c < 7→R' ((v8 P i).toNat+r) c=iR P i r c)→(∀ j k,-8192≤R' j k∧R' j k≤8192) →
    a7 En 1 (BU n P ex sty i fx fy lx ly m j' k' R' oe') (PD n P):=fun d' j' k' R' oe' h0 h1 h2 h3 h4 h5 h6 h7=>IH d' h0 j' k' R' oe' h1 h2 h3 h4 h5 h6 h7
   clear IH
   rcases cl j m with ⟨b1,b1p⟩|⟨b1,b1p⟩
   ·refine I9 dD 1 1 [(7,11,false)] 19 ((a6 (Bool.not (f9 j m)) (FJ i))) (xH n P ex sty (Nat.add i 1) fx fy (P i 5) (P i 6) k R oe) [.h,J5,J6,J7,J8,J9,nQ,Ko] [0,3,4,8,9,10] [[4,5,8]] ⟨R5 [3,4,5,8,11,27,28,44,45,46,47,48,49,50] (by kernel_rfl),.inl (by kernel_rfl),.inl (by kernel_rfl),.inl (by kernel_rfl),.inl (by kernel_rfl),.inl (by kernel_rfl),.inl (by kernel_rfl),trivial⟩ (by (try have hw:=VW (m:=m) (j:=j) hm (by omega) (by omega));(try simp only [b1,gS,FJ]);(try simp only [gT] at *);try omega) ?_
    exact hl k R oe (by rw [O4,hcnt];omega) (Te hL hE (by rw [hcnt];omega)) hR
   refine I9 dD 1 1 [(7,11,true)] 81 ((a6 (f9 j m) (a6 (f8 (Int.sub m j)) (a6 (f8 (Int.mul (Int.sub m j) (Int.sub m j))) (a6 (f8 (WA m j)) (a6 (f8 (Td m j)) (a6 (f8 (Int.mul (Td m j) (Int.sub m j))) (a6 (f8 (Int.mul (Int.mul (Td m j) (Int.sub m j)) j)) (a6 (f8 (Td m j)) (a6 (f8 (Int.mul (Td m j) j)) (a6 (f8 (Int.mul (Int.mul (Td m j) j) j)) (a6 (f8 (Int.mul j j)) (a6 (f8 (Int.mul (Int.mul j j) j)) (a6 (YE m j lx ly P i) (a6 (YE m j lx ly P i) (a6 (a6 (a6 (Nat.beq k k) (Bool.and (Nat.ble (Nat.mul (Nat.add (Nat.mul 2 (Nat.add k 1)) 768) 56) 1099511627776) (Nat.ble (Nat.add k 1) 1099511627776))) true) (a6 (f8 (Int.add j (1))) true))))))))))))))))) (BU n P ex sty i fx fy lx ly m (Int.add j (1)) (Nat.add k 1) (i2 R k [(2),(Sx (Int.mul (Int.mul m m) m) (Int.mul (Int.mul (Int.sub m j) (Int.sub m j)) (Int.sub m j)) (Int.mul (Int.mul (Int.mul (3) (Int.sub m j)) (Int.sub m j)) j) (Int.mul (Int.mul (Int.mul (3) (Int.sub m j)) j) j) (Int.mul (Int.mul j j) j) lx (P i 1) (P i 3) (P i 5)),(Sx (Int.mul (Int.mul m m) m) (Int.mul (Int.mul (Int.sub m j) (Int.sub m j)) (Int.sub m j)) (Int.mul (Int.mul (Int.mul (3) (Int.sub m j)) (Int.sub m j)) j) (Int.mul (Int.mul (Int.mul (3) (Int.sub m j)) j) j) (Int.mul (Int.mul j j) j) ly (P i 2) (P i 4) (P i 6)),(0),(0),(0),(0)]) false) [.h,J1,J2,J3,J4,J5,J6,J7,J8,J9,nQ,ZN] [0,1,2,3,5] [[4,5],[0,3,4,8,9,10],[4,5,8]] ⟨R5 [4,5,8,44] (by kernel_rfl),.inl (by kernel_rfl),.inl (by kernel_rfl),.inl (by kernel_rfl),R5 [3,4,5,8,11,27,28,44,45,46,47,48,49,50] (by kernel_rfl),.inl (by kernel_rfl),.inl (by kernel_rfl),.inl (by kernel_rfl),.inl (by kernel_rfl),.inl (by kernel_rfl),f7 (by kernel_rfl) rfl (by kernel_rfl),trivial⟩ (by have:=n7 (hP i);(try have hw:=VW (m:=m) (j:=j) hm (by omega) (by omega));(try simp only [b1,gS,Td,WA,YE]);(try simp only [gT] at *);try omega) ?_
   exact ih _ (j+1) (k+1) _ false (by omega) rfl (by omega) (by omega) (by omega) (hL.upd (by omega)) (BV h3 hlx hly hmp hj hk hE) (M9 (by decide) hR k (TU (Tb hm hj (by omega) hlb.1 (hP i 1) (hP i 3) (hP i 5)) (Tb hm hj (by omega) hlb.2 (hP i 2) (hP i 4) (hP i 6))))
theorem LN (hNn:v8 P n≤300) (d:Nat):∀ (i:Nat) (fx fy lx ly:Int) (k:Nat) (R:Nat→Nat→Int) (oe:Bool),n - i=d→i≤n→fx=qX P i→fy=pE P i→lx=fX P i→ly=eA P i→(k:Int)=v8 P i→z7 P R i→(∀ j k,-8192≤R j k∧R j k≤8192) →
 a7 En 1 (xH n P ex sty i fx fy lx ly k R oe) (PD n P):=by
 induction d using Nat.strongRecOn with
 | ind d IH =>
   intro i fx fy lx ly k R oe hd hi hfx hfy hlx hly hk hL hR
   have hfb:=xE (F:=P) (B:=8192) (by decide) hP i
   have hlb:=Ga (F:=P) (B:=8192) (by decide) hP i
   rw [← hfx,← hfy] at hfb
   rw [← hlx,← hly] at hlb
   have hob:=I7 P i
   have hmo:=qY P hi
   have hp1:=oA lx ly (P i 1) (P i 2) (P i 3) (P i 4) (P i 5) (P i 6)
   have hp2:=VW (m:=(jX lx ly (P i 1) (P i 2) (P i 3) (P i 4) (P i 5) (P i 6))) (j:=1) hp1 (by omega) hp1.1
   have hk4:i < n→P i 0=1∨P i 0=2∨P i 0=3∨P i 0=4:=fun h=>(hok.2 i h).1.1
   have ihl:∀ (fx' fy' lx' ly':Int) (k':Nat) (R':Nat→Nat→Int) (oe':Bool),i < n→fx'=(if P i 0=1 then P i 1 else fx)→fy'=(if P i 0=1 then P i 2 else fy)→lx'=(if P i 0=1∨P i 0=2 then P i 1 else if P i 0=3 then P i 5 else fx)→ly'=(if P i 0=1∨P i 0=2 then P i 2 else if P i 0=3 then P i 6 else fy) →
    (k':Int)=v8 P (i+1)→z7 P R' (i+1)→(∀ j k,-8192≤R' j k∧R' j k≤8192)→a7 En 1 (xH n P ex sty (Nat.add i 1) fx' fy' lx' ly' k' R' oe') (PD n P):=fun fx' fy' lx' ly' k' R' oe' h1 e1 e2 e3 e4 e5 e6 e7 =>
    IH (n - (i+1)) (by omega) (i+1) _ _ _ _ _ _ _ rfl (by omega) (by rw [Z7,← hfx];exact e1) (by rw [Z8,← hfy];exact e2) (by rw [Z9,← hfx];exact e3) (by rw [aA,← hfy];exact e4) e5 e6 e7
   clear IH
   rcases T6 (Nat.succ i) n with ⟨b1,b1p⟩|⟨b1,b1p⟩
   ·refine A5 dD 1 [(4,11,false)] 15 (a6 (Bool.not (Nat.ble (Nat.succ i) n)) true) [.h,J7] (.tup [(.sa J1 0 k 7),(zi (0))]) [(J1,(o7 k R oe false))] J2 (by (try simp only [b1,gS]);(try simp only [gT] at *);try omega) ?_
    obtain rfl:i=n:=(by omega);exact .inr ⟨k,R,oe,rfl,rfl,rfl,hk,by omega,hL,hR⟩
   rcases ci (P i 0) (1) with ⟨b2,b2p⟩|⟨b2,b2p⟩
   ·rcases ci (P i 0) (2) with ⟨b3,b3p⟩|⟨b3,b3p⟩
    ·rcases ci (P i 0) (3) with ⟨b4,b4p⟩|⟨b4,b4p⟩
     ·refine I9 dD 1 1 [(4,11,true),(27,17,false),(6,25,false),(6,30,false)] 50 ((FK i n (a6 (Bool.not (c9 (P i 0) (1))) (a6 (Bool.not (c9 (P i 0) (2))) (a6 (Bool.not (c9 (P i 0) (3))) (a6 (a6 (a6 (Nat.beq k k) (Bool.and (Nat.ble (Nat.mul (Nat.add (Nat.mul 2 (Nat.add k 1)) 768) 56) 1099511627776) (Nat.ble (Nat.add k 1) 1099511627776))) true) (FJ i))))))) (xH n P ex sty (Nat.add i 1) fx fy fx fy (Nat.add k 1) (i2 R k [(P i 0),(P i 1),(P i 2),(P i 3),(P i 4),(P i 5),(P i 6)]) false) [.h,J1,J2,J3,J4,J5,J6,Ko] [0,3,4,8,9,10] [[4,5,8]] ⟨R5 [3,4,5,8,11,27,28,44,45,46,47,48,49,50] (by kernel_rfl),.inl (by kernel_rfl),.inl (by kernel_rfl),.inl (by kernel_rfl),.inl (by kernel_rfl),.inl (by kernel_rfl),f7 (by kernel_rfl) rfl (by kernel_rfl),trivial⟩ (by have:=hP i 0;(try simp only [b1,b2,b3,b4,gS,TT,FJ,FK]);(try simp only [gT] at *);try omega) ?_
      exact ihl _ _ _ _ _ _ _ (by omega) (by repeat' split <;> omega) (by repeat' split <;> omega) (by repeat' split <;> omega) (by repeat' split <;> omega) (by simp only [Re];rw [O4,N9,if_neg (by omega)];omega) (oC (by omega) hk hL) (M9 (by decide) hR k (Cd hP i))
     refine I9 dD 1 1 [(4,11,true),(27,17,false),(6,25,false),(6,30,true)] 58 ((FK i n (a6 (Bool.not (c9 (P i 0) (1))) (a6 (Bool.not (c9 (P i 0) (2))) (a6 (c9 (P i 0) (3)) (a6 (a6 (a6 (a6 (a6 (f9 (-8192) lx) (f9 lx (8192))) (a6 (a6 (f9 (-8192) ly) (f9 ly (8192))) (a6 (a6 (f9 (-8192) (P i 1)) (f9 (P i 1) (8192))) (a6 (a6 (f9 (-8192) (P i 2)) (f9 (P i 2) (8192))) (a6 (a6 (f9 (-8192) (P i 3)) (f9 (P i 3) (8192))) (a6 (a6 (f9 (-8192) (P i 4)) (f9 (P i 4) (8192))) (a6 (a6 (f9 (-8192) (P i 5)) (f9 (P i 5) (8192))) (a6 (f9 (-8192) (P i 6)) (f9 (P i 6) (8192)))))))))) (a6 (a6 (f8 (Int.mul (jX lx ly (P i 1) (P i 2) (P i 3) (P i 4) (P i 5) (P i 6)) (jX lx ly (P i 1) (P i 2) (P i 3) (P i 4) (P i 5) (P i 6)))) (a6 (f8 (Int.mul (Int.mul (jX lx ly (P i 1) (P i 2) (P i 3) (P i 4) (P i 5) (P i 6)) (jX lx ly (P i 1) (P i 2) (P i 3) (P i 4) (P i 5) (P i 6))) (jX lx ly (P i 1) (P i 2) (P i 3) (P i 4) (P i 5) (P i 6)))) true)) true)) (a6 (a6 (WC lx ly P i) true) (a6 (a6 (WC lx ly P i) (a6 (WC lx ly P i) true)) true))) true)))))) (BU n P ex sty i fx fy lx ly (jX lx ly (P i 1) (P i 2) (P i 3) (P i 4) (P i 5) (P i 6)) (1) k R oe) [.h,YU,ON,VJ,Ko,J1,J2,J3,J4,J5,J6,J7] [0,1,2,3,5] [[4,5],[0,3,4,8,9,10],[4,5,8]] ⟨R5 [4,5,8,44] (by kernel_rfl),.inl (by kernel_rfl),.inl (by kernel_rfl),.inl (by kernel_rfl),R5 [3,4,5,8,11,27,28,44,45,46,47,48,49,50] (by kernel_rfl),.inl (by kernel_rfl),.inl (by kernel_rfl),.inl (by kernel_rfl),.inl (by kernel_rfl),.inl (by kernel_rfl),.inl (by kernel_rfl),trivial⟩ (by have:=n7 (hP i);(try simp only [b1,b2,b3,b4,gS,TT,WC,FK]);(try simp only [gT] at *);try omega) ?_
     exact LM hn hP hok (i:=i) (fx:=fx) (fy:=fy) (lx:=lx) (ly:=ly) (m:=(jX lx ly (P i 1) (P i 2) (P i 3) (P i 4) (P i 5) (P i 6))) (by omega) (by omega) hlx hly rfl hNn (fun k R oe h1 h2 h3=>ihl _ _ _ _ _ _ _ (by omega) (by rw [if_neg (by omega)]) (by rw [if_neg (by omega)]) (by rw [if_neg (by omega),if_pos (by omega)]) (by rw [if_neg (by omega),if_pos (by omega)]) h1 h2 h3) _ 1 k R oe rfl (by omega) (by omega) (by omega) hL (fun r hr=>by omega) hR
    refine I9 dD 1 1 [(4,11,true),(27,17,false),(6,25,true)] 52 ((FK i n (a6 (Bool.not (c9 (P i 0) (1))) (a6 (c9 (P i 0) (2)) (a6 (a6 (a6 (Nat.beq k k) (Bool.and (Nat.ble (Nat.mul (Nat.add (Nat.mul 2 (Nat.add k 1)) 768) 56) 1099511627776) (Nat.ble (Nat.add k 1) 1099511627776))) true) (FJ i)))))) (xH n P ex sty (Nat.add i 1) fx fy (P i 1) (P i 2) (Nat.add k 1) (i2 R k [(P i 0),(P i 1),(P i 2),(P i 3),(P i 4),(P i 5),(P i 6)]) false) [.h,J1,J2,J3,J4,J5,J6,Ko] [0,3,4,8,9,10] [[4,5,8]] ⟨R5 [3,4,5,8,11,27,28,44,45,46,47,48,49,50] (by kernel_rfl),.inl (by kernel_rfl),.inl (by kernel_rfl),.inl (by kernel_rfl),.inl (by kernel_rfl),.inl (by kernel_rfl),f7 (by kernel_rfl) rfl (by kernel_rfl),trivial⟩ (by have:=hP i 0;(try simp only [b1,b2,b3,gS,TT,FJ,FK]);(try simp only [gT] at *);try omega) ?_
    exact ihl _ _ _ _ _ _ _ (by omega) (by repeat' split <;> omega) (by repeat' split <;> omega) (by repeat' split <;> omega) (by repeat' split <;> omega) (by simp only [Re];rw [O4,N9,if_neg (by omega)];omega) (oC (by omega) hk hL) (M9 (by decide) hR k (Cd hP i))
   refine I9 dD 1 1 [(4,11,true),(27,17,true)] 47 ((FK i n (a6 (c9 (P i 0) (1)) (a6 (a6 (a6 (WB P i) (a6 (WB P i) true)) (a6 (a6 (WB P i) true) true)) (a6 (a6 (a6 (Nat.beq k k) (Bool.and (Nat.ble (Nat.mul (Nat.add (Nat.mul 2 (Nat.add k 1)) 768) 56) 1099511627776) (Nat.ble (Nat.add k 1) 1099511627776))) true) (FJ i)))))) (xH n P ex sty (Nat.add i 1) (P i 1) (P i 2) (P i 1) (P i 2) (Nat.add k 1) (i2 R k [(P i 0),(P i 1),(P i 2),(P i 3),(P i 4),(P i 5),(P i 6)]) false) [.h,J1,J2,J3,J4,J5,J6,Ko] [0,3,4,8,9,10] [[4,5,8]] ⟨R5 [3,4,5,8,11,27,28,44,45,46,47,48,49,50] (by kernel_rfl),.inl (by kernel_rfl),.inl (by kernel_rfl),.inl (by kernel_rfl),.inl (by kernel_rfl),.inl (by kernel_rfl),f7 (by kernel_rfl) rfl (by kernel_rfl),trivial⟩ (by have:=n7 (hP i);(try simp only [b1,b2,gS,WB,TT,FJ,FK]);(try simp only [gT] at *);try omega) ?_
   exact ihl _ _ _ _ _ _ _ (by omega) (by repeat' split <;> omega) (by repeat' split <;> omega) (by repeat' split <;> omega) (by repeat' split <;> omega) (by simp only [Re];rw [O4,N9,if_neg (by omega)];omega) (oC (by omega) hk hL) (M9 (by decide) hR k (Cd hP i))
theorem Ce:a7 En 1 (Cc n P ex sty) (PD n P):=by
 have hob:=I7 P n
 refine J0 dD 1 [] 11 true (TS n P ex sty) [.h,J1] [[0,3,4,5,9,10,11,27,28,29,30,31,32,33,34,35,36,37,38,39,40,41,42,43,44,45,46,47,48,49,50]] rfl ?_
 refine ca (LJ n P ex sty) [.h] (LL (n:=n) (P:=P) (ex:=ex) (sty:=sty) hn hP hok) (fun v' H' q=>?_)
 rcases q with ⟨s_1,rfl,hnx1,hs_1⟩
 refine ⟨(.tup [(zi s_1),(zi (0))]),[],J2,(by kernel_rfl),(by rw [hnx1];kernel_rfl),trivial,(by kernel_rfl),?_⟩
 rcases ct (300) s_1 with ⟨b1,b1p⟩|⟨b1,b1p⟩
 ·refine I9 dD 1 1 [(20,22,false)] 43 (a6 (Bool.not (i4 (300) s_1)) (a6 (a6 (a6 (f9 (0) s_1) (a6 (c9 s_1 s_1) (a6 (Nat.ble (Int.toNat s_1) 1099511627776) (Nat.ble (Nat.mul 56 (Int.toNat s_1)) 1099511627776)))) true) true)) (xH n P ex sty 0 (0) (0) (0) (0) 0 (fun _ _=>0) false) [.h,J6,J7,J8,J3,J5,J1,J2] [0,3,4,8,9,10] [[4,5,8]] ⟨R5 [3,4,5,8,11,27,28,44,45,46,47,48,49,50] (by kernel_rfl),.inl (by kernel_rfl),.inl (by kernel_rfl),.inl (by kernel_rfl),.inl (by kernel_rfl),.inl (by kernel_rfl),.inl (by kernel_rfl),trivial⟩ (by (try simp only [b1,gS]);(try simp only [gT] at *);try omega) ?_
  exact LN hn hP hok (by omega) (n - 0) 0 _ _ _ _ 0 _ _ rfl (by omega) rfl rfl rfl rfl rfl (fun i hi=>absurd hi (Nat.not_lt_zero _)) (fun _ _=>by decide)
 refine A5 dD 1 [(20,22,true)] 8 (a6 (i4 (300) s_1) true) [.h] (.tup [.nils,(zi (26))]) [] J1 (by (try simp only [b1,gS]);(try simp only [gT] at *);try omega) ?_
 exact .inl ⟨rfl,rfl,by omega⟩
end
theorem Tf (f:Nat→List AV) (i:Nat):upd f i (f i)=f:=by
 funext j;unfold upd;split
 ·rename_i e;rw [e]
 ·rfl
theorem YF {F:Nat→Nat→Int} {i:Nat} {kv:Int} (h:F i 0=kv):a8 [.i64,.i64,.i64,.i64,.i64,.i64,.i64] F i = [.int .i64 kv,.int .i64 (F i 1),.int .i64 (F i 2),.int .i64 (F i 3),.int .i64 (F i 4),.int .i64 (F i 5),.int .i64 (F i 6)]:=by
 subst h;rfl
theorem FL {γ:Gm} {L:AM.Loc} {n i:Nat} {F:Nat→Nat→Int} {ex sty:Bool} {kv:Int} {ob:Obj} (h:F i 0=kv) :
 OR γ L (.arr n 7 (a8 [.i64,.i64,.i64,.i64,.i64,.i64,.i64] F) none 63 ex sty) ob↔OR γ L (.arr n 7 (a8 [.i64,.i64,.i64,.i64,.i64,.i64,.i64] F) (some (i,[.int .i64 kv,.int .i64 (F i 1),.int .i64 (F i 2),.int .i64 (F i 3),.int .i64 (F i 4),.int .i64 (F i 5),.int .i64 (F i 6)])) 63 ex sty) ob:=by
 have e:E8 (a8 [.i64,.i64,.i64,.i64,.i64,.i64,.i64] F) (some (i,[.int .i64 kv,.int .i64 (F i 1),.int .i64 (F i 2),.int .i64 (F i 3),.int .i64 (F i 4),.int .i64 (F i 5),.int .i64 (F i 6)]))=E8 (a8 [.i64,.i64,.i64,.i64,.i64,.i64,.i64] F) none:=by
  show upd _ i _=_
  rw [← YF h,Tf];rfl
 simp only [OR]
 rw [e]
section
variable (n i:Nat) (F:Nat→Nat→Int) (ex sty:Bool) (kv:Int) {a:Option AO} {b:AO} (h:F i 0=kv)
include n i F ex sty kv h
theorem LO (ha:a=some (.arr n 7 (a8 [.i64,.i64,.i64,.i64,.i64,.i64,.i64] F) none 63 ex sty)) (hb:b=.arr n 7 (a8 [.i64,.i64,.i64,.i64,.i64,.i64,.i64] F) (some (i,[.int .i64 kv,.int .i64 (F i 1),.int .i64 (F i 2),.int .i64 (F i 3),.int .i64 (F i 4),.int .i64 (F i 5),.int .i64 (F i 6)])) 63 ex sty):OE a b:=by
 subst hb;exact .inr ⟨_,ha,fun γ L ob k=>(FL h).1 k⟩
theorem LP (hb:b=.arr n 7 (a8 [.i64,.i64,.i64,.i64,.i64,.i64,.i64] F) none 63 ex sty) (ha:a=some (.arr n 7 (a8 [.i64,.i64,.i64,.i64,.i64,.i64,.i64] F) (some (i,[.int .i64 kv,.int .i64 (F i 1),.int .i64 (F i 2),.int .i64 (F i 3),.int .i64 (F i 4),.int .i64 (F i 5),.int .i64 (F i 6)])) 63 ex sty)):OE a b:=by
 subst hb;exact .inr ⟨_,ha,fun γ L ob k=>(FL h).2 k⟩
end
section
variable (n:Nat) (F:Nat→Nat→Int) (ex sty:Bool) (e_1:Int) (i:Nat) (lx ly hx hy:Int)
def LQ:St:=⟨o4 (d9 En 19 [(.sa .h 0 n 7)] false),[],[(.h,(o7 n F ex sty))],J1,1⟩
def TV:St:=⟨cf (dS n F ex sty) J3 [.h],[(fr 19 79 (ts [0,2,3] [.sa .h 0 n 7,.ptr J1 0,.ptr J2 0]) [rA En 19 (pb 12) 1,cA En 19 (pb 13),cA En 19 (pb 7)])],(zs [(o7 n F ex sty),(zc 54 [0,0]),(zc 54 [0,0])]),J3,1⟩
def Js:St:=⟨(fr 19 79 (ts [2,3,6,34,35,36] [.ptr J1 0,.ptr J2 0,.mp J3,.sa .h 0 n 7,zn n,zn i]) [cA En 19 (pb 1012),lA En 19 (pb 1012),.blk 0,cA En 19 (pb 127)]),[],(zs [(o7 n F ex sty),(zc 54 [lx,ly]),(zc 54 [hx,hy]),(.map [((zi (1)),(zi (1)),0),((zi (2)),(zi (1)),1),((zi (3)),(zi (3)),2),((zi (4)),(zi (0)),3)] 4)]),J4,1⟩
def LS:St:=⟨(fr 19 79 (ts [2,3,6,34,35,36] [.ptr J1 0,.ptr J2 0,.mp J3,.sa .h 0 n 7,zn n,zn i]) [cA En 19 (pb 1012),lA En 19 (pb 1012),.blk 0,cA En 19 (pb 127)]),[],(zs [(.arr n 7 (a8 R7 F) (some (i,[(zi (1)),(zi (F i 1)),(zi (F i 2)),(zi (F i 3)),(zi (F i 4)),(zi (F i 5)),(zi (F i 6))])) 63 ex sty),(zc 54 [lx,ly]),(zc 54 [hx,hy]),(.map [((zi (1)),(zi (1)),0),((zi (2)),(zi (1)),1),((zi (3)),(zi (3)),2),((zi (4)),(zi (0)),3)] 4)]),J4,1⟩
def LT:St:=⟨(fr 19 79 (ts [2,3,6,34,35,36] [.ptr J1 0,.ptr J2 0,.mp J3,.sa .h 0 n 7,zn n,zn i]) [cA En 19 (pb 1012),lA En 19 (pb 1012),.blk 0,cA En 19 (pb 127)]),[],(zs [(.arr n 7 (a8 R7 F) (some (i,[(zi (2)),(zi (F i 1)),(zi (F i 2)),(zi (F i 3)),(zi (F i 4)),(zi (F i 5)),(zi (F i 6))])) 63 ex sty),(zc 54 [lx,ly]),(zc 54 [hx,hy]),(.map [((zi (1)),(zi (1)),0),((zi (2)),(zi (1)),1),((zi (3)),(zi (3)),2),((zi (4)),(zi (0)),3)] 4)]),J4,1⟩
def LU:St:=⟨(fr 19 79 (ts [2,3,6,34,35,36] [.ptr J1 0,.ptr J2 0,.mp J3,.sa .h 0 n 7,zn n,zn i]) [cA En 19 (pb 1012),lA En 19 (pb 1012),.blk 0,cA En 19 (pb 127)]),[],(zs [(.arr n 7 (a8 R7 F) (some (i,[(zi (4)),(zi (F i 1)),(zi (F i 2)),(zi (F i 3)),(zi (F i 4)),(zi (F i 5)),(zi (F i 6))])) 63 ex sty),(zc 54 [lx,ly]),(zc 54 [hx,hy]),(.map [((zi (1)),(zi (1)),0),((zi (2)),(zi (1)),1),((zi (3)),(zi (3)),2),((zi (4)),(zi (0)),3)] 4)]),J4,1⟩
end
abbrev WD (n:Nat) (F:Nat→Nat→Int):Bool:=(a6 (a6 (a6 (Nat.ble 1 n) true) true) (a6 (c9 (F 0 1) (F 0 1)) (a6 (c9 (F 0 2) (F 0 2)) true)))
abbrev TW (i:Nat):Bool:=(a6 (a6 (f9 (-9223372036854775808) (.ofNat (Nat.add i 1))) (Nat.ble (Nat.add i 1) 9223372036854775807)) true)
abbrev WE (i n:Nat) (F:Nat→Nat→Int) (ly lx hy hx:Int):Bool:=(a6 (Nat.ble (Nat.succ i) n) (a6 (a6 (Nat.ble (Nat.succ i) n) true) (a6 (a6 (a6 (Nat.ble (Nat.succ i) n) (Nat.beq i i)) true) (a6 (a6 (a6 (c9 (F i 2) (F i 2)) (a6 (c9 (F i 2) (F i 2)) true)) (a6 (a6 (c9 ly ly) true) (a6 (a6 (c9 (F i 1) (F i 1)) true) (a6 (a6 (c9 lx lx) true) true)))) (a6 (a6 (a6 (c9 (F i 2) (F i 2)) (a6 (c9 (F i 2) (F i 2)) true)) (a6 (a6 (c9 hy hy) true) (a6 (a6 (c9 (F i 1) (F i 1)) true) (a6 (a6 (c9 hx hx) true) true)))) (TW i))))))
def Ge (F:Nat→Nat→Int) (n:Nat) (lx ly hx hy:Int):Prop:=∀ i,i < n→F i 0≠4→lx≤F i 1∧F i 1≤hx∧ly≤F i 2∧F i 2≤hy
def BW (lx ly hx hy:Int):Prop:=(-8192≤lx∧lx≤8192)∧(-8192≤ly∧ly≤8192)∧(-8192≤hx∧hx≤8192)∧(-8192≤hy∧hy≤8192)
def YG (n:Nat) (F:Nat→Nat→Int):AV→Hp→Prop:=fun v H=>∃ lx ly hx hy:Int,v=.tup [.agg [.int .i64 lx,.int .i64 ly],.agg [.int .i64 hx,.int .i64 hy],.int .i64 0]∧H.nx=.o .h∧BW lx ly hx hy∧Ge F n lx ly hx hy
section
variable {n:Nat} {F:Nat→Nat→Int} {ex sty:Bool} (hn:n≤300) (hn1:1≤n) (hF:∀ j k,-8192≤F j k∧F j k≤8192) (hok:u2 n F) (hfl:∀ j,j < n→F j 0≠3)
include hn hn1 hF hok hfl
theorem LV (d:Nat):∀ (i:Nat) (lx ly hx hy:Int),n - i=d→i≤n→BW lx ly hx hy→Ge F i lx ly hx hy→a7 En 1 (Js n F ex sty i lx ly hx hy) (YG n F):=by
 induction d using Nat.strongRecOn with
 | ind d IH =>
   intro i lx ly hx hy hd hi hb hB
   have hb':=hb
   unfold BW at hb'
   have h1:=hF i 1
   have h2:=hF i 2
   have ih:∀ lx' ly' hx' hy':Int,i < n→(lx'≤lx∧ly'≤ly∧hx≤hx'∧hy≤hy')→(F i 0≠4→lx'≤F i 1∧F i 1≤hx'∧ly'≤F i 2∧F i 2≤hy')→((-8192≤lx'∧lx'≤8192)∧(-8192≤ly'∧ly'≤8192)∧(-8192≤hx'∧hx'≤8192)∧(-8192≤hy'∧hy'≤8192)) →
    a7 En 1 (Js n F ex sty (Nat.add i 1) lx' ly' hx' hy') (YG n F):=fun lx' ly' hx' hy' hi1 e1 e2 e3 =>
    IH (n - (i+1)) (by omega) (i+1) _ _ _ _ rfl (by omega) e3 (fun j hj hj4=>by
     by_cases e:j=i
     ·subst e;exact e2 hj4
     have:=hB j (by omega) hj4;omega)
   clear IH
   cases hin:(Nat.ble (Nat.succ i) n)
   ·have hno:=hin
    have hnop:=tM (kH _ _) hin
    refine A5 s9 1 [(5,37,false)] 6 (a6 (Bool.not (Nat.ble (Nat.succ i) n)) (a6 (a6 (a6 (a6 (c9 hx hx) (a6 (c9 hy hy) true)) (a6 (a6 (c9 hx hx) (a6 (c9 hy hy) true)) true)) (a6 (a6 (a6 (c9 lx lx) (a6 (c9 ly ly) true)) true) true)) true)) [.h] (.tup [(az [lx,ly]),(az [hx,hy]),(zi (0))]) [] J1 (by (try simp only [hno,gS]);(try simp only [gT] at *);try omega) ?_
    obtain rfl:i=n:=(by omega);exact ⟨_,_,_,_,rfl,rfl,hb,hB⟩
   have hinp:=tL (kH _ _) hin
   have h3:=hfl i (by omega)
   have h4:=(hok.2 i (by omega)).1.1
   rcases (show F i 0=1∨F i 0=2∨F i 0=4 by omega) with hkd|hkd|hkd
   ·refine I9 s9 0 1 [] 0 true (LS n F ex sty i lx ly hx hy) [.h,J1,J2,J3] [2,3,6,34,35,36] [] ⟨LO (n) (i) F ex sty  (1) hkd (by kernel_rfl) (by kernel_rfl),.inl (by kernel_rfl),.inl (by kernel_rfl),.inl (by kernel_rfl),trivial⟩ rfl ?_
    refine I9 s9 0 1 [(5,37,true)] 62 ((WE i n F ly lx hy hx)) (Js n F ex sty (Nat.add i 1) (d7 (i4 (F i 1) lx) (F i 1) lx) (d7 (i4 (F i 2) ly) (F i 2) ly) (d7 (i4 hx (F i 1)) (F i 1) hx) (d7 (i4 hy (F i 2)) (F i 2) hy)) [.h,J1,J2,J3] [2,3,6,34,35,36] [] ⟨LP (n) (i) F ex sty (1) hkd (by kernel_rfl) (by kernel_rfl),.inl (by kernel_rfl),.inl (by kernel_rfl),.inl (by kernel_rfl),trivial⟩ (by have:=n7 (hF i);(try simp only [hin,hkd,gS,TW,WE]);(try simp only [gT] at *);try omega) ?_
    exact ih _ _ _ _ (by omega) (by (try simp only [q8,m5]);refine ⟨?_,?_,?_,?_⟩ <;> (try split) <;> omega) (fun _=>by (try simp only [q8,m5]);refine ⟨?_,?_,?_,?_⟩ <;> (try split) <;> omega) (by (try simp only [q8,m5]);refine ⟨⟨?_,?_⟩,⟨?_,?_⟩,⟨?_,?_⟩,⟨?_,?_⟩⟩ <;> (try split) <;> omega)
   ·refine I9 s9 0 1 [] 0 true (LT n F ex sty i lx ly hx hy) [.h,J1,J2,J3] [2,3,6,34,35,36] [] ⟨LO (n) (i) F ex sty  (2) hkd (by kernel_rfl) (by kernel_rfl),.inl (by kernel_rfl),.inl (by kernel_rfl),.inl (by kernel_rfl),trivial⟩ rfl ?_
    refine I9 s9 0 1 [(5,37,true)] 62 ((WE i n F ly lx hy hx)) (Js n F ex sty (Nat.add i 1) (d7 (i4 (F i 1) lx) (F i 1) lx) (d7 (i4 (F i 2) ly) (F i 2) ly) (d7 (i4 hx (F i 1)) (F i 1) hx) (d7 (i4 hy (F i 2)) (F i 2) hy)) [.h,J1,J2,J3] [2,3,6,34,35,36] [] ⟨LP (n) (i) F ex sty (2) hkd (by kernel_rfl) (by kernel_rfl),.inl (by kernel_rfl),.inl (by kernel_rfl),.inl (by kernel_rfl),trivial⟩ (by have:=n7 (hF i);(try simp only [hin,hkd,gS,TW,WE]);(try simp only [gT] at *);try omega) ?_
    exact ih _ _ _ _ (by omega) (by (try simp only [q8,m5]);refine ⟨?_,?_,?_,?_⟩ <;> (try split) <;> omega) (fun _=>by (try simp only [q8,m5]);refine ⟨?_,?_,?_,?_⟩ <;> (try split) <;> omega) (by (try simp only [q8,m5]);refine ⟨⟨?_,?_⟩,⟨?_,?_⟩,⟨?_,?_⟩,⟨?_,?_⟩⟩ <;> (try split) <;> omega)
   refine I9 s9 0 1 [] 0 true (LU n F ex sty i lx ly hx hy) [.h,J1,J2,J3] [2,3,6,34,35,36] [] ⟨LO (n) (i) F ex sty  (4) hkd (by kernel_rfl) (by kernel_rfl),.inl (by kernel_rfl),.inl (by kernel_rfl),.inl (by kernel_rfl),trivial⟩ rfl ?_
   refine I9 s9 0 1 [(5,37,true)] 37 ((a6 (Nat.ble (Nat.succ i) n) (a6 (a6 (Nat.ble (Nat.succ i) n) true) (a6 (a6 (a6 (Nat.ble (Nat.succ i) n) (Nat.beq i i)) true) (TW i))))) (Js n F ex sty (Nat.add i 1) lx ly hx hy) [.h,J1,J2,J3] [2,3,6,34,35,36] [] ⟨LP (n) (i) F ex sty (4) hkd (by kernel_rfl) (by kernel_rfl),.inl (by kernel_rfl),.inl (by kernel_rfl),.inl (by kernel_rfl),trivial⟩ (by have:=hF i 0;(try simp only [hin,hkd,gS,TW]);(try simp only [gT] at *);try omega) ?_
   exact ih _ _ _ _ (by omega) (by (try simp only [q8,m5]);refine ⟨?_,?_,?_,?_⟩ <;> (try split) <;> omega) (fun _=>by (try simp only [q8,m5]);refine ⟨?_,?_,?_,?_⟩ <;> (try split) <;> omega) (by (try simp only [q8,m5]);refine ⟨⟨?_,?_⟩,⟨?_,?_⟩,⟨?_,?_⟩,⟨?_,?_⟩⟩ <;> (try split) <;> omega)
theorem LW:a7 En 1 (LQ n F ex sty) (YG n F):=by
 have h9F:∀ j k,-1000000000≤F j k∧F j k≤1000000000:=fun j k=>by have:=hF j k;omega
 refine J0 s9 1 [] 11 true (TV n F ex sty) [.h,J1,J2] [[0,2,3]] rfl ?_
 refine ca (dS n F ex sty) [.h] (dU (n:=n) (Y:=F) (ex:=ex) (sty:=sty) h9F (by omega)) (fun v' H' q=>?_)
 rcases q with ⟨e_1,rfl,hnx1,hq_1⟩
 refine ⟨(zi e_1),[],J3,(by kernel_rfl),(by rw [hnx1];kernel_rfl),trivial,(by kernel_rfl),?_⟩
 rcases ci e_1 (0) with ⟨b1,b1p⟩|⟨b1,b1p⟩
 ·refine A5 s9 1 [(7,14,true)] 12 (a6 (Bool.not (c9 e_1 (0))) true) [.h] (.tup [(az [0,0]),(az [0,0]),(zi e_1)]) [] J1 (by (try simp only [b1,gS]);(try simp only [gT] at *);try omega) ?_
  exact absurd (hq_1.2 hok) b1p
 refine Z1 s9 1 [(7,14,false),(9,20,false)] 34 ((a6 (Bool.not (Bool.not (c9 e_1 (0)))) (a6 (Bool.not (Nat.beq n 0)) (a6 (a6 (a6 (a6 (Nat.ble 1 n) true) (a6 (a6 (a6 (Nat.ble 1 n) true) true) (a6 (a6 (Nat.ble 1 n) true) (a6 (a6 (a6 (Nat.ble 1 n) true) true) true)))) (a6 (a6 (WD n F) (a6 (WD n F) true)) (a6 (a6 (WD n F) true) true))) true)))) (Js n F ex sty 0 (F 0 1) (F 0 2) (F 0 1) (F 0 2)) [.h,J1,J2,J3] [2,3,6,34,35,36] [] (by have:=n7 (hF 0);(try simp only [b1,gS,WD]);(try simp only [gT] at *);try omega) ?_
 exact LV hn hn1 hF hok hfl (n - 0) 0 _ _ _ _ rfl (by omega) ⟨hF 0 1,hF 0 2,hF 0 1,hF 0 2⟩ (fun j hj=>absurd hj (Nat.not_lt_zero _))
end
def FM (l:List AV) (c:Nat):Int:=match l[c]? with|some (.int _ z)=>z|_=>0
def K9 (n:Nat) (f:Nat→List AV):Bool:=@decide _ (Classical.propDecidable (∃ F,f=a8 [.i64,.i64,.i64,.i64,.i64,.i64,.i64] F∧n≤300∧(∀ j k,-16384≤F j k∧F j k≤16384)∧u2 n F∧∀ j,j < n→F j 0≠3))
def T1 (n:Nat) (f:Nat→List AV) (x y:Int):Bool:=S5 (fun i c=>FM (f i) c) n x y
theorem oD {n:Nat} {F:Nat→Nat→Int} (hn:n≤300) (hF:∀ j k,-16384≤F j k∧F j k≤16384) (hok:u2 n F) (hfl:∀ j,j < n→F j 0≠3):K9 n (a8 [.i64,.i64,.i64,.i64,.i64,.i64,.i64] F)=true:=by
 unfold K9;exact jV.2 ⟨F,rfl,hn,hF,hok,hfl⟩
theorem oF {F G:Nat→Nat→Int} (h:∀ j,F j 0=G j 0∧F j 1=G j 1∧F j 2=G j 2∧F j 5=G j 5∧F j 6=G j 6):∀ n,qX F n=qX G n∧pE F n=pE G n∧fX F n=fX G n∧eA F n=eA G n
 | 0=>⟨rfl,rfl,rfl,rfl⟩
 | n+1=>by
   obtain ⟨e1,e2,e3,e4⟩:=oF h n
   obtain ⟨h0,h1,h2,h5,h6⟩:=h n
   rw [Z7,Z7,Z8,Z8,Z9,Z9,aA,aA,h0,h1,h2,h5,h6,e1,e2]
   exact ⟨rfl,rfl,rfl,rfl⟩
theorem qZ {F G:Nat→Nat→Int} (h:∀ j,F j 0=G j 0∧F j 1=G j 1∧F j 2=G j 2∧F j 5=G j 5∧F j 6=G j 6) (x y:Int):∀ n,Fz F x y n=Fz G x y n
 | 0=>rfl
 | n+1=>by
   obtain ⟨e1,e2,e3,e4⟩:=oF h n
   obtain ⟨h0,h1,h2,h5,h6⟩:=h n
   rw [fY,fY,qZ h x y n,h0,h1,h2,e1,e2,e3,e4]
theorem Tg {F G:Nat→Nat→Int} (h:∀ j,F j 0=G j 0∧F j 1=G j 1∧F j 2=G j 2∧F j 5=G j 5∧F j 6=G j 6) (n:Nat) (x y:Int):wn F n x y=wn G n x y:=by
 obtain ⟨e1,e2,e3,e4⟩:=oF h n
 unfold wn
 rw [qZ h,e1,e2,e3,e4]
theorem tV (F:Nat→Nat→Int) (n:Nat) (x y:Int):T1 n (a8 [.i64,.i64,.i64,.i64,.i64,.i64,.i64] F) x y=S5 F n x y:=by
 unfold T1 S5
 rw [Tg (F:=fun i c=>FM (a8 [.i64,.i64,.i64,.i64,.i64,.i64,.i64] F i) c) (G:= F) (fun j=>⟨rfl,rfl,rfl,rfl,rfl⟩)]
theorem tW (F:Nat→Nat→Int) (n:Nat) (x y:Int):T1 n (a8 R7 F) x y=S5 F n x y:=tV F n x y
def LX (b:Bool) (args:List AV) (H:Hp):Option (Bool × AV × Hp):=match args with
 | [.sa k e n z,.bool false,.agg [.int .i64 x,.int .i64 y]]=>(match T.get k H.hp with
   | some (.arr n' z' g none el ex sty)=>some (a6 (Bool.rec (Bool.not (T1 n g x y)) (T1 n g x y) b) (a6 (Nat.beq e 0) (a6 (Nat.beq z 7) (a6 (Nat.beq z' 7) (a6 (Nat.beq el 63) (a6 (Nat.beq n n') (a6 (K9 n g) (a6 (oB x) (a6 (oB y) (H6 En.ng 1 H.nx.idx 0 1 H.fl [k]))))))))),.tup [.bool b,.int .i64 0],H)
   | _=>none)
 | _=>none
def ZB (b:Bool):M8:=fun f args H=>Bool.rec (TL f args H) (LX b args H) (Nat.beq f 1000011)
theorem D1 (b:Bool):q9 (ZB b) En:=fun f args v H S' h γ w s hH ho=>by
 unfold ZB at h
 cases hf:Nat.beq f 1000011 with
 | false=>rw [hf] at h;exact s9 f args v H S' h γ w s hH ho
 | true =>
   rw [hf] at h
   have ef:=Nat.eq_of_beq_eq_true hf
   subst ef
   have h:LX b args H=some (true,v,S'):=h
   have ho:O7 En γ H w s (.call 11 args):=ho
   unfold LX at h
   split at h <;> try (cases h;done)
   rename_i k e n z x y _ _
   split at h <;> try (cases h;done)
   rename_i n' z' g el ex sty hb
   injection h with h
   injection h with h1 h2
   injection h2 with h2 h3
   subst h3
   obtain ⟨g0,h1⟩:=a9.1 h1
   obtain ⟨g1,h1⟩:=a9.1 h1
   obtain ⟨g2,h1⟩:=a9.1 h1
   obtain ⟨g3,h1⟩:=a9.1 h1
   obtain ⟨g4,h1⟩:=a9.1 h1
   obtain ⟨g5,h1⟩:=a9.1 h1
   obtain ⟨g6,h1⟩:=a9.1 h1
   obtain ⟨g7,h1⟩:=a9.1 h1
   obtain ⟨g8,g9⟩:=a9.1 h1
   have e1:=Nat.eq_of_beq_eq_true g1
   have e2:=Nat.eq_of_beq_eq_true g2
   have e3:=Nat.eq_of_beq_eq_true g3
   have e4:=Nat.eq_of_beq_eq_true g4
   have e5:=Nat.eq_of_beq_eq_true g5
   subst e1 e2 e3 e4 e5
   unfold K9 at g6
   obtain ⟨F,rfl,hn,hF,hok,hfl⟩:=jV.1 g6
   rw [tV] at g0
   have hbb:b=S5 F n x y:=by
    cases b with
    | true=>exact g0.symm
    | false =>
      have:Bool.not (S5 F n x y)=true:=g0
      cases hi:S5 F n x y with
      | false=>rfl
      | true=>rw [hi] at this;cases this
   have key:∀ (q:Nat),q=En.ng→H6 q 1 H.nx.idx 0 1 H.fl [k]=true→∃ fr',F8 En.P s w fr'∧∀ c bot,∃ γ' v' w',Steps En.P (lone fr' (c::bot) w) (lone (c.finish v') bot w')∧VR γ' v v'∧HR γ' En.ng H w'∧j6 H γ w H γ' w':=fun q hq hkeys=>by
    subst hq
    have hm:i6 En (iS n F ex sty x y).S.nx.idx (iS n F ex sty x y).f [] (iS n F ex sty x y).S _:=Tc (by omega) (N2 g7) (N2 g8) hF hok hfl
    refine bK cY (f:=11) (t:=[k]) (f0:=(iS n F ex sty x y).f) (H:=(iS n F ex sty x y).S) (os:=(iS n F ex sty x y).os) (show d9 En 11 [.sa k 0 n 7,.bool false,.agg [.int .i64 x,.int .i64 y]] false=some (o4 (d9 En 11 [.sa k 0 n 7,.bool false,.agg [.int .i64 x,.int .i64 y]] false)) from by kernel_rfl) hkeys rfl ⟨?_,trivial⟩ (by kernel_rfl) ?_ hm (fun v1 H' q=>?_) γ w s hH ho
    ·exact hb
    ·kernel_rfl
    ·obtain ⟨b',q1,q2,q3⟩:=q
     refine ⟨q2,?_⟩
     rw [q1,← h2,hbb,q3];rfl
   exact key En.ng rfl g9
theorem idx_of {P:Nat→Nat→Int} {n:Nat} {N:Nat} (hN:(N:Int)=v8 P n):∀ j,j < N→∃ i r:Nat,i < n∧(r:Int) < N9 P i∧j=(v8 P i).toNat+r:=by
 induction n generalizing N with
 | zero=>intro j hj;have:(N:Int)=0:=hN;omega
 | succ n ih =>
   intro j hj
   rw [O4] at hN
   have h0:=I7 P n
   by_cases h:(j:Int) < v8 P n
   ·obtain ⟨i,r,h1,h2,h3⟩:=ih (N:=(v8 P n).toNat) (by omega) j (by omega)
    exact ⟨i,r,by omega,h2,h3⟩
   ·exact ⟨n,j - (v8 P n).toNat,by omega,by omega,by omega⟩
section
variable {P F:Nat→Nat→Int} {n N:Nat} (hN:(N:Int)=v8 P n) (hL:z7 P F n) (hok:u2 n P)
include hL
theorem cC {i r:Nat} (hi:i < n) (hr:(r:Int) < N9 P i):F ((v8 P i).toNat+r) 0=if P i 0=3 then 2 else P i 0:=by
 rw [hL i hi r hr 0 (by omega)]
 unfold iR;split <;> rfl
theorem Th {i r:Nat} (hi:i < n) (h3:P i 0≠3) (hr:(r:Int) < N9 P i) {c:Nat} (hc:c < 7):F ((v8 P i).toNat+r) c=P i c:=by
 rw [hL i hi r hr c hc]
 unfold iR;rw [if_neg h3]
theorem Jt {i r:Nat} (hi:i < n) (h3:P i 0=3) (hr:(r:Int) < N9 P i):F ((v8 P i).toNat+r) 0=2∧F ((v8 P i).toNat+r) 3=0∧F ((v8 P i).toNat+r) 4=0∧F ((v8 P i).toNat+r) 5=0∧F ((v8 P i).toNat+r) 6=0:=by
 rw [hL i hi r hr 0 (by omega),hL i hi r hr 3 (by omega),hL i hi r hr 4 (by omega),hL i hi r hr 5 (by omega),hL i hi r hr 6 (by omega)]
 unfold iR;rw [if_pos h3,if_pos h3,if_pos h3,if_pos h3,if_pos h3];exact ⟨rfl,rfl,rfl,rfl,rfl⟩
include hN hok
omit hok in
theorem oG:∀ j,j < N→F j 0≠3:=fun j hj=>by
 obtain ⟨i,r,h1,h2,rfl⟩:=idx_of hN j hj
 rw [cC hL h1 h2]
 split <;> omega
theorem tX (hb:∀ j k,-8192≤F j k∧F j k≤8192) (h300:N≤300):u2 N F:=by
 refine ⟨h300,fun j hj=>?_⟩
 obtain ⟨i,r,h1,h2,e⟩:=idx_of hN j hj
 have hg:=hok.2 i h1
 have hk:=cC hL h1 h2
 have h0:=I7 P i
 have hb0:=hb j 1
 have hb1:=hb j 2
 have hp:(r=0∧i=0∧E3 F j=4)∨(r=0∧0 < i∧E3 F j=(if P (i - 1) 0=3 then 2 else P (i - 1) 0))∨(0 < r∧E3 F j=2∧P i 0=3):=by
  by_cases hr:r=0
  ·subst hr
   by_cases hi:i=0
   ·left
    subst hi
    have:(v8 P 0)=0:=rfl
    refine ⟨rfl,rfl,?_⟩
    unfold E3;rw [if_pos (by rw [e,this];rfl)]
   ·right;left
    refine ⟨rfl,by omega,?_⟩
    have hc:=tU P (i - 1)
    have hs:=O4 P (i - 1)
    rw [show i - 1+1=i from by omega] at hs
    have h3:=I7 P (i - 1)
    have hk2:=cC hL (i:=i - 1) (r:=(N9 P (i - 1)).toNat - 1) (by omega) (by omega)
    unfold E3
    rw [if_neg (by omega),← hk2]
    congr 1
    omega
  ·right;right
   have hP3:P i 0=3:=by
    by_cases h:P i 0=3
    ·exact h
    ·unfold N9 at h2;rw [if_neg h] at h2;omega
   have hk2:=cC hL (i:=i) (r:=r - 1) h1 (by omega)
   rw [if_pos hP3] at hk2
   refine ⟨by omega,?_,hP3⟩
   unfold E3
   rw [if_neg (by omega),← hk2]
   congr 1
   omega
 obtain ⟨⟨k1,k2,k3,k4,k5⟩,k6,k7⟩:=hg
 have hpP:E3 P i=if i=0 then 4 else P (i - 1) 0:=rfl
 subst e
 by_cases h3:P i 0=3
 ·obtain ⟨l0,l3,l4,l5,l6⟩:=Jt hL h1 h3 h2
  unfold o6 o9
  rw [l0,l3,l4,l5,l6]
  refine ⟨⟨by omega,by omega,by omega,by omega,by omega⟩,by omega,fun _=>?_⟩
  rcases hp with ⟨_,h,_⟩|⟨_,h,hp⟩|⟨_,hp,_⟩
  ·have:=k7 (by omega);rw [hpP,if_pos h] at this;omega
  ·have:=k7 (by omega);rw [hpP,if_neg (by omega)] at this
   rw [hp];split <;> omega
  ·omega
 ·have hrow:=fun c hc=>Th hL h1 h3 h2 (c:=c) hc
  have hr0:r=0:=by unfold N9 at h2;rw [if_neg h3] at h2;omega
  unfold o6 o9
  rw [hrow 0 (by omega),hrow 1 (by omega),hrow 2 (by omega),hrow 3 (by omega),hrow 4 (by omega),hrow 5 (by omega),hrow 6 (by omega)]
  refine ⟨⟨k1,k2,k3,k4,k5⟩,fun h=>?_,fun h=>?_⟩
  ·have:=k6 h
   rcases hp with ⟨_,hi,hp⟩|⟨_,hi,hp⟩|⟨h',_,_⟩
   ·omega
   ·rw [hpP,if_neg (by omega)] at this;rw [hp];split <;> omega
   ·omega
  ·have:=k7 h
   rcases hp with ⟨_,hi,hp⟩|⟨_,hi,hp⟩|⟨h',_,_⟩
   ·rw [hpP,if_pos hi] at this;omega
   ·rw [hpP,if_neg (by omega)] at this;rw [hp];split <;> omega
   ·omega
end
end Go.Proofs.Ytoahnefofelglaa.gm
end
