/- A part of the proof of GlyphCovers; no condition. -/
import Derived.Test.YtoahnefofelglaaGlyphCovers07
set_option linter.unusedVariables false
set_option linter.unusedSimpArgs false
set_option linter.unusedSectionVars false
noncomputable section
section
namespace Go.Proofs.Ytoahnefofelglaa.gm
open Go Go.AM
abbrev VK (d n:Int) (zz:Bool):Bool:=(a6 (a6 (a6 (Bool.not (c9 d (0))) (f8 (Int.tdiv n d))) (a6 (Bool.not (c9 d (0))) true)) zz)
abbrev OO (n d:Int) (zz:Bool):Bool:=(a6 (Bool.not (Bool.not (c9 n n))) (a6 (Bool.not (Bool.not (c9 d d))) zz))
def Rf (n:Int) (d:Int):St:=⟨o4 (d9 En 20 [(.int .i64 n),(.int .i64 d)] false),[],[],.h,0⟩
theorem RR (n:Int) (d:Int):d9 En 20 [(.int .i64 n),(.int .i64 d)] false=some (Rf n d).f:=by kernel_rfl
theorem Rg {n d:Int} (h:2≤d):(¬ Int.tmod n d < 0→Int.tdiv n d=n / d)∧(Int.tmod n d < 0→Int.tdiv n d - 1=n / d):=by
 rw [Int.tdiv_eq_ediv,Int.tmod_eq_emod]
 have e1:=Int.emod_nonneg n (b:=d) (by omega)
 have e2:=Int.emod_lt_of_pos n (b:=d) (by omega)
 have e3:d.sign=1:=Int.sign_eq_one_of_pos (by omega)
 by_cases c:0≤n∨d ∣ n
 ·rw [if_pos c,if_pos c];constructor <;> intro k <;> omega
 ·rw [if_neg c,if_neg c,e3];constructor <;> intro k <;> omega
theorem JD {n d:Int} (h:2≤d) (hn : -9223372036854775808≤n∧n≤9223372036854775807) : -4611686018427387904≤Int.tdiv n d∧Int.tdiv n d≤4611686018427387904:=by
 have e:=Int.natAbs_tdiv n d
 have e2:n.natAbs.div d.natAbs≤n.natAbs / 2:=Nat.div_le_div_left (by omega) (by omega)
 rw [← e] at e2
 omega
theorem JE {n d:Int} (hh1:2≤d) (hh2 : -9223372036854775808≤n∧n≤9223372036854775807):a7 En 0 (Rf n d) (fun v _=>v=.int .i64 (c8 n d)):=by
 have hr:=JD hh1 hh2
 have hf:=Rg (n:=n) hh1
 have h1:¬ Int.tmod n d < 0→AV.int .i64 (Int.tdiv n d)=AV.int .i64 (c8 n d):=fun k=>congrArg _ (hf.1 k)
 have h2:Int.tmod n d < 0→AV.int .i64 (Int.sub (Int.tdiv n d) 1)=AV.int .i64 (c8 n d):=fun k=>congrArg _ (hf.2 k)
 cases b1:(i4 (Int.tmod n d) (0))
 ·have b1p:=tM (m5 _ _) b1
  refine A5 N5 0 [(19,12,false)] 9 ((VK d n (a6 (Bool.not (i4 (Int.tmod n d) (0))) true))) [] (.int .i64 (Int.tdiv n d)) [] .h (by (try simp only [b1,gS,VK]);(try simp only [gT] at *);try omega) ?_
  exact h1 b1p
 ·have b1p:=tL (m5 _ _) b1
  refine A5 N5 0 [(19,12,true)] 13 ((VK d n (a6 (i4 (Int.tmod n d) (0)) (a6 (f8 (Int.sub (Int.tdiv n d) (1))) true)))) [] (.int .i64 (Int.sub (Int.tdiv n d) (1))) [] .h (by (try simp only [b1,gS,VK]);(try simp only [gT] at *);try omega) ?_
  exact h2 b1p
def Rh (n:Int) (d:Int):St:=⟨o4 (d9 En 67 [(.int .i64 n),(.int .i64 d)] false),[],[],.h,0⟩
theorem RT (n:Int) (d:Int):d9 En 67 [(.int .i64 n),(.int .i64 d)] false=some (Rh n d).f:=by kernel_rfl
theorem JF {n d:Int}:a7 En 0 (Rh n d) (fun v _=>v=.int .i64 (d7 (i4 n d) (-1) (d7 (i4 d n) 1 0))):=by
 cases b1:(i4 n d)
 ·have b1p:=tM (m5 _ _) b1
  cases b2:(i4 d n)
  ·have b2p:=tM (m5 _ _) b2
   refine A5 N5 0 [(47,11,false),(7,13,false),(9,16,false),(9,19,false)] 8 ((OO n d (a6 (Bool.not (i4 n d)) (a6 (Bool.not (i4 d n)) true)))) [] (.int .i64 (0)) [] .h (by (try simp only [b1,b2,gS,OO]);(try simp only [gT] at *);try omega) ?_
   rfl
  ·have b2p:=tL (m5 _ _) b2
   refine A5 N5 0 [(47,11,false),(7,13,false),(9,16,false),(9,19,true)] 7 ((OO n d (a6 (Bool.not (i4 n d)) (a6 (i4 d n) true)))) [] (.int .i64 (1)) [] .h (by (try simp only [b1,b2,gS,OO]);(try simp only [gT] at *);try omega) ?_
   rfl
 ·have b1p:=tL (m5 _ _) b1
  refine A5 N5 0 [(47,11,false),(7,13,false),(9,16,true)] 7 ((OO n d (a6 (i4 n d) true))) [] (.int .i64 (-1)) [] .h (by (try simp only [b1,gS,OO]);(try simp only [gT] at *);try omega) ?_
  rfl
theorem V9:q9 tb En:=fun f args v H S' h γ w s hH ho=>by
 unfold tb at h
 cases hf:Nat.beq f 20 with
 | true =>
   rw [hf] at h
   have ef:=Nat.eq_of_beq_eq_true hf
   subst ef
   simp only at h
   split at h
   ·rename_i n d
    injection h with h
    injection h with h1 h2
    injection h2 with h2 h3
    subst h3
    obtain ⟨g1,g2⟩:=a9.1 h1
    obtain ⟨g3,g4⟩:=a9.1 g2
    subst h2
    have g5 : -9223372036854775808≤n:=(n4 _ _).1 g3
    have g6:n≤9223372036854775807:=(n4 _ _).1 g4
    have hm:i6 En 0 (Rf n d).f [] (Rf n d).S _:=JE ((n4 _ _).1 g1) ⟨g5,g6⟩
    rw [show (0:Nat)=En.ng from Iy.symm,show (Rf n d).S=H0 En from by kernel_rfl] at hm
    exact dQ cY (RR n d) (cW.of_endsN (y7 (RR n d) (by intro x hx;cases hx with|head=>rfl|tail _ hx=>cases hx with|head=>rfl|tail _ hx=>cases hx)) rfl hm) H γ w s hH ho
   ·cases h
 | false =>
   rw [hf] at h
   dsimp only at h
   cases hf2:Nat.beq f 67 with
   | true =>
     rw [hf2] at h
     have ef:=Nat.eq_of_beq_eq_true hf2
     subst ef
     simp only at h
     split at h
     ·rename_i n d
      injection h with h
      injection h with h1 h2
      injection h2 with h2 h3
      subst h3
      subst h2
      have hm:i6 En 0 (Rh n d).f [] (Rh n d).S _:=JF (n:=n) (d:=d)
      rw [show (0:Nat)=En.ng from Iy.symm,show (Rh n d).S=H0 En from by kernel_rfl] at hm
      exact dQ cY (RT n d) (cW.of_endsN (y7 (RT n d) (by intro x hx;cases hx with|head=>rfl|tail _ hx=>cases hx with|head=>rfl|tail _ hx=>cases hx)) rfl hm) H γ w s hH ho
     ·cases h
   | false =>
     rw [hf2] at h
     dsimp only at h
     cases hf3:Nat.beq f 66 with
     | true =>
       rw [hf3] at h
       have ef:=Nat.eq_of_beq_eq_true hf3
       subst ef
       exact Xl cY I4 (Ex En) h γ w s hH ho
     | false=>rw [hf3] at h;cases h
section
variable {x:St} {Q:AV→Hp→Prop}
theorem ar (k:Nat) (l:List (Nat × Nat × Bool)) (K:Nat) (G:Bool) (y:St) (t:List Ps) (ls:List Nat) (lss:List (List Nat))
 (hG:G=true) (hy:a7 En k y Q)
 (h:(wL En k k x y (x.run tb En l K) t,x.gd tb En l K,jG ls (Qy x.f (x.run tb En l K)),R4 lss (nP (x.run tb En l K)),y.os.map fun p=>AM.T.get (r7 En.ng y.nx.idx (D7 (x.run tb En l K)).nx.idx t p.1) (D7 (x.run tb En l K)).hp) =
  (true,G,G4 (r7 En.ng y.nx.idx (D7 (x.run tb En l K)).nx.idx t) y.f,y.cs.map (G4 (r7 En.ng y.nx.idx (D7 (x.run tb En l K)).nx.idx t)),y.os.map fun p=>some (w8 (r7 En.ng y.nx.idx (D7 (x.run tb En l K)).nx.idx t) p.2)):=by kernel_rfl):a7 En k x Q:=Z1 V9 k l K G y t ls lss hG hy h
theorem t8 (n:Nat) (k:Nat) (l:List (Nat × Nat × Bool)) (K:Nat) (G:Bool) (y:St) (t:List Ps) (ls:List Nat) (lss:List (List Nat))
 (hr:G5 (fun p=>OE (AM.T.get (r7 En.ng y.nx.idx (D7 (x.run tb En l K)).nx.idx t p.1) (D7 (x.run tb En l K)).hp) (w8 (r7 En.ng y.nx.idx (D7 (x.run tb En l K)).nx.idx t) p.2)) (y.os.drop n))
 (hG:G=true) (hy:a7 En k y Q)
 (h:(wL En k k x y (x.run tb En l K) t,x.gd tb En l K,jG ls (Qy x.f (x.run tb En l K)),R4 lss (nP (x.run tb En l K)),(y.os.take n).map fun p=>AM.T.get (r7 En.ng y.nx.idx (D7 (x.run tb En l K)).nx.idx t p.1) (D7 (x.run tb En l K)).hp) =
  (true,G,G4 (r7 En.ng y.nx.idx (D7 (x.run tb En l K)).nx.idx t) y.f,y.cs.map (G4 (r7 En.ng y.nx.idx (D7 (x.run tb En l K)).nx.idx t)),(y.os.take n).map fun p=>some (w8 (r7 En.ng y.nx.idx (D7 (x.run tb En l K)).nx.idx t) p.2)):=by kernel_rfl):a7 En k x Q:=I9 V9 n k l K G y t ls lss hr hG hy h
theorem ac (k:Nat) (l:List (Nat × Nat × Bool)) (K:Nat) (G:Bool) (y:St) (t:List Ps) (lss:List (List Nat))
 (hG:G=true) (hy:a7 En k y Q)
 (h:(wL En k k x y (x.run tb En l K) t,x.gd tb En l K,Qy x.f (x.run tb En l K),R4 lss (nP (x.run tb En l K)),y.os.map fun p=>AM.T.get (r7 En.ng y.nx.idx (D7 (x.run tb En l K)).nx.idx t p.1) (D7 (x.run tb En l K)).hp) =
  (true,G,G4 (r7 En.ng y.nx.idx (D7 (x.run tb En l K)).nx.idx t) y.f,y.cs.map (G4 (r7 En.ng y.nx.idx (D7 (x.run tb En l K)).nx.idx t)),y.os.map fun p=>some (w8 (r7 En.ng y.nx.idx (D7 (x.run tb En l K)).nx.idx t) p.2)):=by kernel_rfl):a7 En k x Q:=J0 V9 k l K G y t lss hG hy h
theorem fi (k:Nat) (l:List (Nat × Nat × Bool)) (K:Nat) (G:Bool) (t:List Ps) (v:AV) (os:List (Ps × AO)) (nx:Ps)
 (hG:G=true) (hq:Q v ⟨nO os,nx,x.fl⟩)
 (h:(IU En k k x (x.run tb En l K) nx t,x.gd tb En l K,Qz (x.run tb En l K),os.map fun p=>AM.T.get (r7 En.ng nx.idx (D7 (x.run tb En l K)).nx.idx t p.1) (D7 (x.run tb En l K)).hp) =
  (true,G,F1 (r7 En.ng nx.idx (D7 (x.run tb En l K)).nx.idx t) v,os.map fun p=>some (w8 (r7 En.ng nx.idx (D7 (x.run tb En l K)).nx.idx t) p.2)):=by kernel_rfl):a7 En k x Q:=A5 V9 k l K G t v os nx hG hq h
end
def Ri (x:Int):St:=⟨o4 (d9 En 76 [(.int .u64 x)] false),[],[],.h,0⟩
def QB:AV→Hp→Prop:=fun v H=>∃ e:Int,v=.int .i64 e∧H.nx=.h
theorem Rj {x:Int} (hx:0≤x∧x≤12):a7 En 0 (Ri x) QB:=by
 have h:x=0∨x=1∨x=2∨x=3∨x=4∨x=5∨x=6∨x=7∨x=8∨x=9∨x=10∨x=11∨x=12:=by omega
 rcases h with rfl|rfl|rfl|rfl|rfl|rfl|rfl|rfl|rfl|rfl|rfl|rfl|rfl
 ·exact a7.fin cY I4 V9 (k:=0) (l:=[]) (K:=200) (G:= true) (t:=[]) (v:=.int .i64 0) (os:=[]) (nx:=.h) (wM 0) (by kernel_rfl) (by kernel_rfl) rfl (by kernel_rfl) trivial ⟨0,rfl,rfl⟩
 ·exact a7.fin cY I4 V9 (k:=0) (l:=[]) (K:=200) (G:= true) (t:=[]) (v:=.int .i64 1) (os:=[]) (nx:=.h) (wM 0) (by kernel_rfl) (by kernel_rfl) rfl (by kernel_rfl) trivial ⟨1,rfl,rfl⟩
 ·exact a7.fin cY I4 V9 (k:=0) (l:=[]) (K:=200) (G:= true) (t:=[]) (v:=.int .i64 2) (os:=[]) (nx:=.h) (wM 0) (by kernel_rfl) (by kernel_rfl) rfl (by kernel_rfl) trivial ⟨2,rfl,rfl⟩
 ·exact a7.fin cY I4 V9 (k:=0) (l:=[]) (K:=200) (G:= true) (t:=[]) (v:=.int .i64 2) (os:=[]) (nx:=.h) (wM 0) (by kernel_rfl) (by kernel_rfl) rfl (by kernel_rfl) trivial ⟨2,rfl,rfl⟩
 ·exact a7.fin cY I4 V9 (k:=0) (l:=[]) (K:=200) (G:= true) (t:=[]) (v:=.int .i64 3) (os:=[]) (nx:=.h) (wM 0) (by kernel_rfl) (by kernel_rfl) rfl (by kernel_rfl) trivial ⟨3,rfl,rfl⟩
 ·exact a7.fin cY I4 V9 (k:=0) (l:=[]) (K:=200) (G:= true) (t:=[]) (v:=.int .i64 3) (os:=[]) (nx:=.h) (wM 0) (by kernel_rfl) (by kernel_rfl) rfl (by kernel_rfl) trivial ⟨3,rfl,rfl⟩
 ·exact a7.fin cY I4 V9 (k:=0) (l:=[]) (K:=200) (G:= true) (t:=[]) (v:=.int .i64 3) (os:=[]) (nx:=.h) (wM 0) (by kernel_rfl) (by kernel_rfl) rfl (by kernel_rfl) trivial ⟨3,rfl,rfl⟩
 ·exact a7.fin cY I4 V9 (k:=0) (l:=[]) (K:=200) (G:= true) (t:=[]) (v:=.int .i64 3) (os:=[]) (nx:=.h) (wM 0) (by kernel_rfl) (by kernel_rfl) rfl (by kernel_rfl) trivial ⟨3,rfl,rfl⟩
 ·exact a7.fin cY I4 V9 (k:=0) (l:=[]) (K:=200) (G:= true) (t:=[]) (v:=.int .i64 4) (os:=[]) (nx:=.h) (wM 0) (by kernel_rfl) (by kernel_rfl) rfl (by kernel_rfl) trivial ⟨4,rfl,rfl⟩
 ·exact a7.fin cY I4 V9 (k:=0) (l:=[]) (K:=200) (G:= true) (t:=[]) (v:=.int .i64 4) (os:=[]) (nx:=.h) (wM 0) (by kernel_rfl) (by kernel_rfl) rfl (by kernel_rfl) trivial ⟨4,rfl,rfl⟩
 ·exact a7.fin cY I4 V9 (k:=0) (l:=[]) (K:=200) (G:= true) (t:=[]) (v:=.int .i64 4) (os:=[]) (nx:=.h) (wM 0) (by kernel_rfl) (by kernel_rfl) rfl (by kernel_rfl) trivial ⟨4,rfl,rfl⟩
 ·exact a7.fin cY I4 V9 (k:=0) (l:=[]) (K:=200) (G:= true) (t:=[]) (v:=.int .i64 4) (os:=[]) (nx:=.h) (wM 0) (by kernel_rfl) (by kernel_rfl) rfl (by kernel_rfl) trivial ⟨4,rfl,rfl⟩
 exact a7.fin cY I4 V9 (k:=0) (l:=[]) (K:=200) (G:= true) (t:=[]) (v:=.int .i64 4) (os:=[]) (nx:=.h) (wM 0) (by kernel_rfl) (by kernel_rfl) rfl (by kernel_rfl) trivial ⟨4,rfl,rfl⟩
theorem wN {k:Nat} (h:k≤12):0≤wr .u64 (Int.ofNat k)∧wr .u64 (Int.ofNat k)≤12:=by
 have h:k=0∨k=1∨k=2∨k=3∨k=4∨k=5∨k=6∨k=7∨k=8∨k=9∨k=10∨k=11∨k=12:=by omega
 rcases h with rfl|rfl|rfl|rfl|rfl|rfl|rfl|rfl|rfl|rfl|rfl|rfl|rfl <;> exact ⟨(n4 _ _).1 (by kernel_rfl),(n4 _ _).1 (by kernel_rfl)⟩
section
variable (n:Nat) (Y:Nat→Nat→Int) (ex sty:Bool) (i:Nat) (l:Int)
def dS:St:=⟨o4 (d9 En 15 [(.sa .h 0 n 7)] false),[],[(.h,(o7 n Y ex sty))],J1,1⟩
def Bl:St:=⟨(fr 15 40 (ts [3,10,11,12] [zi l,.sa .h 0 n 7,zn n,zn i]) [cA En 15 (pb 244),lA En 15 (pb 244),.blk 0,cA En 15 (pb 31)]),[],[(.h,(o7 n Y ex sty))],J1,1⟩
end
abbrev W0 (i n:Nat):Bool:=(Nat.ble (Nat.succ i) n)
abbrev yC (Y:Nat→Nat→Int) (i:Nat):Bool:=(Bool.not (c9 (Y i 0) (1)))
abbrev oK (Y:Nat→Nat→Int) (i:Nat):Bool:=(f9 (-16384) (d7 (i4 (Y i 2) (Y i 1)) (Y i 2) (Y i 1)))
abbrev Us (Y:Nat→Nat→Int) (i:Nat):Bool:=(f9 (-16384) (d7 (i4 (Y i 4) (Y i 3)) (Y i 4) (Y i 3)))
abbrev Kq (Y:Nat→Nat→Int) (i:Nat):Bool:=(Bool.and (c9 (Y i 1) (0)) (Bool.and (c9 (Y i 2) (0)) true))
abbrev nR (Y:Nat→Nat→Int) (i:Nat):Bool:=(Bool.and (c9 (Y i 3) (0)) (Bool.and (c9 (Y i 4) (0)) true))
abbrev OP (Y:Nat→Nat→Int) (i:Nat):Bool:=(Bool.not (f9 (-16384) (d7 (i4 (Y i 6) (Y i 5)) (Y i 6) (Y i 5))))
abbrev jT (Y:Nat→Nat→Int) (i:Nat):Bool:=(a6 (f8 (Int.sub (0) (Y i 1))) (a6 (f8 (Int.sub (0) (Y i 2))) true))
abbrev JG (Y:Nat→Nat→Int) (i:Nat):Bool:=(a6 (f8 (Int.sub (0) (Y i 3))) (a6 (f8 (Int.sub (0) (Y i 4))) true))
abbrev DQ (Y:Nat→Nat→Int) (i:Nat):Bool:=(a6 (f8 (Int.sub (0) (Y i 5))) (a6 (f8 (Int.sub (0) (Y i 6))) true))
abbrev wO (Y:Nat→Nat→Int) (i:Nat):Bool:=(Bool.not (Bool.not (Bool.and (c9 (Y i 5) (0)) (Bool.and (c9 (Y i 6) (0)) true))))
abbrev Iz (i:Nat):Bool:=(a6 (a6 (f9 (-9223372036854775808) (.ofNat (Nat.add i 1))) (Nat.ble (Nat.add i 1) 9223372036854775807)) true)
abbrev C3 (Y:Nat→Nat→Int) (i:Nat):Int:=(d7 (c9 (Y i 0) (1)) (1) (d7 (c9 (Y i 0) (2)) (1) (d7 (c9 (Y i 0) (3)) (3) (d7 (c9 (Y i 0) (4)) (0) (0)))))
abbrev B1 (Y:Nat→Nat→Int) (i:Nat):Bool:=(aL (c9 (Y i 0) (1)) true (aL (c9 (Y i 0) (2)) true (aL (c9 (Y i 0) (3)) true (aL (c9 (Y i 0) (4)) true false))))
abbrev C4 (Y:Nat→Nat→Int) (i:Nat):Bool:=(f9 (C3 Y i) (1))
abbrev C5 (Y:Nat→Nat→Int) (i:Nat):Bool:=(f9 (C3 Y i) (2))
abbrev O0 (Y:Nat→Nat→Int) (i:Nat):Bool:=(Bool.not (f9 (C3 Y i) (0)))
abbrev y2 (Y:Nat→Nat→Int) (i:Nat):Bool:=(Bool.not (Bool.not (B1 Y i)))
abbrev R8 (Y:Nat→Nat→Int) (i:Nat):Int:=(d7 (i4 (d7 (i4 (Y i 1) (Int.sub (0) (Y i 1))) (Int.sub (0) (Y i 1)) (Y i 1)) (Y i 2)) (Y i 2) (d7 (i4 (Y i 1) (Int.sub (0) (Y i 1))) (Int.sub (0) (Y i 1)) (Y i 1)))
abbrev wP (Y:Nat→Nat→Int) (i:Nat):Int:=(d7 (i4 (d7 (i4 (Y i 3) (Int.sub (0) (Y i 3))) (Int.sub (0) (Y i 3)) (Y i 3)) (Y i 4)) (Y i 4) (d7 (i4 (Y i 3) (Int.sub (0) (Y i 3))) (Int.sub (0) (Y i 3)) (Y i 3)))
abbrev Ja (Y:Nat→Nat→Int) (i:Nat):Int:=(d7 (i4 (d7 (i4 (Y i 5) (Int.sub (0) (Y i 5))) (Int.sub (0) (Y i 5)) (Y i 5)) (Y i 6)) (Y i 6) (d7 (i4 (Y i 5) (Int.sub (0) (Y i 5))) (Int.sub (0) (Y i 5)) (Y i 5)))
abbrev Jb (Y:Nat→Nat→Int) (i:Nat) (l:Int):Bool:=(a6 (yC Y i) (a6 (yC Y i) (a6 (Bool.not (c9 l (4))) (Iz i))))
abbrev wQ (Y:Nat→Nat→Int) (i:Nat):Bool:=(a6 (C5 Y i) (a6 (nR Y i) (a6 (Bool.not (Bool.and (c9 (Y i 5) (0)) (Bool.and (c9 (Y i 6) (0)) true))) true)))
abbrev F2 (Y:Nat→Nat→Int) (i:Nat):Bool:=(f9 (d7 (i4 (R8 Y i) (Int.sub (0) (Y i 2))) (Int.sub (0) (Y i 2)) (R8 Y i)) (16384))
abbrev wR (Y:Nat→Nat→Int) (i:Nat):Bool:=(f9 (d7 (i4 (wP Y i) (Int.sub (0) (Y i 4))) (Int.sub (0) (Y i 4)) (wP Y i)) (16384))
abbrev wS (Y:Nat→Nat→Int) (i:Nat):Bool:=(f9 (d7 (i4 (Ja Y i) (Int.sub (0) (Y i 6))) (Int.sub (0) (Y i 6)) (Ja Y i)) (16384))
abbrev D8 (i n:Nat) (Y:Nat→Nat→Int):Bool:=(a6 (a6 (W0 i n) true) (a6 (a6 (a6 (W0 i n) true) true) (a6 (a6 (a6 (a6 (c9 (C3 Y i) (C3 Y i)) (a6 (P6 (B1 Y i) (B1 Y i)) true)) true) (a6 (a6 (c9 (Y i 0) (Y i 0)) (a6 (c9 (Y i 0) (Y i 0)) true)) true)) true)))
abbrev Xq (i n:Nat) (Y:Nat→Nat→Int):Bool:=(a6 (W0 i n) (a6 (D8 i n Y) (a6 (y2 Y i) (a6 (f9 (C3 Y i) (0)) (a6 (B1 Y i) (a6 (C4 Y i) (a6 (Bool.not (Kq Y i)) (a6 (C5 Y i) true))))))))
abbrev Xr (i n:Nat) (Y:Nat→Nat→Int):Bool:=(a6 (W0 i n) (a6 (D8 i n Y) (a6 (y2 Y i) (a6 (f9 (C3 Y i) (0)) (a6 (B1 Y i) (a6 (C4 Y i) (a6 (Kq Y i) (a6 (C5 Y i) (a6 (Bool.not (nR Y i)) true)))))))))
abbrev Xs (i n:Nat) (Y:Nat→Nat→Int):Bool:=(a6 (W0 i n) (a6 (D8 i n Y) (a6 (y2 Y i) (a6 (f9 (C3 Y i) (0)) (a6 (B1 Y i) (a6 (C4 Y i) (a6 (Kq Y i) (wQ Y i))))))))
abbrev Xt (i n:Nat) (Y:Nat→Nat→Int):Bool:=(a6 (W0 i n) (a6 (D8 i n Y) (a6 (y2 Y i) (a6 (O0 Y i) (a6 (B1 Y i) (a6 (jT Y i) (a6 (Bool.not (F2 Y i)) (a6 (C4 Y i) (a6 (C5 Y i) true)))))))))
abbrev wT (i n:Nat) (Y:Nat→Nat→Int):Bool:=(a6 (W0 i n) (a6 (D8 i n Y) (a6 (y2 Y i) (a6 (O0 Y i) (a6 (B1 Y i) (a6 (jT Y i) (a6 (F2 Y i) (a6 (C4 Y i) (a6 (oK Y i) (a6 (C5 Y i) (a6 (Bool.not (nR Y i)) true)))))))))))
abbrev wU (i n:Nat) (Y:Nat→Nat→Int):Bool:=(a6 (W0 i n) (a6 (D8 i n Y) (a6 (y2 Y i) (a6 (O0 Y i) (a6 (B1 Y i) (a6 (jT Y i) (a6 (F2 Y i) (a6 (C4 Y i) (a6 (oK Y i) (wQ Y i))))))))))
abbrev K3 (i n:Nat) (Y:Nat→Nat→Int) (zz:Bool):Bool:=(a6 (W0 i n) (a6 (D8 i n Y) zz))
abbrev Xu (Y:Nat→Nat→Int) (i:Nat) (zz:Bool):Bool:=(a6 (f9 (C3 Y i) (0)) (a6 (B1 Y i) (a6 (C4 Y i) (a6 (Kq Y i) (a6 (C5 Y i) (a6 (nR Y i) (a6 (wO Y i) zz)))))))
abbrev S8 (Y:Nat→Nat→Int) (i:Nat) (zz:Bool):Bool:=(a6 (O0 Y i) (a6 (B1 Y i) (a6 (jT Y i) zz)))
abbrev jU (Y:Nat→Nat→Int) (i:Nat) (zz:Bool):Bool:=(a6 (Bool.not (C4 Y i)) (a6 (oK Y i) (a6 (JG Y i) zz)))
abbrev oP (Y:Nat→Nat→Int) (i:Nat) (zz:Bool):Bool:=(a6 (wR Y i) (a6 (Bool.not (C5 Y i)) zz))
abbrev wV (Y:Nat→Nat→Int) (i:Nat) (zz:Bool):Bool:=(a6 (C4 Y i) (a6 (oK Y i) (a6 (C5 Y i) (a6 (nR Y i) (a6 (wO Y i) zz)))))
def o9 (y:Nat→Int):Prop:=
 (y 0=1∨y 0=2∨y 0=3∨y 0=4)∧(y 0=4→y 1=0∧y 2=0)∧(y 0≠4→-16384≤y 1∧y 1≤16384∧-16384≤y 2∧y 2≤16384) ∧
  (y 0≠3→y 3=0∧y 4=0∧y 5=0∧y 6=0)∧(y 0=3→-16384≤y 3∧y 3≤16384∧-16384≤y 4∧y 4≤16384∧-16384≤y 5∧y 5≤16384∧-16384≤y 6∧y 6≤16384)
def E3 (Y:Nat→Nat→Int) (i:Nat):Int:=if i=0 then 4 else Y (i - 1) 0
theorem Y0 (Y:Nat→Nat→Int) (i:Nat):E3 Y (i+1)=Y i 0:=by unfold E3;rw [if_neg (by omega)];rfl
def o6 (Y:Nat→Nat→Int) (i:Nat):Prop:=o9 (Y i)∧(Y i 0=1→E3 Y i≠1)∧(Y i 0≠1→E3 Y i≠4)
def u2 (n:Nat) (Y:Nat→Nat→Int):Prop:=n≤300∧∀ i,i < n→o6 Y i
def QC (n:Nat) (Y:Nat→Nat→Int):AV→Hp→Prop:=fun v H=>∃ e:Int,v=.int .i64 e∧H.nx=J1∧(e=0↔u2 n Y)
set_option maxHeartbeats 4000000 in
theorem JH {n:Nat} {Y:Nat→Nat→Int} {ex sty:Bool} (hY:∀ j k,-1000000000≤Y j k∧Y j k≤1000000000) (hn:n≤1000) (h300:n≤300) (d:Nat):∀ (i:Nat) (l:Int),n - i=d→i≤n→l=E3 Y i→(∀ j,j < i→o6 Y j) →
 a7 En 1 (Bl n Y ex sty i l) (QC n Y):=by
 induction d using Nat.strongRecOn with
 | ind d IH =>
   intro i l hd hi hl hgood
   have ih:∀ (i':Nat) (l':Int),i < i'→i'≤n→l'=E3 Y i'→(∀ j,j < i'→o6 Y j)→a7 En 1 (Bl n Y ex sty i' l') (QC n Y):=
    fun i' l' h1 h2 h3 h4=>IH (n - i') (by omega) i' l' rfl h2 h3 h4
   clear IH
   rcases T6 (Nat.succ i) n with ⟨b1,b1p⟩|⟨b1,b1p⟩
   ·refine fi 1 [(5,13,false)] 8 ((a6 (Bool.not (W0 i n)) true)) [.h] (zi (0)) [] J1 (by (try simp only [b1,gS,W0]);(try simp only [gT] at *);try omega) ?_
    exact ⟨0,rfl,rfl,fun _=>⟨h300,fun j hj=>hgood j (by omega)⟩,fun _=>rfl⟩
   rcases ci (Y i 0) (1) with ⟨b2,b2p⟩|⟨b2,b2p⟩
   ·rcases ci (Y i 0) (2) with ⟨b3,b3p⟩|⟨b3,b3p⟩
    ·rcases ci (Y i 0) (3) with ⟨b4,b4p⟩|⟨b4,b4p⟩
     ·rcases ci (Y i 0) (4) with ⟨b5,b5p⟩|⟨b5,b5p⟩
      ·refine fi 1 [(5,13,true),(36,15,true)] 31 ((K3 i n Y (a6 (Bool.not (B1 Y i)) true))) [.h] (zi (310)) [] J1 (by have:=hY i 0;(try simp only [b1,b2,b3,b4,b5,gS,W0,C3,B1,D8,K3]);(try simp only [gT] at *);try omega) ?_
       exact ⟨310,rfl,rfl,fun h=>absurd h (by decide),fun h=>by have g:=h.2 i (by omega);unfold o6 o9 at g;rw [← hl] at g;(try simp only [j8,j7,n9] at *);omega⟩
      rcases ci (Y i 1) (0) with ⟨b6,b6p⟩|⟨b6,b6p⟩
      ·refine fi 1 [(5,13,true),(36,15,false),(36,45,true),(4,50,true),(38,45,true),(4,50,false),(38,45,true)] 55 ((Xq i n Y)) [.h] (zi (310)) [] J1 (by have:=n7 (hY i);(try simp only [b1,b2,b3,b4,b5,b6,gS,W0,Kq,C3,B1,C4,C5,y2,D8,Xq]);(try simp only [gT] at *);try omega) ?_
       exact ⟨310,rfl,rfl,fun h=>absurd h (by decide),fun h=>by have g:=h.2 i (by omega);unfold o6 o9 at g;rw [← hl] at g;(try simp only [j8,j7,n9] at *);omega⟩
      rcases ci (Y i 2) (0) with ⟨b7,b7p⟩|⟨b7,b7p⟩
      ·refine fi 1 [(5,13,true),(36,15,false),(36,45,true),(4,50,true),(38,45,true),(4,50,false),(38,45,true)] 55 ((Xq i n Y)) [.h] (zi (310)) [] J1 (by have:=n7 (hY i);(try simp only [b1,b2,b3,b4,b5,b6,b7,gS,W0,Kq,C3,B1,C4,C5,y2,D8,Xq]);(try simp only [gT] at *);try omega) ?_
       exact ⟨310,rfl,rfl,fun h=>absurd h (by decide),fun h=>by have g:=h.2 i (by omega);unfold o6 o9 at g;rw [← hl] at g;(try simp only [j8,j7,n9] at *);omega⟩
      rcases ci (Y i 3) (0) with ⟨b8,b8p⟩|⟨b8,b8p⟩
      ·refine fi 1 [(5,13,true),(36,15,false),(36,45,true),(4,50,true),(38,45,true),(4,50,true),(38,45,true),(4,50,false)] 51 ((Xr i n Y)) [.h] (zi (310)) [] J1 (by have:=n7 (hY i);(try simp only [b1,b2,b3,b4,b5,b6,b7,b8,gS,W0,Kq,nR,C3,B1,C4,C5,y2,D8,Xr]);(try simp only [gT] at *);try omega) ?_
       exact ⟨310,rfl,rfl,fun h=>absurd h (by decide),fun h=>by have g:=h.2 i (by omega);unfold o6 o9 at g;rw [← hl] at g;(try simp only [j8,j7,n9] at *);omega⟩
      rcases ci (Y i 4) (0) with ⟨b9,b9p⟩|⟨b9,b9p⟩
      ·refine fi 1 [(5,13,true),(36,15,false),(36,45,true),(4,50,true),(38,45,true),(4,50,true),(38,45,true),(4,50,false)] 51 ((Xr i n Y)) [.h] (zi (310)) [] J1 (by have:=n7 (hY i);(try simp only [b1,b2,b3,b4,b5,b6,b7,b8,b9,gS,W0,Kq,nR,C3,B1,C4,C5,y2,D8,Xr]);(try simp only [gT] at *);try omega) ?_
       exact ⟨310,rfl,rfl,fun h=>absurd h (by decide),fun h=>by have g:=h.2 i (by omega);unfold o6 o9 at g;rw [← hl] at g;(try simp only [j8,j7,n9] at *);omega⟩
      rcases ci (Y i 5) (0) with ⟨b10,b10p⟩|⟨b10,b10p⟩
      ·refine fi 1 [(5,13,true),(36,15,false),(36,45,true),(4,50,true),(38,45,true),(4,50,true),(38,45,true),(4,50,true),(29,22,true)] 22 ((Xs i n Y)) [.h] (zi (310)) [] J1 (by have:=n7 (hY i);(try simp only [b1,b2,b3,b4,b5,b6,b7,b8,b9,b10,gS,W0,Kq,nR,C3,B1,C4,C5,y2,wQ,D8,Xs]);(try simp only [gT] at *);try omega) ?_
       exact ⟨310,rfl,rfl,fun h=>absurd h (by decide),fun h=>by have g:=h.2 i (by omega);unfold o6 o9 at g;rw [← hl] at g;(try simp only [j8,j7,n9] at *);omega⟩
      rcases ci (Y i 6) (0) with ⟨b11,b11p⟩|⟨b11,b11p⟩
      ·refine fi 1 [(5,13,true),(36,15,false),(36,45,true),(4,50,true),(38,45,true),(4,50,true),(38,45,true),(4,50,true),(29,22,true)] 22 ((Xs i n Y)) [.h] (zi (310)) [] J1 (by have:=n7 (hY i);(try simp only [b1,b2,b3,b4,b5,b6,b7,b8,b9,b10,b11,gS,W0,Kq,nR,C3,B1,C4,C5,y2,wQ,D8,Xs]);(try simp only [gT] at *);try omega) ?_
       exact ⟨310,rfl,rfl,fun h=>absurd h (by decide),fun h=>by have g:=h.2 i (by omega);unfold o6 o9 at g;rw [← hl] at g;(try simp only [j8,j7,n9] at *);omega⟩
      rcases ci l (4) with ⟨b12,b12p⟩|⟨b12,b12p⟩
      ·refine ar 1 [(5,13,true),(36,15,false),(36,45,true),(4,50,true),(38,45,true),(4,50,true),(38,45,true),(4,50,true),(29,22,false),(2,24,false),(8,32,true),(5,36,false)] 13 ((K3 i n Y (a6 (y2 Y i) (Xu Y i (Jb Y i l))))) (Bl n Y ex sty (Nat.add i 1) (Y i 0)) [.h] [3,10,11,12] [] (by have:=n7 (hY i);(try simp only [b1,b2,b3,b4,b5,b6,b7,b8,b9,b10,b11,b12,gS,W0,yC,Kq,nR,wO,Iz,C3,B1,C4,C5,y2,Jb,D8,K3,Xu]);(try simp only [gT] at *);try omega) ?_
       exact ih (i+1) (Y i 0) (by omega) (by omega) (Y0 Y i).symm (fun j hj=>by
        by_cases e:j=i
        ·subst e;unfold o6 o9;rw [← hl];(try simp only [j8,j7,n9] at *);omega
        exact hgood j (by omega))
      refine fi 1 [(5,13,true),(36,15,false),(36,45,true),(4,50,true),(38,45,true),(4,50,true),(38,45,true),(4,50,true),(29,22,false),(2,24,false),(8,32,true),(5,36,true)] 7 ((K3 i n Y (a6 (y2 Y i) (Xu Y i (a6 (yC Y i) (a6 (yC Y i) (a6 (c9 l (4)) true))))))) [.h] (zi (310)) [] J1 (by have:=n7 (hY i);(try simp only [b1,b2,b3,b4,b5,b6,b7,b8,b9,b10,b11,b12,gS,W0,yC,Kq,nR,wO,C3,B1,C4,C5,y2,D8,K3,Xu]);(try simp only [gT] at *);try omega) ?_
      exact ⟨310,rfl,rfl,fun h=>absurd h (by decide),fun h=>by have g:=h.2 i (by omega);unfold o6 o9 at g;rw [← hl] at g;(try simp only [j8,j7,n9] at *);omega⟩
     rcases cl (d7 (i4 (d7 (i4 (d7 (i4 (Y i 1) (Int.sub (0) (Y i 1))) (Int.sub (0) (Y i 1)) (Y i 1)) (Y i 2)) (Y i 2) (d7 (i4 (Y i 1) (Int.sub (0) (Y i 1))) (Int.sub (0) (Y i 1)) (Y i 1))) (Int.sub (0) (Y i 2))) (Int.sub (0) (Y i 2)) (d7 (i4 (d7 (i4 (Y i 1) (Int.sub (0) (Y i 1))) (Int.sub (0) (Y i 1)) (Y i 1)) (Y i 2)) (Y i 2) (d7 (i4 (Y i 1) (Int.sub (0) (Y i 1))) (Int.sub (0) (Y i 1)) (Y i 1)))) (16384) with ⟨b13,b13p⟩|⟨b13,b13p⟩
     ·refine fi 1 [(5,13,true),(36,15,false),(36,45,false),(4,23,true),(14,37,false),(41,45,false),(59,45,false)] 72 ((K3 i n Y (a6 (y2 Y i) (S8 Y i (a6 (Bool.not (F2 Y i)) (a6 (Bool.not (C4 Y i)) (a6 (Bool.not (C5 Y i)) true))))))) [.h] (zi (310)) [] J1 (by have:=n7 (hY i);(try simp only [b1,b2,b3,b4,b13,gS,W0,jT,C3,B1,C4,C5,O0,y2,R8,F2,D8,K3,S8]);(try simp only [gT] at *);try omega) ?_
      exact ⟨310,rfl,rfl,fun h=>absurd h (by decide),fun h=>by have g:=h.2 i (by omega);unfold o6 o9 at g;rw [← hl] at g;(try simp only [j8,j7,n9] at *);omega⟩
     rcases cl (d7 (i4 (d7 (i4 (d7 (i4 (Y i 3) (Int.sub (0) (Y i 3))) (Int.sub (0) (Y i 3)) (Y i 3)) (Y i 4)) (Y i 4) (d7 (i4 (Y i 3) (Int.sub (0) (Y i 3))) (Int.sub (0) (Y i 3)) (Y i 3))) (Int.sub (0) (Y i 4))) (Int.sub (0) (Y i 4)) (d7 (i4 (d7 (i4 (Y i 3) (Int.sub (0) (Y i 3))) (Int.sub (0) (Y i 3)) (Y i 3)) (Y i 4)) (Y i 4) (d7 (i4 (Y i 3) (Int.sub (0) (Y i 3))) (Int.sub (0) (Y i 3)) (Y i 3)))) (16384) with ⟨b14,b14p⟩|⟨b14,b14p⟩
     ·refine fi 1 [(5,13,true),(36,15,false),(36,45,false),(4,23,true),(14,37,true),(41,45,false),(4,23,true),(14,37,false),(41,45,false)] 72 ((K3 i n Y (a6 (y2 Y i) (S8 Y i (a6 (F2 Y i) (jU Y i (a6 (Bool.not (wR Y i)) (a6 (Bool.not (C5 Y i)) true)))))))) [.h] (zi (310)) [] J1 (by have:=n7 (hY i);(try simp only [b1,b2,b3,b4,b13,b14,gS,W0,oK,jT,JG,C3,B1,C4,C5,O0,y2,R8,wP,F2,wR,D8,K3,S8,jU]);(try simp only [gT] at *);try omega) ?_
      exact ⟨310,rfl,rfl,fun h=>absurd h (by decide),fun h=>by have g:=h.2 i (by omega);unfold o6 o9 at g;rw [← hl] at g;(try simp only [j8,j7,n9] at *);omega⟩
     rcases cl (-16384) (d7 (i4 (Y i 4) (Y i 3)) (Y i 4) (Y i 3)) with ⟨b15,b15p⟩|⟨b15,b15p⟩
     ·refine fi 1 [(5,13,true),(36,15,false),(36,45,false),(4,23,true),(14,37,true),(41,45,false),(4,23,true),(14,37,true),(41,45,false),(4,23,false)] 68 ((K3 i n Y (a6 (y2 Y i) (S8 Y i (a6 (F2 Y i) (jU Y i (oP Y i (a6 (Bool.not (Us Y i)) true)))))))) [.h] (zi (310)) [] J1 (by have:=n7 (hY i);(try simp only [b1,b2,b3,b4,b13,b14,b15,gS,W0,oK,Us,jT,JG,C3,B1,C4,C5,O0,y2,R8,wP,F2,wR,D8,K3,S8,jU,oP]);(try simp only [gT] at *);try omega) ?_
      exact ⟨310,rfl,rfl,fun h=>absurd h (by decide),fun h=>by have g:=h.2 i (by omega);unfold o6 o9 at g;rw [← hl] at g;(try simp only [j8,j7,n9] at *);omega⟩
     rcases cl (d7 (i4 (d7 (i4 (d7 (i4 (Y i 5) (Int.sub (0) (Y i 5))) (Int.sub (0) (Y i 5)) (Y i 5)) (Y i 6)) (Y i 6) (d7 (i4 (Y i 5) (Int.sub (0) (Y i 5))) (Int.sub (0) (Y i 5)) (Y i 5))) (Int.sub (0) (Y i 6))) (Int.sub (0) (Y i 6)) (d7 (i4 (d7 (i4 (Y i 5) (Int.sub (0) (Y i 5))) (Int.sub (0) (Y i 5)) (Y i 5)) (Y i 6)) (Y i 6) (d7 (i4 (Y i 5) (Int.sub (0) (Y i 5))) (Int.sub (0) (Y i 5)) (Y i 5)))) (16384) with ⟨b16,b16p⟩|⟨b16,b16p⟩
     ·refine fi 1 [(5,13,true),(36,15,false),(36,45,false),(4,23,true),(14,37,true),(41,45,false),(4,23,true),(14,37,true),(41,45,false),(4,23,true),(14,37,false)] 54 ((K3 i n Y (a6 (y2 Y i) (S8 Y i (a6 (F2 Y i) (jU Y i (oP Y i (a6 (Us Y i) (a6 (DQ Y i) (a6 (Bool.not (wS Y i)) true)))))))))) [.h] (zi (310)) [] J1 (by have:=n7 (hY i);(try simp only [b1,b2,b3,b4,b13,b14,b15,b16,gS,W0,oK,Us,jT,JG,DQ,C3,B1,C4,C5,O0,y2,R8,wP,Ja,F2,wR,wS,D8,K3,S8,jU,oP]);(try simp only [gT] at *);try omega) ?_
      exact ⟨310,rfl,rfl,fun h=>absurd h (by decide),fun h=>by have g:=h.2 i (by omega);unfold o6 o9 at g;rw [← hl] at g;(try simp only [j8,j7,n9] at *);omega⟩
     rcases cl (-16384) (d7 (i4 (Y i 6) (Y i 5)) (Y i 6) (Y i 5)) with ⟨b17,b17p⟩|⟨b17,b17p⟩
     ·refine fi 1 [(5,13,true),(36,15,false),(36,45,false),(4,23,true),(14,37,true),(41,45,false),(4,23,true),(14,37,true),(41,45,false),(4,23,true),(14,37,true),(32,22,true)] 22 ((K3 i n Y (a6 (y2 Y i) (S8 Y i (a6 (F2 Y i) (jU Y i (oP Y i (a6 (Us Y i) (a6 (DQ Y i) (a6 (wS Y i) (a6 (OP Y i) true))))))))))) [.h] (zi (310)) [] J1 (by have:=n7 (hY i);(try simp only [b1,b2,b3,b4,b13,b14,b15,b16,b17,gS,W0,oK,Us,OP,jT,JG,DQ,C3,B1,C4,C5,O0,y2,R8,wP,Ja,F2,wR,wS,D8,K3,S8,jU,oP]);(try simp only [gT] at *);try omega) ?_
      exact ⟨310,rfl,rfl,fun h=>absurd h (by decide),fun h=>by have g:=h.2 i (by omega);unfold o6 o9 at g;rw [← hl] at g;(try simp only [j8,j7,n9] at *);omega⟩
     rcases ci l (4) with ⟨b18,b18p⟩|⟨b18,b18p⟩
     ·refine ar 1 [(5,13,true),(36,15,false),(36,45,false),(4,23,true),(14,37,true),(41,45,false),(4,23,true),(14,37,true),(41,45,false),(4,23,true),(14,37,true),(32,22,false),(2,24,false),(8,32,true),(5,36,false)] 13 ((K3 i n Y (a6 (y2 Y i) (S8 Y i (a6 (F2 Y i) (jU Y i (oP Y i (a6 (Us Y i) (a6 (DQ Y i) (a6 (wS Y i) (a6 (Bool.not (OP Y i)) (Jb Y i l)))))))))))) (Bl n Y ex sty (Nat.add i 1) (Y i 0)) [.h] [3,10,11,12] [] (by have:=n7 (hY i);(try simp only [b1,b2,b3,b4,b13,b14,b15,b16,b17,b18,gS,W0,yC,oK,Us,OP,jT,JG,DQ,Iz,C3,B1,C4,C5,O0,y2,R8,wP,Ja,Jb,F2,wR,wS,D8,K3,S8,jU,oP]);(try simp only [gT] at *);try omega) ?_
      exact ih (i+1) (Y i 0) (by omega) (by omega) (Y0 Y i).symm (fun j hj=>by
       by_cases e:j=i
       ·subst e;unfold o6 o9;rw [← hl];(try simp only [j8,j7,n9] at *);omega
       exact hgood j (by omega))
     refine fi 1 [(5,13,true),(36,15,false),(36,45,false),(4,23,true),(14,37,true),(41,45,false),(4,23,true),(14,37,true),(41,45,false),(4,23,true),(14,37,true),(32,22,false),(2,24,false),(8,32,true),(5,36,true)] 7 ((K3 i n Y (a6 (y2 Y i) (S8 Y i (a6 (F2 Y i) (jU Y i (oP Y i (a6 (Us Y i) (a6 (DQ Y i) (a6 (wS Y i) (a6 (Bool.not (OP Y i)) (a6 (yC Y i) (a6 (yC Y i) (a6 (c9 l (4)) true)))))))))))))) [.h] (zi (310)) [] J1 (by have:=n7 (hY i);(try simp only [b1,b2,b3,b4,b13,b14,b15,b16,b17,b18,gS,W0,yC,oK,Us,OP,jT,JG,DQ,C3,B1,C4,C5,O0,y2,R8,wP,Ja,F2,wR,wS,D8,K3,S8,jU,oP]);(try simp only [gT] at *);try omega) ?_
     exact ⟨310,rfl,rfl,fun h=>absurd h (by decide),fun h=>by have g:=h.2 i (by omega);unfold o6 o9 at g;rw [← hl] at g;(try simp only [j8,j7,n9] at *);omega⟩
    rcases cl (d7 (i4 (d7 (i4 (d7 (i4 (Y i 1) (Int.sub (0) (Y i 1))) (Int.sub (0) (Y i 1)) (Y i 1)) (Y i 2)) (Y i 2) (d7 (i4 (Y i 1) (Int.sub (0) (Y i 1))) (Int.sub (0) (Y i 1)) (Y i 1))) (Int.sub (0) (Y i 2))) (Int.sub (0) (Y i 2)) (d7 (i4 (d7 (i4 (Y i 1) (Int.sub (0) (Y i 1))) (Int.sub (0) (Y i 1)) (Y i 1)) (Y i 2)) (Y i 2) (d7 (i4 (Y i 1) (Int.sub (0) (Y i 1))) (Int.sub (0) (Y i 1)) (Y i 1)))) (16384) with ⟨b19,b19p⟩|⟨b19,b19p⟩
    ·refine fi 1 [(5,13,true),(36,15,false),(36,45,false),(4,23,true),(14,37,false),(41,45,true),(42,45,true)] 55 ((Xt i n Y)) [.h] (zi (310)) [] J1 (by have:=n7 (hY i);(try simp only [b1,b2,b3,b19,gS,W0,jT,C3,B1,C4,C5,O0,y2,R8,F2,D8,Xt]);(try simp only [gT] at *);try omega) ?_
     exact ⟨310,rfl,rfl,fun h=>absurd h (by decide),fun h=>by have g:=h.2 i (by omega);unfold o6 o9 at g;rw [← hl] at g;(try simp only [j8,j7,n9] at *);omega⟩
    rcases ci (Y i 3) (0) with ⟨b20,b20p⟩|⟨b20,b20p⟩
    ·refine fi 1 [(5,13,true),(36,15,false),(36,45,false),(4,23,true),(14,37,true),(41,45,true),(4,50,true),(38,45,true),(4,50,false)] 51 ((wT i n Y)) [.h] (zi (310)) [] J1 (by have:=n7 (hY i);(try simp only [b1,b2,b3,b19,b20,gS,W0,oK,nR,jT,C3,B1,C4,C5,O0,y2,R8,F2,D8,wT]);(try simp only [gT] at *);try omega) ?_
     exact ⟨310,rfl,rfl,fun h=>absurd h (by decide),fun h=>by have g:=h.2 i (by omega);unfold o6 o9 at g;rw [← hl] at g;(try simp only [j8,j7,n9] at *);omega⟩
    rcases ci (Y i 4) (0) with ⟨b21,b21p⟩|⟨b21,b21p⟩
    ·refine fi 1 [(5,13,true),(36,15,false),(36,45,false),(4,23,true),(14,37,true),(41,45,true),(4,50,true),(38,45,true),(4,50,false)] 51 ((wT i n Y)) [.h] (zi (310)) [] J1 (by have:=n7 (hY i);(try simp only [b1,b2,b3,b19,b20,b21,gS,W0,oK,nR,jT,C3,B1,C4,C5,O0,y2,R8,F2,D8,wT]);(try simp only [gT] at *);try omega) ?_
     exact ⟨310,rfl,rfl,fun h=>absurd h (by decide),fun h=>by have g:=h.2 i (by omega);unfold o6 o9 at g;rw [← hl] at g;(try simp only [j8,j7,n9] at *);omega⟩
    rcases ci (Y i 5) (0) with ⟨b22,b22p⟩|⟨b22,b22p⟩
    ·refine fi 1 [(5,13,true),(36,15,false),(36,45,false),(4,23,true),(14,37,true),(41,45,true),(4,50,true),(38,45,true),(4,50,true),(29,22,true)] 22 ((wU i n Y)) [.h] (zi (310)) [] J1 (by have:=n7 (hY i);(try simp only [b1,b2,b3,b19,b20,b21,b22,gS,W0,oK,nR,jT,C3,B1,C4,C5,O0,y2,R8,wQ,F2,D8,wU]);(try simp only [gT] at *);try omega) ?_
     exact ⟨310,rfl,rfl,fun h=>absurd h (by decide),fun h=>by have g:=h.2 i (by omega);unfold o6 o9 at g;rw [← hl] at g;(try simp only [j8,j7,n9] at *);omega⟩
    rcases ci (Y i 6) (0) with ⟨b23,b23p⟩|⟨b23,b23p⟩
    ·refine fi 1 [(5,13,true),(36,15,false),(36,45,false),(4,23,true),(14,37,true),(41,45,true),(4,50,true),(38,45,true),(4,50,true),(29,22,true)] 22 ((wU i n Y)) [.h] (zi (310)) [] J1 (by have:=n7 (hY i);(try simp only [b1,b2,b3,b19,b20,b21,b22,b23,gS,W0,oK,nR,jT,C3,B1,C4,C5,O0,y2,R8,wQ,F2,D8,wU]);(try simp only [gT] at *);try omega) ?_
     exact ⟨310,rfl,rfl,fun h=>absurd h (by decide),fun h=>by have g:=h.2 i (by omega);unfold o6 o9 at g;rw [← hl] at g;(try simp only [j8,j7,n9] at *);omega⟩
    rcases ci l (4) with ⟨b24,b24p⟩|⟨b24,b24p⟩
    ·refine ar 1 [(5,13,true),(36,15,false),(36,45,false),(4,23,true),(14,37,true),(41,45,true),(4,50,true),(38,45,true),(4,50,true),(29,22,false),(2,24,false),(8,32,true),(5,36,false)] 13 ((K3 i n Y (a6 (y2 Y i) (S8 Y i (a6 (F2 Y i) (wV Y i (Jb Y i l))))))) (Bl n Y ex sty (Nat.add i 1) (Y i 0)) [.h] [3,10,11,12] [] (by have:=n7 (hY i);(try simp only [b1,b2,b3,b19,b20,b21,b22,b23,b24,gS,W0,yC,oK,nR,jT,wO,Iz,C3,B1,C4,C5,O0,y2,R8,Jb,F2,D8,K3,S8,wV]);(try simp only [gT] at *);try omega) ?_
     exact ih (i+1) (Y i 0) (by omega) (by omega) (Y0 Y i).symm (fun j hj=>by
      by_cases e:j=i
      ·subst e;unfold o6 o9;rw [← hl];(try simp only [j8,j7,n9] at *);omega
      exact hgood j (by omega))
    refine fi 1 [(5,13,true),(36,15,false),(36,45,false),(4,23,true),(14,37,true),(41,45,true),(4,50,true),(38,45,true),(4,50,true),(29,22,false),(2,24,false),(8,32,true),(5,36,true)] 7 ((K3 i n Y (a6 (y2 Y i) (S8 Y i (a6 (F2 Y i) (wV Y i (a6 (yC Y i) (a6 (yC Y i) (a6 (c9 l (4)) true))))))))) [.h] (zi (310)) [] J1 (by have:=n7 (hY i);(try simp only [b1,b2,b3,b19,b20,b21,b22,b23,b24,gS,W0,yC,oK,nR,jT,wO,C3,B1,C4,C5,O0,y2,R8,F2,D8,K3,S8,wV]);(try simp only [gT] at *);try omega) ?_
    exact ⟨310,rfl,rfl,fun h=>absurd h (by decide),fun h=>by have g:=h.2 i (by omega);unfold o6 o9 at g;rw [← hl] at g;(try simp only [j8,j7,n9] at *);omega⟩
   rcases cl (d7 (i4 (d7 (i4 (d7 (i4 (Y i 1) (Int.sub (0) (Y i 1))) (Int.sub (0) (Y i 1)) (Y i 1)) (Y i 2)) (Y i 2) (d7 (i4 (Y i 1) (Int.sub (0) (Y i 1))) (Int.sub (0) (Y i 1)) (Y i 1))) (Int.sub (0) (Y i 2))) (Int.sub (0) (Y i 2)) (d7 (i4 (d7 (i4 (Y i 1) (Int.sub (0) (Y i 1))) (Int.sub (0) (Y i 1)) (Y i 1)) (Y i 2)) (Y i 2) (d7 (i4 (Y i 1) (Int.sub (0) (Y i 1))) (Int.sub (0) (Y i 1)) (Y i 1)))) (16384) with ⟨b25,b25p⟩|⟨b25,b25p⟩
   ·refine fi 1 [(5,13,true),(36,15,false),(36,45,false),(4,23,true),(14,37,false),(41,45,true),(42,45,true)] 55 ((Xt i n Y)) [.h] (zi (310)) [] J1 (by have:=n7 (hY i);(try simp only [b1,b2,b25,gS,W0,jT,C3,B1,C4,C5,O0,y2,R8,F2,D8,Xt]);(try simp only [gT] at *);try omega) ?_
    exact ⟨310,rfl,rfl,fun h=>absurd h (by decide),fun h=>by have g:=h.2 i (by omega);unfold o6 o9 at g;rw [← hl] at g;(try simp only [j8,j7,n9] at *);omega⟩
   rcases ci (Y i 3) (0) with ⟨b26,b26p⟩|⟨b26,b26p⟩
   ·refine fi 1 [(5,13,true),(36,15,false),(36,45,false),(4,23,true),(14,37,true),(41,45,true),(4,50,true),(38,45,true),(4,50,false)] 51 ((wT i n Y)) [.h] (zi (310)) [] J1 (by have:=n7 (hY i);(try simp only [b1,b2,b25,b26,gS,W0,oK,nR,jT,C3,B1,C4,C5,O0,y2,R8,F2,D8,wT]);(try simp only [gT] at *);try omega) ?_
    exact ⟨310,rfl,rfl,fun h=>absurd h (by decide),fun h=>by have g:=h.2 i (by omega);unfold o6 o9 at g;rw [← hl] at g;(try simp only [j8,j7,n9] at *);omega⟩
   rcases ci (Y i 4) (0) with ⟨b27,b27p⟩|⟨b27,b27p⟩
   ·refine fi 1 [(5,13,true),(36,15,false),(36,45,false),(4,23,true),(14,37,true),(41,45,true),(4,50,true),(38,45,true),(4,50,false)] 51 ((wT i n Y)) [.h] (zi (310)) [] J1 (by have:=n7 (hY i);(try simp only [b1,b2,b25,b26,b27,gS,W0,oK,nR,jT,C3,B1,C4,C5,O0,y2,R8,F2,D8,wT]);(try simp only [gT] at *);try omega) ?_
    exact ⟨310,rfl,rfl,fun h=>absurd h (by decide),fun h=>by have g:=h.2 i (by omega);unfold o6 o9 at g;rw [← hl] at g;(try simp only [j8,j7,n9] at *);omega⟩
   rcases ci (Y i 5) (0) with ⟨b28,b28p⟩|⟨b28,b28p⟩
   ·refine fi 1 [(5,13,true),(36,15,false),(36,45,false),(4,23,true),(14,37,true),(41,45,true),(4,50,true),(38,45,true),(4,50,true),(29,22,true)] 22 ((wU i n Y)) [.h] (zi (310)) [] J1 (by have:=n7 (hY i);(try simp only [b1,b2,b25,b26,b27,b28,gS,W0,oK,nR,jT,C3,B1,C4,C5,O0,y2,R8,wQ,F2,D8,wU]);(try simp only [gT] at *);try omega) ?_
    exact ⟨310,rfl,rfl,fun h=>absurd h (by decide),fun h=>by have g:=h.2 i (by omega);unfold o6 o9 at g;rw [← hl] at g;(try simp only [j8,j7,n9] at *);omega⟩
   rcases ci (Y i 6) (0) with ⟨b29,b29p⟩|⟨b29,b29p⟩
   ·refine fi 1 [(5,13,true),(36,15,false),(36,45,false),(4,23,true),(14,37,true),(41,45,true),(4,50,true),(38,45,true),(4,50,true),(29,22,true)] 22 ((wU i n Y)) [.h] (zi (310)) [] J1 (by have:=n7 (hY i);(try simp only [b1,b2,b25,b26,b27,b28,b29,gS,W0,oK,nR,jT,C3,B1,C4,C5,O0,y2,R8,wQ,F2,D8,wU]);(try simp only [gT] at *);try omega) ?_
    exact ⟨310,rfl,rfl,fun h=>absurd h (by decide),fun h=>by have g:=h.2 i (by omega);unfold o6 o9 at g;rw [← hl] at g;(try simp only [j8,j7,n9] at *);omega⟩
   rcases ci l (1) with ⟨b30,b30p⟩|⟨b30,b30p⟩
   ·refine ar 1 [(5,13,true),(36,15,false),(36,45,false),(4,23,true),(14,37,true),(41,45,true),(4,50,true),(38,45,true),(4,50,true),(29,22,false),(2,24,true),(5,29,false),(3,32,false)] 18 ((K3 i n Y (a6 (y2 Y i) (S8 Y i (a6 (F2 Y i) (wV Y i (a6 (c9 (Y i 0) (1)) (a6 (Bool.not (c9 l (1))) (a6 (Bool.not (yC Y i)) (Iz i)))))))))) (Bl n Y ex sty (Nat.add i 1) (Y i 0)) [.h] [3,10,11,12] [] (by have:=n7 (hY i);(try simp only [b1,b2,b25,b26,b27,b28,b29,b30,gS,W0,yC,oK,nR,jT,wO,Iz,C3,B1,C4,C5,O0,y2,R8,F2,D8,K3,S8,wV]);(try simp only [gT] at *);try omega) ?_
    exact ih (i+1) (Y i 0) (by omega) (by omega) (Y0 Y i).symm (fun j hj=>by
     by_cases e:j=i
     ·subst e;unfold o6 o9;rw [← hl];(try simp only [j8,j7,n9] at *);omega
     exact hgood j (by omega))
   refine fi 1 [(5,13,true),(36,15,false),(36,45,false),(4,23,true),(14,37,true),(41,45,true),(4,50,true),(38,45,true),(4,50,true),(29,22,false),(2,24,true),(5,29,true)] 15 ((K3 i n Y (a6 (y2 Y i) (S8 Y i (a6 (F2 Y i) (wV Y i (a6 (c9 (Y i 0) (1)) (a6 (c9 l (1)) true)))))))) [.h] (zi (310)) [] J1 (by have:=n7 (hY i);(try simp only [b1,b2,b25,b26,b27,b28,b29,b30,gS,W0,oK,nR,jT,wO,C3,B1,C4,C5,O0,y2,R8,F2,D8,K3,S8,wV]);(try simp only [gT] at *);try omega) ?_
   exact ⟨310,rfl,rfl,fun h=>absurd h (by decide),fun h=>by have g:=h.2 i (by omega);unfold o6 o9 at g;rw [← hl] at g;(try simp only [j8,j7,n9] at *);omega⟩
set_option maxHeartbeats 4000000 in
theorem dU {n:Nat} {Y:Nat→Nat→Int} {ex sty:Bool} (hY:∀ j k,-1000000000≤Y j k∧Y j k≤1000000000) (hn:n≤1000):a7 En 1 (dS n Y ex sty) (QC n Y):=by
 rcases T6 301 n with ⟨b1,b1p⟩|⟨b1,b1p⟩
 ·refine ar 1 [(11,9,false)] 15 (a6 (Bool.not (Nat.ble 301 n)) true) (Bl n Y ex sty 0 (4)) [.h] [3,10,11,12] [] (by (try simp only [b1,gS]);(try simp only [gT] at *);try omega) ?_
  exact JH hY hn (by omega) (n - 0) 0 4 rfl (by omega) rfl (fun j hj=>by omega)
 refine fi 1 [(11,9,true)] 7 (a6 (Nat.ble 301 n) true) [.h] (zi (310)) [] J1 (by (try simp only [b1,gS]);(try simp only [gT] at *);try omega) ?_
 exact ⟨310,rfl,rfl,fun h=>absurd h (by decide),fun h=>by have:=h.1;omega⟩
section
variable (n:Nat) (Y:Nat→Nat→Int) (ex sty:Bool) (sd wd:Int) (i:Nat) (fine:Bool) (Z:Nat→Nat→Int) (e_1:Int)
def RU:St:=⟨o4 (d9 En 17 [(.agg [(zi sd),(zi wd),(.sa .h 0 n 7),.nils])] false),[],[(.h,(o7 n Y ex sty))],J1,1⟩
def B6:St:=⟨(fr 17 94 (ts [1,3,4,22,23,24] [.ptr J1 0,.sa J2 0 n 7,.bool fine,.sa .h 0 n 7,zn n,zn i]) [cA En 17 (pb 244),lA En 17 (pb 244),.blk 0,cA En 17 (pb 31)]),[],(zs [(o7 n Y ex sty),(ce 36 [(zi sd),(zi wd),(.sa .h 0 n 7),.nils]),(o7 n Z true false)]),J3,1⟩
def RV:St:=⟨cf (dS n Z true false) J3 [J1],[(fr 17 94 (ts [1,75] [.ptr J2 0,.bool false]) [rA En 17 (pb 124) 4,cA En 17 (pb 125),cA En 17 (pb 63)])],(zs [(o7 n Y ex sty),(o7 n Z true false),(ce 36 [(zi sd),(zi wd),(.sa .h 0 n 7),.nils])]),J3,1⟩
end
abbrev W8 (Y:Nat→Nat→Int) (i:Nat):Bool:=(c9 (Y i 0) (4))
abbrev W1 (Y:Nat→Nat→Int) (i:Nat):Bool:=(f9 (Y i 1) (32000))
abbrev Y1 (Y:Nat→Nat→Int) (i:Nat):Bool:=(f9 (Y i 2) (32000))
abbrev Z2 (Y:Nat→Nat→Int) (i:Nat):Bool:=(f9 (Y i 3) (32000))
abbrev gF (Y:Nat→Nat→Int) (i:Nat):Bool:=(f9 (Y i 4) (32000))
abbrev U9 (Y:Nat→Nat→Int) (i:Nat):Bool:=(f9 (-32000) (Y i 1))
abbrev W9 (Y:Nat→Nat→Int) (i:Nat):Bool:=(f9 (-32000) (Y i 2))
abbrev K6 (Y:Nat→Nat→Int) (i:Nat):Bool:=(f9 (-32000) (Y i 3))
abbrev cZ (Y:Nat→Nat→Int) (i:Nat):Bool:=(f9 (-32000) (Y i 4))
abbrev P2 (i n:Nat):Bool:=(Nat.ble (Nat.succ i) n)
abbrev M1 (Y:Nat→Nat→Int) (i:Nat):Bool:=(Bool.not (W8 Y i))
abbrev cJ (Y:Nat→Nat→Int) (i:Nat):Bool:=(Bool.not (c9 (Y i 0) (3)))
abbrev aC (Y:Nat→Nat→Int) (i:Nat):Bool:=(Bool.and (c9 (Y i 3) (0)) (Bool.and (c9 (Y i 4) (0)) true))
abbrev cL (Y:Nat→Nat→Int) (i:Nat):Bool:=(Bool.and (c9 (Y i 1) (0)) (Bool.and (c9 (Y i 2) (0)) true))
abbrev B2 (i n:Nat):Bool:=(a6 (a6 (P2 i n) true) (a6 (a6 (a6 (P2 i n) true) true) true))
abbrev A0 (Y:Nat→Nat→Int) (i:Nat):Bool:=(a6 (a6 (f8 (Y i 1)) (a6 (f8 (Y i 2)) true)) (a6 (a6 (c9 (Y i 2) (Y i 2)) (a6 (c9 (Y i 2) (Y i 2)) true)) (a6 (a6 (c9 (Y i 1) (Y i 1)) true) true)))
abbrev B9 (Y:Nat→Nat→Int) (i:Nat):Bool:=(a6 (a6 (f8 (Y i 3)) (a6 (f8 (Y i 4)) true)) (a6 (a6 (c9 (Y i 4) (Y i 4)) (a6 (c9 (Y i 4) (Y i 4)) true)) (a6 (a6 (c9 (Y i 3) (Y i 3)) true) true)))
abbrev C6 (Y:Nat→Nat→Int) (i:Nat):Bool:=(a6 (A0 Y i) true)
abbrev Q2 (Y:Nat→Nat→Int) (i:Nat):Bool:=(a6 (B9 Y i) true)
abbrev x6 (Y:Nat→Nat→Int) (i n:Nat):Bool:=(a6 (a6 (a6 (f8 (Y i 5)) (a6 (f8 (Y i 6)) true)) (a6 (a6 (c9 (Y i 6) (Y i 6)) (a6 (c9 (Y i 6) (Y i 6)) true)) (a6 (a6 (c9 (Y i 5) (Y i 5)) true) true))) (a6 (a6 (P2 i n) true) (a6 (a6 (a6 (P2 i n) true) true) (a6 (a6 (f9 (-9223372036854775808) (.ofNat (Nat.add i 1))) (Nat.ble (Nat.add i 1) 9223372036854775807)) true))))
abbrev Jc (Y:Nat→Nat→Int) (i n:Nat):Bool:=(a6 (f9 (-32000) (Y i 5)) (a6 (Bool.not (f9 (Y i 5) (32000))) (x6 Y i n)))
abbrev Jd (Y:Nat→Nat→Int) (i n:Nat):Bool:=(a6 (f9 (-32000) (Y i 5)) (a6 (f9 (Y i 5) (32000)) (a6 (Bool.not (f9 (-32000) (Y i 6))) (x6 Y i n))))
abbrev Je (Y:Nat→Nat→Int) (i n:Nat):Bool:=(a6 (f9 (-32000) (Y i 5)) (a6 (f9 (Y i 5) (32000)) (a6 (f9 (-32000) (Y i 6)) (a6 (Bool.not (f9 (Y i 6) (32000))) (x6 Y i n)))))
abbrev F9 (Y:Nat→Nat→Int) (i n:Nat):Bool:=(a6 (B9 Y i) (x6 Y i n))
abbrev Jf (Y:Nat→Nat→Int) (i n:Nat):Bool:=(a6 (K6 Y i) (a6 (Z2 Y i) (a6 (Bool.not (cZ Y i)) (F9 Y i n))))
abbrev Jg (Y:Nat→Nat→Int) (i n:Nat):Bool:=(a6 (K6 Y i) (a6 (Z2 Y i) (a6 (cZ Y i) (a6 (Bool.not (gF Y i)) (F9 Y i n)))))
abbrev Xv (i n:Nat) (fine:Bool) (Y:Nat→Nat→Int):Bool:=(a6 (P2 i n) (a6 (B2 i n) (a6 fine (a6 (U9 Y i) (a6 (W1 Y i) (a6 (W9 Y i) (a6 (Y1 Y i) (a6 (W8 Y i) (a6 (C6 Y i) (a6 (Bool.not (cL Y i)) (F9 Y i n)))))))))))
abbrev Xw (i n:Nat) (fine:Bool) (Y:Nat→Nat→Int):Bool:=(a6 (P2 i n) (a6 (B2 i n) (a6 fine (a6 (U9 Y i) (a6 (W1 Y i) (a6 (W9 Y i) (a6 (Y1 Y i) (a6 (W8 Y i) (a6 (C6 Y i) (a6 (cL Y i) (a6 (K6 Y i) (a6 (Z2 Y i) (a6 (cZ Y i) (a6 (gF Y i) (a6 (W8 Y i) (a6 (Q2 Y i) (a6 (Bool.not (aC Y i)) (x6 Y i n))))))))))))))))))
abbrev Xx (i n:Nat) (fine:Bool) (Y:Nat→Nat→Int):Bool:=(a6 (P2 i n) (a6 (B2 i n) (a6 fine (a6 (U9 Y i) (a6 (W1 Y i) (a6 (W9 Y i) (a6 (Y1 Y i) (a6 (M1 Y i) (a6 (cJ Y i) (a6 (C6 Y i) (a6 (K6 Y i) (a6 (Z2 Y i) (a6 (cZ Y i) (a6 (gF Y i) (a6 (M1 Y i) (a6 (cJ Y i) (a6 (Q2 Y i) (a6 (Bool.not (aC Y i)) (x6 Y i n)))))))))))))))))))
abbrev r8 (i n:Nat) (zz:Bool):Bool:=(a6 (P2 i n) (a6 (B2 i n) zz))
abbrev t6 (Y:Nat→Nat→Int) (i:Nat) (zz:Bool):Bool:=(a6 (U9 Y i) zz)
abbrev u3 (Y:Nat→Nat→Int) (i:Nat) (zz:Bool):Bool:=(a6 (W1 Y i) zz)
abbrev u7 (Y:Nat→Nat→Int) (i:Nat) (zz:Bool):Bool:=(a6 (W9 Y i) zz)
abbrev w4 (Y:Nat→Nat→Int) (i:Nat) (zz:Bool):Bool:=(a6 (Y1 Y i) zz)
abbrev E4 (Y:Nat→Nat→Int) (i:Nat) (zz:Bool):Bool:=(a6 (M1 Y i) zz)
abbrev aD (Y:Nat→Nat→Int) (i:Nat) (zz:Bool):Bool:=(a6 (cJ Y i) (a6 (C6 Y i) zz))
abbrev oQ (Y:Nat→Nat→Int) (i:Nat) (zz:Bool):Bool:=(a6 (Z2 Y i) (a6 (cZ Y i) (a6 (gF Y i) (a6 (M1 Y i) (a6 (cJ Y i) (a6 (Q2 Y i) (a6 (aC Y i) zz)))))))
abbrev aE (Y:Nat→Nat→Int) (i:Nat) (zz:Bool):Bool:=(a6 (c9 (Y i 0) (3)) (a6 (C6 Y i) zz))
abbrev oR (Y:Nat→Nat→Int) (i:Nat) (zz:Bool):Bool:=(a6 (Z2 Y i) (a6 (cZ Y i) (a6 (gF Y i) (a6 (M1 Y i) (a6 (c9 (Y i 0) (3)) (a6 (Q2 Y i) zz))))))
abbrev aF (Y:Nat→Nat→Int) (i:Nat) (zz:Bool):Bool:=(a6 (W8 Y i) (a6 (C6 Y i) (a6 (cL Y i) zz)))
abbrev oS (Y:Nat→Nat→Int) (i:Nat) (zz:Bool):Bool:=(a6 (Z2 Y i) (a6 (cZ Y i) (a6 (gF Y i) (a6 (W8 Y i) (a6 (Q2 Y i) (a6 (aC Y i) zz))))))
def Z3 (y:Nat→Int):Prop:=
 (-32000≤y 1∧y 1≤32000)∧(-32000≤y 2∧y 2≤32000)∧(-32000≤y 3∧y 3≤32000)∧(-32000≤y 4∧y 4≤32000)∧(-32000≤y 5∧y 5≤32000)∧(-32000≤y 6∧y 6≤32000) ∧
  (y 0=4→y 1=0∧y 2=0)∧(y 0≠3→y 3=0∧y 4=0∧y 5=0∧y 6=0)
def Rk (Y:Nat→Nat→Int) (i:Nat):Prop:=(Y i 0=1∨Y i 0=2∨Y i 0=3∨Y i 0=4)∧(Y i 0=1→E3 Y i≠1)∧(Y i 0≠1→E3 Y i≠4)
def Y2 (n:Nat) (Y:Nat→Nat→Int):Prop:=n≤300∧∀ i,i < n→Z3 (Y i)∧Rk Y i
def QG (n:Nat) (Y:Nat→Nat→Int):AV→Hp→Prop:=fun v H=>∃ e:Int,v=.int .i64 e∧H.nx=J1∧(e=0→Y2 n Y)
theorem M9 {Z:Nat→Nat→Int} {A:Int} (hA:0≤A) (h:∀ j k,-A≤Z j k∧Z j k≤A) (i:Nat) {l:List Int} (hl:∀ x ∈ l,-A≤x∧x≤A):∀ j k,-A≤i2 Z i l j k∧i2 Z i l j k≤A:=by
 intro j k
 unfold i2
 by_cases e:j=i
 ·rw [if_pos e]
  rw [List.getD_eq_getElem?_getD]
  cases hk:l[k]? with
  | none=>show -A≤(0:Int)∧(0:Int)≤A;omega
  | some x=>exact hl x (List.mem_of_getElem? hk)
 rw [if_neg e];exact h j k
theorem x9 (Z:Nat→Nat→Int) (i:Nat) (l:List Int) (k:Nat):i2 Z i l i k=l.getD k 0:=by unfold i2;rw [if_pos rfl]
theorem N1 (Z:Nat→Nat→Int) {i j:Nat} (l:List Int) (k:Nat) (h:j≠i):i2 Z i l j k=Z j k:=by unfold i2;rw [if_neg h]
theorem iO {a:Int} (h : -1000000000≤a∧a≤1000000000) : -1000000000≤c8 a 2∧c8 a 2≤1000000000:=by unfold c8;omega
def Xy (y:Nat→Int):List Int:=[y 0,c8 (y 1) 2,c8 (y 2) 2,c8 (y 3) 2,c8 (y 4) 2,c8 (y 5) 2,c8 (y 6) 2]
theorem Fc {y:Nat→Int} (h:∀ k,-1000000000≤y k∧y k≤1000000000):∀ x ∈ Xy y,-1000000000≤x∧x≤1000000000:=by
 intro x hx
 unfold Xy at hx
 simp only [List.mem_cons,List.not_mem_nil,or_false] at hx
 rcases hx with rfl|rfl|rfl|rfl|rfl|rfl|rfl
 ·exact h 0
 ·exact iO (h 1)
 ·exact iO (h 2)
 ·exact iO (h 3)
 ·exact iO (h 4)
 ·exact iO (h 5)
 exact iO (h 6)
theorem bL {n:Nat} {Y Z:Nat→Nat→Int} (hk:∀ j,j < n→Z j 0=Y j 0) (hs:∀ j,j < n→Z3 (Y j)) (h:u2 n Z):Y2 n Y:=by
 refine ⟨h.1,fun i hi=>⟨hs i hi,?_⟩⟩
 obtain ⟨g1,g2,g3⟩:=h.2 i hi
 have e0:=hk i hi
 have e1:E3 Z i=E3 Y i:=by
  unfold E3
  by_cases e:i=0
  ·rw [if_pos e,if_pos e]
  rw [if_neg e,if_neg e];exact hk (i - 1) (by omega)
 unfold Rk
 rw [← e0,← e1]
 exact ⟨g1.1,g2,g3⟩
set_option maxHeartbeats 8000000 in
section
variable {n:Nat} {Y:Nat→Nat→Int} {ex sty:Bool} {sd wd:Int} (hY:∀ j k,-1000000000≤Y j k∧Y j k≤1000000000) (hn:n≤1000)
include hY hn
theorem JI (d:Nat):∀ (i:Nat) (fine:Bool) (Z:Nat→Nat→Int),n - i=d→i≤n →
 (∀ j k,-1000000000≤Z j k∧Z j k≤1000000000)→(∀ j,j < i→Z j 0=Y j 0)→(fine=true→∀ j,j < i→Z3 (Y j))→a7 En 1 (B6 n Y ex sty sd wd i fine Z) (QG n Y):=by
 induction d using Nat.strongRecOn with
 | ind d IH =>
   intro i fine Z hd hi hZ hzk hgood
   have ih:∀ (f:Bool),i < n→(f=true→fine=true∧Z3 (Y i))→a7 En 1 (B6 n Y ex sty sd wd (Nat.add i 1) f (i2 Z i (Xy (Y i)))) (QG n Y):=fun f h1 h2 =>
    IH (n - (i+1)) (by omega) (i+1) f _ rfl (by omega) (M9 (by decide) hZ i (Fc (hY i)))
     (fun j hj=>by
      by_cases e:j=i
      ·subst e;rw [x9];rfl
      rw [N1 _ _ _ e];exact hzk j (by omega))
     (fun e j hj=>by
      obtain ⟨g1,g2⟩:=h2 e
      by_cases e2:j=i
      ·subst e2;exact g2
      exact hgood g1 j (by omega))
   clear IH
   rcases T6 (Nat.succ i) n with ⟨b1,b1p⟩|⟨b1,b1p⟩
   ·rcases Km fine with b2|b2
    ·have b2p:=b2
     refine fi 1 [(5,25,false),(8,75,true)] 12 ((a6 (Bool.not (P2 i n)) (a6 (Bool.not fine) true))) [.h] (zi (460)) [] J1 (by (try simp only [b1,b2,gS,P2]);(try simp only [gT] at *);try omega) ?_
     exact ⟨460,rfl,rfl,fun h=>absurd h (by decide)⟩
    have b2p:=b2
    refine ac 1 [(5,25,false),(8,75,false)] 2 ((a6 (Bool.not (P2 i n)) (a6 (Bool.not (Bool.not fine)) true))) (RV n Y ex sty sd wd Z) [.h,J2,J1] [[1,75]] (by (try simp only [b1,b2,gS,P2]);(try simp only [gT] at *);try omega) ?_
    refine ca (dS n Z true false) [J1] (dU (n:=n) (Y:=Z) (ex:=true) (sty:=false) hZ hn) (fun v' H' q=>?_)
    rcases q with ⟨e_1,rfl,hnx1,hq_1⟩
    refine ⟨(zi e_1),[],J3,(by kernel_rfl),(by rw [hnx1];kernel_rfl),trivial,(by kernel_rfl),?_⟩
    rcases ci e_1 (0) with ⟨b3,b3p⟩|⟨b3,b3p⟩
    ·refine fi 1 [(3,79,true)] 7 (a6 (Bool.not (c9 e_1 (0))) true) [.h] (zi (460)) [] J1 (by (try simp only [b1,b2,b3,gS]);(try simp only [gT] at *);try omega) ?_
     exact ⟨460,rfl,rfl,fun h=>absurd h (by decide)⟩
    refine fi 1 [(3,79,false)] 747 (a6 (Bool.not (Bool.not (c9 e_1 (0)))) true) [.h] (zi (0)) [] J1 (by (try simp only [b1,b2,b3,gS]);(try simp only [gT] at *);try omega) ?_
    exact ⟨0,rfl,rfl,fun _=>bL (fun j hj=>hzk j (by omega)) (fun j hj=>hgood b2 j (by omega)) (hq_1.1 b3p)⟩
   rcases Km fine with b4|b4
   ·have b4p:=b4
    refine t8 2 1 [(5,25,true),(43,36,false)] 149 ((r8 i n (a6 (Bool.not fine) (a6 (A0 Y i) (F9 Y i n))))) (B6 n Y ex sty sd wd (Nat.add i 1) false (i2 Z i [(Y i 0),(c8 (Y i 1) (2)),(c8 (Y i 2) (2)),(c8 (Y i 3) (2)),(c8 (Y i 4) (2)),(c8 (Y i 5) (2)),(c8 (Y i 6) (2))])) [.h,J1,J2] [1,3,4,22,23,24] [] ⟨f7 (by kernel_rfl) rfl (by kernel_rfl),trivial⟩ (by have:=n7 (hY i);(try simp only [b1,b4,gS,P2,B2,A0,B9,x6,F9,r8]);(try simp only [gT] at *);try omega) ?_
    exact ih false (by omega) (fun e=>absurd e (by decide))
   have b4p:=b4
   rcases cl (-32000) (Y i 1) with ⟨b5,b5p⟩|⟨b5,b5p⟩
   ·refine t8 2 1 [(5,25,true),(43,36,true),(14,9,false)] 154 ((r8 i n (a6 fine (a6 (Bool.not (U9 Y i)) (a6 (A0 Y i) (F9 Y i n)))))) (B6 n Y ex sty sd wd (Nat.add i 1) false (i2 Z i [(Y i 0),(c8 (Y i 1) (2)),(c8 (Y i 2) (2)),(c8 (Y i 3) (2)),(c8 (Y i 4) (2)),(c8 (Y i 5) (2)),(c8 (Y i 6) (2))])) [.h,J1,J2] [1,3,4,22,23,24] [] ⟨f7 (by kernel_rfl) rfl (by kernel_rfl),trivial⟩ (by have:=n7 (hY i);(try simp only [b1,b4,b5,gS,U9,P2,B2,A0,B9,x6,F9,r8]);(try simp only [gT] at *);try omega) ?_
    exact ih false (by omega) (fun e=>absurd e (by decide))
   rcases cl (Y i 1) (32000) with ⟨b6,b6p⟩|⟨b6,b6p⟩
   ·refine t8 2 1 [(5,25,true),(43,36,true),(14,9,true),(10,41,false)] 144 ((r8 i n (a6 fine (t6 Y i (a6 (Bool.not (W1 Y i)) (a6 (A0 Y i) (F9 Y i n))))))) (B6 n Y ex sty sd wd (Nat.add i 1) false (i2 Z i [(Y i 0),(c8 (Y i 1) (2)),(c8 (Y i 2) (2)),(c8 (Y i 3) (2)),(c8 (Y i 4) (2)),(c8 (Y i 5) (2)),(c8 (Y i 6) (2))])) [.h,J1,J2] [1,3,4,22,23,24] [] ⟨f7 (by kernel_rfl) rfl (by kernel_rfl),trivial⟩ (by have:=n7 (hY i);(try simp only [b1,b4,b5,b6,gS,W1,U9,P2,B2,A0,B9,x6,F9,r8,t6]);(try simp only [gT] at *);try omega) ?_
    exact ih false (by omega) (fun e=>absurd e (by decide))
   rcases cl (-32000) (Y i 2) with ⟨b7,b7p⟩|⟨b7,b7p⟩
   ·refine t8 2 1 [(5,25,true),(43,36,true),(14,9,true),(10,41,true),(14,9,false)] 149 ((r8 i n (a6 fine (t6 Y i (u3 Y i (a6 (Bool.not (W9 Y i)) (a6 (A0 Y i) (F9 Y i n)))))))) (B6 n Y ex sty sd wd (Nat.add i 1) false (i2 Z i [(Y i 0),(c8 (Y i 1) (2)),(c8 (Y i 2) (2)),(c8 (Y i 3) (2)),(c8 (Y i 4) (2)),(c8 (Y i 5) (2)),(c8 (Y i 6) (2))])) [.h,J1,J2] [1,3,4,22,23,24] [] ⟨f7 (by kernel_rfl) rfl (by kernel_rfl),trivial⟩ (by have:=n7 (hY i);(try simp only [b1,b4,b5,b6,b7,gS,W1,U9,W9,P2,B2,A0,B9,x6,F9,r8,t6,u3]);(try simp only [gT] at *);try omega) ?_
    exact ih false (by omega) (fun e=>absurd e (by decide))
   rcases cl (Y i 2) (32000) with ⟨b8,b8p⟩|⟨b8,b8p⟩
   ·refine t8 2 1 [(5,25,true),(43,36,true),(14,9,true),(10,41,true),(14,9,true),(10,46,false)] 139 ((r8 i n (a6 fine (t6 Y i (u3 Y i (u7 Y i (a6 (Bool.not (Y1 Y i)) (a6 (A0 Y i) (F9 Y i n))))))))) (B6 n Y ex sty sd wd (Nat.add i 1) false (i2 Z i [(Y i 0),(c8 (Y i 1) (2)),(c8 (Y i 2) (2)),(c8 (Y i 3) (2)),(c8 (Y i 4) (2)),(c8 (Y i 5) (2)),(c8 (Y i 6) (2))])) [.h,J1,J2] [1,3,4,22,23,24] [] ⟨f7 (by kernel_rfl) rfl (by kernel_rfl),trivial⟩ (by have:=n7 (hY i);(try simp only [b1,b4,b5,b6,b7,b8,gS,W1,Y1,U9,W9,P2,B2,A0,B9,x6,F9,r8,t6,u3,u7]);(try simp only [gT] at *);try omega) ?_
    exact ih false (by omega) (fun e=>absurd e (by decide))
   rcases ci (Y i 0) (4) with ⟨b9,b9p⟩|⟨b9,b9p⟩
   ·rcases ci (Y i 0) (3) with ⟨b10,b10p⟩|⟨b10,b10p⟩
    ·rcases cl (-32000) (Y i 3) with ⟨b11,b11p⟩|⟨b11,b11p⟩
     ·refine t8 2 1 [(5,25,true),(43,36,true),(14,9,true),(10,41,true),(14,9,true),(10,46,true),(20,5,false),(6,7,false),(60,9,false)] 104 ((r8 i n (a6 fine (t6 Y i (u3 Y i (u7 Y i (w4 Y i (E4 Y i (aD Y i (a6 (Bool.not (K6 Y i)) (F9 Y i n))))))))))) (B6 n Y ex sty sd wd (Nat.add i 1) false (i2 Z i [(Y i 0),(c8 (Y i 1) (2)),(c8 (Y i 2) (2)),(c8 (Y i 3) (2)),(c8 (Y i 4) (2)),(c8 (Y i 5) (2)),(c8 (Y i 6) (2))])) [.h,J1,J2] [1,3,4,22,23,24] [] ⟨f7 (by kernel_rfl) rfl (by kernel_rfl),trivial⟩ (by have:=n7 (hY i);(try simp only [b1,b4,b5,b6,b7,b8,b9,b10,b11,gS,W8,W1,Y1,U9,W9,K6,P2,M1,cJ,B2,A0,B9,C6,x6,F9,r8,t6,u3,u7,w4,E4,aD]);(try simp only [gT] at *);try omega) ?_
      exact ih false (by omega) (fun e=>absurd e (by decide))
     rcases cl (Y i 3) (32000) with ⟨b12,b12p⟩|⟨b12,b12p⟩
     ·refine t8 2 1 [(5,25,true),(43,36,true),(14,9,true),(10,41,true),(14,9,true),(10,46,true),(20,5,false),(6,7,false),(60,9,true),(10,41,false)] 94 ((r8 i n (a6 fine (t6 Y i (u3 Y i (u7 Y i (w4 Y i (E4 Y i (aD Y i (a6 (K6 Y i) (a6 (Bool.not (Z2 Y i)) (F9 Y i n)))))))))))) (B6 n Y ex sty sd wd (Nat.add i 1) false (i2 Z i [(Y i 0),(c8 (Y i 1) (2)),(c8 (Y i 2) (2)),(c8 (Y i 3) (2)),(c8 (Y i 4) (2)),(c8 (Y i 5) (2)),(c8 (Y i 6) (2))])) [.h,J1,J2] [1,3,4,22,23,24] [] ⟨f7 (by kernel_rfl) rfl (by kernel_rfl),trivial⟩ (by have:=n7 (hY i);(try simp only [b1,b4,b5,b6,b7,b8,b9,b10,b11,b12,gS,W8,W1,Y1,Z2,U9,W9,K6,P2,M1,cJ,B2,A0,B9,C6,x6,F9,r8,t6,u3,u7,w4,E4,aD]);(try simp only [gT] at *);try omega) ?_
      exact ih false (by omega) (fun e=>absurd e (by decide))
     rcases cl (-32000) (Y i 4) with ⟨b13,b13p⟩|⟨b13,b13p⟩
     ·refine t8 2 1 [(5,25,true),(43,36,true),(14,9,true),(10,41,true),(14,9,true),(10,46,true),(20,5,false),(6,7,false),(60,9,true),(10,41,true),(14,9,false)] 99 ((r8 i n (a6 fine (t6 Y i (u3 Y i (u7 Y i (w4 Y i (E4 Y i (aD Y i (Jf Y i n)))))))))) (B6 n Y ex sty sd wd (Nat.add i 1) false (i2 Z i [(Y i 0),(c8 (Y i 1) (2)),(c8 (Y i 2) (2)),(c8 (Y i 3) (2)),(c8 (Y i 4) (2)),(c8 (Y i 5) (2)),(c8 (Y i 6) (2))])) [.h,J1,J2] [1,3,4,22,23,24] [] ⟨f7 (by kernel_rfl) rfl (by kernel_rfl),trivial⟩ (by have:=n7 (hY i);(try simp only [b1,b4,b5,b6,b7,b8,b9,b10,b11,b12,b13,gS,W8,W1,Y1,Z2,U9,W9,K6,cZ,P2,M1,cJ,B2,A0,B9,C6,x6,F9,Jf,r8,t6,u3,u7,w4,E4,aD]);(try simp only [gT] at *);try omega) ?_
      exact ih false (by omega) (fun e=>absurd e (by decide))
     rcases cl (Y i 4) (32000) with ⟨b14,b14p⟩|⟨b14,b14p⟩
     ·refine t8 2 1 [(5,25,true),(43,36,true),(14,9,true),(10,41,true),(14,9,true),(10,46,true),(20,5,false),(6,7,false),(60,9,true),(10,41,true),(14,9,true),(10,46,false)] 89 ((r8 i n (a6 fine (t6 Y i (u3 Y i (u7 Y i (w4 Y i (E4 Y i (aD Y i (Jg Y i n)))))))))) (B6 n Y ex sty sd wd (Nat.add i 1) false (i2 Z i [(Y i 0),(c8 (Y i 1) (2)),(c8 (Y i 2) (2)),(c8 (Y i 3) (2)),(c8 (Y i 4) (2)),(c8 (Y i 5) (2)),(c8 (Y i 6) (2))])) [.h,J1,J2] [1,3,4,22,23,24] [] ⟨f7 (by kernel_rfl) rfl (by kernel_rfl),trivial⟩ (by have:=n7 (hY i);(try simp only [b1,b4,b5,b6,b7,b8,b9,b10,b11,b12,b13,b14,gS,W8,W1,Y1,Z2,gF,U9,W9,K6,cZ,P2,M1,cJ,B2,A0,B9,C6,x6,F9,Jg,r8,t6,u3,u7,w4,E4,aD]);(try simp only [gT] at *);try omega) ?_
      exact ih false (by omega) (fun e=>absurd e (by decide))
     rcases ci (Y i 3) (0) with ⟨b15,b15p⟩|⟨b15,b15p⟩
     ·refine t8 2 1 [(5,25,true),(43,36,true),(14,9,true),(10,41,true),(14,9,true),(10,46,true),(20,5,false),(6,7,false),(60,9,true),(10,41,true),(14,9,true),(10,46,true),(20,5,false),(6,7,false),(46,36,false)] 49 ((Xx i n fine Y)) (B6 n Y ex sty sd wd (Nat.add i 1) false (i2 Z i [(Y i 0),(c8 (Y i 1) (2)),(c8 (Y i 2) (2)),(c8 (Y i 3) (2)),(c8 (Y i 4) (2)),(c8 (Y i 5) (2)),(c8 (Y i 6) (2))])) [.h,J1,J2] [1,3,4,22,23,24] [] ⟨f7 (by kernel_rfl) rfl (by kernel_rfl),trivial⟩ (by have:=n7 (hY i);(try simp only [b1,b4,b5,b6,b7,b8,b9,b10,b11,b12,b13,b14,b15,gS,W8,W1,Y1,Z2,gF,U9,W9,K6,cZ,P2,M1,cJ,aC,B2,A0,B9,C6,Q2,x6,Xx]);(try simp only [gT] at *);try omega) ?_
      exact ih false (by omega) (fun e=>absurd e (by decide))
     rcases ci (Y i 4) (0) with ⟨b16,b16p⟩|⟨b16,b16p⟩
     ·refine t8 2 1 [(5,25,true),(43,36,true),(14,9,true),(10,41,true),(14,9,true),(10,46,true),(20,5,false),(6,7,false),(60,9,true),(10,41,true),(14,9,true),(10,46,true),(20,5,false),(6,7,false),(46,36,false)] 49 ((Xx i n fine Y)) (B6 n Y ex sty sd wd (Nat.add i 1) false (i2 Z i [(Y i 0),(c8 (Y i 1) (2)),(c8 (Y i 2) (2)),(c8 (Y i 3) (2)),(c8 (Y i 4) (2)),(c8 (Y i 5) (2)),(c8 (Y i 6) (2))])) [.h,J1,J2] [1,3,4,22,23,24] [] ⟨f7 (by kernel_rfl) rfl (by kernel_rfl),trivial⟩ (by have:=n7 (hY i);(try simp only [b1,b4,b5,b6,b7,b8,b9,b10,b11,b12,b13,b14,b15,b16,gS,W8,W1,Y1,Z2,gF,U9,W9,K6,cZ,P2,M1,cJ,aC,B2,A0,B9,C6,Q2,x6,Xx]);(try simp only [gT] at *);try omega) ?_
      exact ih false (by omega) (fun e=>absurd e (by decide))
     rcases cl (-32000) (Y i 5) with ⟨b17,b17p⟩|⟨b17,b17p⟩
     ·refine t8 2 1 [(5,25,true),(43,36,true),(14,9,true),(10,41,true),(14,9,true),(10,46,true),(20,5,false),(6,7,false),(60,9,true),(10,41,true),(14,9,true),(10,46,true),(20,5,false),(6,7,false),(46,36,true),(14,9,false)] 54 ((r8 i n (a6 fine (t6 Y i (u3 Y i (u7 Y i (w4 Y i (E4 Y i (aD Y i (a6 (K6 Y i) (oQ Y i (a6 (Bool.not (f9 (-32000) (Y i 5))) (x6 Y i n))))))))))))) (B6 n Y ex sty sd wd (Nat.add i 1) false (i2 Z i [(Y i 0),(c8 (Y i 1) (2)),(c8 (Y i 2) (2)),(c8 (Y i 3) (2)),(c8 (Y i 4) (2)),(c8 (Y i 5) (2)),(c8 (Y i 6) (2))])) [.h,J1,J2] [1,3,4,22,23,24] [] ⟨f7 (by kernel_rfl) rfl (by kernel_rfl),trivial⟩ (by have:=n7 (hY i);(try simp only [b1,b4,b5,b6,b7,b8,b9,b10,b11,b12,b13,b14,b15,b16,b17,gS,W8,W1,Y1,Z2,gF,U9,W9,K6,cZ,P2,M1,cJ,aC,B2,A0,B9,C6,Q2,x6,r8,t6,u3,u7,w4,E4,aD,oQ]);(try simp only [gT] at *);try omega) ?_
      exact ih false (by omega) (fun e=>absurd e (by decide))
     rcases cl (Y i 5) (32000) with ⟨b18,b18p⟩|⟨b18,b18p⟩
     ·refine t8 2 1 [(5,25,true),(43,36,true),(14,9,true),(10,41,true),(14,9,true),(10,46,true),(20,5,false),(6,7,false),(60,9,true),(10,41,true),(14,9,true),(10,46,true),(20,5,false),(6,7,false),(46,36,true),(14,9,true),(10,41,false)] 44 ((r8 i n (a6 fine (t6 Y i (u3 Y i (u7 Y i (w4 Y i (E4 Y i (aD Y i (a6 (K6 Y i) (oQ Y i (Jc Y i n)))))))))))) (B6 n Y ex sty sd wd (Nat.add i 1) false (i2 Z i [(Y i 0),(c8 (Y i 1) (2)),(c8 (Y i 2) (2)),(c8 (Y i 3) (2)),(c8 (Y i 4) (2)),(c8 (Y i 5) (2)),(c8 (Y i 6) (2))])) [.h,J1,J2] [1,3,4,22,23,24] [] ⟨f7 (by kernel_rfl) rfl (by kernel_rfl),trivial⟩ (by have:=n7 (hY i);(try simp only [b1,b4,b5,b6,b7,b8,b9,b10,b11,b12,b13,b14,b15,b16,b17,b18,gS,W8,W1,Y1,Z2,gF,U9,W9,K6,cZ,P2,M1,cJ,aC,B2,A0,B9,C6,Q2,x6,Jc,r8,t6,u3,u7,w4,E4,aD,oQ]);(try simp only [gT] at *);try omega) ?_
      exact ih false (by omega) (fun e=>absurd e (by decide))
     rcases cl (-32000) (Y i 6) with ⟨b19,b19p⟩|⟨b19,b19p⟩
     ·refine t8 2 1 [(5,25,true),(43,36,true),(14,9,true),(10,41,true),(14,9,true),(10,46,true),(20,5,false),(6,7,false),(60,9,true),(10,41,true),(14,9,true),(10,46,true),(20,5,false),(6,7,false),(46,36,true),(14,9,true),(10,41,true),(14,9,false)] 49 ((r8 i n (a6 fine (t6 Y i (u3 Y i (u7 Y i (w4 Y i (E4 Y i (aD Y i (a6 (K6 Y i) (oQ Y i (Jd Y i n)))))))))))) (B6 n Y ex sty sd wd (Nat.add i 1) false (i2 Z i [(Y i 0),(c8 (Y i 1) (2)),(c8 (Y i 2) (2)),(c8 (Y i 3) (2)),(c8 (Y i 4) (2)),(c8 (Y i 5) (2)),(c8 (Y i 6) (2))])) [.h,J1,J2] [1,3,4,22,23,24] [] ⟨f7 (by kernel_rfl) rfl (by kernel_rfl),trivial⟩ (by have:=n7 (hY i);(try simp only [b1,b4,b5,b6,b7,b8,b9,b10,b11,b12,b13,b14,b15,b16,b17,b18,b19,gS,W8,W1,Y1,Z2,gF,U9,W9,K6,cZ,P2,M1,cJ,aC,B2,A0,B9,C6,Q2,x6,Jd,r8,t6,u3,u7,w4,E4,aD,oQ]);(try simp only [gT] at *);try omega) ?_
      exact ih false (by omega) (fun e=>absurd e (by decide))
     rcases cl (Y i 6) (32000) with ⟨b20,b20p⟩|⟨b20,b20p⟩
     ·refine t8 2 1 [(5,25,true),(43,36,true),(14,9,true),(10,41,true),(14,9,true),(10,46,true),(20,5,false),(6,7,false),(60,9,true),(10,41,true),(14,9,true),(10,46,true),(20,5,false),(6,7,false),(46,36,true),(14,9,true),(10,41,true),(14,9,true),(10,46,false)] 39 ((r8 i n (a6 fine (t6 Y i (u3 Y i (u7 Y i (w4 Y i (E4 Y i (aD Y i (a6 (K6 Y i) (oQ Y i (Je Y i n)))))))))))) (B6 n Y ex sty sd wd (Nat.add i 1) false (i2 Z i [(Y i 0),(c8 (Y i 1) (2)),(c8 (Y i 2) (2)),(c8 (Y i 3) (2)),(c8 (Y i 4) (2)),(c8 (Y i 5) (2)),(c8 (Y i 6) (2))])) [.h,J1,J2] [1,3,4,22,23,24] [] ⟨f7 (by kernel_rfl) rfl (by kernel_rfl),trivial⟩ (by have:=n7 (hY i);(try simp only [b1,b4,b5,b6,b7,b8,b9,b10,b11,b12,b13,b14,b15,b16,b17,b18,b19,b20,gS,W8,W1,Y1,Z2,gF,U9,W9,K6,cZ,P2,M1,cJ,aC,B2,A0,B9,C6,Q2,x6,Je,r8,t6,u3,u7,w4,E4,aD,oQ]);(try simp only [gT] at *);try omega) ?_
      exact ih false (by omega) (fun e=>absurd e (by decide))
     refine t8 2 1 [(5,25,true),(43,36,true),(14,9,true),(10,41,true),(14,9,true),(10,46,true),(20,5,false),(6,7,false),(60,9,true),(10,41,true),(14,9,true),(10,46,true),(20,5,false),(6,7,false),(46,36,true),(14,9,true),(10,41,true),(14,9,true),(10,46,true),(20,5,false),(6,7,false)] 45 ((r8 i n (a6 fine (t6 Y i (u3 Y i (u7 Y i (w4 Y i (E4 Y i (aD Y i (a6 (K6 Y i) (oQ Y i (a6 (f9 (-32000) (Y i 5)) (a6 (f9 (Y i 5) (32000)) (a6 (f9 (-32000) (Y i 6)) (a6 (f9 (Y i 6) (32000)) (a6 (M1 Y i) (a6 (cJ Y i) (x6 Y i n)))))))))))))))))) (B6 n Y ex sty sd wd (Nat.add i 1) (Bool.and (c9 (Y i 5) (0)) (Bool.and (c9 (Y i 6) (0)) true)) (i2 Z i [(Y i 0),(c8 (Y i 1) (2)),(c8 (Y i 2) (2)),(c8 (Y i 3) (2)),(c8 (Y i 4) (2)),(c8 (Y i 5) (2)),(c8 (Y i 6) (2))])) [.h,J1,J2] [1,3,4,22,23,24] [] ⟨f7 (by kernel_rfl) rfl (by kernel_rfl),trivial⟩ (by have:=n7 (hY i);(try simp only [b1,b4,b5,b6,b7,b8,b9,b10,b11,b12,b13,b14,b15,b16,b17,b18,b19,b20,gS,W8,W1,Y1,Z2,gF,U9,W9,K6,cZ,P2,M1,cJ,aC,B2,A0,B9,C6,Q2,x6,r8,t6,u3,u7,w4,E4,aD,oQ]);(try simp only [gT] at *);try omega) ?_
     exact ih (Bool.and (c9 (Y i 5) (0)) (Bool.and (c9 (Y i 6) (0)) true)) (by omega) (fun e=>⟨b4,by unfold Z3;(try simp only [R6,E2] at e);omega⟩)
    rcases cl (-32000) (Y i 3) with ⟨b21,b21p⟩|⟨b21,b21p⟩
    ·refine t8 2 1 [(5,25,true),(43,36,true),(14,9,true),(10,41,true),(14,9,true),(10,46,true),(20,5,false),(6,7,true),(58,9,false)] 104 ((r8 i n (a6 fine (t6 Y i (u3 Y i (u7 Y i (w4 Y i (E4 Y i (aE Y i (a6 (Bool.not (K6 Y i)) (F9 Y i n))))))))))) (B6 n Y ex sty sd wd (Nat.add i 1) false (i2 Z i [(Y i 0),(c8 (Y i 1) (2)),(c8 (Y i 2) (2)),(c8 (Y i 3) (2)),(c8 (Y i 4) (2)),(c8 (Y i 5) (2)),(c8 (Y i 6) (2))])) [.h,J1,J2] [1,3,4,22,23,24] [] ⟨f7 (by kernel_rfl) rfl (by kernel_rfl),trivial⟩ (by have:=n7 (hY i);(try simp only [b1,b4,b5,b6,b7,b8,b9,b10,b21,gS,W8,W1,Y1,U9,W9,K6,P2,M1,B2,A0,B9,C6,x6,F9,r8,t6,u3,u7,w4,E4,aE]);(try simp only [gT] at *);try omega) ?_
     exact ih false (by omega) (fun e=>absurd e (by decide))
    rcases cl (Y i 3) (32000) with ⟨b22,b22p⟩|⟨b22,b22p⟩
    ·refine t8 2 1 [(5,25,true),(43,36,true),(14,9,true),(10,41,true),(14,9,true),(10,46,true),(20,5,false),(6,7,true),(58,9,true),(10,41,false)] 94 ((r8 i n (a6 fine (t6 Y i (u3 Y i (u7 Y i (w4 Y i (E4 Y i (aE Y i (a6 (K6 Y i) (a6 (Bool.not (Z2 Y i)) (F9 Y i n)))))))))))) (B6 n Y ex sty sd wd (Nat.add i 1) false (i2 Z i [(Y i 0),(c8 (Y i 1) (2)),(c8 (Y i 2) (2)),(c8 (Y i 3) (2)),(c8 (Y i 4) (2)),(c8 (Y i 5) (2)),(c8 (Y i 6) (2))])) [.h,J1,J2] [1,3,4,22,23,24] [] ⟨f7 (by kernel_rfl) rfl (by kernel_rfl),trivial⟩ (by have:=n7 (hY i);(try simp only [b1,b4,b5,b6,b7,b8,b9,b10,b21,b22,gS,W8,W1,Y1,Z2,U9,W9,K6,P2,M1,B2,A0,B9,C6,x6,F9,r8,t6,u3,u7,w4,E4,aE]);(try simp only [gT] at *);try omega) ?_
     exact ih false (by omega) (fun e=>absurd e (by decide))
    rcases cl (-32000) (Y i 4) with ⟨b23,b23p⟩|⟨b23,b23p⟩
    ·refine t8 2 1 [(5,25,true),(43,36,true),(14,9,true),(10,41,true),(14,9,true),(10,46,true),(20,5,false),(6,7,true),(58,9,true),(10,41,true),(14,9,false)] 99 ((r8 i n (a6 fine (t6 Y i (u3 Y i (u7 Y i (w4 Y i (E4 Y i (aE Y i (Jf Y i n)))))))))) (B6 n Y ex sty sd wd (Nat.add i 1) false (i2 Z i [(Y i 0),(c8 (Y i 1) (2)),(c8 (Y i 2) (2)),(c8 (Y i 3) (2)),(c8 (Y i 4) (2)),(c8 (Y i 5) (2)),(c8 (Y i 6) (2))])) [.h,J1,J2] [1,3,4,22,23,24] [] ⟨f7 (by kernel_rfl) rfl (by kernel_rfl),trivial⟩ (by have:=n7 (hY i);(try simp only [b1,b4,b5,b6,b7,b8,b9,b10,b21,b22,b23,gS,W8,W1,Y1,Z2,U9,W9,K6,cZ,P2,M1,B2,A0,B9,C6,x6,F9,Jf,r8,t6,u3,u7,w4,E4,aE]);(try simp only [gT] at *);try omega) ?_
     exact ih false (by omega) (fun e=>absurd e (by decide))
    rcases cl (Y i 4) (32000) with ⟨b24,b24p⟩|⟨b24,b24p⟩
    ·refine t8 2 1 [(5,25,true),(43,36,true),(14,9,true),(10,41,true),(14,9,true),(10,46,true),(20,5,false),(6,7,true),(58,9,true),(10,41,true),(14,9,true),(10,46,false)] 89 ((r8 i n (a6 fine (t6 Y i (u3 Y i (u7 Y i (w4 Y i (E4 Y i (aE Y i (Jg Y i n)))))))))) (B6 n Y ex sty sd wd (Nat.add i 1) false (i2 Z i [(Y i 0),(c8 (Y i 1) (2)),(c8 (Y i 2) (2)),(c8 (Y i 3) (2)),(c8 (Y i 4) (2)),(c8 (Y i 5) (2)),(c8 (Y i 6) (2))])) [.h,J1,J2] [1,3,4,22,23,24] [] ⟨f7 (by kernel_rfl) rfl (by kernel_rfl),trivial⟩ (by have:=n7 (hY i);(try simp only [b1,b4,b5,b6,b7,b8,b9,b10,b21,b22,b23,b24,gS,W8,W1,Y1,Z2,gF,U9,W9,K6,cZ,P2,M1,B2,A0,B9,C6,x6,F9,Jg,r8,t6,u3,u7,w4,E4,aE]);(try simp only [gT] at *);try omega) ?_
     exact ih false (by omega) (fun e=>absurd e (by decide))
    rcases cl (-32000) (Y i 5) with ⟨b25,b25p⟩|⟨b25,b25p⟩
    ·refine t8 2 1 [(5,25,true),(43,36,true),(14,9,true),(10,41,true),(14,9,true),(10,46,true),(20,5,false),(6,7,true),(58,9,true),(10,41,true),(14,9,true),(10,46,true),(20,5,false),(6,7,true),(58,9,false)] 54 ((r8 i n (a6 fine (t6 Y i (u3 Y i (u7 Y i (w4 Y i (E4 Y i (aE Y i (a6 (K6 Y i) (oR Y i (a6 (Bool.not (f9 (-32000) (Y i 5))) (x6 Y i n))))))))))))) (B6 n Y ex sty sd wd (Nat.add i 1) false (i2 Z i [(Y i 0),(c8 (Y i 1) (2)),(c8 (Y i 2) (2)),(c8 (Y i 3) (2)),(c8 (Y i 4) (2)),(c8 (Y i 5) (2)),(c8 (Y i 6) (2))])) [.h,J1,J2] [1,3,4,22,23,24] [] ⟨f7 (by kernel_rfl) rfl (by kernel_rfl),trivial⟩ (by have:=n7 (hY i);(try simp only [b1,b4,b5,b6,b7,b8,b9,b10,b21,b22,b23,b24,b25,gS,W8,W1,Y1,Z2,gF,U9,W9,K6,cZ,P2,M1,B2,A0,B9,C6,Q2,x6,r8,t6,u3,u7,w4,E4,aE,oR]);(try simp only [gT] at *);try omega) ?_
     exact ih false (by omega) (fun e=>absurd e (by decide))
    rcases cl (Y i 5) (32000) with ⟨b26,b26p⟩|⟨b26,b26p⟩
    ·refine t8 2 1 [(5,25,true),(43,36,true),(14,9,true),(10,41,true),(14,9,true),(10,46,true),(20,5,false),(6,7,true),(58,9,true),(10,41,true),(14,9,true),(10,46,true),(20,5,false),(6,7,true),(58,9,true),(10,41,false)] 44 ((r8 i n (a6 fine (t6 Y i (u3 Y i (u7 Y i (w4 Y i (E4 Y i (aE Y i (a6 (K6 Y i) (oR Y i (Jc Y i n)))))))))))) (B6 n Y ex sty sd wd (Nat.add i 1) false (i2 Z i [(Y i 0),(c8 (Y i 1) (2)),(c8 (Y i 2) (2)),(c8 (Y i 3) (2)),(c8 (Y i 4) (2)),(c8 (Y i 5) (2)),(c8 (Y i 6) (2))])) [.h,J1,J2] [1,3,4,22,23,24] [] ⟨f7 (by kernel_rfl) rfl (by kernel_rfl),trivial⟩ (by have:=n7 (hY i);(try simp only [b1,b4,b5,b6,b7,b8,b9,b10,b21,b22,b23,b24,b25,b26,gS,W8,W1,Y1,Z2,gF,U9,W9,K6,cZ,P2,M1,B2,A0,B9,C6,Q2,x6,Jc,r8,t6,u3,u7,w4,E4,aE,oR]);(try simp only [gT] at *);try omega) ?_
     exact ih false (by omega) (fun e=>absurd e (by decide))
    rcases cl (-32000) (Y i 6) with ⟨b27,b27p⟩|⟨b27,b27p⟩
    ·refine t8 2 1 [(5,25,true),(43,36,true),(14,9,true),(10,41,true),(14,9,true),(10,46,true),(20,5,false),(6,7,true),(58,9,true),(10,41,true),(14,9,true),(10,46,true),(20,5,false),(6,7,true),(58,9,true),(10,41,true),(14,9,false)] 49 ((r8 i n (a6 fine (t6 Y i (u3 Y i (u7 Y i (w4 Y i (E4 Y i (aE Y i (a6 (K6 Y i) (oR Y i (Jd Y i n)))))))))))) (B6 n Y ex sty sd wd (Nat.add i 1) false (i2 Z i [(Y i 0),(c8 (Y i 1) (2)),(c8 (Y i 2) (2)),(c8 (Y i 3) (2)),(c8 (Y i 4) (2)),(c8 (Y i 5) (2)),(c8 (Y i 6) (2))])) [.h,J1,J2] [1,3,4,22,23,24] [] ⟨f7 (by kernel_rfl) rfl (by kernel_rfl),trivial⟩ (by have:=n7 (hY i);(try simp only [b1,b4,b5,b6,b7,b8,b9,b10,b21,b22,b23,b24,b25,b26,b27,gS,W8,W1,Y1,Z2,gF,U9,W9,K6,cZ,P2,M1,B2,A0,B9,C6,Q2,x6,Jd,r8,t6,u3,u7,w4,E4,aE,oR]);(try simp only [gT] at *);try omega) ?_
     exact ih false (by omega) (fun e=>absurd e (by decide))
    rcases cl (Y i 6) (32000) with ⟨b28,b28p⟩|⟨b28,b28p⟩
    ·refine t8 2 1 [(5,25,true),(43,36,true),(14,9,true),(10,41,true),(14,9,true),(10,46,true),(20,5,false),(6,7,true),(58,9,true),(10,41,true),(14,9,true),(10,46,true),(20,5,false),(6,7,true),(58,9,true),(10,41,true),(14,9,true),(10,46,false)] 39 ((r8 i n (a6 fine (t6 Y i (u3 Y i (u7 Y i (w4 Y i (E4 Y i (aE Y i (a6 (K6 Y i) (oR Y i (Je Y i n)))))))))))) (B6 n Y ex sty sd wd (Nat.add i 1) false (i2 Z i [(Y i 0),(c8 (Y i 1) (2)),(c8 (Y i 2) (2)),(c8 (Y i 3) (2)),(c8 (Y i 4) (2)),(c8 (Y i 5) (2)),(c8 (Y i 6) (2))])) [.h,J1,J2] [1,3,4,22,23,24] [] ⟨f7 (by kernel_rfl) rfl (by kernel_rfl),trivial⟩ (by have:=n7 (hY i);(try simp only [b1,b4,b5,b6,b7,b8,b9,b10,b21,b22,b23,b24,b25,b26,b27,b28,gS,W8,W1,Y1,Z2,gF,U9,W9,K6,cZ,P2,M1,B2,A0,B9,C6,Q2,x6,Je,r8,t6,u3,u7,w4,E4,aE,oR]);(try simp only [gT] at *);try omega) ?_
     exact ih false (by omega) (fun e=>absurd e (by decide))
    refine t8 2 1 [(5,25,true),(43,36,true),(14,9,true),(10,41,true),(14,9,true),(10,46,true),(20,5,false),(6,7,true),(58,9,true),(10,41,true),(14,9,true),(10,46,true),(20,5,false),(6,7,true),(58,9,true),(10,41,true),(14,9,true),(10,46,true),(20,5,false),(6,7,true)] 43 ((r8 i n (a6 fine (t6 Y i (u3 Y i (u7 Y i (w4 Y i (E4 Y i (aE Y i (a6 (K6 Y i) (oR Y i (a6 (f9 (-32000) (Y i 5)) (a6 (f9 (Y i 5) (32000)) (a6 (f9 (-32000) (Y i 6)) (a6 (f9 (Y i 6) (32000)) (a6 (M1 Y i) (a6 (c9 (Y i 0) (3)) (x6 Y i n)))))))))))))))))) (B6 n Y ex sty sd wd (Nat.add i 1) true (i2 Z i [(Y i 0),(c8 (Y i 1) (2)),(c8 (Y i 2) (2)),(c8 (Y i 3) (2)),(c8 (Y i 4) (2)),(c8 (Y i 5) (2)),(c8 (Y i 6) (2))])) [.h,J1,J2] [1,3,4,22,23,24] [] ⟨f7 (by kernel_rfl) rfl (by kernel_rfl),trivial⟩ (by have:=n7 (hY i);(try simp only [b1,b4,b5,b6,b7,b8,b9,b10,b21,b22,b23,b24,b25,b26,b27,b28,gS,W8,W1,Y1,Z2,gF,U9,W9,K6,cZ,P2,M1,B2,A0,B9,C6,Q2,x6,r8,t6,u3,u7,w4,E4,aE,oR]);(try simp only [gT] at *);try omega) ?_
    exact ih true (by omega) (fun e=>⟨b4,by unfold Z3;(try simp only [R6,E2] at e);omega⟩)
   rcases ci (Y i 1) (0) with ⟨b29,b29p⟩|⟨b29,b29p⟩
   ·refine t8 2 1 [(5,25,true),(43,36,true),(14,9,true),(10,41,true),(14,9,true),(10,46,true),(20,5,true),(44,36,false)] 99 ((Xv i n fine Y)) (B6 n Y ex sty sd wd (Nat.add i 1) false (i2 Z i [(Y i 0),(c8 (Y i 1) (2)),(c8 (Y i 2) (2)),(c8 (Y i 3) (2)),(c8 (Y i 4) (2)),(c8 (Y i 5) (2)),(c8 (Y i 6) (2))])) [.h,J1,J2] [1,3,4,22,23,24] [] ⟨f7 (by kernel_rfl) rfl (by kernel_rfl),trivial⟩ (by have:=n7 (hY i);(try simp only [b1,b4,b5,b6,b7,b8,b9,b29,gS,W8,W1,Y1,U9,W9,P2,cL,B2,A0,B9,C6,x6,F9,Xv]);(try simp only [gT] at *);try omega) ?_
    exact ih false (by omega) (fun e=>absurd e (by decide))
   rcases ci (Y i 2) (0) with ⟨b30,b30p⟩|⟨b30,b30p⟩
   ·refine t8 2 1 [(5,25,true),(43,36,true),(14,9,true),(10,41,true),(14,9,true),(10,46,true),(20,5,true),(44,36,false)] 99 ((Xv i n fine Y)) (B6 n Y ex sty sd wd (Nat.add i 1) false (i2 Z i [(Y i 0),(c8 (Y i 1) (2)),(c8 (Y i 2) (2)),(c8 (Y i 3) (2)),(c8 (Y i 4) (2)),(c8 (Y i 5) (2)),(c8 (Y i 6) (2))])) [.h,J1,J2] [1,3,4,22,23,24] [] ⟨f7 (by kernel_rfl) rfl (by kernel_rfl),trivial⟩ (by have:=n7 (hY i);(try simp only [b1,b4,b5,b6,b7,b8,b9,b29,b30,gS,W8,W1,Y1,U9,W9,P2,cL,B2,A0,B9,C6,x6,F9,Xv]);(try simp only [gT] at *);try omega) ?_
    exact ih false (by omega) (fun e=>absurd e (by decide))
   rcases cl (-32000) (Y i 3) with ⟨b31,b31p⟩|⟨b31,b31p⟩
   ·refine t8 2 1 [(5,25,true),(43,36,true),(14,9,true),(10,41,true),(14,9,true),(10,46,true),(20,5,true),(44,36,true),(14,9,false)] 104 ((r8 i n (a6 fine (t6 Y i (u3 Y i (u7 Y i (w4 Y i (aF Y i (a6 (Bool.not (K6 Y i)) (F9 Y i n)))))))))) (B6 n Y ex sty sd wd (Nat.add i 1) false (i2 Z i [(Y i 0),(c8 (Y i 1) (2)),(c8 (Y i 2) (2)),(c8 (Y i 3) (2)),(c8 (Y i 4) (2)),(c8 (Y i 5) (2)),(c8 (Y i 6) (2))])) [.h,J1,J2] [1,3,4,22,23,24] [] ⟨f7 (by kernel_rfl) rfl (by kernel_rfl),trivial⟩ (by have:=n7 (hY i);(try simp only [b1,b4,b5,b6,b7,b8,b9,b29,b30,b31,gS,W8,W1,Y1,U9,W9,K6,P2,cL,B2,A0,B9,C6,x6,F9,r8,t6,u3,u7,w4,aF]);(try simp only [gT] at *);try omega) ?_
    exact ih false (by omega) (fun e=>absurd e (by decide))
   rcases cl (Y i 3) (32000) with ⟨b32,b32p⟩|⟨b32,b32p⟩
   ·refine t8 2 1 [(5,25,true),(43,36,true),(14,9,true),(10,41,true),(14,9,true),(10,46,true),(20,5,true),(44,36,true),(14,9,true),(10,41,false)] 94 ((r8 i n (a6 fine (t6 Y i (u3 Y i (u7 Y i (w4 Y i (aF Y i (a6 (K6 Y i) (a6 (Bool.not (Z2 Y i)) (F9 Y i n))))))))))) (B6 n Y ex sty sd wd (Nat.add i 1) false (i2 Z i [(Y i 0),(c8 (Y i 1) (2)),(c8 (Y i 2) (2)),(c8 (Y i 3) (2)),(c8 (Y i 4) (2)),(c8 (Y i 5) (2)),(c8 (Y i 6) (2))])) [.h,J1,J2] [1,3,4,22,23,24] [] ⟨f7 (by kernel_rfl) rfl (by kernel_rfl),trivial⟩ (by have:=n7 (hY i);(try simp only [b1,b4,b5,b6,b7,b8,b9,b29,b30,b31,b32,gS,W8,W1,Y1,Z2,U9,W9,K6,P2,cL,B2,A0,B9,C6,x6,F9,r8,t6,u3,u7,w4,aF]);(try simp only [gT] at *);try omega) ?_
    exact ih false (by omega) (fun e=>absurd e (by decide))
   rcases cl (-32000) (Y i 4) with ⟨b33,b33p⟩|⟨b33,b33p⟩
   ·refine t8 2 1 [(5,25,true),(43,36,true),(14,9,true),(10,41,true),(14,9,true),(10,46,true),(20,5,true),(44,36,true),(14,9,true),(10,41,true),(14,9,false)] 99 ((r8 i n (a6 fine (t6 Y i (u3 Y i (u7 Y i (w4 Y i (aF Y i (Jf Y i n))))))))) (B6 n Y ex sty sd wd (Nat.add i 1) false (i2 Z i [(Y i 0),(c8 (Y i 1) (2)),(c8 (Y i 2) (2)),(c8 (Y i 3) (2)),(c8 (Y i 4) (2)),(c8 (Y i 5) (2)),(c8 (Y i 6) (2))])) [.h,J1,J2] [1,3,4,22,23,24] [] ⟨f7 (by kernel_rfl) rfl (by kernel_rfl),trivial⟩ (by have:=n7 (hY i);(try simp only [b1,b4,b5,b6,b7,b8,b9,b29,b30,b31,b32,b33,gS,W8,W1,Y1,Z2,U9,W9,K6,cZ,P2,cL,B2,A0,B9,C6,x6,F9,Jf,r8,t6,u3,u7,w4,aF]);(try simp only [gT] at *);try omega) ?_
    exact ih false (by omega) (fun e=>absurd e (by decide))
   rcases cl (Y i 4) (32000) with ⟨b34,b34p⟩|⟨b34,b34p⟩
   ·refine t8 2 1 [(5,25,true),(43,36,true),(14,9,true),(10,41,true),(14,9,true),(10,46,true),(20,5,true),(44,36,true),(14,9,true),(10,41,true),(14,9,true),(10,46,false)] 89 ((r8 i n (a6 fine (t6 Y i (u3 Y i (u7 Y i (w4 Y i (aF Y i (Jg Y i n))))))))) (B6 n Y ex sty sd wd (Nat.add i 1) false (i2 Z i [(Y i 0),(c8 (Y i 1) (2)),(c8 (Y i 2) (2)),(c8 (Y i 3) (2)),(c8 (Y i 4) (2)),(c8 (Y i 5) (2)),(c8 (Y i 6) (2))])) [.h,J1,J2] [1,3,4,22,23,24] [] ⟨f7 (by kernel_rfl) rfl (by kernel_rfl),trivial⟩ (by have:=n7 (hY i);(try simp only [b1,b4,b5,b6,b7,b8,b9,b29,b30,b31,b32,b33,b34,gS,W8,W1,Y1,Z2,gF,U9,W9,K6,cZ,P2,cL,B2,A0,B9,C6,x6,F9,Jg,r8,t6,u3,u7,w4,aF]);(try simp only [gT] at *);try omega) ?_
    exact ih false (by omega) (fun e=>absurd e (by decide))
   rcases ci (Y i 3) (0) with ⟨b35,b35p⟩|⟨b35,b35p⟩
   ·refine t8 2 1 [(5,25,true),(43,36,true),(14,9,true),(10,41,true),(14,9,true),(10,46,true),(20,5,true),(44,36,true),(14,9,true),(10,41,true),(14,9,true),(10,46,true),(20,5,true),(44,36,false)] 49 ((Xw i n fine Y)) (B6 n Y ex sty sd wd (Nat.add i 1) false (i2 Z i [(Y i 0),(c8 (Y i 1) (2)),(c8 (Y i 2) (2)),(c8 (Y i 3) (2)),(c8 (Y i 4) (2)),(c8 (Y i 5) (2)),(c8 (Y i 6) (2))])) [.h,J1,J2] [1,3,4,22,23,24] [] ⟨f7 (by kernel_rfl) rfl (by kernel_rfl),trivial⟩ (by have:=n7 (hY i);(try simp only [b1,b4,b5,b6,b7,b8,b9,b29,b30,b31,b32,b33,b34,b35,gS,W8,W1,Y1,Z2,gF,U9,W9,K6,cZ,P2,aC,cL,B2,A0,B9,C6,Q2,x6,Xw]);(try simp only [gT] at *);try omega) ?_
    exact ih false (by omega) (fun e=>absurd e (by decide))
   rcases ci (Y i 4) (0) with ⟨b36,b36p⟩|⟨b36,b36p⟩
   ·refine t8 2 1 [(5,25,true),(43,36,true),(14,9,true),(10,41,true),(14,9,true),(10,46,true),(20,5,true),(44,36,true),(14,9,true),(10,41,true),(14,9,true),(10,46,true),(20,5,true),(44,36,false)] 49 ((Xw i n fine Y)) (B6 n Y ex sty sd wd (Nat.add i 1) false (i2 Z i [(Y i 0),(c8 (Y i 1) (2)),(c8 (Y i 2) (2)),(c8 (Y i 3) (2)),(c8 (Y i 4) (2)),(c8 (Y i 5) (2)),(c8 (Y i 6) (2))])) [.h,J1,J2] [1,3,4,22,23,24] [] ⟨f7 (by kernel_rfl) rfl (by kernel_rfl),trivial⟩ (by have:=n7 (hY i);(try simp only [b1,b4,b5,b6,b7,b8,b9,b29,b30,b31,b32,b33,b34,b35,b36,gS,W8,W1,Y1,Z2,gF,U9,W9,K6,cZ,P2,aC,cL,B2,A0,B9,C6,Q2,x6,Xw]);(try simp only [gT] at *);try omega) ?_
    exact ih false (by omega) (fun e=>absurd e (by decide))
   rcases cl (-32000) (Y i 5) with ⟨b37,b37p⟩|⟨b37,b37p⟩
   ·refine t8 2 1 [(5,25,true),(43,36,true),(14,9,true),(10,41,true),(14,9,true),(10,46,true),(20,5,true),(44,36,true),(14,9,true),(10,41,true),(14,9,true),(10,46,true),(20,5,true),(44,36,true),(14,9,false)] 54 ((r8 i n (a6 fine (t6 Y i (u3 Y i (u7 Y i (w4 Y i (aF Y i (a6 (K6 Y i) (oS Y i (a6 (Bool.not (f9 (-32000) (Y i 5))) (x6 Y i n)))))))))))) (B6 n Y ex sty sd wd (Nat.add i 1) false (i2 Z i [(Y i 0),(c8 (Y i 1) (2)),(c8 (Y i 2) (2)),(c8 (Y i 3) (2)),(c8 (Y i 4) (2)),(c8 (Y i 5) (2)),(c8 (Y i 6) (2))])) [.h,J1,J2] [1,3,4,22,23,24] [] ⟨f7 (by kernel_rfl) rfl (by kernel_rfl),trivial⟩ (by have:=n7 (hY i);(try simp only [b1,b4,b5,b6,b7,b8,b9,b29,b30,b31,b32,b33,b34,b35,b36,b37,gS,W8,W1,Y1,Z2,gF,U9,W9,K6,cZ,P2,aC,cL,B2,A0,B9,C6,Q2,x6,r8,t6,u3,u7,w4,aF,oS]);(try simp only [gT] at *);try omega) ?_
    exact ih false (by omega) (fun e=>absurd e (by decide))
   rcases cl (Y i 5) (32000) with ⟨b38,b38p⟩|⟨b38,b38p⟩
   ·refine t8 2 1 [(5,25,true),(43,36,true),(14,9,true),(10,41,true),(14,9,true),(10,46,true),(20,5,true),(44,36,true),(14,9,true),(10,41,true),(14,9,true),(10,46,true),(20,5,true),(44,36,true),(14,9,true),(10,41,false)] 44 ((r8 i n (a6 fine (t6 Y i (u3 Y i (u7 Y i (w4 Y i (aF Y i (a6 (K6 Y i) (oS Y i (Jc Y i n))))))))))) (B6 n Y ex sty sd wd (Nat.add i 1) false (i2 Z i [(Y i 0),(c8 (Y i 1) (2)),(c8 (Y i 2) (2)),(c8 (Y i 3) (2)),(c8 (Y i 4) (2)),(c8 (Y i 5) (2)),(c8 (Y i 6) (2))])) [.h,J1,J2] [1,3,4,22,23,24] [] ⟨f7 (by kernel_rfl) rfl (by kernel_rfl),trivial⟩ (by have:=n7 (hY i);(try simp only [b1,b4,b5,b6,b7,b8,b9,b29,b30,b31,b32,b33,b34,b35,b36,b37,b38,gS,W8,W1,Y1,Z2,gF,U9,W9,K6,cZ,P2,aC,cL,B2,A0,B9,C6,Q2,x6,Jc,r8,t6,u3,u7,w4,aF,oS]);(try simp only [gT] at *);try omega) ?_
    exact ih false (by omega) (fun e=>absurd e (by decide))
   rcases cl (-32000) (Y i 6) with ⟨b39,b39p⟩|⟨b39,b39p⟩
   ·refine t8 2 1 [(5,25,true),(43,36,true),(14,9,true),(10,41,true),(14,9,true),(10,46,true),(20,5,true),(44,36,true),(14,9,true),(10,41,true),(14,9,true),(10,46,true),(20,5,true),(44,36,true),(14,9,true),(10,41,true),(14,9,false)] 49 ((r8 i n (a6 fine (t6 Y i (u3 Y i (u7 Y i (w4 Y i (aF Y i (a6 (K6 Y i) (oS Y i (Jd Y i n))))))))))) (B6 n Y ex sty sd wd (Nat.add i 1) false (i2 Z i [(Y i 0),(c8 (Y i 1) (2)),(c8 (Y i 2) (2)),(c8 (Y i 3) (2)),(c8 (Y i 4) (2)),(c8 (Y i 5) (2)),(c8 (Y i 6) (2))])) [.h,J1,J2] [1,3,4,22,23,24] [] ⟨f7 (by kernel_rfl) rfl (by kernel_rfl),trivial⟩ (by have:=n7 (hY i);(try simp only [b1,b4,b5,b6,b7,b8,b9,b29,b30,b31,b32,b33,b34,b35,b36,b37,b38,b39,gS,W8,W1,Y1,Z2,gF,U9,W9,K6,cZ,P2,aC,cL,B2,A0,B9,C6,Q2,x6,Jd,r8,t6,u3,u7,w4,aF,oS]);(try simp only [gT] at *);try omega) ?_
    exact ih false (by omega) (fun e=>absurd e (by decide))
   rcases cl (Y i 6) (32000) with ⟨b40,b40p⟩|⟨b40,b40p⟩
   ·refine t8 2 1 [(5,25,true),(43,36,true),(14,9,true),(10,41,true),(14,9,true),(10,46,true),(20,5,true),(44,36,true),(14,9,true),(10,41,true),(14,9,true),(10,46,true),(20,5,true),(44,36,true),(14,9,true),(10,41,true),(14,9,true),(10,46,false)] 39 ((r8 i n (a6 fine (t6 Y i (u3 Y i (u7 Y i (w4 Y i (aF Y i (a6 (K6 Y i) (oS Y i (Je Y i n))))))))))) (B6 n Y ex sty sd wd (Nat.add i 1) false (i2 Z i [(Y i 0),(c8 (Y i 1) (2)),(c8 (Y i 2) (2)),(c8 (Y i 3) (2)),(c8 (Y i 4) (2)),(c8 (Y i 5) (2)),(c8 (Y i 6) (2))])) [.h,J1,J2] [1,3,4,22,23,24] [] ⟨f7 (by kernel_rfl) rfl (by kernel_rfl),trivial⟩ (by have:=n7 (hY i);(try simp only [b1,b4,b5,b6,b7,b8,b9,b29,b30,b31,b32,b33,b34,b35,b36,b37,b38,b39,b40,gS,W8,W1,Y1,Z2,gF,U9,W9,K6,cZ,P2,aC,cL,B2,A0,B9,C6,Q2,x6,Je,r8,t6,u3,u7,w4,aF,oS]);(try simp only [gT] at *);try omega) ?_
    exact ih false (by omega) (fun e=>absurd e (by decide))
   refine t8 2 1 [(5,25,true),(43,36,true),(14,9,true),(10,41,true),(14,9,true),(10,46,true),(20,5,true),(44,36,true),(14,9,true),(10,41,true),(14,9,true),(10,46,true),(20,5,true),(44,36,true),(14,9,true),(10,41,true),(14,9,true),(10,46,true),(20,5,true)] 43 ((r8 i n (a6 fine (t6 Y i (u3 Y i (u7 Y i (w4 Y i (aF Y i (a6 (K6 Y i) (oS Y i (a6 (f9 (-32000) (Y i 5)) (a6 (f9 (Y i 5) (32000)) (a6 (f9 (-32000) (Y i 6)) (a6 (f9 (Y i 6) (32000)) (a6 (W8 Y i) (x6 Y i n)))))))))))))))) (B6 n Y ex sty sd wd (Nat.add i 1) (Bool.and (c9 (Y i 5) (0)) (Bool.and (c9 (Y i 6) (0)) true)) (i2 Z i [(Y i 0),(c8 (Y i 1) (2)),(c8 (Y i 2) (2)),(c8 (Y i 3) (2)),(c8 (Y i 4) (2)),(c8 (Y i 5) (2)),(c8 (Y i 6) (2))])) [.h,J1,J2] [1,3,4,22,23,24] [] ⟨f7 (by kernel_rfl) rfl (by kernel_rfl),trivial⟩ (by have:=n7 (hY i);(try simp only [b1,b4,b5,b6,b7,b8,b9,b29,b30,b31,b32,b33,b34,b35,b36,b37,b38,b39,b40,gS,W8,W1,Y1,Z2,gF,U9,W9,K6,cZ,P2,aC,cL,B2,A0,B9,C6,Q2,x6,r8,t6,u3,u7,w4,aF,oS]);(try simp only [gT] at *);try omega) ?_
   exact ih (Bool.and (c9 (Y i 5) (0)) (Bool.and (c9 (Y i 6) (0)) true)) (by omega) (fun e=>⟨b4,by unfold Z3;(try simp only [R6,E2] at e);omega⟩)
theorem Rl:a7 En 1 (RU n Y ex sty sd wd) (QG n Y):=by
 refine ar 1 [] 31 (a6 (a6 (a6 (Nat.beq n n) (a6 (Nat.ble n 1099511627776) (Nat.ble (Nat.mul 56 n) 1099511627776))) true) true) (B6 n Y ex sty sd wd 0 true (fun _ _=>0)) [.h,J1,J2] [1,3,4,22,23,24] [] (by (try simp only [gS]);(try simp only [gT] at *);try omega) ?_
 exact JI hY hn (n - 0) 0 true (fun _ _=>0) rfl (by omega) (fun j k=>by constructor <;> decide) (fun j hj=>by omega) (fun _ j hj=>by omega)
end
section
variable (m:Nat) (V:Nat→Bool) (Y:Nat→Nat→Int) (ex sty vert:Bool) (sc:Int) (i:Nat) (ok:Bool) (e_1:Int) (j k:Nat) (W:Nat→Bool) (O:Nat→Nat→Int) (e_2:Int) (zv:Bool) (zA zL:Int) (q:Nat) (K:Nat→Nat→Int)
def O1:St:=⟨o4 (d9 En 38 [(.sa .h 0 m 3),(.bool vert),(zi sc),(zi (0))] false),[],[(.h,(o3 m V Y ex sty))],J1,1⟩
def Jh:St:=⟨(fr 38 66 (ts [0,1,8,9,10,11,14,26,27,28,58,59,60,61] [.sa .h 0 m 3,.bool vert,.ptr J1 0,zi (0),.ptr J2 0,.bool ok,.tup [],.sa .h 0 m 3,zn m,zn i,.tup [],.tup [],.tup [],.tup []]) [cA En 38 (pb 500),lA En 38 (pb 500),.blk 0,cA En 38 (pb 63)]),[],(zs [(o3 m V Y ex sty),(ce 115 [(zi (0)),(zi (0)),.nils]),(ce 140 [(.ptr J3 0)]),(ce 142 [(zi sc),(zi (0)),.nils])]),J4,1⟩
def Xz:St:=⟨(fr 57 26 (ts [1,5,8,9,10] [.bool vert,.ptr J1 0,.sa .h 0 m 3,zn m,zn i]) [cA En 57 (pb 116),lA En 57 (pb 116),.blk 0,cA En 57 (pb 15)]),[(fr 38 66 (ts [8,9,10,14,58,59,60,61] [.ptr J2 0,zi (0),.ptr J3 0,.tup [],.tup [],.tup [],.tup [],.tup []]) [rA En 38 (pb 508) 2,cA En 38 (pb 509),cA En 38 (pb 255)])],(zs [(o3 m V Y ex sty),(ce 34 [.nils]),(ce 115 [(zi (0)),(zi (0)),.nils]),(ce 140 [(.ptr J4 0)]),(ce 142 [(zi sc),(zi (0)),.nils])]),J5,1⟩
def RW:St:=⟨cf (Ri (0)) J5 [],[(fr 64 14 (ts [1,7,8] [.fn 65 [] [],.nils,zi (0)]) [rA En 64 (pb 3) 4]),(fr 57 26 (ts [5] [.ptr J1 0]) [rA En 57 (pb 30) 1,cA En 57 (pb 31)]),(fr 38 66 (ts [8,9,10,14,58,59,60,61] [.ptr J2 0,zi (0),.ptr J3 0,.tup [],.tup [],.tup [],.tup [],.tup []]) [rA En 38 (pb 508) 2,cA En 38 (pb 509),cA En 38 (pb 255)])],(zs [(o3 m V Y ex sty),(ce 34 [.nils]),(ce 115 [(zi (0)),(zi (0)),.nils]),(ce 140 [(.ptr J4 0)]),(ce 142 [(zi sc),(zi (0)),.nils])]),J5,1⟩
def Rm:St:=⟨(fr 57 26 (ts [1,5,8,9,10] [.bool vert,.ptr J1 0,.sa .h 0 m 3,zn m,zn i]) [cA En 57 (pb 116),lA En 57 (pb 116),.blk 0,cA En 57 (pb 15)]),[(fr 38 66 (ts [8,9,10,14,58,59,60,61] [.ptr J2 0,zi (0),.ptr J3 0,.tup [],.tup [],.tup [],.tup [],.tup []]) [rA En 38 (pb 508) 2,cA En 38 (pb 509),cA En 38 (pb 255)])],(zs [(o3 m V Y ex sty),(ce 34 [(.sa J4 0 k 3)]),(ce 115 [(zi (0)),(zi (0)),.nils]),(ce 140 [(.ptr J5 0)]),(o3 k W O false false),(ce 142 [(zi sc),(zi (0)),.nils])]),J6,1⟩
def RX:St:=⟨cf (Ri (wr .u64 (.ofNat k))) J6 [],[(fr 64 14 (ts [1,7,8] [.fn 65 [] [],.sa J1 0 k 3,zn k]) [rA En 64 (pb 3) 4]),(fr 57 26 (ts [5] [.ptr J2 0]) [rA En 57 (pb 30) 1,cA En 57 (pb 31)]),(fr 38 66 (ts [8,9,10,14,58,59,60,61] [.ptr J3 0,zi (0),.ptr J4 0,.tup [],.tup [],.tup [],.tup [],.tup []]) [rA En 38 (pb 508) 2,cA En 38 (pb 509),cA En 38 (pb 255)])],(zs [(o3 m V Y ex sty),(o3 k W O false false),(ce 34 [(.sa J1 0 k 3)]),(ce 115 [(zi (0)),(zi (0)),.nils]),(ce 140 [(.ptr J5 0)]),(ce 142 [(zi sc),(zi (0)),.nils])]),J6,1⟩
def Ya:St:=⟨(fr 78 53 (ts [0,1,2,3,8] [.sa J1 0 k 3,zi (0),zn k,.fn 65 [] [],zn (Nat.succ j)]) [cA En 78 (pb 12),lA En 78 (pb 12),.blk 0]),[(fr 75 148 oO [rA En 75 (pb 1812) 4,cA En 75 (pb 1813),cA En 75 (pb 227),.blk 1,lA En 75 (pb 28),.blk 0]),(fr 64 14 oO [rA En 64 (pb 3) 6]),(fr 57 26 (ts [5] [.ptr J2 0]) [rA En 57 (pb 30) 1,cA En 57 (pb 31)]),(fr 38 66 (ts [8,9,10,14,58,59,60,61] [.ptr J3 0,zi (0),.ptr J4 0,.tup [],.tup [],.tup [],.tup [],.tup []]) [rA En 38 (pb 508) 2,cA En 38 (pb 509),cA En 38 (pb 255)])],(zs [(o3 m V Y ex sty),(o3 k W O false false),(ce 34 [(.sa J1 0 k 3)]),(ce 115 [(zi (0)),(zi (0)),.nils]),(ce 140 [(.ptr J5 0)]),(ce 142 [(zi sc),(zi (0)),.nils])]),J6,1⟩
def Rn:St:=⟨(fr 68 32 (ts [0,3,7,8,9] [.yl J1,.ptr J2 0,.sa J3 0 k 3,zn k,zn j]) [cA En 68 (pb 28),lA En 68 (pb 28),.blk 0]),[⟨38,66,(ts [8,9,10] [.ptr J4 0,zi (0),.ptr J5 0]),[.inRF J1,.blk 2,cA En 38 (pb 255)],[.mark J6],.run,false,false,none⟩],(zs [(o3 m V Y ex sty),(.loop .ready (none) 38 66 ⟨⟨⟨⟨⟨⟨.any,.any,.any,.any⟩,⟨.any,.any,.any,.any⟩,⟨.any,.any,.any,.any⟩,⟨.any,.any,.any,.any⟩⟩,⟨⟨.any,.any,.any,.any⟩,⟨.any,.any,.any,.any⟩,⟨.any,.any,.any,.any⟩,⟨.any,.any,.any,.any⟩⟩,⟨⟨.any,.any,.any,.any⟩,⟨.any,.any,.any,.any⟩,⟨.any,.any,.any,.any⟩,⟨.any,.any,.any,.any⟩⟩,⟨⟨.any,.any,.any,.any⟩,⟨.any,.any,.any,.any⟩,⟨.any,.any,.any,.any⟩,⟨.any,.any,.any,.any⟩⟩⟩,⟨⟨⟨.any,.any,.any,.any⟩,⟨.any,.any,.any,.any⟩,⟨.any,.any,.any,.any⟩,⟨.any,.any,.any,.any⟩⟩,⟨⟨.any,.any,.any,.any⟩,⟨.any,.any,.any,.any⟩,⟨.any,.any,.any,.any⟩,⟨.any,.any,.any,.any⟩⟩,⟨⟨.any,.any,.any,.any⟩,⟨.any,.any,.any,.any⟩,⟨.any,.any,.any,.any⟩,⟨.any,.any,.any,.any⟩⟩,⟨⟨.any,.any,.any,.any⟩,⟨.any,.any,.any,.any⟩,⟨.any,.any,.any,.any⟩,⟨.any,.any,.any,.any⟩⟩⟩,⟨⟨⟨(.ptr J4 0),.any,.any,.any⟩,⟨.any,.any,.any,.any⟩,⟨.any,.any,.any,.any⟩,⟨.any,.any,.any,.any⟩⟩,⟨⟨.any,.any,.any,.any⟩,⟨.any,.any,.any,.any⟩,⟨.any,.any,.any,.any⟩,⟨.any,.any,.any,.any⟩⟩,⟨⟨.any,.any,.any,.any⟩,⟨.any,.any,.any,.any⟩,⟨.any,.any,.any,.any⟩,⟨.any,.any,.any,.any⟩⟩,⟨⟨.any,.any,.any,.any⟩,⟨.any,.any,.any,.any⟩,⟨.any,.any,.any,.any⟩,⟨.any,.any,.any,.any⟩⟩⟩,⟨⟨⟨.any,.any,.any,.any⟩,⟨.any,.any,.any,.any⟩,⟨.any,.any,.any,.any⟩,⟨.any,.any,.any,.any⟩⟩,⟨⟨.any,.any,.any,.any⟩,⟨.any,.any,.any,.any⟩,⟨.any,.any,.any,.any⟩,⟨.any,.any,.any,.any⟩⟩,⟨⟨.any,.any,.any,.any⟩,⟨.any,.any,.any,.any⟩,⟨.any,.any,.any,.any⟩,⟨.any,.any,.any,.any⟩⟩,⟨⟨xu,.any,.any,.any⟩,⟨.any,.any,.any,.any⟩,⟨.any,.any,.any,.any⟩,⟨.any,.any,.any,.any⟩⟩⟩⟩,⟨⟨⟨⟨.any,.any,.any,.any⟩,⟨.any,.any,.any,.any⟩,⟨.any,.any,.any,.any⟩,⟨.any,.any,.any,.any⟩⟩,⟨⟨.any,.any,.any,.any⟩,⟨.any,.any,.any,.any⟩,⟨.any,.any,.any,.any⟩,⟨.any,.any,.any,.any⟩⟩,⟨⟨.any,.any,.any,.any⟩,⟨.any,.any,.any,.any⟩,⟨.any,.any,.any,.any⟩,⟨.any,.any,.any,.any⟩⟩,⟨⟨.any,.any,.any,.any⟩,⟨.any,.any,.any,.any⟩,⟨.any,.any,.any,.any⟩,⟨.any,.any,.any,.any⟩⟩⟩,⟨⟨⟨.any,.any,.any,.any⟩,⟨.any,.any,.any,.any⟩,⟨.any,.any,.any,.any⟩,⟨.any,.any,.any,.any⟩⟩,⟨⟨.any,.any,.any,.any⟩,⟨.any,.any,.any,.any⟩,⟨.any,.any,.any,.any⟩,⟨.any,.any,.any,.any⟩⟩,⟨⟨.any,.any,.any,.any⟩,⟨.any,.any,.any,.any⟩,⟨.any,.any,.any,.any⟩,⟨.any,.any,.any,.any⟩⟩,⟨⟨.any,.any,.any,.any⟩,⟨.any,.any,.any,.any⟩,⟨.any,.any,.any,.any⟩,⟨.any,.any,.any,.any⟩⟩⟩,⟨⟨⟨(zi (0)),.any,.any,.any⟩,⟨.any,.any,.any,.any⟩,⟨.any,.any,.any,.any⟩,⟨.any,.any,.any,.any⟩⟩,⟨⟨.any,.any,.any,.any⟩,⟨.any,.any,.any,.any⟩,⟨.any,.any,.any,.any⟩,⟨.any,.any,.any,.any⟩⟩,⟨⟨.any,.any,.any,.any⟩,⟨.any,.any,.any,.any⟩,⟨.any,.any,.any,.any⟩,⟨.any,.any,.any,.any⟩⟩,⟨⟨(.fn 68 [] [(.ptr J7 0)]),.any,.any,.any⟩,⟨.any,.any,.any,.any⟩,⟨.any,.any,.any,.any⟩,⟨.any,.any,.any,.any⟩⟩⟩,⟨⟨⟨.any,.any,.any,.any⟩,⟨.any,.any,.any,.any⟩,⟨.any,.any,.any,.any⟩,⟨.any,.any,.any,.any⟩⟩,⟨⟨.any,.any,.any,.any⟩,⟨.any,.any,.any,.any⟩,⟨.any,.any,.any,.any⟩,⟨.any,.any,.any,.any⟩⟩,⟨⟨.any,.any,.any,.any⟩,⟨.any,.any,.any,.any⟩,⟨.any,.any,.any,.any⟩,⟨.any,.any,.any,.any⟩⟩,⟨⟨xu,.any,.any,.any⟩,⟨.any,.any,.any,.any⟩,⟨.any,.any,.any,.any⟩,⟨.any,.any,.any,.any⟩⟩⟩⟩,⟨⟨⟨⟨.any,.any,.any,.any⟩,⟨.any,.any,.any,.any⟩,⟨.any,.any,.any,.any⟩,⟨.any,.any,.any,.any⟩⟩,⟨⟨.any,.any,.any,.any⟩,⟨.any,.any,.any,.any⟩,⟨.any,.any,.any,.any⟩,⟨.any,.any,.any,.any⟩⟩,⟨⟨.any,.any,.any,.any⟩,⟨.any,.any,.any,.any⟩,⟨.any,.any,.any,.any⟩,⟨.any,.any,.any,.any⟩⟩,⟨⟨.any,.any,.any,.any⟩,⟨.any,.any,.any,.any⟩,⟨.any,.any,.any,.any⟩,⟨.any,.any,.any,.any⟩⟩⟩,⟨⟨⟨.any,.any,.any,.any⟩,⟨.any,.any,.any,.any⟩,⟨.any,.any,.any,.any⟩,⟨.any,.any,.any,.any⟩⟩,⟨⟨.any,.any,.any,.any⟩,⟨.any,.any,.any,.any⟩,⟨.any,.any,.any,.any⟩,⟨.any,.any,.any,.any⟩⟩,⟨⟨.any,.any,.any,.any⟩,⟨.any,.any,.any,.any⟩,⟨.any,.any,.any,.any⟩,⟨.any,.any,.any,.any⟩⟩,⟨⟨.any,.any,.any,.any⟩,⟨.any,.any,.any,.any⟩,⟨.any,.any,.any,.any⟩,⟨.any,.any,.any,.any⟩⟩⟩,⟨⟨⟨(.ptr J5 0),.any,.any,.any⟩,⟨.any,.any,.any,.any⟩,⟨.any,.any,.any,.any⟩,⟨.any,.any,.any,.any⟩⟩,⟨⟨.any,.any,.any,.any⟩,⟨.any,.any,.any,.any⟩,⟨.any,.any,.any,.any⟩,⟨.any,.any,.any,.any⟩⟩,⟨⟨.any,.any,.any,.any⟩,⟨.any,.any,.any,.any⟩,⟨.any,.any,.any,.any⟩,⟨.any,.any,.any,.any⟩⟩,⟨⟨xu,.any,.any,.any⟩,⟨.any,.any,.any,.any⟩,⟨.any,.any,.any,.any⟩,⟨.any,.any,.any,.any⟩⟩⟩,⟨⟨⟨xu,.any,.any,.any⟩,⟨.any,.any,.any,.any⟩,⟨.any,.any,.any,.any⟩,⟨.any,.any,.any,.any⟩⟩,⟨⟨.any,.any,.any,.any⟩,⟨.any,.any,.any,.any⟩,⟨.any,.any,.any,.any⟩,⟨.any,.any,.any,.any⟩⟩,⟨⟨.any,.any,.any,.any⟩,⟨.any,.any,.any,.any⟩,⟨.any,.any,.any,.any⟩,⟨.any,.any,.any,.any⟩⟩,⟨⟨.any,.any,.any,.any⟩,⟨.any,.any,.any,.any⟩,⟨.any,.any,.any,.any⟩,⟨.any,.any,.any,.any⟩⟩⟩⟩,⟨⟨⟨⟨.any,.any,.any,.any⟩,⟨.any,.any,.any,.any⟩,⟨.any,.any,.any,.any⟩,⟨.any,.any,.any,.any⟩⟩,⟨⟨.any,.any,.any,.any⟩,⟨.any,.any,.any,.any⟩,⟨.any,.any,.any,.any⟩,⟨.any,.any,.any,.any⟩⟩,⟨⟨.any,.any,.any,.any⟩,⟨.any,.any,.any,.any⟩,⟨.any,.any,.any,.any⟩,⟨.any,.any,.any,.any⟩⟩,⟨⟨.any,.any,.any,.any⟩,⟨.any,.any,.any,.any⟩,⟨.any,.any,.any,.any⟩,⟨.any,.any,.any,.any⟩⟩⟩,⟨⟨⟨.any,.any,.any,.any⟩,⟨.any,.any,.any,.any⟩,⟨.any,.any,.any,.any⟩,⟨.any,.any,.any,.any⟩⟩,⟨⟨.any,.any,.any,.any⟩,⟨.any,.any,.any,.any⟩,⟨.any,.any,.any,.any⟩,⟨.any,.any,.any,.any⟩⟩,⟨⟨.any,.any,.any,.any⟩,⟨.any,.any,.any,.any⟩,⟨.any,.any,.any,.any⟩,⟨.any,.any,.any,.any⟩⟩,⟨⟨.any,.any,.any,.any⟩,⟨.any,.any,.any,.any⟩,⟨.any,.any,.any,.any⟩,⟨.any,.any,.any,.any⟩⟩⟩,⟨⟨⟨.any,.any,.any,.any⟩,⟨.any,.any,.any,.any⟩,⟨.any,.any,.any,.any⟩,⟨.any,.any,.any,.any⟩⟩,⟨⟨.any,.any,.any,.any⟩,⟨.any,.any,.any,.any⟩,⟨.any,.any,.any,.any⟩,⟨.any,.any,.any,.any⟩⟩,⟨⟨.any,.any,.any,.any⟩,⟨.any,.any,.any,.any⟩,⟨.any,.any,.any,.any⟩,⟨.any,.any,.any,.any⟩⟩,⟨⟨xu,.any,.any,.any⟩,⟨.any,.any,.any,.any⟩,⟨.any,.any,.any,.any⟩,⟨.any,.any,.any,.any⟩⟩⟩,⟨⟨⟨.any,.any,.any,.any⟩,⟨.any,.any,.any,.any⟩,⟨.any,.any,.any,.any⟩,⟨.any,.any,.any,.any⟩⟩,⟨⟨.any,.any,.any,.any⟩,⟨.any,.any,.any,.any⟩,⟨.any,.any,.any,.any⟩,⟨.any,.any,.any,.any⟩⟩,⟨⟨.any,.any,.any,.any⟩,⟨.any,.any,.any,.any⟩,⟨.any,.any,.any,.any⟩,⟨.any,.any,.any,.any⟩⟩,⟨⟨.any,.any,.any,.any⟩,⟨.any,.any,.any,.any⟩,⟨.any,.any,.any,.any⟩,⟨.any,.any,.any,.any⟩⟩⟩⟩⟩,.e⟩ [58] (U3 (A8 En 38) [1,1,1,1,1,1,0,1,0,0]) (U3 (A8 En 38) [1,1,1,1,1,1,0,1,0,1]) J6),(ce 72 [(.bool zv),(zi zA),(zi zL)]),(o3 k W O false false),(ce 115 [(zi (0)),(zi (0)),.nils]),(ce 140 [(.ptr J8 0)]),(.dfr false),(ce 34 [(.sa J3 0 k 3)]),(ce 142 [(zi sc),(zi (0)),(.sa J9 0 (Nat.succ q) 2)]),(.arr (Nat.succ q) 2 (a8 [.i64,.i64] K) none 159 false false)]),nQ,1⟩
end
end Go.Proofs.Ytoahnefofelglaa.gm
end
