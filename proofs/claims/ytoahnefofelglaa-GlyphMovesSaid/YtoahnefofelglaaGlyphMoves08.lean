/- A part of the proof of GlyphMoves; no condition. -/
import Derived.Test.YtoahnefofelglaaGlyphMoves07
set_option linter.unusedVariables false
set_option linter.unusedSimpArgs false
set_option linter.unusedSectionVars false
section
namespace Go.Proofs.Ytoahnefofelglaa.gm
open Go Go.AM
noncomputable abbrev fd0 (d n:Int) (zz:Bool):Bool:=(band (band (band (Bool.not (ieq d (0))) (r64 (Int.tdiv n d))) (band (Bool.not (ieq d (0))) true)) zz)
noncomputable abbrev fd1 (n d:Int) (zz:Bool):Bool:=(band (Bool.not (Bool.not (ieq n n))) (band (Bool.not (Bool.not (ieq d d))) zz))
noncomputable def fdmX (n:Int) (d:Int):St:=⟨getF (enterA En 20 [(.int .i64 n),(.int .i64 d)] false),[],[],.h,0⟩
theorem fden (n:Int) (d:Int):enterA En 20 [(.int .i64 n),(.int .i64 d)] false=some (fdmX n d).f:=by kernel_rfl
theorem fd_facts {n d:Int} (h:2≤d):(¬ Int.tmod n d < 0→Int.tdiv n d=n / d)∧(Int.tmod n d < 0→Int.tdiv n d - 1=n / d):=by
  rw [Int.tdiv_eq_ediv,Int.tmod_eq_emod]
  have e1:=Int.emod_nonneg n (b:=d) (by omega)
  have e2:=Int.emod_lt_of_pos n (b:=d) (by omega)
  have e3:d.sign=1:=Int.sign_eq_one_of_pos (by omega)
  by_cases c:0≤n∨d ∣ n
  · rw [if_pos c,if_pos c];constructor <;> intro k <;> omega
  · rw [if_neg c,if_neg c,e3];constructor <;> intro k <;> omega
theorem fd_rng {n d:Int} (h:2≤d) (hn : -9223372036854775808≤n∧n≤9223372036854775807) : -4611686018427387904≤Int.tdiv n d∧Int.tdiv n d≤4611686018427387904:=by
  have e:=Int.natAbs_tdiv n d
  have e2:n.natAbs.div d.natAbs≤n.natAbs / 2:=Nat.div_le_div_left (by omega) (by omega)
  rw [← e] at e2
  omega
theorem fdm_ok {n d:Int} (hh1:2≤d) (hh2 : -9223372036854775808≤n∧n≤9223372036854775807):EndsX En 0 (fdmX n d) (fun v _=>v=.int .i64 (fdv n d)):=by
  have hr:=fd_rng hh1 hh2
  have hf:=fd_facts (n:=n) hh1
  have h1:¬ Int.tmod n d < 0→AV.int .i64 (Int.tdiv n d)=AV.int .i64 (fdv n d):=fun k=>congrArg _ (hf.1 k)
  have h2:Int.tmod n d < 0→AV.int .i64 (Int.sub (Int.tdiv n d) 1)=AV.int .i64 (fdv n d):=fun k=>congrArg _ (hf.2 k)
  cases b1:(ilt (Int.tmod n d) (0))
  · have b1p:=of_f (ilt_iff _ _) b1
    refine fiT tzOk 0 [(19,12,false)] 9 ((fd0 d n (band (Bool.not (ilt (Int.tmod n d) (0))) true))) [] (.int .i64 (Int.tdiv n d)) [] .h (by (try simp only [b1,gS,fd0]);(try simp only [gT] at *);try omega) ?_
    exact h1 b1p
  · have b1p:=of_t (ilt_iff _ _) b1
    refine fiT tzOk 0 [(19,12,true)] 13 ((fd0 d n (band (ilt (Int.tmod n d) (0)) (band (r64 (Int.sub (Int.tdiv n d) (1))) true)))) [] (.int .i64 (Int.sub (Int.tdiv n d) (1))) [] .h (by (try simp only [b1,gS,fd0]);(try simp only [gT] at *);try omega) ?_
    exact h2 b1p
noncomputable def ccmX (n:Int) (d:Int):St:=⟨getF (enterA En 67 [(.int .i64 n),(.int .i64 d)] false),[],[],.h,0⟩
theorem ccen (n:Int) (d:Int):enterA En 67 [(.int .i64 n),(.int .i64 d)] false=some (ccmX n d).f:=by kernel_rfl
theorem ccm_ok {n d:Int}:EndsX En 0 (ccmX n d) (fun v _=>v=.int .i64 (iite (ilt n d) (-1) (iite (ilt d n) 1 0))):=by
  cases b1:(ilt n d)
  · have b1p:=of_f (ilt_iff _ _) b1
    cases b2:(ilt d n)
    · have b2p:=of_f (ilt_iff _ _) b2
      refine fiT tzOk 0 [(47,11,false),(7,13,false),(9,16,false),(9,19,false)] 8 ((fd1 n d (band (Bool.not (ilt n d)) (band (Bool.not (ilt d n)) true)))) [] (.int .i64 (0)) [] .h (by (try simp only [b1,b2,gS,fd1]);(try simp only [gT] at *);try omega) ?_
      rfl
    · have b2p:=of_t (ilt_iff _ _) b2
      refine fiT tzOk 0 [(47,11,false),(7,13,false),(9,16,false),(9,19,true)] 7 ((fd1 n d (band (Bool.not (ilt n d)) (band (ilt d n) true)))) [] (.int .i64 (1)) [] .h (by (try simp only [b1,b2,gS,fd1]);(try simp only [gT] at *);try omega) ?_
      rfl
  · have b1p:=of_t (ilt_iff _ _) b1
    refine fiT tzOk 0 [(47,11,false),(7,13,false),(9,16,true)] 7 ((fd1 n d (band (ilt n d) true))) [] (.int .i64 (-1)) [] .h (by (try simp only [b1,gS,fd1]);(try simp only [gT] at *);try omega) ?_
    rfl
theorem tbOk:TabOk tb En:=fun f args v H S' h γ w s hH ho=>by
  unfold tb at h
  cases hf:Nat.beq f 20 with
  | true =>
    rw [hf] at h
    have ef:=Nat.eq_of_beq_eq_true hf
    subst ef
    simp only at h
    split at h
    · rename_i n d
      injection h with h
      injection h with h1 h2
      injection h2 with h2 h3
      subst h3
      obtain ⟨g1,g2⟩:=band_eq.1 h1
      obtain ⟨g3,g4⟩:=band_eq.1 g2
      subst h2
      have g5 : -9223372036854775808≤n:=(ile_iff _ _).1 g3
      have g6:n≤9223372036854775807:=(ile_iff _ _).1 g4
      have hm:EndsN En 0 (fdmX n d).f [] (fdmX n d).S _:=fdm_ok ((ile_iff _ _).1 g1) ⟨g5,g6⟩
      rw [show (0:Nat)=En.ng from ng0.symm,show (fdmX n d).S=H0 En from by kernel_rfl] at hm
      exact tab_of okE (fden n d) (PureF.of_endsN (plain_of_enter (fden n d) (by intro x hx;cases hx with|head=>rfl|tail _ hx=>cases hx with|head=>rfl|tail _ hx=>cases hx)) rfl hm) H γ w s hH ho
    · cases h
  | false =>
    rw [hf] at h
    dsimp only at h
    cases hf2:Nat.beq f 67 with
    | true =>
      rw [hf2] at h
      have ef:=Nat.eq_of_beq_eq_true hf2
      subst ef
      simp only at h
      split at h
      · rename_i n d
        injection h with h
        injection h with h1 h2
        injection h2 with h2 h3
        subst h3
        subst h2
        have hm:EndsN En 0 (ccmX n d).f [] (ccmX n d).S _:=ccm_ok (n:=n) (d:=d)
        rw [show (0:Nat)=En.ng from ng0.symm,show (ccmX n d).S=H0 En from by kernel_rfl] at hm
        exact tab_of okE (ccen n d) (PureF.of_endsN (plain_of_enter (ccen n d) (by intro x hx;cases hx with|head=>rfl|tail _ hx=>cases hx with|head=>rfl|tail _ hx=>cases hx)) rfl hm) H γ w s hH ho
      · cases h
    | false =>
      rw [hf2] at h
      dsimp only at h
      cases hf3:Nat.beq f 66 with
      | true =>
        rw [hf3] at h
        have ef:=Nat.eq_of_beq_eq_true hf3
        subst ef
        exact tabM_ok okE mixed (tab0_ok En) h γ w s hH ho
      | false=>rw [hf3] at h;cases h
section
variable {x:St} {Q:AV→Hp→Prop}
theorem ar (k:Nat) (l:List (Nat × Nat × Bool)) (K:Nat) (G:Bool) (y:St) (t:List Ps) (ls:List Nat) (lss:List (List Nat))
    (hG:G=true) (hy:EndsX En k y Q)
    (h:(arrB En k k x y (x.run tb En l K) t,x.gd tb En l K,keepF ls (frR x.f (x.run tb En l K)),keepCs lss (csR' (x.run tb En l K)),y.os.map fun p=>AM.T.get (rho En.ng y.nx.idx (hpR (x.run tb En l K)).nx.idx t p.1) (hpR (x.run tb En l K)).hp) =
      (true,G,renF (rho En.ng y.nx.idx (hpR (x.run tb En l K)).nx.idx t) y.f,y.cs.map (renF (rho En.ng y.nx.idx (hpR (x.run tb En l K)).nx.idx t)),y.os.map fun p=>some (renO (rho En.ng y.nx.idx (hpR (x.run tb En l K)).nx.idx t) p.2)):=by kernel_rfl):EndsX En k x Q:=arT tbOk k l K G y t ls lss hG hy h
theorem arF (n:Nat) (k:Nat) (l:List (Nat × Nat × Bool)) (K:Nat) (G:Bool) (y:St) (t:List Ps) (ls:List Nat) (lss:List (List Nat))
    (hr:AllP (fun p=>OE (AM.T.get (rho En.ng y.nx.idx (hpR (x.run tb En l K)).nx.idx t p.1) (hpR (x.run tb En l K)).hp) (renO (rho En.ng y.nx.idx (hpR (x.run tb En l K)).nx.idx t) p.2)) (y.os.drop n))
    (hG:G=true) (hy:EndsX En k y Q)
    (h:(arrB En k k x y (x.run tb En l K) t,x.gd tb En l K,keepF ls (frR x.f (x.run tb En l K)),keepCs lss (csR' (x.run tb En l K)),(y.os.take n).map fun p=>AM.T.get (rho En.ng y.nx.idx (hpR (x.run tb En l K)).nx.idx t p.1) (hpR (x.run tb En l K)).hp) =
      (true,G,renF (rho En.ng y.nx.idx (hpR (x.run tb En l K)).nx.idx t) y.f,y.cs.map (renF (rho En.ng y.nx.idx (hpR (x.run tb En l K)).nx.idx t)),(y.os.take n).map fun p=>some (renO (rho En.ng y.nx.idx (hpR (x.run tb En l K)).nx.idx t) p.2)):=by kernel_rfl):EndsX En k x Q:=arTF tbOk n k l K G y t ls lss hr hG hy h
theorem ac (k:Nat) (l:List (Nat × Nat × Bool)) (K:Nat) (G:Bool) (y:St) (t:List Ps) (lss:List (List Nat))
    (hG:G=true) (hy:EndsX En k y Q)
    (h:(arrB En k k x y (x.run tb En l K) t,x.gd tb En l K,frR x.f (x.run tb En l K),keepCs lss (csR' (x.run tb En l K)),y.os.map fun p=>AM.T.get (rho En.ng y.nx.idx (hpR (x.run tb En l K)).nx.idx t p.1) (hpR (x.run tb En l K)).hp) =
      (true,G,renF (rho En.ng y.nx.idx (hpR (x.run tb En l K)).nx.idx t) y.f,y.cs.map (renF (rho En.ng y.nx.idx (hpR (x.run tb En l K)).nx.idx t)),y.os.map fun p=>some (renO (rho En.ng y.nx.idx (hpR (x.run tb En l K)).nx.idx t) p.2)):=by kernel_rfl):EndsX En k x Q:=acT tbOk k l K G y t lss hG hy h
theorem fi (k:Nat) (l:List (Nat × Nat × Bool)) (K:Nat) (G:Bool) (t:List Ps) (v:AV) (os:List (Ps × AO)) (nx:Ps)
    (hG:G=true) (hq:Q v ⟨tOf os,nx,x.fl⟩)
    (h:(finB En k k x (x.run tb En l K) nx t,x.gd tb En l K,valR (x.run tb En l K),os.map fun p=>AM.T.get (rho En.ng nx.idx (hpR (x.run tb En l K)).nx.idx t p.1) (hpR (x.run tb En l K)).hp) =
      (true,G,renV (rho En.ng nx.idx (hpR (x.run tb En l K)).nx.idx t) v,os.map fun p=>some (renO (rho En.ng nx.idx (hpR (x.run tb En l K)).nx.idx t) p.2)):=by kernel_rfl):EndsX En k x Q:=fiT tbOk k l K G t v os nx hG hq h
end
noncomputable def blmX (x:Int):St:=⟨getF (enterA En 76 [(.int .u64 x)] false),[],[],.h,0⟩
def QB:AV→Hp→Prop:=fun v H=>∃ e:Int,v=.int .i64 e∧H.nx=.h
theorem blm_ok {x:Int} (hx:0≤x∧x≤12):EndsX En 0 (blmX x) QB:=by
  have h:x=0∨x=1∨x=2∨x=3∨x=4∨x=5∨x=6∨x=7∨x=8∨x=9∨x=10∨x=11∨x=12:=by omega
  rcases h with rfl|rfl|rfl|rfl|rfl|rfl|rfl|rfl|rfl|rfl|rfl|rfl|rfl
  · exact EndsX.fin okE mixed tbOk (k:=0) (l:=[]) (K:=200) (G:= true) (t:=[]) (v:=.int .i64 0) (os:=[]) (nx:=.h) (hmk 0) (by kernel_rfl) (by kernel_rfl) rfl (by kernel_rfl) trivial ⟨0,rfl,rfl⟩
  · exact EndsX.fin okE mixed tbOk (k:=0) (l:=[]) (K:=200) (G:= true) (t:=[]) (v:=.int .i64 1) (os:=[]) (nx:=.h) (hmk 0) (by kernel_rfl) (by kernel_rfl) rfl (by kernel_rfl) trivial ⟨1,rfl,rfl⟩
  · exact EndsX.fin okE mixed tbOk (k:=0) (l:=[]) (K:=200) (G:= true) (t:=[]) (v:=.int .i64 2) (os:=[]) (nx:=.h) (hmk 0) (by kernel_rfl) (by kernel_rfl) rfl (by kernel_rfl) trivial ⟨2,rfl,rfl⟩
  · exact EndsX.fin okE mixed tbOk (k:=0) (l:=[]) (K:=200) (G:= true) (t:=[]) (v:=.int .i64 2) (os:=[]) (nx:=.h) (hmk 0) (by kernel_rfl) (by kernel_rfl) rfl (by kernel_rfl) trivial ⟨2,rfl,rfl⟩
  · exact EndsX.fin okE mixed tbOk (k:=0) (l:=[]) (K:=200) (G:= true) (t:=[]) (v:=.int .i64 3) (os:=[]) (nx:=.h) (hmk 0) (by kernel_rfl) (by kernel_rfl) rfl (by kernel_rfl) trivial ⟨3,rfl,rfl⟩
  · exact EndsX.fin okE mixed tbOk (k:=0) (l:=[]) (K:=200) (G:= true) (t:=[]) (v:=.int .i64 3) (os:=[]) (nx:=.h) (hmk 0) (by kernel_rfl) (by kernel_rfl) rfl (by kernel_rfl) trivial ⟨3,rfl,rfl⟩
  · exact EndsX.fin okE mixed tbOk (k:=0) (l:=[]) (K:=200) (G:= true) (t:=[]) (v:=.int .i64 3) (os:=[]) (nx:=.h) (hmk 0) (by kernel_rfl) (by kernel_rfl) rfl (by kernel_rfl) trivial ⟨3,rfl,rfl⟩
  · exact EndsX.fin okE mixed tbOk (k:=0) (l:=[]) (K:=200) (G:= true) (t:=[]) (v:=.int .i64 3) (os:=[]) (nx:=.h) (hmk 0) (by kernel_rfl) (by kernel_rfl) rfl (by kernel_rfl) trivial ⟨3,rfl,rfl⟩
  · exact EndsX.fin okE mixed tbOk (k:=0) (l:=[]) (K:=200) (G:= true) (t:=[]) (v:=.int .i64 4) (os:=[]) (nx:=.h) (hmk 0) (by kernel_rfl) (by kernel_rfl) rfl (by kernel_rfl) trivial ⟨4,rfl,rfl⟩
  · exact EndsX.fin okE mixed tbOk (k:=0) (l:=[]) (K:=200) (G:= true) (t:=[]) (v:=.int .i64 4) (os:=[]) (nx:=.h) (hmk 0) (by kernel_rfl) (by kernel_rfl) rfl (by kernel_rfl) trivial ⟨4,rfl,rfl⟩
  · exact EndsX.fin okE mixed tbOk (k:=0) (l:=[]) (K:=200) (G:= true) (t:=[]) (v:=.int .i64 4) (os:=[]) (nx:=.h) (hmk 0) (by kernel_rfl) (by kernel_rfl) rfl (by kernel_rfl) trivial ⟨4,rfl,rfl⟩
  · exact EndsX.fin okE mixed tbOk (k:=0) (l:=[]) (K:=200) (G:= true) (t:=[]) (v:=.int .i64 4) (os:=[]) (nx:=.h) (hmk 0) (by kernel_rfl) (by kernel_rfl) rfl (by kernel_rfl) trivial ⟨4,rfl,rfl⟩
  exact EndsX.fin okE mixed tbOk (k:=0) (l:=[]) (K:=200) (G:= true) (t:=[]) (v:=.int .i64 4) (os:=[]) (nx:=.h) (hmk 0) (by kernel_rfl) (by kernel_rfl) rfl (by kernel_rfl) trivial ⟨4,rfl,rfl⟩
theorem wr_small {k:Nat} (h:k≤12):0≤wr .u64 (Int.ofNat k)∧wr .u64 (Int.ofNat k)≤12:=by
  have h:k=0∨k=1∨k=2∨k=3∨k=4∨k=5∨k=6∨k=7∨k=8∨k=9∨k=10∨k=11∨k=12:=by omega
  rcases h with rfl|rfl|rfl|rfl|rfl|rfl|rfl|rfl|rfl|rfl|rfl|rfl|rfl <;> exact ⟨(ile_iff _ _).1 (by kernel_rfl),(ile_iff _ _).1 (by kernel_rfl)⟩
section
variable (n:Nat) (Y:Nat→Nat→Int) (ex sty:Bool) (i:Nat) (l:Int)
noncomputable def pcmX:St:=⟨getF (enterA En 15 [(.sa .h 0 n 7)] false),[],[(.h,(o7 n Y ex sty))],J1,1⟩
noncomputable def pchX:St:=⟨(fr 15 40 (ts [3,10,11,12] [zi l,.sa .h 0 n 7,zn n,zn i]) [cA En 15 (pb 244),lA En 15 (pb 244),.blk 0,cA En 15 (pb 31)]),[],[(.h,(o7 n Y ex sty))],J1,1⟩
end
noncomputable abbrev pc0 (i n:Nat):Bool:=(Nat.ble (Nat.succ i) n)
noncomputable abbrev pc1 (Y:Nat→Nat→Int) (i:Nat):Bool:=(Bool.not (ieq (Y i 0) (1)))
noncomputable abbrev pc2 (Y:Nat→Nat→Int) (i:Nat):Bool:=(ile (-16384) (iite (ilt (Y i 2) (Y i 1)) (Y i 2) (Y i 1)))
noncomputable abbrev pc3 (Y:Nat→Nat→Int) (i:Nat):Bool:=(ile (-16384) (iite (ilt (Y i 4) (Y i 3)) (Y i 4) (Y i 3)))
noncomputable abbrev pc4 (Y:Nat→Nat→Int) (i:Nat):Bool:=(Bool.and (ieq (Y i 1) (0)) (Bool.and (ieq (Y i 2) (0)) true))
noncomputable abbrev pc5 (Y:Nat→Nat→Int) (i:Nat):Bool:=(Bool.and (ieq (Y i 3) (0)) (Bool.and (ieq (Y i 4) (0)) true))
noncomputable abbrev pc6 (Y:Nat→Nat→Int) (i:Nat):Bool:=(Bool.not (ile (-16384) (iite (ilt (Y i 6) (Y i 5)) (Y i 6) (Y i 5))))
noncomputable abbrev pc7 (Y:Nat→Nat→Int) (i:Nat):Bool:=(band (r64 (Int.sub (0) (Y i 1))) (band (r64 (Int.sub (0) (Y i 2))) true))
noncomputable abbrev pc8 (Y:Nat→Nat→Int) (i:Nat):Bool:=(band (r64 (Int.sub (0) (Y i 3))) (band (r64 (Int.sub (0) (Y i 4))) true))
noncomputable abbrev pc9 (Y:Nat→Nat→Int) (i:Nat):Bool:=(band (r64 (Int.sub (0) (Y i 5))) (band (r64 (Int.sub (0) (Y i 6))) true))
noncomputable abbrev pc10 (Y:Nat→Nat→Int) (i:Nat):Bool:=(Bool.not (Bool.not (Bool.and (ieq (Y i 5) (0)) (Bool.and (ieq (Y i 6) (0)) true))))
noncomputable abbrev pc11 (i:Nat):Bool:=(band (band (ile (-9223372036854775808) (.ofNat (Nat.add i 1))) (Nat.ble (Nat.add i 1) 9223372036854775807)) true)
noncomputable abbrev pc12 (Y:Nat→Nat→Int) (i:Nat):Int:=(iite (ieq (Y i 0) (1)) (1) (iite (ieq (Y i 0) (2)) (1) (iite (ieq (Y i 0) (3)) (3) (iite (ieq (Y i 0) (4)) (0) (0)))))
noncomputable abbrev pc13 (Y:Nat→Nat→Int) (i:Nat):Bool:=(bite (ieq (Y i 0) (1)) true (bite (ieq (Y i 0) (2)) true (bite (ieq (Y i 0) (3)) true (bite (ieq (Y i 0) (4)) true false))))
noncomputable abbrev pc14 (Y:Nat→Nat→Int) (i:Nat):Bool:=(ile (pc12 Y i) (1))
noncomputable abbrev pc15 (Y:Nat→Nat→Int) (i:Nat):Bool:=(ile (pc12 Y i) (2))
noncomputable abbrev pc16 (Y:Nat→Nat→Int) (i:Nat):Bool:=(Bool.not (ile (pc12 Y i) (0)))
noncomputable abbrev pc17 (Y:Nat→Nat→Int) (i:Nat):Bool:=(Bool.not (Bool.not (pc13 Y i)))
noncomputable abbrev pc18 (Y:Nat→Nat→Int) (i:Nat):Int:=(iite (ilt (iite (ilt (Y i 1) (Int.sub (0) (Y i 1))) (Int.sub (0) (Y i 1)) (Y i 1)) (Y i 2)) (Y i 2) (iite (ilt (Y i 1) (Int.sub (0) (Y i 1))) (Int.sub (0) (Y i 1)) (Y i 1)))
noncomputable abbrev pc19 (Y:Nat→Nat→Int) (i:Nat):Int:=(iite (ilt (iite (ilt (Y i 3) (Int.sub (0) (Y i 3))) (Int.sub (0) (Y i 3)) (Y i 3)) (Y i 4)) (Y i 4) (iite (ilt (Y i 3) (Int.sub (0) (Y i 3))) (Int.sub (0) (Y i 3)) (Y i 3)))
noncomputable abbrev pc20 (Y:Nat→Nat→Int) (i:Nat):Int:=(iite (ilt (iite (ilt (Y i 5) (Int.sub (0) (Y i 5))) (Int.sub (0) (Y i 5)) (Y i 5)) (Y i 6)) (Y i 6) (iite (ilt (Y i 5) (Int.sub (0) (Y i 5))) (Int.sub (0) (Y i 5)) (Y i 5)))
noncomputable abbrev pc21 (Y:Nat→Nat→Int) (i:Nat) (l:Int):Bool:=(band (pc1 Y i) (band (pc1 Y i) (band (Bool.not (ieq l (4))) (pc11 i))))
noncomputable abbrev pc22 (Y:Nat→Nat→Int) (i:Nat):Bool:=(band (pc15 Y i) (band (pc5 Y i) (band (Bool.not (Bool.and (ieq (Y i 5) (0)) (Bool.and (ieq (Y i 6) (0)) true))) true)))
noncomputable abbrev pc23 (Y:Nat→Nat→Int) (i:Nat):Bool:=(ile (iite (ilt (pc18 Y i) (Int.sub (0) (Y i 2))) (Int.sub (0) (Y i 2)) (pc18 Y i)) (16384))
noncomputable abbrev pc24 (Y:Nat→Nat→Int) (i:Nat):Bool:=(ile (iite (ilt (pc19 Y i) (Int.sub (0) (Y i 4))) (Int.sub (0) (Y i 4)) (pc19 Y i)) (16384))
noncomputable abbrev pc25 (Y:Nat→Nat→Int) (i:Nat):Bool:=(ile (iite (ilt (pc20 Y i) (Int.sub (0) (Y i 6))) (Int.sub (0) (Y i 6)) (pc20 Y i)) (16384))
noncomputable abbrev pc26 (i n:Nat) (Y:Nat→Nat→Int):Bool:=(band (band (pc0 i n) true) (band (band (band (pc0 i n) true) true) (band (band (band (band (ieq (pc12 Y i) (pc12 Y i)) (band (beqB (pc13 Y i) (pc13 Y i)) true)) true) (band (band (ieq (Y i 0) (Y i 0)) (band (ieq (Y i 0) (Y i 0)) true)) true)) true)))
noncomputable abbrev pc27 (i n:Nat) (Y:Nat→Nat→Int):Bool:=(band (pc0 i n) (band (pc26 i n Y) (band (pc17 Y i) (band (ile (pc12 Y i) (0)) (band (pc13 Y i) (band (pc14 Y i) (band (Bool.not (pc4 Y i)) (band (pc15 Y i) true))))))))
noncomputable abbrev pc28 (i n:Nat) (Y:Nat→Nat→Int):Bool:=(band (pc0 i n) (band (pc26 i n Y) (band (pc17 Y i) (band (ile (pc12 Y i) (0)) (band (pc13 Y i) (band (pc14 Y i) (band (pc4 Y i) (band (pc15 Y i) (band (Bool.not (pc5 Y i)) true)))))))))
noncomputable abbrev pc29 (i n:Nat) (Y:Nat→Nat→Int):Bool:=(band (pc0 i n) (band (pc26 i n Y) (band (pc17 Y i) (band (ile (pc12 Y i) (0)) (band (pc13 Y i) (band (pc14 Y i) (band (pc4 Y i) (pc22 Y i))))))))
noncomputable abbrev pc30 (i n:Nat) (Y:Nat→Nat→Int):Bool:=(band (pc0 i n) (band (pc26 i n Y) (band (pc17 Y i) (band (pc16 Y i) (band (pc13 Y i) (band (pc7 Y i) (band (Bool.not (pc23 Y i)) (band (pc14 Y i) (band (pc15 Y i) true)))))))))
noncomputable abbrev pc31 (i n:Nat) (Y:Nat→Nat→Int):Bool:=(band (pc0 i n) (band (pc26 i n Y) (band (pc17 Y i) (band (pc16 Y i) (band (pc13 Y i) (band (pc7 Y i) (band (pc23 Y i) (band (pc14 Y i) (band (pc2 Y i) (band (pc15 Y i) (band (Bool.not (pc5 Y i)) true)))))))))))
noncomputable abbrev pc32 (i n:Nat) (Y:Nat→Nat→Int):Bool:=(band (pc0 i n) (band (pc26 i n Y) (band (pc17 Y i) (band (pc16 Y i) (band (pc13 Y i) (band (pc7 Y i) (band (pc23 Y i) (band (pc14 Y i) (band (pc2 Y i) (pc22 Y i))))))))))
noncomputable abbrev pc33 (i n:Nat) (Y:Nat→Nat→Int) (zz:Bool):Bool:=(band (pc0 i n) (band (pc26 i n Y) zz))
noncomputable abbrev pc34 (Y:Nat→Nat→Int) (i:Nat) (zz:Bool):Bool:=(band (ile (pc12 Y i) (0)) (band (pc13 Y i) (band (pc14 Y i) (band (pc4 Y i) (band (pc15 Y i) (band (pc5 Y i) (band (pc10 Y i) zz)))))))
noncomputable abbrev pc35 (Y:Nat→Nat→Int) (i:Nat) (zz:Bool):Bool:=(band (pc16 Y i) (band (pc13 Y i) (band (pc7 Y i) zz)))
noncomputable abbrev pc36 (Y:Nat→Nat→Int) (i:Nat) (zz:Bool):Bool:=(band (Bool.not (pc14 Y i)) (band (pc2 Y i) (band (pc8 Y i) zz)))
noncomputable abbrev pc37 (Y:Nat→Nat→Int) (i:Nat) (zz:Bool):Bool:=(band (pc24 Y i) (band (Bool.not (pc15 Y i)) zz))
noncomputable abbrev pc38 (Y:Nat→Nat→Int) (i:Nat) (zz:Bool):Bool:=(band (pc14 Y i) (band (pc2 Y i) (band (pc15 Y i) (band (pc5 Y i) (band (pc10 Y i) zz)))))
def StepOK (y:Nat→Int):Prop:=
  (y 0=1∨y 0=2∨y 0=3∨y 0=4)∧(y 0=4→y 1=0∧y 2=0)∧(y 0≠4→-16384≤y 1∧y 1≤16384∧-16384≤y 2∧y 2≤16384) ∧
    (y 0≠3→y 3=0∧y 4=0∧y 5=0∧y 6=0)∧(y 0=3→-16384≤y 3∧y 3≤16384∧-16384≤y 4∧y 4≤16384∧-16384≤y 5∧y 5≤16384∧-16384≤y 6∧y 6≤16384)
def prevK (Y:Nat→Nat→Int) (i:Nat):Int:=if i=0 then 4 else Y (i - 1) 0
theorem prevK_succ (Y:Nat→Nat→Int) (i:Nat):prevK Y (i+1)=Y i 0:=by unfold prevK;rw [if_neg (by omega)];rfl
def GoodAt (Y:Nat→Nat→Int) (i:Nat):Prop:=StepOK (Y i)∧(Y i 0=1→prevK Y i≠1)∧(Y i 0≠1→prevK Y i≠4)
def PathOK (n:Nat) (Y:Nat→Nat→Int):Prop:=n≤300∧∀ i,i < n→GoodAt Y i
def QC (n:Nat) (Y:Nat→Nat→Int):AV→Hp→Prop:=fun v H=>∃ e:Int,v=.int .i64 e∧H.nx=J1∧(e=0↔PathOK n Y)
set_option maxHeartbeats 4000000 in
theorem pch_ok {n:Nat} {Y:Nat→Nat→Int} {ex sty:Bool} (hY:∀ j k,-1000000000≤Y j k∧Y j k≤1000000000) (hn:n≤1000) (h300:n≤300) (d:Nat):∀ (i:Nat) (l:Int),n - i=d→i≤n→l=prevK Y i→(∀ j,j < i→GoodAt Y j) →
    EndsX En 1 (pchX n Y ex sty i l) (QC n Y):=by
  induction d using Nat.strongRecOn with
  | ind d IH =>
    intro i l hd hi hl hgood
    have ih:∀ (i':Nat) (l':Int),i < i'→i'≤n→l'=prevK Y i'→(∀ j,j < i'→GoodAt Y j)→EndsX En 1 (pchX n Y ex sty i' l') (QC n Y):=
      fun i' l' h1 h2 h3 h4=>IH (n - i') (by omega) i' l' rfl h2 h3 h4
    clear IH
    rcases ce_ (Nat.succ i) n with ⟨b1,b1p⟩|⟨b1,b1p⟩
    · refine fi 1 [(5,13,false)] 8 ((band (Bool.not (pc0 i n)) true)) [.h] (zi (0)) [] J1 (by (try simp only [b1,gS,pc0]);(try simp only [gT] at *);try omega) ?_
      exact ⟨0,rfl,rfl,fun _=>⟨h300,fun j hj=>hgood j (by omega)⟩,fun _=>rfl⟩
    rcases ci (Y i 0) (1) with ⟨b2,b2p⟩|⟨b2,b2p⟩
    · rcases ci (Y i 0) (2) with ⟨b3,b3p⟩|⟨b3,b3p⟩
      · rcases ci (Y i 0) (3) with ⟨b4,b4p⟩|⟨b4,b4p⟩
        · rcases ci (Y i 0) (4) with ⟨b5,b5p⟩|⟨b5,b5p⟩
          · refine fi 1 [(5,13,true),(36,15,true)] 31 ((pc33 i n Y (band (Bool.not (pc13 Y i)) true))) [.h] (zi (310)) [] J1 (by have:=hY i 0;(try simp only [b1,b2,b3,b4,b5,gS,pc0,pc12,pc13,pc26,pc33]);(try simp only [gT] at *);try omega) ?_
            exact ⟨310,rfl,rfl,fun h=>absurd h (by decide),fun h=>by have g:=h.2 i (by omega);unfold GoodAt StepOK at g;rw [← hl] at g;(try simp only [iAdd,iSub,iite_lt] at *);omega⟩
          rcases ci (Y i 1) (0) with ⟨b6,b6p⟩|⟨b6,b6p⟩
          · refine fi 1 [(5,13,true),(36,15,false),(36,45,true),(4,50,true),(38,45,true),(4,50,false),(38,45,true)] 55 ((pc27 i n Y)) [.h] (zi (310)) [] J1 (by have:=hh7 (hY i);(try simp only [b1,b2,b3,b4,b5,b6,gS,pc0,pc4,pc12,pc13,pc14,pc15,pc17,pc26,pc27]);(try simp only [gT] at *);try omega) ?_
            exact ⟨310,rfl,rfl,fun h=>absurd h (by decide),fun h=>by have g:=h.2 i (by omega);unfold GoodAt StepOK at g;rw [← hl] at g;(try simp only [iAdd,iSub,iite_lt] at *);omega⟩
          rcases ci (Y i 2) (0) with ⟨b7,b7p⟩|⟨b7,b7p⟩
          · refine fi 1 [(5,13,true),(36,15,false),(36,45,true),(4,50,true),(38,45,true),(4,50,false),(38,45,true)] 55 ((pc27 i n Y)) [.h] (zi (310)) [] J1 (by have:=hh7 (hY i);(try simp only [b1,b2,b3,b4,b5,b6,b7,gS,pc0,pc4,pc12,pc13,pc14,pc15,pc17,pc26,pc27]);(try simp only [gT] at *);try omega) ?_
            exact ⟨310,rfl,rfl,fun h=>absurd h (by decide),fun h=>by have g:=h.2 i (by omega);unfold GoodAt StepOK at g;rw [← hl] at g;(try simp only [iAdd,iSub,iite_lt] at *);omega⟩
          rcases ci (Y i 3) (0) with ⟨b8,b8p⟩|⟨b8,b8p⟩
          · refine fi 1 [(5,13,true),(36,15,false),(36,45,true),(4,50,true),(38,45,true),(4,50,true),(38,45,true),(4,50,false)] 51 ((pc28 i n Y)) [.h] (zi (310)) [] J1 (by have:=hh7 (hY i);(try simp only [b1,b2,b3,b4,b5,b6,b7,b8,gS,pc0,pc4,pc5,pc12,pc13,pc14,pc15,pc17,pc26,pc28]);(try simp only [gT] at *);try omega) ?_
            exact ⟨310,rfl,rfl,fun h=>absurd h (by decide),fun h=>by have g:=h.2 i (by omega);unfold GoodAt StepOK at g;rw [← hl] at g;(try simp only [iAdd,iSub,iite_lt] at *);omega⟩
          rcases ci (Y i 4) (0) with ⟨b9,b9p⟩|⟨b9,b9p⟩
          · refine fi 1 [(5,13,true),(36,15,false),(36,45,true),(4,50,true),(38,45,true),(4,50,true),(38,45,true),(4,50,false)] 51 ((pc28 i n Y)) [.h] (zi (310)) [] J1 (by have:=hh7 (hY i);(try simp only [b1,b2,b3,b4,b5,b6,b7,b8,b9,gS,pc0,pc4,pc5,pc12,pc13,pc14,pc15,pc17,pc26,pc28]);(try simp only [gT] at *);try omega) ?_
            exact ⟨310,rfl,rfl,fun h=>absurd h (by decide),fun h=>by have g:=h.2 i (by omega);unfold GoodAt StepOK at g;rw [← hl] at g;(try simp only [iAdd,iSub,iite_lt] at *);omega⟩
          rcases ci (Y i 5) (0) with ⟨b10,b10p⟩|⟨b10,b10p⟩
          · refine fi 1 [(5,13,true),(36,15,false),(36,45,true),(4,50,true),(38,45,true),(4,50,true),(38,45,true),(4,50,true),(29,22,true)] 22 ((pc29 i n Y)) [.h] (zi (310)) [] J1 (by have:=hh7 (hY i);(try simp only [b1,b2,b3,b4,b5,b6,b7,b8,b9,b10,gS,pc0,pc4,pc5,pc12,pc13,pc14,pc15,pc17,pc22,pc26,pc29]);(try simp only [gT] at *);try omega) ?_
            exact ⟨310,rfl,rfl,fun h=>absurd h (by decide),fun h=>by have g:=h.2 i (by omega);unfold GoodAt StepOK at g;rw [← hl] at g;(try simp only [iAdd,iSub,iite_lt] at *);omega⟩
          rcases ci (Y i 6) (0) with ⟨b11,b11p⟩|⟨b11,b11p⟩
          · refine fi 1 [(5,13,true),(36,15,false),(36,45,true),(4,50,true),(38,45,true),(4,50,true),(38,45,true),(4,50,true),(29,22,true)] 22 ((pc29 i n Y)) [.h] (zi (310)) [] J1 (by have:=hh7 (hY i);(try simp only [b1,b2,b3,b4,b5,b6,b7,b8,b9,b10,b11,gS,pc0,pc4,pc5,pc12,pc13,pc14,pc15,pc17,pc22,pc26,pc29]);(try simp only [gT] at *);try omega) ?_
            exact ⟨310,rfl,rfl,fun h=>absurd h (by decide),fun h=>by have g:=h.2 i (by omega);unfold GoodAt StepOK at g;rw [← hl] at g;(try simp only [iAdd,iSub,iite_lt] at *);omega⟩
          rcases ci l (4) with ⟨b12,b12p⟩|⟨b12,b12p⟩
          · refine ar 1 [(5,13,true),(36,15,false),(36,45,true),(4,50,true),(38,45,true),(4,50,true),(38,45,true),(4,50,true),(29,22,false),(2,24,false),(8,32,true),(5,36,false)] 13 ((pc33 i n Y (band (pc17 Y i) (pc34 Y i (pc21 Y i l))))) (pchX n Y ex sty (Nat.add i 1) (Y i 0)) [.h] [3,10,11,12] [] (by have:=hh7 (hY i);(try simp only [b1,b2,b3,b4,b5,b6,b7,b8,b9,b10,b11,b12,gS,pc0,pc1,pc4,pc5,pc10,pc11,pc12,pc13,pc14,pc15,pc17,pc21,pc26,pc33,pc34]);(try simp only [gT] at *);try omega) ?_
            exact ih (i+1) (Y i 0) (by omega) (by omega) (prevK_succ Y i).symm (fun j hj=>by
              by_cases e:j=i
              · subst e;unfold GoodAt StepOK;rw [← hl];(try simp only [iAdd,iSub,iite_lt] at *);omega
              exact hgood j (by omega))
          refine fi 1 [(5,13,true),(36,15,false),(36,45,true),(4,50,true),(38,45,true),(4,50,true),(38,45,true),(4,50,true),(29,22,false),(2,24,false),(8,32,true),(5,36,true)] 7 ((pc33 i n Y (band (pc17 Y i) (pc34 Y i (band (pc1 Y i) (band (pc1 Y i) (band (ieq l (4)) true))))))) [.h] (zi (310)) [] J1 (by have:=hh7 (hY i);(try simp only [b1,b2,b3,b4,b5,b6,b7,b8,b9,b10,b11,b12,gS,pc0,pc1,pc4,pc5,pc10,pc12,pc13,pc14,pc15,pc17,pc26,pc33,pc34]);(try simp only [gT] at *);try omega) ?_
          exact ⟨310,rfl,rfl,fun h=>absurd h (by decide),fun h=>by have g:=h.2 i (by omega);unfold GoodAt StepOK at g;rw [← hl] at g;(try simp only [iAdd,iSub,iite_lt] at *);omega⟩
        rcases cl (iite (ilt (iite (ilt (iite (ilt (Y i 1) (Int.sub (0) (Y i 1))) (Int.sub (0) (Y i 1)) (Y i 1)) (Y i 2)) (Y i 2) (iite (ilt (Y i 1) (Int.sub (0) (Y i 1))) (Int.sub (0) (Y i 1)) (Y i 1))) (Int.sub (0) (Y i 2))) (Int.sub (0) (Y i 2)) (iite (ilt (iite (ilt (Y i 1) (Int.sub (0) (Y i 1))) (Int.sub (0) (Y i 1)) (Y i 1)) (Y i 2)) (Y i 2) (iite (ilt (Y i 1) (Int.sub (0) (Y i 1))) (Int.sub (0) (Y i 1)) (Y i 1)))) (16384) with ⟨b13,b13p⟩|⟨b13,b13p⟩
        · refine fi 1 [(5,13,true),(36,15,false),(36,45,false),(4,23,true),(14,37,false),(41,45,false),(59,45,false)] 72 ((pc33 i n Y (band (pc17 Y i) (pc35 Y i (band (Bool.not (pc23 Y i)) (band (Bool.not (pc14 Y i)) (band (Bool.not (pc15 Y i)) true))))))) [.h] (zi (310)) [] J1 (by have:=hh7 (hY i);(try simp only [b1,b2,b3,b4,b13,gS,pc0,pc7,pc12,pc13,pc14,pc15,pc16,pc17,pc18,pc23,pc26,pc33,pc35]);(try simp only [gT] at *);try omega) ?_
          exact ⟨310,rfl,rfl,fun h=>absurd h (by decide),fun h=>by have g:=h.2 i (by omega);unfold GoodAt StepOK at g;rw [← hl] at g;(try simp only [iAdd,iSub,iite_lt] at *);omega⟩
        rcases cl (iite (ilt (iite (ilt (iite (ilt (Y i 3) (Int.sub (0) (Y i 3))) (Int.sub (0) (Y i 3)) (Y i 3)) (Y i 4)) (Y i 4) (iite (ilt (Y i 3) (Int.sub (0) (Y i 3))) (Int.sub (0) (Y i 3)) (Y i 3))) (Int.sub (0) (Y i 4))) (Int.sub (0) (Y i 4)) (iite (ilt (iite (ilt (Y i 3) (Int.sub (0) (Y i 3))) (Int.sub (0) (Y i 3)) (Y i 3)) (Y i 4)) (Y i 4) (iite (ilt (Y i 3) (Int.sub (0) (Y i 3))) (Int.sub (0) (Y i 3)) (Y i 3)))) (16384) with ⟨b14,b14p⟩|⟨b14,b14p⟩
        · refine fi 1 [(5,13,true),(36,15,false),(36,45,false),(4,23,true),(14,37,true),(41,45,false),(4,23,true),(14,37,false),(41,45,false)] 72 ((pc33 i n Y (band (pc17 Y i) (pc35 Y i (band (pc23 Y i) (pc36 Y i (band (Bool.not (pc24 Y i)) (band (Bool.not (pc15 Y i)) true)))))))) [.h] (zi (310)) [] J1 (by have:=hh7 (hY i);(try simp only [b1,b2,b3,b4,b13,b14,gS,pc0,pc2,pc7,pc8,pc12,pc13,pc14,pc15,pc16,pc17,pc18,pc19,pc23,pc24,pc26,pc33,pc35,pc36]);(try simp only [gT] at *);try omega) ?_
          exact ⟨310,rfl,rfl,fun h=>absurd h (by decide),fun h=>by have g:=h.2 i (by omega);unfold GoodAt StepOK at g;rw [← hl] at g;(try simp only [iAdd,iSub,iite_lt] at *);omega⟩
        rcases cl (-16384) (iite (ilt (Y i 4) (Y i 3)) (Y i 4) (Y i 3)) with ⟨b15,b15p⟩|⟨b15,b15p⟩
        · refine fi 1 [(5,13,true),(36,15,false),(36,45,false),(4,23,true),(14,37,true),(41,45,false),(4,23,true),(14,37,true),(41,45,false),(4,23,false)] 68 ((pc33 i n Y (band (pc17 Y i) (pc35 Y i (band (pc23 Y i) (pc36 Y i (pc37 Y i (band (Bool.not (pc3 Y i)) true)))))))) [.h] (zi (310)) [] J1 (by have:=hh7 (hY i);(try simp only [b1,b2,b3,b4,b13,b14,b15,gS,pc0,pc2,pc3,pc7,pc8,pc12,pc13,pc14,pc15,pc16,pc17,pc18,pc19,pc23,pc24,pc26,pc33,pc35,pc36,pc37]);(try simp only [gT] at *);try omega) ?_
          exact ⟨310,rfl,rfl,fun h=>absurd h (by decide),fun h=>by have g:=h.2 i (by omega);unfold GoodAt StepOK at g;rw [← hl] at g;(try simp only [iAdd,iSub,iite_lt] at *);omega⟩
        rcases cl (iite (ilt (iite (ilt (iite (ilt (Y i 5) (Int.sub (0) (Y i 5))) (Int.sub (0) (Y i 5)) (Y i 5)) (Y i 6)) (Y i 6) (iite (ilt (Y i 5) (Int.sub (0) (Y i 5))) (Int.sub (0) (Y i 5)) (Y i 5))) (Int.sub (0) (Y i 6))) (Int.sub (0) (Y i 6)) (iite (ilt (iite (ilt (Y i 5) (Int.sub (0) (Y i 5))) (Int.sub (0) (Y i 5)) (Y i 5)) (Y i 6)) (Y i 6) (iite (ilt (Y i 5) (Int.sub (0) (Y i 5))) (Int.sub (0) (Y i 5)) (Y i 5)))) (16384) with ⟨b16,b16p⟩|⟨b16,b16p⟩
        · refine fi 1 [(5,13,true),(36,15,false),(36,45,false),(4,23,true),(14,37,true),(41,45,false),(4,23,true),(14,37,true),(41,45,false),(4,23,true),(14,37,false)] 54 ((pc33 i n Y (band (pc17 Y i) (pc35 Y i (band (pc23 Y i) (pc36 Y i (pc37 Y i (band (pc3 Y i) (band (pc9 Y i) (band (Bool.not (pc25 Y i)) true)))))))))) [.h] (zi (310)) [] J1 (by have:=hh7 (hY i);(try simp only [b1,b2,b3,b4,b13,b14,b15,b16,gS,pc0,pc2,pc3,pc7,pc8,pc9,pc12,pc13,pc14,pc15,pc16,pc17,pc18,pc19,pc20,pc23,pc24,pc25,pc26,pc33,pc35,pc36,pc37]);(try simp only [gT] at *);try omega) ?_
          exact ⟨310,rfl,rfl,fun h=>absurd h (by decide),fun h=>by have g:=h.2 i (by omega);unfold GoodAt StepOK at g;rw [← hl] at g;(try simp only [iAdd,iSub,iite_lt] at *);omega⟩
        rcases cl (-16384) (iite (ilt (Y i 6) (Y i 5)) (Y i 6) (Y i 5)) with ⟨b17,b17p⟩|⟨b17,b17p⟩
        · refine fi 1 [(5,13,true),(36,15,false),(36,45,false),(4,23,true),(14,37,true),(41,45,false),(4,23,true),(14,37,true),(41,45,false),(4,23,true),(14,37,true),(32,22,true)] 22 ((pc33 i n Y (band (pc17 Y i) (pc35 Y i (band (pc23 Y i) (pc36 Y i (pc37 Y i (band (pc3 Y i) (band (pc9 Y i) (band (pc25 Y i) (band (pc6 Y i) true))))))))))) [.h] (zi (310)) [] J1 (by have:=hh7 (hY i);(try simp only [b1,b2,b3,b4,b13,b14,b15,b16,b17,gS,pc0,pc2,pc3,pc6,pc7,pc8,pc9,pc12,pc13,pc14,pc15,pc16,pc17,pc18,pc19,pc20,pc23,pc24,pc25,pc26,pc33,pc35,pc36,pc37]);(try simp only [gT] at *);try omega) ?_
          exact ⟨310,rfl,rfl,fun h=>absurd h (by decide),fun h=>by have g:=h.2 i (by omega);unfold GoodAt StepOK at g;rw [← hl] at g;(try simp only [iAdd,iSub,iite_lt] at *);omega⟩
        rcases ci l (4) with ⟨b18,b18p⟩|⟨b18,b18p⟩
        · refine ar 1 [(5,13,true),(36,15,false),(36,45,false),(4,23,true),(14,37,true),(41,45,false),(4,23,true),(14,37,true),(41,45,false),(4,23,true),(14,37,true),(32,22,false),(2,24,false),(8,32,true),(5,36,false)] 13 ((pc33 i n Y (band (pc17 Y i) (pc35 Y i (band (pc23 Y i) (pc36 Y i (pc37 Y i (band (pc3 Y i) (band (pc9 Y i) (band (pc25 Y i) (band (Bool.not (pc6 Y i)) (pc21 Y i l)))))))))))) (pchX n Y ex sty (Nat.add i 1) (Y i 0)) [.h] [3,10,11,12] [] (by have:=hh7 (hY i);(try simp only [b1,b2,b3,b4,b13,b14,b15,b16,b17,b18,gS,pc0,pc1,pc2,pc3,pc6,pc7,pc8,pc9,pc11,pc12,pc13,pc14,pc15,pc16,pc17,pc18,pc19,pc20,pc21,pc23,pc24,pc25,pc26,pc33,pc35,pc36,pc37]);(try simp only [gT] at *);try omega) ?_
          exact ih (i+1) (Y i 0) (by omega) (by omega) (prevK_succ Y i).symm (fun j hj=>by
            by_cases e:j=i
            · subst e;unfold GoodAt StepOK;rw [← hl];(try simp only [iAdd,iSub,iite_lt] at *);omega
            exact hgood j (by omega))
        refine fi 1 [(5,13,true),(36,15,false),(36,45,false),(4,23,true),(14,37,true),(41,45,false),(4,23,true),(14,37,true),(41,45,false),(4,23,true),(14,37,true),(32,22,false),(2,24,false),(8,32,true),(5,36,true)] 7 ((pc33 i n Y (band (pc17 Y i) (pc35 Y i (band (pc23 Y i) (pc36 Y i (pc37 Y i (band (pc3 Y i) (band (pc9 Y i) (band (pc25 Y i) (band (Bool.not (pc6 Y i)) (band (pc1 Y i) (band (pc1 Y i) (band (ieq l (4)) true)))))))))))))) [.h] (zi (310)) [] J1 (by have:=hh7 (hY i);(try simp only [b1,b2,b3,b4,b13,b14,b15,b16,b17,b18,gS,pc0,pc1,pc2,pc3,pc6,pc7,pc8,pc9,pc12,pc13,pc14,pc15,pc16,pc17,pc18,pc19,pc20,pc23,pc24,pc25,pc26,pc33,pc35,pc36,pc37]);(try simp only [gT] at *);try omega) ?_
        exact ⟨310,rfl,rfl,fun h=>absurd h (by decide),fun h=>by have g:=h.2 i (by omega);unfold GoodAt StepOK at g;rw [← hl] at g;(try simp only [iAdd,iSub,iite_lt] at *);omega⟩
      rcases cl (iite (ilt (iite (ilt (iite (ilt (Y i 1) (Int.sub (0) (Y i 1))) (Int.sub (0) (Y i 1)) (Y i 1)) (Y i 2)) (Y i 2) (iite (ilt (Y i 1) (Int.sub (0) (Y i 1))) (Int.sub (0) (Y i 1)) (Y i 1))) (Int.sub (0) (Y i 2))) (Int.sub (0) (Y i 2)) (iite (ilt (iite (ilt (Y i 1) (Int.sub (0) (Y i 1))) (Int.sub (0) (Y i 1)) (Y i 1)) (Y i 2)) (Y i 2) (iite (ilt (Y i 1) (Int.sub (0) (Y i 1))) (Int.sub (0) (Y i 1)) (Y i 1)))) (16384) with ⟨b19,b19p⟩|⟨b19,b19p⟩
      · refine fi 1 [(5,13,true),(36,15,false),(36,45,false),(4,23,true),(14,37,false),(41,45,true),(42,45,true)] 55 ((pc30 i n Y)) [.h] (zi (310)) [] J1 (by have:=hh7 (hY i);(try simp only [b1,b2,b3,b19,gS,pc0,pc7,pc12,pc13,pc14,pc15,pc16,pc17,pc18,pc23,pc26,pc30]);(try simp only [gT] at *);try omega) ?_
        exact ⟨310,rfl,rfl,fun h=>absurd h (by decide),fun h=>by have g:=h.2 i (by omega);unfold GoodAt StepOK at g;rw [← hl] at g;(try simp only [iAdd,iSub,iite_lt] at *);omega⟩
      rcases ci (Y i 3) (0) with ⟨b20,b20p⟩|⟨b20,b20p⟩
      · refine fi 1 [(5,13,true),(36,15,false),(36,45,false),(4,23,true),(14,37,true),(41,45,true),(4,50,true),(38,45,true),(4,50,false)] 51 ((pc31 i n Y)) [.h] (zi (310)) [] J1 (by have:=hh7 (hY i);(try simp only [b1,b2,b3,b19,b20,gS,pc0,pc2,pc5,pc7,pc12,pc13,pc14,pc15,pc16,pc17,pc18,pc23,pc26,pc31]);(try simp only [gT] at *);try omega) ?_
        exact ⟨310,rfl,rfl,fun h=>absurd h (by decide),fun h=>by have g:=h.2 i (by omega);unfold GoodAt StepOK at g;rw [← hl] at g;(try simp only [iAdd,iSub,iite_lt] at *);omega⟩
      rcases ci (Y i 4) (0) with ⟨b21,b21p⟩|⟨b21,b21p⟩
      · refine fi 1 [(5,13,true),(36,15,false),(36,45,false),(4,23,true),(14,37,true),(41,45,true),(4,50,true),(38,45,true),(4,50,false)] 51 ((pc31 i n Y)) [.h] (zi (310)) [] J1 (by have:=hh7 (hY i);(try simp only [b1,b2,b3,b19,b20,b21,gS,pc0,pc2,pc5,pc7,pc12,pc13,pc14,pc15,pc16,pc17,pc18,pc23,pc26,pc31]);(try simp only [gT] at *);try omega) ?_
        exact ⟨310,rfl,rfl,fun h=>absurd h (by decide),fun h=>by have g:=h.2 i (by omega);unfold GoodAt StepOK at g;rw [← hl] at g;(try simp only [iAdd,iSub,iite_lt] at *);omega⟩
      rcases ci (Y i 5) (0) with ⟨b22,b22p⟩|⟨b22,b22p⟩
      · refine fi 1 [(5,13,true),(36,15,false),(36,45,false),(4,23,true),(14,37,true),(41,45,true),(4,50,true),(38,45,true),(4,50,true),(29,22,true)] 22 ((pc32 i n Y)) [.h] (zi (310)) [] J1 (by have:=hh7 (hY i);(try simp only [b1,b2,b3,b19,b20,b21,b22,gS,pc0,pc2,pc5,pc7,pc12,pc13,pc14,pc15,pc16,pc17,pc18,pc22,pc23,pc26,pc32]);(try simp only [gT] at *);try omega) ?_
        exact ⟨310,rfl,rfl,fun h=>absurd h (by decide),fun h=>by have g:=h.2 i (by omega);unfold GoodAt StepOK at g;rw [← hl] at g;(try simp only [iAdd,iSub,iite_lt] at *);omega⟩
      rcases ci (Y i 6) (0) with ⟨b23,b23p⟩|⟨b23,b23p⟩
      · refine fi 1 [(5,13,true),(36,15,false),(36,45,false),(4,23,true),(14,37,true),(41,45,true),(4,50,true),(38,45,true),(4,50,true),(29,22,true)] 22 ((pc32 i n Y)) [.h] (zi (310)) [] J1 (by have:=hh7 (hY i);(try simp only [b1,b2,b3,b19,b20,b21,b22,b23,gS,pc0,pc2,pc5,pc7,pc12,pc13,pc14,pc15,pc16,pc17,pc18,pc22,pc23,pc26,pc32]);(try simp only [gT] at *);try omega) ?_
        exact ⟨310,rfl,rfl,fun h=>absurd h (by decide),fun h=>by have g:=h.2 i (by omega);unfold GoodAt StepOK at g;rw [← hl] at g;(try simp only [iAdd,iSub,iite_lt] at *);omega⟩
      rcases ci l (4) with ⟨b24,b24p⟩|⟨b24,b24p⟩
      · refine ar 1 [(5,13,true),(36,15,false),(36,45,false),(4,23,true),(14,37,true),(41,45,true),(4,50,true),(38,45,true),(4,50,true),(29,22,false),(2,24,false),(8,32,true),(5,36,false)] 13 ((pc33 i n Y (band (pc17 Y i) (pc35 Y i (band (pc23 Y i) (pc38 Y i (pc21 Y i l))))))) (pchX n Y ex sty (Nat.add i 1) (Y i 0)) [.h] [3,10,11,12] [] (by have:=hh7 (hY i);(try simp only [b1,b2,b3,b19,b20,b21,b22,b23,b24,gS,pc0,pc1,pc2,pc5,pc7,pc10,pc11,pc12,pc13,pc14,pc15,pc16,pc17,pc18,pc21,pc23,pc26,pc33,pc35,pc38]);(try simp only [gT] at *);try omega) ?_
        exact ih (i+1) (Y i 0) (by omega) (by omega) (prevK_succ Y i).symm (fun j hj=>by
          by_cases e:j=i
          · subst e;unfold GoodAt StepOK;rw [← hl];(try simp only [iAdd,iSub,iite_lt] at *);omega
          exact hgood j (by omega))
      refine fi 1 [(5,13,true),(36,15,false),(36,45,false),(4,23,true),(14,37,true),(41,45,true),(4,50,true),(38,45,true),(4,50,true),(29,22,false),(2,24,false),(8,32,true),(5,36,true)] 7 ((pc33 i n Y (band (pc17 Y i) (pc35 Y i (band (pc23 Y i) (pc38 Y i (band (pc1 Y i) (band (pc1 Y i) (band (ieq l (4)) true))))))))) [.h] (zi (310)) [] J1 (by have:=hh7 (hY i);(try simp only [b1,b2,b3,b19,b20,b21,b22,b23,b24,gS,pc0,pc1,pc2,pc5,pc7,pc10,pc12,pc13,pc14,pc15,pc16,pc17,pc18,pc23,pc26,pc33,pc35,pc38]);(try simp only [gT] at *);try omega) ?_
      exact ⟨310,rfl,rfl,fun h=>absurd h (by decide),fun h=>by have g:=h.2 i (by omega);unfold GoodAt StepOK at g;rw [← hl] at g;(try simp only [iAdd,iSub,iite_lt] at *);omega⟩
    rcases cl (iite (ilt (iite (ilt (iite (ilt (Y i 1) (Int.sub (0) (Y i 1))) (Int.sub (0) (Y i 1)) (Y i 1)) (Y i 2)) (Y i 2) (iite (ilt (Y i 1) (Int.sub (0) (Y i 1))) (Int.sub (0) (Y i 1)) (Y i 1))) (Int.sub (0) (Y i 2))) (Int.sub (0) (Y i 2)) (iite (ilt (iite (ilt (Y i 1) (Int.sub (0) (Y i 1))) (Int.sub (0) (Y i 1)) (Y i 1)) (Y i 2)) (Y i 2) (iite (ilt (Y i 1) (Int.sub (0) (Y i 1))) (Int.sub (0) (Y i 1)) (Y i 1)))) (16384) with ⟨b25,b25p⟩|⟨b25,b25p⟩
    · refine fi 1 [(5,13,true),(36,15,false),(36,45,false),(4,23,true),(14,37,false),(41,45,true),(42,45,true)] 55 ((pc30 i n Y)) [.h] (zi (310)) [] J1 (by have:=hh7 (hY i);(try simp only [b1,b2,b25,gS,pc0,pc7,pc12,pc13,pc14,pc15,pc16,pc17,pc18,pc23,pc26,pc30]);(try simp only [gT] at *);try omega) ?_
      exact ⟨310,rfl,rfl,fun h=>absurd h (by decide),fun h=>by have g:=h.2 i (by omega);unfold GoodAt StepOK at g;rw [← hl] at g;(try simp only [iAdd,iSub,iite_lt] at *);omega⟩
    rcases ci (Y i 3) (0) with ⟨b26,b26p⟩|⟨b26,b26p⟩
    · refine fi 1 [(5,13,true),(36,15,false),(36,45,false),(4,23,true),(14,37,true),(41,45,true),(4,50,true),(38,45,true),(4,50,false)] 51 ((pc31 i n Y)) [.h] (zi (310)) [] J1 (by have:=hh7 (hY i);(try simp only [b1,b2,b25,b26,gS,pc0,pc2,pc5,pc7,pc12,pc13,pc14,pc15,pc16,pc17,pc18,pc23,pc26,pc31]);(try simp only [gT] at *);try omega) ?_
      exact ⟨310,rfl,rfl,fun h=>absurd h (by decide),fun h=>by have g:=h.2 i (by omega);unfold GoodAt StepOK at g;rw [← hl] at g;(try simp only [iAdd,iSub,iite_lt] at *);omega⟩
    rcases ci (Y i 4) (0) with ⟨b27,b27p⟩|⟨b27,b27p⟩
    · refine fi 1 [(5,13,true),(36,15,false),(36,45,false),(4,23,true),(14,37,true),(41,45,true),(4,50,true),(38,45,true),(4,50,false)] 51 ((pc31 i n Y)) [.h] (zi (310)) [] J1 (by have:=hh7 (hY i);(try simp only [b1,b2,b25,b26,b27,gS,pc0,pc2,pc5,pc7,pc12,pc13,pc14,pc15,pc16,pc17,pc18,pc23,pc26,pc31]);(try simp only [gT] at *);try omega) ?_
      exact ⟨310,rfl,rfl,fun h=>absurd h (by decide),fun h=>by have g:=h.2 i (by omega);unfold GoodAt StepOK at g;rw [← hl] at g;(try simp only [iAdd,iSub,iite_lt] at *);omega⟩
    rcases ci (Y i 5) (0) with ⟨b28,b28p⟩|⟨b28,b28p⟩
    · refine fi 1 [(5,13,true),(36,15,false),(36,45,false),(4,23,true),(14,37,true),(41,45,true),(4,50,true),(38,45,true),(4,50,true),(29,22,true)] 22 ((pc32 i n Y)) [.h] (zi (310)) [] J1 (by have:=hh7 (hY i);(try simp only [b1,b2,b25,b26,b27,b28,gS,pc0,pc2,pc5,pc7,pc12,pc13,pc14,pc15,pc16,pc17,pc18,pc22,pc23,pc26,pc32]);(try simp only [gT] at *);try omega) ?_
      exact ⟨310,rfl,rfl,fun h=>absurd h (by decide),fun h=>by have g:=h.2 i (by omega);unfold GoodAt StepOK at g;rw [← hl] at g;(try simp only [iAdd,iSub,iite_lt] at *);omega⟩
    rcases ci (Y i 6) (0) with ⟨b29,b29p⟩|⟨b29,b29p⟩
    · refine fi 1 [(5,13,true),(36,15,false),(36,45,false),(4,23,true),(14,37,true),(41,45,true),(4,50,true),(38,45,true),(4,50,true),(29,22,true)] 22 ((pc32 i n Y)) [.h] (zi (310)) [] J1 (by have:=hh7 (hY i);(try simp only [b1,b2,b25,b26,b27,b28,b29,gS,pc0,pc2,pc5,pc7,pc12,pc13,pc14,pc15,pc16,pc17,pc18,pc22,pc23,pc26,pc32]);(try simp only [gT] at *);try omega) ?_
      exact ⟨310,rfl,rfl,fun h=>absurd h (by decide),fun h=>by have g:=h.2 i (by omega);unfold GoodAt StepOK at g;rw [← hl] at g;(try simp only [iAdd,iSub,iite_lt] at *);omega⟩
    rcases ci l (1) with ⟨b30,b30p⟩|⟨b30,b30p⟩
    · refine ar 1 [(5,13,true),(36,15,false),(36,45,false),(4,23,true),(14,37,true),(41,45,true),(4,50,true),(38,45,true),(4,50,true),(29,22,false),(2,24,true),(5,29,false),(3,32,false)] 18 ((pc33 i n Y (band (pc17 Y i) (pc35 Y i (band (pc23 Y i) (pc38 Y i (band (ieq (Y i 0) (1)) (band (Bool.not (ieq l (1))) (band (Bool.not (pc1 Y i)) (pc11 i)))))))))) (pchX n Y ex sty (Nat.add i 1) (Y i 0)) [.h] [3,10,11,12] [] (by have:=hh7 (hY i);(try simp only [b1,b2,b25,b26,b27,b28,b29,b30,gS,pc0,pc1,pc2,pc5,pc7,pc10,pc11,pc12,pc13,pc14,pc15,pc16,pc17,pc18,pc23,pc26,pc33,pc35,pc38]);(try simp only [gT] at *);try omega) ?_
      exact ih (i+1) (Y i 0) (by omega) (by omega) (prevK_succ Y i).symm (fun j hj=>by
        by_cases e:j=i
        · subst e;unfold GoodAt StepOK;rw [← hl];(try simp only [iAdd,iSub,iite_lt] at *);omega
        exact hgood j (by omega))
    refine fi 1 [(5,13,true),(36,15,false),(36,45,false),(4,23,true),(14,37,true),(41,45,true),(4,50,true),(38,45,true),(4,50,true),(29,22,false),(2,24,true),(5,29,true)] 15 ((pc33 i n Y (band (pc17 Y i) (pc35 Y i (band (pc23 Y i) (pc38 Y i (band (ieq (Y i 0) (1)) (band (ieq l (1)) true)))))))) [.h] (zi (310)) [] J1 (by have:=hh7 (hY i);(try simp only [b1,b2,b25,b26,b27,b28,b29,b30,gS,pc0,pc2,pc5,pc7,pc10,pc12,pc13,pc14,pc15,pc16,pc17,pc18,pc23,pc26,pc33,pc35,pc38]);(try simp only [gT] at *);try omega) ?_
    exact ⟨310,rfl,rfl,fun h=>absurd h (by decide),fun h=>by have g:=h.2 i (by omega);unfold GoodAt StepOK at g;rw [← hl] at g;(try simp only [iAdd,iSub,iite_lt] at *);omega⟩
set_option maxHeartbeats 4000000 in
theorem pcm_ok {n:Nat} {Y:Nat→Nat→Int} {ex sty:Bool} (hY:∀ j k,-1000000000≤Y j k∧Y j k≤1000000000) (hn:n≤1000):EndsX En 1 (pcmX n Y ex sty) (QC n Y):=by
  rcases ce_ 301 n with ⟨b1,b1p⟩|⟨b1,b1p⟩
  · refine ar 1 [(11,9,false)] 15 (band (Bool.not (Nat.ble 301 n)) true) (pchX n Y ex sty 0 (4)) [.h] [3,10,11,12] [] (by (try simp only [b1,gS]);(try simp only [gT] at *);try omega) ?_
    exact pch_ok hY hn (by omega) (n - 0) 0 4 rfl (by omega) rfl (fun j hj=>by omega)
  refine fi 1 [(11,9,true)] 7 (band (Nat.ble 301 n) true) [.h] (zi (310)) [] J1 (by (try simp only [b1,gS]);(try simp only [gT] at *);try omega) ?_
  exact ⟨310,rfl,rfl,fun h=>absurd h (by decide),fun h=>by have:=h.1;omega⟩
section
variable (n:Nat) (Y:Nat→Nat→Int) (ex sty:Bool) (sd wd:Int) (i:Nat) (fine:Bool) (Z:Nat→Nat→Int) (e_1:Int)
noncomputable def gcmX:St:=⟨getF (enterA En 17 [(.agg [(zi sd),(zi wd),(.sa .h 0 n 7),.nils])] false),[],[(.h,(o7 n Y ex sty))],J1,1⟩
noncomputable def gchX:St:=⟨(fr 17 94 (ts [1,3,4,22,23,24] [.ptr J1 0,.sa J2 0 n 7,.bool fine,.sa .h 0 n 7,zn n,zn i]) [cA En 17 (pb 244),lA En 17 (pb 244),.blk 0,cA En 17 (pb 31)]),[],(zs [(o7 n Y ex sty),(ce 36 [(zi sd),(zi wd),(.sa .h 0 n 7),.nils]),(o7 n Z true false)]),J3,1⟩
noncomputable def gce1X:St:=⟨cf (pcmX n Z true false) J3 [J1],[(fr 17 94 (ts [1,75] [.ptr J2 0,.bool false]) [rA En 17 (pb 124) 4,cA En 17 (pb 125),cA En 17 (pb 63)])],(zs [(o7 n Y ex sty),(o7 n Z true false),(ce 36 [(zi sd),(zi wd),(.sa .h 0 n 7),.nils])]),J3,1⟩
end
noncomputable abbrev gc0 (Y:Nat→Nat→Int) (i:Nat):Bool:=(ieq (Y i 0) (4))
noncomputable abbrev gc1 (Y:Nat→Nat→Int) (i:Nat):Bool:=(ile (Y i 1) (32000))
noncomputable abbrev gc2 (Y:Nat→Nat→Int) (i:Nat):Bool:=(ile (Y i 2) (32000))
noncomputable abbrev gc3 (Y:Nat→Nat→Int) (i:Nat):Bool:=(ile (Y i 3) (32000))
noncomputable abbrev gc4 (Y:Nat→Nat→Int) (i:Nat):Bool:=(ile (Y i 4) (32000))
noncomputable abbrev gc5 (Y:Nat→Nat→Int) (i:Nat):Bool:=(ile (-32000) (Y i 1))
noncomputable abbrev gc6 (Y:Nat→Nat→Int) (i:Nat):Bool:=(ile (-32000) (Y i 2))
noncomputable abbrev gc7 (Y:Nat→Nat→Int) (i:Nat):Bool:=(ile (-32000) (Y i 3))
noncomputable abbrev gc8 (Y:Nat→Nat→Int) (i:Nat):Bool:=(ile (-32000) (Y i 4))
noncomputable abbrev gc9 (i n:Nat):Bool:=(Nat.ble (Nat.succ i) n)
noncomputable abbrev gc10 (Y:Nat→Nat→Int) (i:Nat):Bool:=(Bool.not (gc0 Y i))
noncomputable abbrev gc11 (Y:Nat→Nat→Int) (i:Nat):Bool:=(Bool.not (ieq (Y i 0) (3)))
noncomputable abbrev gc12 (Y:Nat→Nat→Int) (i:Nat):Bool:=(Bool.and (ieq (Y i 3) (0)) (Bool.and (ieq (Y i 4) (0)) true))
noncomputable abbrev gc13 (Y:Nat→Nat→Int) (i:Nat):Bool:=(Bool.and (ieq (Y i 1) (0)) (Bool.and (ieq (Y i 2) (0)) true))
noncomputable abbrev gc14 (i n:Nat):Bool:=(band (band (gc9 i n) true) (band (band (band (gc9 i n) true) true) true))
noncomputable abbrev gc15 (Y:Nat→Nat→Int) (i:Nat):Bool:=(band (band (r64 (Y i 1)) (band (r64 (Y i 2)) true)) (band (band (ieq (Y i 2) (Y i 2)) (band (ieq (Y i 2) (Y i 2)) true)) (band (band (ieq (Y i 1) (Y i 1)) true) true)))
noncomputable abbrev gc16 (Y:Nat→Nat→Int) (i:Nat):Bool:=(band (band (r64 (Y i 3)) (band (r64 (Y i 4)) true)) (band (band (ieq (Y i 4) (Y i 4)) (band (ieq (Y i 4) (Y i 4)) true)) (band (band (ieq (Y i 3) (Y i 3)) true) true)))
noncomputable abbrev gc17 (Y:Nat→Nat→Int) (i:Nat):Bool:=(band (gc15 Y i) true)
noncomputable abbrev gc18 (Y:Nat→Nat→Int) (i:Nat):Bool:=(band (gc16 Y i) true)
noncomputable abbrev gc19 (Y:Nat→Nat→Int) (i n:Nat):Bool:=(band (band (band (r64 (Y i 5)) (band (r64 (Y i 6)) true)) (band (band (ieq (Y i 6) (Y i 6)) (band (ieq (Y i 6) (Y i 6)) true)) (band (band (ieq (Y i 5) (Y i 5)) true) true))) (band (band (gc9 i n) true) (band (band (band (gc9 i n) true) true) (band (band (ile (-9223372036854775808) (.ofNat (Nat.add i 1))) (Nat.ble (Nat.add i 1) 9223372036854775807)) true))))
noncomputable abbrev gc20 (Y:Nat→Nat→Int) (i n:Nat):Bool:=(band (ile (-32000) (Y i 5)) (band (Bool.not (ile (Y i 5) (32000))) (gc19 Y i n)))
noncomputable abbrev gc21 (Y:Nat→Nat→Int) (i n:Nat):Bool:=(band (ile (-32000) (Y i 5)) (band (ile (Y i 5) (32000)) (band (Bool.not (ile (-32000) (Y i 6))) (gc19 Y i n))))
noncomputable abbrev gc22 (Y:Nat→Nat→Int) (i n:Nat):Bool:=(band (ile (-32000) (Y i 5)) (band (ile (Y i 5) (32000)) (band (ile (-32000) (Y i 6)) (band (Bool.not (ile (Y i 6) (32000))) (gc19 Y i n)))))
noncomputable abbrev gc23 (Y:Nat→Nat→Int) (i n:Nat):Bool:=(band (gc16 Y i) (gc19 Y i n))
noncomputable abbrev gc24 (Y:Nat→Nat→Int) (i n:Nat):Bool:=(band (gc7 Y i) (band (gc3 Y i) (band (Bool.not (gc8 Y i)) (gc23 Y i n))))
noncomputable abbrev gc25 (Y:Nat→Nat→Int) (i n:Nat):Bool:=(band (gc7 Y i) (band (gc3 Y i) (band (gc8 Y i) (band (Bool.not (gc4 Y i)) (gc23 Y i n)))))
noncomputable abbrev gc26 (i n:Nat) (fine:Bool) (Y:Nat→Nat→Int):Bool:=(band (gc9 i n) (band (gc14 i n) (band fine (band (gc5 Y i) (band (gc1 Y i) (band (gc6 Y i) (band (gc2 Y i) (band (gc0 Y i) (band (gc17 Y i) (band (Bool.not (gc13 Y i)) (gc23 Y i n)))))))))))
noncomputable abbrev gc27 (i n:Nat) (fine:Bool) (Y:Nat→Nat→Int):Bool:=(band (gc9 i n) (band (gc14 i n) (band fine (band (gc5 Y i) (band (gc1 Y i) (band (gc6 Y i) (band (gc2 Y i) (band (gc0 Y i) (band (gc17 Y i) (band (gc13 Y i) (band (gc7 Y i) (band (gc3 Y i) (band (gc8 Y i) (band (gc4 Y i) (band (gc0 Y i) (band (gc18 Y i) (band (Bool.not (gc12 Y i)) (gc19 Y i n))))))))))))))))))
noncomputable abbrev gc28 (i n:Nat) (fine:Bool) (Y:Nat→Nat→Int):Bool:=(band (gc9 i n) (band (gc14 i n) (band fine (band (gc5 Y i) (band (gc1 Y i) (band (gc6 Y i) (band (gc2 Y i) (band (gc10 Y i) (band (gc11 Y i) (band (gc17 Y i) (band (gc7 Y i) (band (gc3 Y i) (band (gc8 Y i) (band (gc4 Y i) (band (gc10 Y i) (band (gc11 Y i) (band (gc18 Y i) (band (Bool.not (gc12 Y i)) (gc19 Y i n)))))))))))))))))))
noncomputable abbrev gc29 (i n:Nat) (zz:Bool):Bool:=(band (gc9 i n) (band (gc14 i n) zz))
noncomputable abbrev gc30 (Y:Nat→Nat→Int) (i:Nat) (zz:Bool):Bool:=(band (gc5 Y i) zz)
noncomputable abbrev gc31 (Y:Nat→Nat→Int) (i:Nat) (zz:Bool):Bool:=(band (gc1 Y i) zz)
noncomputable abbrev gc32 (Y:Nat→Nat→Int) (i:Nat) (zz:Bool):Bool:=(band (gc6 Y i) zz)
noncomputable abbrev gc33 (Y:Nat→Nat→Int) (i:Nat) (zz:Bool):Bool:=(band (gc2 Y i) zz)
noncomputable abbrev gc34 (Y:Nat→Nat→Int) (i:Nat) (zz:Bool):Bool:=(band (gc10 Y i) zz)
noncomputable abbrev gc35 (Y:Nat→Nat→Int) (i:Nat) (zz:Bool):Bool:=(band (gc11 Y i) (band (gc17 Y i) zz))
noncomputable abbrev gc36 (Y:Nat→Nat→Int) (i:Nat) (zz:Bool):Bool:=(band (gc3 Y i) (band (gc8 Y i) (band (gc4 Y i) (band (gc10 Y i) (band (gc11 Y i) (band (gc18 Y i) (band (gc12 Y i) zz)))))))
noncomputable abbrev gc37 (Y:Nat→Nat→Int) (i:Nat) (zz:Bool):Bool:=(band (ieq (Y i 0) (3)) (band (gc17 Y i) zz))
noncomputable abbrev gc38 (Y:Nat→Nat→Int) (i:Nat) (zz:Bool):Bool:=(band (gc3 Y i) (band (gc8 Y i) (band (gc4 Y i) (band (gc10 Y i) (band (ieq (Y i 0) (3)) (band (gc18 Y i) zz))))))
noncomputable abbrev gc39 (Y:Nat→Nat→Int) (i:Nat) (zz:Bool):Bool:=(band (gc0 Y i) (band (gc17 Y i) (band (gc13 Y i) zz)))
noncomputable abbrev gc40 (Y:Nat→Nat→Int) (i:Nat) (zz:Bool):Bool:=(band (gc3 Y i) (band (gc8 Y i) (band (gc4 Y i) (band (gc0 Y i) (band (gc18 Y i) (band (gc12 Y i) zz))))))
def GStep (y:Nat→Int):Prop:=
  (-32000≤y 1∧y 1≤32000)∧(-32000≤y 2∧y 2≤32000)∧(-32000≤y 3∧y 3≤32000)∧(-32000≤y 4∧y 4≤32000)∧(-32000≤y 5∧y 5≤32000)∧(-32000≤y 6∧y 6≤32000) ∧
    (y 0=4→y 1=0∧y 2=0)∧(y 0≠3→y 3=0∧y 4=0∧y 5=0∧y 6=0)
def KindOK (Y:Nat→Nat→Int) (i:Nat):Prop:=(Y i 0=1∨Y i 0=2∨Y i 0=3∨Y i 0=4)∧(Y i 0=1→prevK Y i≠1)∧(Y i 0≠1→prevK Y i≠4)
def StepsOK (n:Nat) (Y:Nat→Nat→Int):Prop:=n≤300∧∀ i,i < n→GStep (Y i)∧KindOK Y i
def QG (n:Nat) (Y:Nat→Nat→Int):AV→Hp→Prop:=fun v H=>∃ e:Int,v=.int .i64 e∧H.nx=J1∧(e=0→StepsOK n Y)
theorem updR_bd {Z:Nat→Nat→Int} {A:Int} (hA:0≤A) (h:∀ j k,-A≤Z j k∧Z j k≤A) (i:Nat) {l:List Int} (hl:∀ x ∈ l,-A≤x∧x≤A):∀ j k,-A≤updR Z i l j k∧updR Z i l j k≤A:=by
  intro j k
  unfold updR
  by_cases e:j=i
  · rw [if_pos e]
    rw [List.getD_eq_getElem?_getD]
    cases hk:l[k]? with
    | none=>show -A≤(0:Int)∧(0:Int)≤A;omega
    | some x=>exact hl x (List.mem_of_getElem? hk)
  rw [if_neg e];exact h j k
theorem updR_at (Z:Nat→Nat→Int) (i:Nat) (l:List Int) (k:Nat):updR Z i l i k=l.getD k 0:=by unfold updR;rw [if_pos rfl]
theorem updR_ne (Z:Nat→Nat→Int) {i j:Nat} (l:List Int) (k:Nat) (h:j≠i):updR Z i l j k=Z j k:=by unfold updR;rw [if_neg h]
theorem fdv_bd {a:Int} (h : -1000000000≤a∧a≤1000000000) : -1000000000≤fdv a 2∧fdv a 2≤1000000000:=by unfold fdv;omega
noncomputable def rowH (y:Nat→Int):List Int:=[y 0,fdv (y 1) 2,fdv (y 2) 2,fdv (y 3) 2,fdv (y 4) 2,fdv (y 5) 2,fdv (y 6) 2]
theorem rowH_bd {y:Nat→Int} (h:∀ k,-1000000000≤y k∧y k≤1000000000):∀ x ∈ rowH y,-1000000000≤x∧x≤1000000000:=by
  intro x hx
  unfold rowH at hx
  simp only [List.mem_cons,List.not_mem_nil,or_false] at hx
  rcases hx with rfl|rfl|rfl|rfl|rfl|rfl|rfl
  · exact h 0
  · exact fdv_bd (h 1)
  · exact fdv_bd (h 2)
  · exact fdv_bd (h 3)
  · exact fdv_bd (h 4)
  · exact fdv_bd (h 5)
  exact fdv_bd (h 6)
theorem steps_of {n:Nat} {Y Z:Nat→Nat→Int} (hk:∀ j,j < n→Z j 0=Y j 0) (hs:∀ j,j < n→GStep (Y j)) (h:PathOK n Z):StepsOK n Y:=by
  refine ⟨h.1,fun i hi=>⟨hs i hi,?_⟩⟩
  obtain ⟨g1,g2,g3⟩:=h.2 i hi
  have e0:=hk i hi
  have e1:prevK Z i=prevK Y i:=by
    unfold prevK
    by_cases e:i=0
    · rw [if_pos e,if_pos e]
    rw [if_neg e,if_neg e];exact hk (i - 1) (by omega)
  unfold KindOK
  rw [← e0,← e1]
  exact ⟨g1.1,g2,g3⟩
set_option maxHeartbeats 8000000 in
section
variable {n:Nat} {Y:Nat→Nat→Int} {ex sty:Bool} {sd wd:Int} (hY:∀ j k,-1000000000≤Y j k∧Y j k≤1000000000) (hn:n≤1000)
include hY hn
theorem gch_ok (d:Nat):∀ (i:Nat) (fine:Bool) (Z:Nat→Nat→Int),n - i=d→i≤n →
    (∀ j k,-1000000000≤Z j k∧Z j k≤1000000000)→(∀ j,j < i→Z j 0=Y j 0)→(fine=true→∀ j,j < i→GStep (Y j))→EndsX En 1 (gchX n Y ex sty sd wd i fine Z) (QG n Y):=by
  induction d using Nat.strongRecOn with
  | ind d IH =>
    intro i fine Z hd hi hZ hzk hgood
    have ih:∀ (f:Bool),i < n→(f=true→fine=true∧GStep (Y i))→EndsX En 1 (gchX n Y ex sty sd wd (Nat.add i 1) f (updR Z i (rowH (Y i)))) (QG n Y):=fun f h1 h2 =>
      IH (n - (i+1)) (by omega) (i+1) f _ rfl (by omega) (updR_bd (by decide) hZ i (rowH_bd (hY i)))
        (fun j hj=>by
          by_cases e:j=i
          · subst e;rw [updR_at];rfl
          rw [updR_ne _ _ _ e];exact hzk j (by omega))
        (fun e j hj=>by
          obtain ⟨g1,g2⟩:=h2 e
          by_cases e2:j=i
          · subst e2;exact g2
          exact hgood g1 j (by omega))
    clear IH
    rcases ce_ (Nat.succ i) n with ⟨b1,b1p⟩|⟨b1,b1p⟩
    · rcases btf fine with b2|b2
      · have b2p:=b2
        refine fi 1 [(5,25,false),(8,75,true)] 12 ((band (Bool.not (gc9 i n)) (band (Bool.not fine) true))) [.h] (zi (460)) [] J1 (by (try simp only [b1,b2,gS,gc9]);(try simp only [gT] at *);try omega) ?_
        exact ⟨460,rfl,rfl,fun h=>absurd h (by decide)⟩
      have b2p:=b2
      refine ac 1 [(5,25,false),(8,75,false)] 2 ((band (Bool.not (gc9 i n)) (band (Bool.not (Bool.not fine)) true))) (gce1X n Y ex sty sd wd Z) [.h,J2,J1] [[1,75]] (by (try simp only [b1,b2,gS,gc9]);(try simp only [gT] at *);try omega) ?_
      refine ca (pcmX n Z true false) [J1] (pcm_ok (n:=n) (Y:=Z) (ex:=true) (sty:=false) hZ hn) (fun v' H' q=>?_)
      rcases q with ⟨e_1,rfl,hnx1,hq_1⟩
      refine ⟨(zi e_1),[],J3,(by kernel_rfl),(by rw [hnx1];kernel_rfl),trivial,(by kernel_rfl),?_⟩
      rcases ci e_1 (0) with ⟨b3,b3p⟩|⟨b3,b3p⟩
      · refine fi 1 [(3,79,true)] 7 (band (Bool.not (ieq e_1 (0))) true) [.h] (zi (460)) [] J1 (by (try simp only [b1,b2,b3,gS]);(try simp only [gT] at *);try omega) ?_
        exact ⟨460,rfl,rfl,fun h=>absurd h (by decide)⟩
      refine fi 1 [(3,79,false)] 747 (band (Bool.not (Bool.not (ieq e_1 (0)))) true) [.h] (zi (0)) [] J1 (by (try simp only [b1,b2,b3,gS]);(try simp only [gT] at *);try omega) ?_
      exact ⟨0,rfl,rfl,fun _=>steps_of (fun j hj=>hzk j (by omega)) (fun j hj=>hgood b2 j (by omega)) (hq_1.1 b3p)⟩
    rcases btf fine with b4|b4
    · have b4p:=b4
      refine arF 2 1 [(5,25,true),(43,36,false)] 149 ((gc29 i n (band (Bool.not fine) (band (gc15 Y i) (gc23 Y i n))))) (gchX n Y ex sty sd wd (Nat.add i 1) false (updR Z i [(Y i 0),(fdv (Y i 1) (2)),(fdv (Y i 2) (2)),(fdv (Y i 3) (2)),(fdv (Y i 4) (2)),(fdv (Y i 5) (2)),(fdv (Y i 6) (2))])) [.h,J1,J2] [1,3,4,22,23,24] [] ⟨oeFold (by kernel_rfl) rfl (by kernel_rfl),trivial⟩ (by have:=hh7 (hY i);(try simp only [b1,b4,gS,gc9,gc14,gc15,gc16,gc19,gc23,gc29]);(try simp only [gT] at *);try omega) ?_
      exact ih false (by omega) (fun e=>absurd e (by decide))
    have b4p:=b4
    rcases cl (-32000) (Y i 1) with ⟨b5,b5p⟩|⟨b5,b5p⟩
    · refine arF 2 1 [(5,25,true),(43,36,true),(14,9,false)] 154 ((gc29 i n (band fine (band (Bool.not (gc5 Y i)) (band (gc15 Y i) (gc23 Y i n)))))) (gchX n Y ex sty sd wd (Nat.add i 1) false (updR Z i [(Y i 0),(fdv (Y i 1) (2)),(fdv (Y i 2) (2)),(fdv (Y i 3) (2)),(fdv (Y i 4) (2)),(fdv (Y i 5) (2)),(fdv (Y i 6) (2))])) [.h,J1,J2] [1,3,4,22,23,24] [] ⟨oeFold (by kernel_rfl) rfl (by kernel_rfl),trivial⟩ (by have:=hh7 (hY i);(try simp only [b1,b4,b5,gS,gc5,gc9,gc14,gc15,gc16,gc19,gc23,gc29]);(try simp only [gT] at *);try omega) ?_
      exact ih false (by omega) (fun e=>absurd e (by decide))
    rcases cl (Y i 1) (32000) with ⟨b6,b6p⟩|⟨b6,b6p⟩
    · refine arF 2 1 [(5,25,true),(43,36,true),(14,9,true),(10,41,false)] 144 ((gc29 i n (band fine (gc30 Y i (band (Bool.not (gc1 Y i)) (band (gc15 Y i) (gc23 Y i n))))))) (gchX n Y ex sty sd wd (Nat.add i 1) false (updR Z i [(Y i 0),(fdv (Y i 1) (2)),(fdv (Y i 2) (2)),(fdv (Y i 3) (2)),(fdv (Y i 4) (2)),(fdv (Y i 5) (2)),(fdv (Y i 6) (2))])) [.h,J1,J2] [1,3,4,22,23,24] [] ⟨oeFold (by kernel_rfl) rfl (by kernel_rfl),trivial⟩ (by have:=hh7 (hY i);(try simp only [b1,b4,b5,b6,gS,gc1,gc5,gc9,gc14,gc15,gc16,gc19,gc23,gc29,gc30]);(try simp only [gT] at *);try omega) ?_
      exact ih false (by omega) (fun e=>absurd e (by decide))
    rcases cl (-32000) (Y i 2) with ⟨b7,b7p⟩|⟨b7,b7p⟩
    · refine arF 2 1 [(5,25,true),(43,36,true),(14,9,true),(10,41,true),(14,9,false)] 149 ((gc29 i n (band fine (gc30 Y i (gc31 Y i (band (Bool.not (gc6 Y i)) (band (gc15 Y i) (gc23 Y i n)))))))) (gchX n Y ex sty sd wd (Nat.add i 1) false (updR Z i [(Y i 0),(fdv (Y i 1) (2)),(fdv (Y i 2) (2)),(fdv (Y i 3) (2)),(fdv (Y i 4) (2)),(fdv (Y i 5) (2)),(fdv (Y i 6) (2))])) [.h,J1,J2] [1,3,4,22,23,24] [] ⟨oeFold (by kernel_rfl) rfl (by kernel_rfl),trivial⟩ (by have:=hh7 (hY i);(try simp only [b1,b4,b5,b6,b7,gS,gc1,gc5,gc6,gc9,gc14,gc15,gc16,gc19,gc23,gc29,gc30,gc31]);(try simp only [gT] at *);try omega) ?_
      exact ih false (by omega) (fun e=>absurd e (by decide))
    rcases cl (Y i 2) (32000) with ⟨b8,b8p⟩|⟨b8,b8p⟩
    · refine arF 2 1 [(5,25,true),(43,36,true),(14,9,true),(10,41,true),(14,9,true),(10,46,false)] 139 ((gc29 i n (band fine (gc30 Y i (gc31 Y i (gc32 Y i (band (Bool.not (gc2 Y i)) (band (gc15 Y i) (gc23 Y i n))))))))) (gchX n Y ex sty sd wd (Nat.add i 1) false (updR Z i [(Y i 0),(fdv (Y i 1) (2)),(fdv (Y i 2) (2)),(fdv (Y i 3) (2)),(fdv (Y i 4) (2)),(fdv (Y i 5) (2)),(fdv (Y i 6) (2))])) [.h,J1,J2] [1,3,4,22,23,24] [] ⟨oeFold (by kernel_rfl) rfl (by kernel_rfl),trivial⟩ (by have:=hh7 (hY i);(try simp only [b1,b4,b5,b6,b7,b8,gS,gc1,gc2,gc5,gc6,gc9,gc14,gc15,gc16,gc19,gc23,gc29,gc30,gc31,gc32]);(try simp only [gT] at *);try omega) ?_
      exact ih false (by omega) (fun e=>absurd e (by decide))
    rcases ci (Y i 0) (4) with ⟨b9,b9p⟩|⟨b9,b9p⟩
    · rcases ci (Y i 0) (3) with ⟨b10,b10p⟩|⟨b10,b10p⟩
      · rcases cl (-32000) (Y i 3) with ⟨b11,b11p⟩|⟨b11,b11p⟩
        · refine arF 2 1 [(5,25,true),(43,36,true),(14,9,true),(10,41,true),(14,9,true),(10,46,true),(20,5,false),(6,7,false),(60,9,false)] 104 ((gc29 i n (band fine (gc30 Y i (gc31 Y i (gc32 Y i (gc33 Y i (gc34 Y i (gc35 Y i (band (Bool.not (gc7 Y i)) (gc23 Y i n))))))))))) (gchX n Y ex sty sd wd (Nat.add i 1) false (updR Z i [(Y i 0),(fdv (Y i 1) (2)),(fdv (Y i 2) (2)),(fdv (Y i 3) (2)),(fdv (Y i 4) (2)),(fdv (Y i 5) (2)),(fdv (Y i 6) (2))])) [.h,J1,J2] [1,3,4,22,23,24] [] ⟨oeFold (by kernel_rfl) rfl (by kernel_rfl),trivial⟩ (by have:=hh7 (hY i);(try simp only [b1,b4,b5,b6,b7,b8,b9,b10,b11,gS,gc0,gc1,gc2,gc5,gc6,gc7,gc9,gc10,gc11,gc14,gc15,gc16,gc17,gc19,gc23,gc29,gc30,gc31,gc32,gc33,gc34,gc35]);(try simp only [gT] at *);try omega) ?_
          exact ih false (by omega) (fun e=>absurd e (by decide))
        rcases cl (Y i 3) (32000) with ⟨b12,b12p⟩|⟨b12,b12p⟩
        · refine arF 2 1 [(5,25,true),(43,36,true),(14,9,true),(10,41,true),(14,9,true),(10,46,true),(20,5,false),(6,7,false),(60,9,true),(10,41,false)] 94 ((gc29 i n (band fine (gc30 Y i (gc31 Y i (gc32 Y i (gc33 Y i (gc34 Y i (gc35 Y i (band (gc7 Y i) (band (Bool.not (gc3 Y i)) (gc23 Y i n)))))))))))) (gchX n Y ex sty sd wd (Nat.add i 1) false (updR Z i [(Y i 0),(fdv (Y i 1) (2)),(fdv (Y i 2) (2)),(fdv (Y i 3) (2)),(fdv (Y i 4) (2)),(fdv (Y i 5) (2)),(fdv (Y i 6) (2))])) [.h,J1,J2] [1,3,4,22,23,24] [] ⟨oeFold (by kernel_rfl) rfl (by kernel_rfl),trivial⟩ (by have:=hh7 (hY i);(try simp only [b1,b4,b5,b6,b7,b8,b9,b10,b11,b12,gS,gc0,gc1,gc2,gc3,gc5,gc6,gc7,gc9,gc10,gc11,gc14,gc15,gc16,gc17,gc19,gc23,gc29,gc30,gc31,gc32,gc33,gc34,gc35]);(try simp only [gT] at *);try omega) ?_
          exact ih false (by omega) (fun e=>absurd e (by decide))
        rcases cl (-32000) (Y i 4) with ⟨b13,b13p⟩|⟨b13,b13p⟩
        · refine arF 2 1 [(5,25,true),(43,36,true),(14,9,true),(10,41,true),(14,9,true),(10,46,true),(20,5,false),(6,7,false),(60,9,true),(10,41,true),(14,9,false)] 99 ((gc29 i n (band fine (gc30 Y i (gc31 Y i (gc32 Y i (gc33 Y i (gc34 Y i (gc35 Y i (gc24 Y i n)))))))))) (gchX n Y ex sty sd wd (Nat.add i 1) false (updR Z i [(Y i 0),(fdv (Y i 1) (2)),(fdv (Y i 2) (2)),(fdv (Y i 3) (2)),(fdv (Y i 4) (2)),(fdv (Y i 5) (2)),(fdv (Y i 6) (2))])) [.h,J1,J2] [1,3,4,22,23,24] [] ⟨oeFold (by kernel_rfl) rfl (by kernel_rfl),trivial⟩ (by have:=hh7 (hY i);(try simp only [b1,b4,b5,b6,b7,b8,b9,b10,b11,b12,b13,gS,gc0,gc1,gc2,gc3,gc5,gc6,gc7,gc8,gc9,gc10,gc11,gc14,gc15,gc16,gc17,gc19,gc23,gc24,gc29,gc30,gc31,gc32,gc33,gc34,gc35]);(try simp only [gT] at *);try omega) ?_
          exact ih false (by omega) (fun e=>absurd e (by decide))
        rcases cl (Y i 4) (32000) with ⟨b14,b14p⟩|⟨b14,b14p⟩
        · refine arF 2 1 [(5,25,true),(43,36,true),(14,9,true),(10,41,true),(14,9,true),(10,46,true),(20,5,false),(6,7,false),(60,9,true),(10,41,true),(14,9,true),(10,46,false)] 89 ((gc29 i n (band fine (gc30 Y i (gc31 Y i (gc32 Y i (gc33 Y i (gc34 Y i (gc35 Y i (gc25 Y i n)))))))))) (gchX n Y ex sty sd wd (Nat.add i 1) false (updR Z i [(Y i 0),(fdv (Y i 1) (2)),(fdv (Y i 2) (2)),(fdv (Y i 3) (2)),(fdv (Y i 4) (2)),(fdv (Y i 5) (2)),(fdv (Y i 6) (2))])) [.h,J1,J2] [1,3,4,22,23,24] [] ⟨oeFold (by kernel_rfl) rfl (by kernel_rfl),trivial⟩ (by have:=hh7 (hY i);(try simp only [b1,b4,b5,b6,b7,b8,b9,b10,b11,b12,b13,b14,gS,gc0,gc1,gc2,gc3,gc4,gc5,gc6,gc7,gc8,gc9,gc10,gc11,gc14,gc15,gc16,gc17,gc19,gc23,gc25,gc29,gc30,gc31,gc32,gc33,gc34,gc35]);(try simp only [gT] at *);try omega) ?_
          exact ih false (by omega) (fun e=>absurd e (by decide))
        rcases ci (Y i 3) (0) with ⟨b15,b15p⟩|⟨b15,b15p⟩
        · refine arF 2 1 [(5,25,true),(43,36,true),(14,9,true),(10,41,true),(14,9,true),(10,46,true),(20,5,false),(6,7,false),(60,9,true),(10,41,true),(14,9,true),(10,46,true),(20,5,false),(6,7,false),(46,36,false)] 49 ((gc28 i n fine Y)) (gchX n Y ex sty sd wd (Nat.add i 1) false (updR Z i [(Y i 0),(fdv (Y i 1) (2)),(fdv (Y i 2) (2)),(fdv (Y i 3) (2)),(fdv (Y i 4) (2)),(fdv (Y i 5) (2)),(fdv (Y i 6) (2))])) [.h,J1,J2] [1,3,4,22,23,24] [] ⟨oeFold (by kernel_rfl) rfl (by kernel_rfl),trivial⟩ (by have:=hh7 (hY i);(try simp only [b1,b4,b5,b6,b7,b8,b9,b10,b11,b12,b13,b14,b15,gS,gc0,gc1,gc2,gc3,gc4,gc5,gc6,gc7,gc8,gc9,gc10,gc11,gc12,gc14,gc15,gc16,gc17,gc18,gc19,gc28]);(try simp only [gT] at *);try omega) ?_
          exact ih false (by omega) (fun e=>absurd e (by decide))
        rcases ci (Y i 4) (0) with ⟨b16,b16p⟩|⟨b16,b16p⟩
        · refine arF 2 1 [(5,25,true),(43,36,true),(14,9,true),(10,41,true),(14,9,true),(10,46,true),(20,5,false),(6,7,false),(60,9,true),(10,41,true),(14,9,true),(10,46,true),(20,5,false),(6,7,false),(46,36,false)] 49 ((gc28 i n fine Y)) (gchX n Y ex sty sd wd (Nat.add i 1) false (updR Z i [(Y i 0),(fdv (Y i 1) (2)),(fdv (Y i 2) (2)),(fdv (Y i 3) (2)),(fdv (Y i 4) (2)),(fdv (Y i 5) (2)),(fdv (Y i 6) (2))])) [.h,J1,J2] [1,3,4,22,23,24] [] ⟨oeFold (by kernel_rfl) rfl (by kernel_rfl),trivial⟩ (by have:=hh7 (hY i);(try simp only [b1,b4,b5,b6,b7,b8,b9,b10,b11,b12,b13,b14,b15,b16,gS,gc0,gc1,gc2,gc3,gc4,gc5,gc6,gc7,gc8,gc9,gc10,gc11,gc12,gc14,gc15,gc16,gc17,gc18,gc19,gc28]);(try simp only [gT] at *);try omega) ?_
          exact ih false (by omega) (fun e=>absurd e (by decide))
        rcases cl (-32000) (Y i 5) with ⟨b17,b17p⟩|⟨b17,b17p⟩
        · refine arF 2 1 [(5,25,true),(43,36,true),(14,9,true),(10,41,true),(14,9,true),(10,46,true),(20,5,false),(6,7,false),(60,9,true),(10,41,true),(14,9,true),(10,46,true),(20,5,false),(6,7,false),(46,36,true),(14,9,false)] 54 ((gc29 i n (band fine (gc30 Y i (gc31 Y i (gc32 Y i (gc33 Y i (gc34 Y i (gc35 Y i (band (gc7 Y i) (gc36 Y i (band (Bool.not (ile (-32000) (Y i 5))) (gc19 Y i n))))))))))))) (gchX n Y ex sty sd wd (Nat.add i 1) false (updR Z i [(Y i 0),(fdv (Y i 1) (2)),(fdv (Y i 2) (2)),(fdv (Y i 3) (2)),(fdv (Y i 4) (2)),(fdv (Y i 5) (2)),(fdv (Y i 6) (2))])) [.h,J1,J2] [1,3,4,22,23,24] [] ⟨oeFold (by kernel_rfl) rfl (by kernel_rfl),trivial⟩ (by have:=hh7 (hY i);(try simp only [b1,b4,b5,b6,b7,b8,b9,b10,b11,b12,b13,b14,b15,b16,b17,gS,gc0,gc1,gc2,gc3,gc4,gc5,gc6,gc7,gc8,gc9,gc10,gc11,gc12,gc14,gc15,gc16,gc17,gc18,gc19,gc29,gc30,gc31,gc32,gc33,gc34,gc35,gc36]);(try simp only [gT] at *);try omega) ?_
          exact ih false (by omega) (fun e=>absurd e (by decide))
        rcases cl (Y i 5) (32000) with ⟨b18,b18p⟩|⟨b18,b18p⟩
        · refine arF 2 1 [(5,25,true),(43,36,true),(14,9,true),(10,41,true),(14,9,true),(10,46,true),(20,5,false),(6,7,false),(60,9,true),(10,41,true),(14,9,true),(10,46,true),(20,5,false),(6,7,false),(46,36,true),(14,9,true),(10,41,false)] 44 ((gc29 i n (band fine (gc30 Y i (gc31 Y i (gc32 Y i (gc33 Y i (gc34 Y i (gc35 Y i (band (gc7 Y i) (gc36 Y i (gc20 Y i n)))))))))))) (gchX n Y ex sty sd wd (Nat.add i 1) false (updR Z i [(Y i 0),(fdv (Y i 1) (2)),(fdv (Y i 2) (2)),(fdv (Y i 3) (2)),(fdv (Y i 4) (2)),(fdv (Y i 5) (2)),(fdv (Y i 6) (2))])) [.h,J1,J2] [1,3,4,22,23,24] [] ⟨oeFold (by kernel_rfl) rfl (by kernel_rfl),trivial⟩ (by have:=hh7 (hY i);(try simp only [b1,b4,b5,b6,b7,b8,b9,b10,b11,b12,b13,b14,b15,b16,b17,b18,gS,gc0,gc1,gc2,gc3,gc4,gc5,gc6,gc7,gc8,gc9,gc10,gc11,gc12,gc14,gc15,gc16,gc17,gc18,gc19,gc20,gc29,gc30,gc31,gc32,gc33,gc34,gc35,gc36]);(try simp only [gT] at *);try omega) ?_
          exact ih false (by omega) (fun e=>absurd e (by decide))
        rcases cl (-32000) (Y i 6) with ⟨b19,b19p⟩|⟨b19,b19p⟩
        · refine arF 2 1 [(5,25,true),(43,36,true),(14,9,true),(10,41,true),(14,9,true),(10,46,true),(20,5,false),(6,7,false),(60,9,true),(10,41,true),(14,9,true),(10,46,true),(20,5,false),(6,7,false),(46,36,true),(14,9,true),(10,41,true),(14,9,false)] 49 ((gc29 i n (band fine (gc30 Y i (gc31 Y i (gc32 Y i (gc33 Y i (gc34 Y i (gc35 Y i (band (gc7 Y i) (gc36 Y i (gc21 Y i n)))))))))))) (gchX n Y ex sty sd wd (Nat.add i 1) false (updR Z i [(Y i 0),(fdv (Y i 1) (2)),(fdv (Y i 2) (2)),(fdv (Y i 3) (2)),(fdv (Y i 4) (2)),(fdv (Y i 5) (2)),(fdv (Y i 6) (2))])) [.h,J1,J2] [1,3,4,22,23,24] [] ⟨oeFold (by kernel_rfl) rfl (by kernel_rfl),trivial⟩ (by have:=hh7 (hY i);(try simp only [b1,b4,b5,b6,b7,b8,b9,b10,b11,b12,b13,b14,b15,b16,b17,b18,b19,gS,gc0,gc1,gc2,gc3,gc4,gc5,gc6,gc7,gc8,gc9,gc10,gc11,gc12,gc14,gc15,gc16,gc17,gc18,gc19,gc21,gc29,gc30,gc31,gc32,gc33,gc34,gc35,gc36]);(try simp only [gT] at *);try omega) ?_
          exact ih false (by omega) (fun e=>absurd e (by decide))
        rcases cl (Y i 6) (32000) with ⟨b20,b20p⟩|⟨b20,b20p⟩
        · refine arF 2 1 [(5,25,true),(43,36,true),(14,9,true),(10,41,true),(14,9,true),(10,46,true),(20,5,false),(6,7,false),(60,9,true),(10,41,true),(14,9,true),(10,46,true),(20,5,false),(6,7,false),(46,36,true),(14,9,true),(10,41,true),(14,9,true),(10,46,false)] 39 ((gc29 i n (band fine (gc30 Y i (gc31 Y i (gc32 Y i (gc33 Y i (gc34 Y i (gc35 Y i (band (gc7 Y i) (gc36 Y i (gc22 Y i n)))))))))))) (gchX n Y ex sty sd wd (Nat.add i 1) false (updR Z i [(Y i 0),(fdv (Y i 1) (2)),(fdv (Y i 2) (2)),(fdv (Y i 3) (2)),(fdv (Y i 4) (2)),(fdv (Y i 5) (2)),(fdv (Y i 6) (2))])) [.h,J1,J2] [1,3,4,22,23,24] [] ⟨oeFold (by kernel_rfl) rfl (by kernel_rfl),trivial⟩ (by have:=hh7 (hY i);(try simp only [b1,b4,b5,b6,b7,b8,b9,b10,b11,b12,b13,b14,b15,b16,b17,b18,b19,b20,gS,gc0,gc1,gc2,gc3,gc4,gc5,gc6,gc7,gc8,gc9,gc10,gc11,gc12,gc14,gc15,gc16,gc17,gc18,gc19,gc22,gc29,gc30,gc31,gc32,gc33,gc34,gc35,gc36]);(try simp only [gT] at *);try omega) ?_
          exact ih false (by omega) (fun e=>absurd e (by decide))
        refine arF 2 1 [(5,25,true),(43,36,true),(14,9,true),(10,41,true),(14,9,true),(10,46,true),(20,5,false),(6,7,false),(60,9,true),(10,41,true),(14,9,true),(10,46,true),(20,5,false),(6,7,false),(46,36,true),(14,9,true),(10,41,true),(14,9,true),(10,46,true),(20,5,false),(6,7,false)] 45 ((gc29 i n (band fine (gc30 Y i (gc31 Y i (gc32 Y i (gc33 Y i (gc34 Y i (gc35 Y i (band (gc7 Y i) (gc36 Y i (band (ile (-32000) (Y i 5)) (band (ile (Y i 5) (32000)) (band (ile (-32000) (Y i 6)) (band (ile (Y i 6) (32000)) (band (gc10 Y i) (band (gc11 Y i) (gc19 Y i n)))))))))))))))))) (gchX n Y ex sty sd wd (Nat.add i 1) (Bool.and (ieq (Y i 5) (0)) (Bool.and (ieq (Y i 6) (0)) true)) (updR Z i [(Y i 0),(fdv (Y i 1) (2)),(fdv (Y i 2) (2)),(fdv (Y i 3) (2)),(fdv (Y i 4) (2)),(fdv (Y i 5) (2)),(fdv (Y i 6) (2))])) [.h,J1,J2] [1,3,4,22,23,24] [] ⟨oeFold (by kernel_rfl) rfl (by kernel_rfl),trivial⟩ (by have:=hh7 (hY i);(try simp only [b1,b4,b5,b6,b7,b8,b9,b10,b11,b12,b13,b14,b15,b16,b17,b18,b19,b20,gS,gc0,gc1,gc2,gc3,gc4,gc5,gc6,gc7,gc8,gc9,gc10,gc11,gc12,gc14,gc15,gc16,gc17,gc18,gc19,gc29,gc30,gc31,gc32,gc33,gc34,gc35,gc36]);(try simp only [gT] at *);try omega) ?_
        exact ih (Bool.and (ieq (Y i 5) (0)) (Bool.and (ieq (Y i 6) (0)) true)) (by omega) (fun e=>⟨b4,by unfold GStep;(try simp only [and_iff',ieq_iff] at e);omega⟩)
      rcases cl (-32000) (Y i 3) with ⟨b21,b21p⟩|⟨b21,b21p⟩
      · refine arF 2 1 [(5,25,true),(43,36,true),(14,9,true),(10,41,true),(14,9,true),(10,46,true),(20,5,false),(6,7,true),(58,9,false)] 104 ((gc29 i n (band fine (gc30 Y i (gc31 Y i (gc32 Y i (gc33 Y i (gc34 Y i (gc37 Y i (band (Bool.not (gc7 Y i)) (gc23 Y i n))))))))))) (gchX n Y ex sty sd wd (Nat.add i 1) false (updR Z i [(Y i 0),(fdv (Y i 1) (2)),(fdv (Y i 2) (2)),(fdv (Y i 3) (2)),(fdv (Y i 4) (2)),(fdv (Y i 5) (2)),(fdv (Y i 6) (2))])) [.h,J1,J2] [1,3,4,22,23,24] [] ⟨oeFold (by kernel_rfl) rfl (by kernel_rfl),trivial⟩ (by have:=hh7 (hY i);(try simp only [b1,b4,b5,b6,b7,b8,b9,b10,b21,gS,gc0,gc1,gc2,gc5,gc6,gc7,gc9,gc10,gc14,gc15,gc16,gc17,gc19,gc23,gc29,gc30,gc31,gc32,gc33,gc34,gc37]);(try simp only [gT] at *);try omega) ?_
        exact ih false (by omega) (fun e=>absurd e (by decide))
      rcases cl (Y i 3) (32000) with ⟨b22,b22p⟩|⟨b22,b22p⟩
      · refine arF 2 1 [(5,25,true),(43,36,true),(14,9,true),(10,41,true),(14,9,true),(10,46,true),(20,5,false),(6,7,true),(58,9,true),(10,41,false)] 94 ((gc29 i n (band fine (gc30 Y i (gc31 Y i (gc32 Y i (gc33 Y i (gc34 Y i (gc37 Y i (band (gc7 Y i) (band (Bool.not (gc3 Y i)) (gc23 Y i n)))))))))))) (gchX n Y ex sty sd wd (Nat.add i 1) false (updR Z i [(Y i 0),(fdv (Y i 1) (2)),(fdv (Y i 2) (2)),(fdv (Y i 3) (2)),(fdv (Y i 4) (2)),(fdv (Y i 5) (2)),(fdv (Y i 6) (2))])) [.h,J1,J2] [1,3,4,22,23,24] [] ⟨oeFold (by kernel_rfl) rfl (by kernel_rfl),trivial⟩ (by have:=hh7 (hY i);(try simp only [b1,b4,b5,b6,b7,b8,b9,b10,b21,b22,gS,gc0,gc1,gc2,gc3,gc5,gc6,gc7,gc9,gc10,gc14,gc15,gc16,gc17,gc19,gc23,gc29,gc30,gc31,gc32,gc33,gc34,gc37]);(try simp only [gT] at *);try omega) ?_
        exact ih false (by omega) (fun e=>absurd e (by decide))
      rcases cl (-32000) (Y i 4) with ⟨b23,b23p⟩|⟨b23,b23p⟩
      · refine arF 2 1 [(5,25,true),(43,36,true),(14,9,true),(10,41,true),(14,9,true),(10,46,true),(20,5,false),(6,7,true),(58,9,true),(10,41,true),(14,9,false)] 99 ((gc29 i n (band fine (gc30 Y i (gc31 Y i (gc32 Y i (gc33 Y i (gc34 Y i (gc37 Y i (gc24 Y i n)))))))))) (gchX n Y ex sty sd wd (Nat.add i 1) false (updR Z i [(Y i 0),(fdv (Y i 1) (2)),(fdv (Y i 2) (2)),(fdv (Y i 3) (2)),(fdv (Y i 4) (2)),(fdv (Y i 5) (2)),(fdv (Y i 6) (2))])) [.h,J1,J2] [1,3,4,22,23,24] [] ⟨oeFold (by kernel_rfl) rfl (by kernel_rfl),trivial⟩ (by have:=hh7 (hY i);(try simp only [b1,b4,b5,b6,b7,b8,b9,b10,b21,b22,b23,gS,gc0,gc1,gc2,gc3,gc5,gc6,gc7,gc8,gc9,gc10,gc14,gc15,gc16,gc17,gc19,gc23,gc24,gc29,gc30,gc31,gc32,gc33,gc34,gc37]);(try simp only [gT] at *);try omega) ?_
        exact ih false (by omega) (fun e=>absurd e (by decide))
      rcases cl (Y i 4) (32000) with ⟨b24,b24p⟩|⟨b24,b24p⟩
      · refine arF 2 1 [(5,25,true),(43,36,true),(14,9,true),(10,41,true),(14,9,true),(10,46,true),(20,5,false),(6,7,true),(58,9,true),(10,41,true),(14,9,true),(10,46,false)] 89 ((gc29 i n (band fine (gc30 Y i (gc31 Y i (gc32 Y i (gc33 Y i (gc34 Y i (gc37 Y i (gc25 Y i n)))))))))) (gchX n Y ex sty sd wd (Nat.add i 1) false (updR Z i [(Y i 0),(fdv (Y i 1) (2)),(fdv (Y i 2) (2)),(fdv (Y i 3) (2)),(fdv (Y i 4) (2)),(fdv (Y i 5) (2)),(fdv (Y i 6) (2))])) [.h,J1,J2] [1,3,4,22,23,24] [] ⟨oeFold (by kernel_rfl) rfl (by kernel_rfl),trivial⟩ (by have:=hh7 (hY i);(try simp only [b1,b4,b5,b6,b7,b8,b9,b10,b21,b22,b23,b24,gS,gc0,gc1,gc2,gc3,gc4,gc5,gc6,gc7,gc8,gc9,gc10,gc14,gc15,gc16,gc17,gc19,gc23,gc25,gc29,gc30,gc31,gc32,gc33,gc34,gc37]);(try simp only [gT] at *);try omega) ?_
        exact ih false (by omega) (fun e=>absurd e (by decide))
      rcases cl (-32000) (Y i 5) with ⟨b25,b25p⟩|⟨b25,b25p⟩
      · refine arF 2 1 [(5,25,true),(43,36,true),(14,9,true),(10,41,true),(14,9,true),(10,46,true),(20,5,false),(6,7,true),(58,9,true),(10,41,true),(14,9,true),(10,46,true),(20,5,false),(6,7,true),(58,9,false)] 54 ((gc29 i n (band fine (gc30 Y i (gc31 Y i (gc32 Y i (gc33 Y i (gc34 Y i (gc37 Y i (band (gc7 Y i) (gc38 Y i (band (Bool.not (ile (-32000) (Y i 5))) (gc19 Y i n))))))))))))) (gchX n Y ex sty sd wd (Nat.add i 1) false (updR Z i [(Y i 0),(fdv (Y i 1) (2)),(fdv (Y i 2) (2)),(fdv (Y i 3) (2)),(fdv (Y i 4) (2)),(fdv (Y i 5) (2)),(fdv (Y i 6) (2))])) [.h,J1,J2] [1,3,4,22,23,24] [] ⟨oeFold (by kernel_rfl) rfl (by kernel_rfl),trivial⟩ (by have:=hh7 (hY i);(try simp only [b1,b4,b5,b6,b7,b8,b9,b10,b21,b22,b23,b24,b25,gS,gc0,gc1,gc2,gc3,gc4,gc5,gc6,gc7,gc8,gc9,gc10,gc14,gc15,gc16,gc17,gc18,gc19,gc29,gc30,gc31,gc32,gc33,gc34,gc37,gc38]);(try simp only [gT] at *);try omega) ?_
        exact ih false (by omega) (fun e=>absurd e (by decide))
      rcases cl (Y i 5) (32000) with ⟨b26,b26p⟩|⟨b26,b26p⟩
      · refine arF 2 1 [(5,25,true),(43,36,true),(14,9,true),(10,41,true),(14,9,true),(10,46,true),(20,5,false),(6,7,true),(58,9,true),(10,41,true),(14,9,true),(10,46,true),(20,5,false),(6,7,true),(58,9,true),(10,41,false)] 44 ((gc29 i n (band fine (gc30 Y i (gc31 Y i (gc32 Y i (gc33 Y i (gc34 Y i (gc37 Y i (band (gc7 Y i) (gc38 Y i (gc20 Y i n)))))))))))) (gchX n Y ex sty sd wd (Nat.add i 1) false (updR Z i [(Y i 0),(fdv (Y i 1) (2)),(fdv (Y i 2) (2)),(fdv (Y i 3) (2)),(fdv (Y i 4) (2)),(fdv (Y i 5) (2)),(fdv (Y i 6) (2))])) [.h,J1,J2] [1,3,4,22,23,24] [] ⟨oeFold (by kernel_rfl) rfl (by kernel_rfl),trivial⟩ (by have:=hh7 (hY i);(try simp only [b1,b4,b5,b6,b7,b8,b9,b10,b21,b22,b23,b24,b25,b26,gS,gc0,gc1,gc2,gc3,gc4,gc5,gc6,gc7,gc8,gc9,gc10,gc14,gc15,gc16,gc17,gc18,gc19,gc20,gc29,gc30,gc31,gc32,gc33,gc34,gc37,gc38]);(try simp only [gT] at *);try omega) ?_
        exact ih false (by omega) (fun e=>absurd e (by decide))
      rcases cl (-32000) (Y i 6) with ⟨b27,b27p⟩|⟨b27,b27p⟩
      · refine arF 2 1 [(5,25,true),(43,36,true),(14,9,true),(10,41,true),(14,9,true),(10,46,true),(20,5,false),(6,7,true),(58,9,true),(10,41,true),(14,9,true),(10,46,true),(20,5,false),(6,7,true),(58,9,true),(10,41,true),(14,9,false)] 49 ((gc29 i n (band fine (gc30 Y i (gc31 Y i (gc32 Y i (gc33 Y i (gc34 Y i (gc37 Y i (band (gc7 Y i) (gc38 Y i (gc21 Y i n)))))))))))) (gchX n Y ex sty sd wd (Nat.add i 1) false (updR Z i [(Y i 0),(fdv (Y i 1) (2)),(fdv (Y i 2) (2)),(fdv (Y i 3) (2)),(fdv (Y i 4) (2)),(fdv (Y i 5) (2)),(fdv (Y i 6) (2))])) [.h,J1,J2] [1,3,4,22,23,24] [] ⟨oeFold (by kernel_rfl) rfl (by kernel_rfl),trivial⟩ (by have:=hh7 (hY i);(try simp only [b1,b4,b5,b6,b7,b8,b9,b10,b21,b22,b23,b24,b25,b26,b27,gS,gc0,gc1,gc2,gc3,gc4,gc5,gc6,gc7,gc8,gc9,gc10,gc14,gc15,gc16,gc17,gc18,gc19,gc21,gc29,gc30,gc31,gc32,gc33,gc34,gc37,gc38]);(try simp only [gT] at *);try omega) ?_
        exact ih false (by omega) (fun e=>absurd e (by decide))
      rcases cl (Y i 6) (32000) with ⟨b28,b28p⟩|⟨b28,b28p⟩
      · refine arF 2 1 [(5,25,true),(43,36,true),(14,9,true),(10,41,true),(14,9,true),(10,46,true),(20,5,false),(6,7,true),(58,9,true),(10,41,true),(14,9,true),(10,46,true),(20,5,false),(6,7,true),(58,9,true),(10,41,true),(14,9,true),(10,46,false)] 39 ((gc29 i n (band fine (gc30 Y i (gc31 Y i (gc32 Y i (gc33 Y i (gc34 Y i (gc37 Y i (band (gc7 Y i) (gc38 Y i (gc22 Y i n)))))))))))) (gchX n Y ex sty sd wd (Nat.add i 1) false (updR Z i [(Y i 0),(fdv (Y i 1) (2)),(fdv (Y i 2) (2)),(fdv (Y i 3) (2)),(fdv (Y i 4) (2)),(fdv (Y i 5) (2)),(fdv (Y i 6) (2))])) [.h,J1,J2] [1,3,4,22,23,24] [] ⟨oeFold (by kernel_rfl) rfl (by kernel_rfl),trivial⟩ (by have:=hh7 (hY i);(try simp only [b1,b4,b5,b6,b7,b8,b9,b10,b21,b22,b23,b24,b25,b26,b27,b28,gS,gc0,gc1,gc2,gc3,gc4,gc5,gc6,gc7,gc8,gc9,gc10,gc14,gc15,gc16,gc17,gc18,gc19,gc22,gc29,gc30,gc31,gc32,gc33,gc34,gc37,gc38]);(try simp only [gT] at *);try omega) ?_
        exact ih false (by omega) (fun e=>absurd e (by decide))
      refine arF 2 1 [(5,25,true),(43,36,true),(14,9,true),(10,41,true),(14,9,true),(10,46,true),(20,5,false),(6,7,true),(58,9,true),(10,41,true),(14,9,true),(10,46,true),(20,5,false),(6,7,true),(58,9,true),(10,41,true),(14,9,true),(10,46,true),(20,5,false),(6,7,true)] 43 ((gc29 i n (band fine (gc30 Y i (gc31 Y i (gc32 Y i (gc33 Y i (gc34 Y i (gc37 Y i (band (gc7 Y i) (gc38 Y i (band (ile (-32000) (Y i 5)) (band (ile (Y i 5) (32000)) (band (ile (-32000) (Y i 6)) (band (ile (Y i 6) (32000)) (band (gc10 Y i) (band (ieq (Y i 0) (3)) (gc19 Y i n)))))))))))))))))) (gchX n Y ex sty sd wd (Nat.add i 1) true (updR Z i [(Y i 0),(fdv (Y i 1) (2)),(fdv (Y i 2) (2)),(fdv (Y i 3) (2)),(fdv (Y i 4) (2)),(fdv (Y i 5) (2)),(fdv (Y i 6) (2))])) [.h,J1,J2] [1,3,4,22,23,24] [] ⟨oeFold (by kernel_rfl) rfl (by kernel_rfl),trivial⟩ (by have:=hh7 (hY i);(try simp only [b1,b4,b5,b6,b7,b8,b9,b10,b21,b22,b23,b24,b25,b26,b27,b28,gS,gc0,gc1,gc2,gc3,gc4,gc5,gc6,gc7,gc8,gc9,gc10,gc14,gc15,gc16,gc17,gc18,gc19,gc29,gc30,gc31,gc32,gc33,gc34,gc37,gc38]);(try simp only [gT] at *);try omega) ?_
      exact ih true (by omega) (fun e=>⟨b4,by unfold GStep;(try simp only [and_iff',ieq_iff] at e);omega⟩)
    rcases ci (Y i 1) (0) with ⟨b29,b29p⟩|⟨b29,b29p⟩
    · refine arF 2 1 [(5,25,true),(43,36,true),(14,9,true),(10,41,true),(14,9,true),(10,46,true),(20,5,true),(44,36,false)] 99 ((gc26 i n fine Y)) (gchX n Y ex sty sd wd (Nat.add i 1) false (updR Z i [(Y i 0),(fdv (Y i 1) (2)),(fdv (Y i 2) (2)),(fdv (Y i 3) (2)),(fdv (Y i 4) (2)),(fdv (Y i 5) (2)),(fdv (Y i 6) (2))])) [.h,J1,J2] [1,3,4,22,23,24] [] ⟨oeFold (by kernel_rfl) rfl (by kernel_rfl),trivial⟩ (by have:=hh7 (hY i);(try simp only [b1,b4,b5,b6,b7,b8,b9,b29,gS,gc0,gc1,gc2,gc5,gc6,gc9,gc13,gc14,gc15,gc16,gc17,gc19,gc23,gc26]);(try simp only [gT] at *);try omega) ?_
      exact ih false (by omega) (fun e=>absurd e (by decide))
    rcases ci (Y i 2) (0) with ⟨b30,b30p⟩|⟨b30,b30p⟩
    · refine arF 2 1 [(5,25,true),(43,36,true),(14,9,true),(10,41,true),(14,9,true),(10,46,true),(20,5,true),(44,36,false)] 99 ((gc26 i n fine Y)) (gchX n Y ex sty sd wd (Nat.add i 1) false (updR Z i [(Y i 0),(fdv (Y i 1) (2)),(fdv (Y i 2) (2)),(fdv (Y i 3) (2)),(fdv (Y i 4) (2)),(fdv (Y i 5) (2)),(fdv (Y i 6) (2))])) [.h,J1,J2] [1,3,4,22,23,24] [] ⟨oeFold (by kernel_rfl) rfl (by kernel_rfl),trivial⟩ (by have:=hh7 (hY i);(try simp only [b1,b4,b5,b6,b7,b8,b9,b29,b30,gS,gc0,gc1,gc2,gc5,gc6,gc9,gc13,gc14,gc15,gc16,gc17,gc19,gc23,gc26]);(try simp only [gT] at *);try omega) ?_
      exact ih false (by omega) (fun e=>absurd e (by decide))
    rcases cl (-32000) (Y i 3) with ⟨b31,b31p⟩|⟨b31,b31p⟩
    · refine arF 2 1 [(5,25,true),(43,36,true),(14,9,true),(10,41,true),(14,9,true),(10,46,true),(20,5,true),(44,36,true),(14,9,false)] 104 ((gc29 i n (band fine (gc30 Y i (gc31 Y i (gc32 Y i (gc33 Y i (gc39 Y i (band (Bool.not (gc7 Y i)) (gc23 Y i n)))))))))) (gchX n Y ex sty sd wd (Nat.add i 1) false (updR Z i [(Y i 0),(fdv (Y i 1) (2)),(fdv (Y i 2) (2)),(fdv (Y i 3) (2)),(fdv (Y i 4) (2)),(fdv (Y i 5) (2)),(fdv (Y i 6) (2))])) [.h,J1,J2] [1,3,4,22,23,24] [] ⟨oeFold (by kernel_rfl) rfl (by kernel_rfl),trivial⟩ (by have:=hh7 (hY i);(try simp only [b1,b4,b5,b6,b7,b8,b9,b29,b30,b31,gS,gc0,gc1,gc2,gc5,gc6,gc7,gc9,gc13,gc14,gc15,gc16,gc17,gc19,gc23,gc29,gc30,gc31,gc32,gc33,gc39]);(try simp only [gT] at *);try omega) ?_
      exact ih false (by omega) (fun e=>absurd e (by decide))
    rcases cl (Y i 3) (32000) with ⟨b32,b32p⟩|⟨b32,b32p⟩
    · refine arF 2 1 [(5,25,true),(43,36,true),(14,9,true),(10,41,true),(14,9,true),(10,46,true),(20,5,true),(44,36,true),(14,9,true),(10,41,false)] 94 ((gc29 i n (band fine (gc30 Y i (gc31 Y i (gc32 Y i (gc33 Y i (gc39 Y i (band (gc7 Y i) (band (Bool.not (gc3 Y i)) (gc23 Y i n))))))))))) (gchX n Y ex sty sd wd (Nat.add i 1) false (updR Z i [(Y i 0),(fdv (Y i 1) (2)),(fdv (Y i 2) (2)),(fdv (Y i 3) (2)),(fdv (Y i 4) (2)),(fdv (Y i 5) (2)),(fdv (Y i 6) (2))])) [.h,J1,J2] [1,3,4,22,23,24] [] ⟨oeFold (by kernel_rfl) rfl (by kernel_rfl),trivial⟩ (by have:=hh7 (hY i);(try simp only [b1,b4,b5,b6,b7,b8,b9,b29,b30,b31,b32,gS,gc0,gc1,gc2,gc3,gc5,gc6,gc7,gc9,gc13,gc14,gc15,gc16,gc17,gc19,gc23,gc29,gc30,gc31,gc32,gc33,gc39]);(try simp only [gT] at *);try omega) ?_
      exact ih false (by omega) (fun e=>absurd e (by decide))
    rcases cl (-32000) (Y i 4) with ⟨b33,b33p⟩|⟨b33,b33p⟩
    · refine arF 2 1 [(5,25,true),(43,36,true),(14,9,true),(10,41,true),(14,9,true),(10,46,true),(20,5,true),(44,36,true),(14,9,true),(10,41,true),(14,9,false)] 99 ((gc29 i n (band fine (gc30 Y i (gc31 Y i (gc32 Y i (gc33 Y i (gc39 Y i (gc24 Y i n))))))))) (gchX n Y ex sty sd wd (Nat.add i 1) false (updR Z i [(Y i 0),(fdv (Y i 1) (2)),(fdv (Y i 2) (2)),(fdv (Y i 3) (2)),(fdv (Y i 4) (2)),(fdv (Y i 5) (2)),(fdv (Y i 6) (2))])) [.h,J1,J2] [1,3,4,22,23,24] [] ⟨oeFold (by kernel_rfl) rfl (by kernel_rfl),trivial⟩ (by have:=hh7 (hY i);(try simp only [b1,b4,b5,b6,b7,b8,b9,b29,b30,b31,b32,b33,gS,gc0,gc1,gc2,gc3,gc5,gc6,gc7,gc8,gc9,gc13,gc14,gc15,gc16,gc17,gc19,gc23,gc24,gc29,gc30,gc31,gc32,gc33,gc39]);(try simp only [gT] at *);try omega) ?_
      exact ih false (by omega) (fun e=>absurd e (by decide))
    rcases cl (Y i 4) (32000) with ⟨b34,b34p⟩|⟨b34,b34p⟩
    · refine arF 2 1 [(5,25,true),(43,36,true),(14,9,true),(10,41,true),(14,9,true),(10,46,true),(20,5,true),(44,36,true),(14,9,true),(10,41,true),(14,9,true),(10,46,false)] 89 ((gc29 i n (band fine (gc30 Y i (gc31 Y i (gc32 Y i (gc33 Y i (gc39 Y i (gc25 Y i n))))))))) (gchX n Y ex sty sd wd (Nat.add i 1) false (updR Z i [(Y i 0),(fdv (Y i 1) (2)),(fdv (Y i 2) (2)),(fdv (Y i 3) (2)),(fdv (Y i 4) (2)),(fdv (Y i 5) (2)),(fdv (Y i 6) (2))])) [.h,J1,J2] [1,3,4,22,23,24] [] ⟨oeFold (by kernel_rfl) rfl (by kernel_rfl),trivial⟩ (by have:=hh7 (hY i);(try simp only [b1,b4,b5,b6,b7,b8,b9,b29,b30,b31,b32,b33,b34,gS,gc0,gc1,gc2,gc3,gc4,gc5,gc6,gc7,gc8,gc9,gc13,gc14,gc15,gc16,gc17,gc19,gc23,gc25,gc29,gc30,gc31,gc32,gc33,gc39]);(try simp only [gT] at *);try omega) ?_
      exact ih false (by omega) (fun e=>absurd e (by decide))
    rcases ci (Y i 3) (0) with ⟨b35,b35p⟩|⟨b35,b35p⟩
    · refine arF 2 1 [(5,25,true),(43,36,true),(14,9,true),(10,41,true),(14,9,true),(10,46,true),(20,5,true),(44,36,true),(14,9,true),(10,41,true),(14,9,true),(10,46,true),(20,5,true),(44,36,false)] 49 ((gc27 i n fine Y)) (gchX n Y ex sty sd wd (Nat.add i 1) false (updR Z i [(Y i 0),(fdv (Y i 1) (2)),(fdv (Y i 2) (2)),(fdv (Y i 3) (2)),(fdv (Y i 4) (2)),(fdv (Y i 5) (2)),(fdv (Y i 6) (2))])) [.h,J1,J2] [1,3,4,22,23,24] [] ⟨oeFold (by kernel_rfl) rfl (by kernel_rfl),trivial⟩ (by have:=hh7 (hY i);(try simp only [b1,b4,b5,b6,b7,b8,b9,b29,b30,b31,b32,b33,b34,b35,gS,gc0,gc1,gc2,gc3,gc4,gc5,gc6,gc7,gc8,gc9,gc12,gc13,gc14,gc15,gc16,gc17,gc18,gc19,gc27]);(try simp only [gT] at *);try omega) ?_
      exact ih false (by omega) (fun e=>absurd e (by decide))
    rcases ci (Y i 4) (0) with ⟨b36,b36p⟩|⟨b36,b36p⟩
    · refine arF 2 1 [(5,25,true),(43,36,true),(14,9,true),(10,41,true),(14,9,true),(10,46,true),(20,5,true),(44,36,true),(14,9,true),(10,41,true),(14,9,true),(10,46,true),(20,5,true),(44,36,false)] 49 ((gc27 i n fine Y)) (gchX n Y ex sty sd wd (Nat.add i 1) false (updR Z i [(Y i 0),(fdv (Y i 1) (2)),(fdv (Y i 2) (2)),(fdv (Y i 3) (2)),(fdv (Y i 4) (2)),(fdv (Y i 5) (2)),(fdv (Y i 6) (2))])) [.h,J1,J2] [1,3,4,22,23,24] [] ⟨oeFold (by kernel_rfl) rfl (by kernel_rfl),trivial⟩ (by have:=hh7 (hY i);(try simp only [b1,b4,b5,b6,b7,b8,b9,b29,b30,b31,b32,b33,b34,b35,b36,gS,gc0,gc1,gc2,gc3,gc4,gc5,gc6,gc7,gc8,gc9,gc12,gc13,gc14,gc15,gc16,gc17,gc18,gc19,gc27]);(try simp only [gT] at *);try omega) ?_
      exact ih false (by omega) (fun e=>absurd e (by decide))
    rcases cl (-32000) (Y i 5) with ⟨b37,b37p⟩|⟨b37,b37p⟩
    · refine arF 2 1 [(5,25,true),(43,36,true),(14,9,true),(10,41,true),(14,9,true),(10,46,true),(20,5,true),(44,36,true),(14,9,true),(10,41,true),(14,9,true),(10,46,true),(20,5,true),(44,36,true),(14,9,false)] 54 ((gc29 i n (band fine (gc30 Y i (gc31 Y i (gc32 Y i (gc33 Y i (gc39 Y i (band (gc7 Y i) (gc40 Y i (band (Bool.not (ile (-32000) (Y i 5))) (gc19 Y i n)))))))))))) (gchX n Y ex sty sd wd (Nat.add i 1) false (updR Z i [(Y i 0),(fdv (Y i 1) (2)),(fdv (Y i 2) (2)),(fdv (Y i 3) (2)),(fdv (Y i 4) (2)),(fdv (Y i 5) (2)),(fdv (Y i 6) (2))])) [.h,J1,J2] [1,3,4,22,23,24] [] ⟨oeFold (by kernel_rfl) rfl (by kernel_rfl),trivial⟩ (by have:=hh7 (hY i);(try simp only [b1,b4,b5,b6,b7,b8,b9,b29,b30,b31,b32,b33,b34,b35,b36,b37,gS,gc0,gc1,gc2,gc3,gc4,gc5,gc6,gc7,gc8,gc9,gc12,gc13,gc14,gc15,gc16,gc17,gc18,gc19,gc29,gc30,gc31,gc32,gc33,gc39,gc40]);(try simp only [gT] at *);try omega) ?_
      exact ih false (by omega) (fun e=>absurd e (by decide))
    rcases cl (Y i 5) (32000) with ⟨b38,b38p⟩|⟨b38,b38p⟩
    · refine arF 2 1 [(5,25,true),(43,36,true),(14,9,true),(10,41,true),(14,9,true),(10,46,true),(20,5,true),(44,36,true),(14,9,true),(10,41,true),(14,9,true),(10,46,true),(20,5,true),(44,36,true),(14,9,true),(10,41,false)] 44 ((gc29 i n (band fine (gc30 Y i (gc31 Y i (gc32 Y i (gc33 Y i (gc39 Y i (band (gc7 Y i) (gc40 Y i (gc20 Y i n))))))))))) (gchX n Y ex sty sd wd (Nat.add i 1) false (updR Z i [(Y i 0),(fdv (Y i 1) (2)),(fdv (Y i 2) (2)),(fdv (Y i 3) (2)),(fdv (Y i 4) (2)),(fdv (Y i 5) (2)),(fdv (Y i 6) (2))])) [.h,J1,J2] [1,3,4,22,23,24] [] ⟨oeFold (by kernel_rfl) rfl (by kernel_rfl),trivial⟩ (by have:=hh7 (hY i);(try simp only [b1,b4,b5,b6,b7,b8,b9,b29,b30,b31,b32,b33,b34,b35,b36,b37,b38,gS,gc0,gc1,gc2,gc3,gc4,gc5,gc6,gc7,gc8,gc9,gc12,gc13,gc14,gc15,gc16,gc17,gc18,gc19,gc20,gc29,gc30,gc31,gc32,gc33,gc39,gc40]);(try simp only [gT] at *);try omega) ?_
      exact ih false (by omega) (fun e=>absurd e (by decide))
    rcases cl (-32000) (Y i 6) with ⟨b39,b39p⟩|⟨b39,b39p⟩
    · refine arF 2 1 [(5,25,true),(43,36,true),(14,9,true),(10,41,true),(14,9,true),(10,46,true),(20,5,true),(44,36,true),(14,9,true),(10,41,true),(14,9,true),(10,46,true),(20,5,true),(44,36,true),(14,9,true),(10,41,true),(14,9,false)] 49 ((gc29 i n (band fine (gc30 Y i (gc31 Y i (gc32 Y i (gc33 Y i (gc39 Y i (band (gc7 Y i) (gc40 Y i (gc21 Y i n))))))))))) (gchX n Y ex sty sd wd (Nat.add i 1) false (updR Z i [(Y i 0),(fdv (Y i 1) (2)),(fdv (Y i 2) (2)),(fdv (Y i 3) (2)),(fdv (Y i 4) (2)),(fdv (Y i 5) (2)),(fdv (Y i 6) (2))])) [.h,J1,J2] [1,3,4,22,23,24] [] ⟨oeFold (by kernel_rfl) rfl (by kernel_rfl),trivial⟩ (by have:=hh7 (hY i);(try simp only [b1,b4,b5,b6,b7,b8,b9,b29,b30,b31,b32,b33,b34,b35,b36,b37,b38,b39,gS,gc0,gc1,gc2,gc3,gc4,gc5,gc6,gc7,gc8,gc9,gc12,gc13,gc14,gc15,gc16,gc17,gc18,gc19,gc21,gc29,gc30,gc31,gc32,gc33,gc39,gc40]);(try simp only [gT] at *);try omega) ?_
      exact ih false (by omega) (fun e=>absurd e (by decide))
    rcases cl (Y i 6) (32000) with ⟨b40,b40p⟩|⟨b40,b40p⟩
    · refine arF 2 1 [(5,25,true),(43,36,true),(14,9,true),(10,41,true),(14,9,true),(10,46,true),(20,5,true),(44,36,true),(14,9,true),(10,41,true),(14,9,true),(10,46,true),(20,5,true),(44,36,true),(14,9,true),(10,41,true),(14,9,true),(10,46,false)] 39 ((gc29 i n (band fine (gc30 Y i (gc31 Y i (gc32 Y i (gc33 Y i (gc39 Y i (band (gc7 Y i) (gc40 Y i (gc22 Y i n))))))))))) (gchX n Y ex sty sd wd (Nat.add i 1) false (updR Z i [(Y i 0),(fdv (Y i 1) (2)),(fdv (Y i 2) (2)),(fdv (Y i 3) (2)),(fdv (Y i 4) (2)),(fdv (Y i 5) (2)),(fdv (Y i 6) (2))])) [.h,J1,J2] [1,3,4,22,23,24] [] ⟨oeFold (by kernel_rfl) rfl (by kernel_rfl),trivial⟩ (by have:=hh7 (hY i);(try simp only [b1,b4,b5,b6,b7,b8,b9,b29,b30,b31,b32,b33,b34,b35,b36,b37,b38,b39,b40,gS,gc0,gc1,gc2,gc3,gc4,gc5,gc6,gc7,gc8,gc9,gc12,gc13,gc14,gc15,gc16,gc17,gc18,gc19,gc22,gc29,gc30,gc31,gc32,gc33,gc39,gc40]);(try simp only [gT] at *);try omega) ?_
      exact ih false (by omega) (fun e=>absurd e (by decide))
    refine arF 2 1 [(5,25,true),(43,36,true),(14,9,true),(10,41,true),(14,9,true),(10,46,true),(20,5,true),(44,36,true),(14,9,true),(10,41,true),(14,9,true),(10,46,true),(20,5,true),(44,36,true),(14,9,true),(10,41,true),(14,9,true),(10,46,true),(20,5,true)] 43 ((gc29 i n (band fine (gc30 Y i (gc31 Y i (gc32 Y i (gc33 Y i (gc39 Y i (band (gc7 Y i) (gc40 Y i (band (ile (-32000) (Y i 5)) (band (ile (Y i 5) (32000)) (band (ile (-32000) (Y i 6)) (band (ile (Y i 6) (32000)) (band (gc0 Y i) (gc19 Y i n)))))))))))))))) (gchX n Y ex sty sd wd (Nat.add i 1) (Bool.and (ieq (Y i 5) (0)) (Bool.and (ieq (Y i 6) (0)) true)) (updR Z i [(Y i 0),(fdv (Y i 1) (2)),(fdv (Y i 2) (2)),(fdv (Y i 3) (2)),(fdv (Y i 4) (2)),(fdv (Y i 5) (2)),(fdv (Y i 6) (2))])) [.h,J1,J2] [1,3,4,22,23,24] [] ⟨oeFold (by kernel_rfl) rfl (by kernel_rfl),trivial⟩ (by have:=hh7 (hY i);(try simp only [b1,b4,b5,b6,b7,b8,b9,b29,b30,b31,b32,b33,b34,b35,b36,b37,b38,b39,b40,gS,gc0,gc1,gc2,gc3,gc4,gc5,gc6,gc7,gc8,gc9,gc12,gc13,gc14,gc15,gc16,gc17,gc18,gc19,gc29,gc30,gc31,gc32,gc33,gc39,gc40]);(try simp only [gT] at *);try omega) ?_
    exact ih (Bool.and (ieq (Y i 5) (0)) (Bool.and (ieq (Y i 6) (0)) true)) (by omega) (fun e=>⟨b4,by unfold GStep;(try simp only [and_iff',ieq_iff] at e);omega⟩)
theorem gcm_ok:EndsX En 1 (gcmX n Y ex sty sd wd) (QG n Y):=by
  refine ar 1 [] 31 (band (band (band (Nat.beq n n) (band (Nat.ble n 1099511627776) (Nat.ble (Nat.mul 56 n) 1099511627776))) true) true) (gchX n Y ex sty sd wd 0 true (fun _ _=>0)) [.h,J1,J2] [1,3,4,22,23,24] [] (by (try simp only [gS]);(try simp only [gT] at *);try omega) ?_
  exact gch_ok hY hn (n - 0) 0 true (fun _ _=>0) rfl (by omega) (fun j k=>by constructor <;> decide) (fun j hj=>by omega) (fun _ j hj=>by omega)
end
section
variable (m:Nat) (V:Nat→Bool) (Y:Nat→Nat→Int) (ex sty vert:Bool) (sc:Int) (i:Nat) (ok:Bool) (e_1:Int) (j k:Nat) (W:Nat→Bool) (O:Nat→Nat→Int) (e_2:Int) (zv:Bool) (zA zL:Int) (q:Nat) (K:Nat→Nat→Int)
noncomputable def ftmX:St:=⟨getF (enterA En 38 [(.sa .h 0 m 3),(.bool vert),(zi sc),(zi (0))] false),[],[(.h,(o3 m V Y ex sty))],J1,1⟩
noncomputable def fthX:St:=⟨(fr 38 66 (ts [0,1,8,9,10,11,14,26,27,28,58,59,60,61] [.sa .h 0 m 3,.bool vert,.ptr J1 0,zi (0),.ptr J2 0,.bool ok,.tup [],.sa .h 0 m 3,zn m,zn i,.tup [],.tup [],.tup [],.tup []]) [cA En 38 (pb 500),lA En 38 (pb 500),.blk 0,cA En 38 (pb 63)]),[],(zs [(o3 m V Y ex sty),(ce 115 [(zi (0)),(zi (0)),.nils]),(ce 140 [(.ptr J3 0)]),(ce 142 [(zi sc),(zi (0)),.nils])]),J4,1⟩
noncomputable def ftnX:St:=⟨(fr 57 26 (ts [1,5,8,9,10] [.bool vert,.ptr J1 0,.sa .h 0 m 3,zn m,zn i]) [cA En 57 (pb 116),lA En 57 (pb 116),.blk 0,cA En 57 (pb 15)]),[(fr 38 66 (ts [8,9,10,14,58,59,60,61] [.ptr J2 0,zi (0),.ptr J3 0,.tup [],.tup [],.tup [],.tup [],.tup []]) [rA En 38 (pb 508) 2,cA En 38 (pb 509),cA En 38 (pb 255)])],(zs [(o3 m V Y ex sty),(ce 34 [.nils]),(ce 115 [(zi (0)),(zi (0)),.nils]),(ce 140 [(.ptr J4 0)]),(ce 142 [(zi sc),(zi (0)),.nils])]),J5,1⟩
noncomputable def fte1X:St:=⟨cf (blmX (0)) J5 [],[(fr 64 14 (ts [1,7,8] [.fn 65 [] [],.nils,zi (0)]) [rA En 64 (pb 3) 4]),(fr 57 26 (ts [5] [.ptr J1 0]) [rA En 57 (pb 30) 1,cA En 57 (pb 31)]),(fr 38 66 (ts [8,9,10,14,58,59,60,61] [.ptr J2 0,zi (0),.ptr J3 0,.tup [],.tup [],.tup [],.tup [],.tup []]) [rA En 38 (pb 508) 2,cA En 38 (pb 509),cA En 38 (pb 255)])],(zs [(o3 m V Y ex sty),(ce 34 [.nils]),(ce 115 [(zi (0)),(zi (0)),.nils]),(ce 140 [(.ptr J4 0)]),(ce 142 [(zi sc),(zi (0)),.nils])]),J5,1⟩
noncomputable def ftaX:St:=⟨(fr 57 26 (ts [1,5,8,9,10] [.bool vert,.ptr J1 0,.sa .h 0 m 3,zn m,zn i]) [cA En 57 (pb 116),lA En 57 (pb 116),.blk 0,cA En 57 (pb 15)]),[(fr 38 66 (ts [8,9,10,14,58,59,60,61] [.ptr J2 0,zi (0),.ptr J3 0,.tup [],.tup [],.tup [],.tup [],.tup []]) [rA En 38 (pb 508) 2,cA En 38 (pb 509),cA En 38 (pb 255)])],(zs [(o3 m V Y ex sty),(ce 34 [(.sa J4 0 k 3)]),(ce 115 [(zi (0)),(zi (0)),.nils]),(ce 140 [(.ptr J5 0)]),(o3 k W O false false),(ce 142 [(zi sc),(zi (0)),.nils])]),J6,1⟩
noncomputable def fte2X:St:=⟨cf (blmX (wr .u64 (.ofNat k))) J6 [],[(fr 64 14 (ts [1,7,8] [.fn 65 [] [],.sa J1 0 k 3,zn k]) [rA En 64 (pb 3) 4]),(fr 57 26 (ts [5] [.ptr J2 0]) [rA En 57 (pb 30) 1,cA En 57 (pb 31)]),(fr 38 66 (ts [8,9,10,14,58,59,60,61] [.ptr J3 0,zi (0),.ptr J4 0,.tup [],.tup [],.tup [],.tup [],.tup []]) [rA En 38 (pb 508) 2,cA En 38 (pb 509),cA En 38 (pb 255)])],(zs [(o3 m V Y ex sty),(o3 k W O false false),(ce 34 [(.sa J1 0 k 3)]),(ce 115 [(zi (0)),(zi (0)),.nils]),(ce 140 [(.ptr J5 0)]),(ce 142 [(zi sc),(zi (0)),.nils])]),J6,1⟩
noncomputable def ftsX:St:=⟨(fr 78 53 (ts [0,1,2,3,8] [.sa J1 0 k 3,zi (0),zn k,.fn 65 [] [],zn (Nat.succ j)]) [cA En 78 (pb 12),lA En 78 (pb 12),.blk 0]),[(fr 75 148 anyT [rA En 75 (pb 1812) 4,cA En 75 (pb 1813),cA En 75 (pb 227),.blk 1,lA En 75 (pb 28),.blk 0]),(fr 64 14 anyT [rA En 64 (pb 3) 6]),(fr 57 26 (ts [5] [.ptr J2 0]) [rA En 57 (pb 30) 1,cA En 57 (pb 31)]),(fr 38 66 (ts [8,9,10,14,58,59,60,61] [.ptr J3 0,zi (0),.ptr J4 0,.tup [],.tup [],.tup [],.tup [],.tup []]) [rA En 38 (pb 508) 2,cA En 38 (pb 509),cA En 38 (pb 255)])],(zs [(o3 m V Y ex sty),(o3 k W O false false),(ce 34 [(.sa J1 0 k 3)]),(ce 115 [(zi (0)),(zi (0)),.nils]),(ce 140 [(.ptr J5 0)]),(ce 142 [(zi sc),(zi (0)),.nils])]),J6,1⟩
noncomputable def ftzX:St:=⟨(fr 68 32 (ts [0,3,7,8,9] [.yl J1,.ptr J2 0,.sa J3 0 k 3,zn k,zn j]) [cA En 68 (pb 28),lA En 68 (pb 28),.blk 0]),[⟨38,66,(ts [8,9,10] [.ptr J4 0,zi (0),.ptr J5 0]),[.inRF J1,.blk 2,cA En 38 (pb 255)],[.mark J6],.run,false,false,none⟩],(zs [(o3 m V Y ex sty),(.loop .ready (none) 38 66 ⟨⟨⟨⟨⟨⟨.any,.any,.any,.any⟩,⟨.any,.any,.any,.any⟩,⟨.any,.any,.any,.any⟩,⟨.any,.any,.any,.any⟩⟩,⟨⟨.any,.any,.any,.any⟩,⟨.any,.any,.any,.any⟩,⟨.any,.any,.any,.any⟩,⟨.any,.any,.any,.any⟩⟩,⟨⟨.any,.any,.any,.any⟩,⟨.any,.any,.any,.any⟩,⟨.any,.any,.any,.any⟩,⟨.any,.any,.any,.any⟩⟩,⟨⟨.any,.any,.any,.any⟩,⟨.any,.any,.any,.any⟩,⟨.any,.any,.any,.any⟩,⟨.any,.any,.any,.any⟩⟩⟩,⟨⟨⟨.any,.any,.any,.any⟩,⟨.any,.any,.any,.any⟩,⟨.any,.any,.any,.any⟩,⟨.any,.any,.any,.any⟩⟩,⟨⟨.any,.any,.any,.any⟩,⟨.any,.any,.any,.any⟩,⟨.any,.any,.any,.any⟩,⟨.any,.any,.any,.any⟩⟩,⟨⟨.any,.any,.any,.any⟩,⟨.any,.any,.any,.any⟩,⟨.any,.any,.any,.any⟩,⟨.any,.any,.any,.any⟩⟩,⟨⟨.any,.any,.any,.any⟩,⟨.any,.any,.any,.any⟩,⟨.any,.any,.any,.any⟩,⟨.any,.any,.any,.any⟩⟩⟩,⟨⟨⟨(.ptr J4 0),.any,.any,.any⟩,⟨.any,.any,.any,.any⟩,⟨.any,.any,.any,.any⟩,⟨.any,.any,.any,.any⟩⟩,⟨⟨.any,.any,.any,.any⟩,⟨.any,.any,.any,.any⟩,⟨.any,.any,.any,.any⟩,⟨.any,.any,.any,.any⟩⟩,⟨⟨.any,.any,.any,.any⟩,⟨.any,.any,.any,.any⟩,⟨.any,.any,.any,.any⟩,⟨.any,.any,.any,.any⟩⟩,⟨⟨.any,.any,.any,.any⟩,⟨.any,.any,.any,.any⟩,⟨.any,.any,.any,.any⟩,⟨.any,.any,.any,.any⟩⟩⟩,⟨⟨⟨.any,.any,.any,.any⟩,⟨.any,.any,.any,.any⟩,⟨.any,.any,.any,.any⟩,⟨.any,.any,.any,.any⟩⟩,⟨⟨.any,.any,.any,.any⟩,⟨.any,.any,.any,.any⟩,⟨.any,.any,.any,.any⟩,⟨.any,.any,.any,.any⟩⟩,⟨⟨.any,.any,.any,.any⟩,⟨.any,.any,.any,.any⟩,⟨.any,.any,.any,.any⟩,⟨.any,.any,.any,.any⟩⟩,⟨⟨xu,.any,.any,.any⟩,⟨.any,.any,.any,.any⟩,⟨.any,.any,.any,.any⟩,⟨.any,.any,.any,.any⟩⟩⟩⟩,⟨⟨⟨⟨.any,.any,.any,.any⟩,⟨.any,.any,.any,.any⟩,⟨.any,.any,.any,.any⟩,⟨.any,.any,.any,.any⟩⟩,⟨⟨.any,.any,.any,.any⟩,⟨.any,.any,.any,.any⟩,⟨.any,.any,.any,.any⟩,⟨.any,.any,.any,.any⟩⟩,⟨⟨.any,.any,.any,.any⟩,⟨.any,.any,.any,.any⟩,⟨.any,.any,.any,.any⟩,⟨.any,.any,.any,.any⟩⟩,⟨⟨.any,.any,.any,.any⟩,⟨.any,.any,.any,.any⟩,⟨.any,.any,.any,.any⟩,⟨.any,.any,.any,.any⟩⟩⟩,⟨⟨⟨.any,.any,.any,.any⟩,⟨.any,.any,.any,.any⟩,⟨.any,.any,.any,.any⟩,⟨.any,.any,.any,.any⟩⟩,⟨⟨.any,.any,.any,.any⟩,⟨.any,.any,.any,.any⟩,⟨.any,.any,.any,.any⟩,⟨.any,.any,.any,.any⟩⟩,⟨⟨.any,.any,.any,.any⟩,⟨.any,.any,.any,.any⟩,⟨.any,.any,.any,.any⟩,⟨.any,.any,.any,.any⟩⟩,⟨⟨.any,.any,.any,.any⟩,⟨.any,.any,.any,.any⟩,⟨.any,.any,.any,.any⟩,⟨.any,.any,.any,.any⟩⟩⟩,⟨⟨⟨(zi (0)),.any,.any,.any⟩,⟨.any,.any,.any,.any⟩,⟨.any,.any,.any,.any⟩,⟨.any,.any,.any,.any⟩⟩,⟨⟨.any,.any,.any,.any⟩,⟨.any,.any,.any,.any⟩,⟨.any,.any,.any,.any⟩,⟨.any,.any,.any,.any⟩⟩,⟨⟨.any,.any,.any,.any⟩,⟨.any,.any,.any,.any⟩,⟨.any,.any,.any,.any⟩,⟨.any,.any,.any,.any⟩⟩,⟨⟨(.fn 68 [] [(.ptr J7 0)]),.any,.any,.any⟩,⟨.any,.any,.any,.any⟩,⟨.any,.any,.any,.any⟩,⟨.any,.any,.any,.any⟩⟩⟩,⟨⟨⟨.any,.any,.any,.any⟩,⟨.any,.any,.any,.any⟩,⟨.any,.any,.any,.any⟩,⟨.any,.any,.any,.any⟩⟩,⟨⟨.any,.any,.any,.any⟩,⟨.any,.any,.any,.any⟩,⟨.any,.any,.any,.any⟩,⟨.any,.any,.any,.any⟩⟩,⟨⟨.any,.any,.any,.any⟩,⟨.any,.any,.any,.any⟩,⟨.any,.any,.any,.any⟩,⟨.any,.any,.any,.any⟩⟩,⟨⟨xu,.any,.any,.any⟩,⟨.any,.any,.any,.any⟩,⟨.any,.any,.any,.any⟩,⟨.any,.any,.any,.any⟩⟩⟩⟩,⟨⟨⟨⟨.any,.any,.any,.any⟩,⟨.any,.any,.any,.any⟩,⟨.any,.any,.any,.any⟩,⟨.any,.any,.any,.any⟩⟩,⟨⟨.any,.any,.any,.any⟩,⟨.any,.any,.any,.any⟩,⟨.any,.any,.any,.any⟩,⟨.any,.any,.any,.any⟩⟩,⟨⟨.any,.any,.any,.any⟩,⟨.any,.any,.any,.any⟩,⟨.any,.any,.any,.any⟩,⟨.any,.any,.any,.any⟩⟩,⟨⟨.any,.any,.any,.any⟩,⟨.any,.any,.any,.any⟩,⟨.any,.any,.any,.any⟩,⟨.any,.any,.any,.any⟩⟩⟩,⟨⟨⟨.any,.any,.any,.any⟩,⟨.any,.any,.any,.any⟩,⟨.any,.any,.any,.any⟩,⟨.any,.any,.any,.any⟩⟩,⟨⟨.any,.any,.any,.any⟩,⟨.any,.any,.any,.any⟩,⟨.any,.any,.any,.any⟩,⟨.any,.any,.any,.any⟩⟩,⟨⟨.any,.any,.any,.any⟩,⟨.any,.any,.any,.any⟩,⟨.any,.any,.any,.any⟩,⟨.any,.any,.any,.any⟩⟩,⟨⟨.any,.any,.any,.any⟩,⟨.any,.any,.any,.any⟩,⟨.any,.any,.any,.any⟩,⟨.any,.any,.any,.any⟩⟩⟩,⟨⟨⟨(.ptr J5 0),.any,.any,.any⟩,⟨.any,.any,.any,.any⟩,⟨.any,.any,.any,.any⟩,⟨.any,.any,.any,.any⟩⟩,⟨⟨.any,.any,.any,.any⟩,⟨.any,.any,.any,.any⟩,⟨.any,.any,.any,.any⟩,⟨.any,.any,.any,.any⟩⟩,⟨⟨.any,.any,.any,.any⟩,⟨.any,.any,.any,.any⟩,⟨.any,.any,.any,.any⟩,⟨.any,.any,.any,.any⟩⟩,⟨⟨xu,.any,.any,.any⟩,⟨.any,.any,.any,.any⟩,⟨.any,.any,.any,.any⟩,⟨.any,.any,.any,.any⟩⟩⟩,⟨⟨⟨xu,.any,.any,.any⟩,⟨.any,.any,.any,.any⟩,⟨.any,.any,.any,.any⟩,⟨.any,.any,.any,.any⟩⟩,⟨⟨.any,.any,.any,.any⟩,⟨.any,.any,.any,.any⟩,⟨.any,.any,.any,.any⟩,⟨.any,.any,.any,.any⟩⟩,⟨⟨.any,.any,.any,.any⟩,⟨.any,.any,.any,.any⟩,⟨.any,.any,.any,.any⟩,⟨.any,.any,.any,.any⟩⟩,⟨⟨.any,.any,.any,.any⟩,⟨.any,.any,.any,.any⟩,⟨.any,.any,.any,.any⟩,⟨.any,.any,.any,.any⟩⟩⟩⟩,⟨⟨⟨⟨.any,.any,.any,.any⟩,⟨.any,.any,.any,.any⟩,⟨.any,.any,.any,.any⟩,⟨.any,.any,.any,.any⟩⟩,⟨⟨.any,.any,.any,.any⟩,⟨.any,.any,.any,.any⟩,⟨.any,.any,.any,.any⟩,⟨.any,.any,.any,.any⟩⟩,⟨⟨.any,.any,.any,.any⟩,⟨.any,.any,.any,.any⟩,⟨.any,.any,.any,.any⟩,⟨.any,.any,.any,.any⟩⟩,⟨⟨.any,.any,.any,.any⟩,⟨.any,.any,.any,.any⟩,⟨.any,.any,.any,.any⟩,⟨.any,.any,.any,.any⟩⟩⟩,⟨⟨⟨.any,.any,.any,.any⟩,⟨.any,.any,.any,.any⟩,⟨.any,.any,.any,.any⟩,⟨.any,.any,.any,.any⟩⟩,⟨⟨.any,.any,.any,.any⟩,⟨.any,.any,.any,.any⟩,⟨.any,.any,.any,.any⟩,⟨.any,.any,.any,.any⟩⟩,⟨⟨.any,.any,.any,.any⟩,⟨.any,.any,.any,.any⟩,⟨.any,.any,.any,.any⟩,⟨.any,.any,.any,.any⟩⟩,⟨⟨.any,.any,.any,.any⟩,⟨.any,.any,.any,.any⟩,⟨.any,.any,.any,.any⟩,⟨.any,.any,.any,.any⟩⟩⟩,⟨⟨⟨.any,.any,.any,.any⟩,⟨.any,.any,.any,.any⟩,⟨.any,.any,.any,.any⟩,⟨.any,.any,.any,.any⟩⟩,⟨⟨.any,.any,.any,.any⟩,⟨.any,.any,.any,.any⟩,⟨.any,.any,.any,.any⟩,⟨.any,.any,.any,.any⟩⟩,⟨⟨.any,.any,.any,.any⟩,⟨.any,.any,.any,.any⟩,⟨.any,.any,.any,.any⟩,⟨.any,.any,.any,.any⟩⟩,⟨⟨xu,.any,.any,.any⟩,⟨.any,.any,.any,.any⟩,⟨.any,.any,.any,.any⟩,⟨.any,.any,.any,.any⟩⟩⟩,⟨⟨⟨.any,.any,.any,.any⟩,⟨.any,.any,.any,.any⟩,⟨.any,.any,.any,.any⟩,⟨.any,.any,.any,.any⟩⟩,⟨⟨.any,.any,.any,.any⟩,⟨.any,.any,.any,.any⟩,⟨.any,.any,.any,.any⟩,⟨.any,.any,.any,.any⟩⟩,⟨⟨.any,.any,.any,.any⟩,⟨.any,.any,.any,.any⟩,⟨.any,.any,.any,.any⟩,⟨.any,.any,.any,.any⟩⟩,⟨⟨.any,.any,.any,.any⟩,⟨.any,.any,.any,.any⟩,⟨.any,.any,.any,.any⟩,⟨.any,.any,.any,.any⟩⟩⟩⟩⟩,.e⟩ [58] (subC (bodyOf En 38) [1,1,1,1,1,1,0,1,0,0]) (subC (bodyOf En 38) [1,1,1,1,1,1,0,1,0,1]) J6),(ce 72 [(.bool zv),(zi zA),(zi zL)]),(o3 k W O false false),(ce 115 [(zi (0)),(zi (0)),.nils]),(ce 140 [(.ptr J8 0)]),(.dfr false),(ce 34 [(.sa J3 0 k 3)]),(ce 142 [(zi sc),(zi (0)),(.sa J9 0 (Nat.succ q) 2)]),(.arr (Nat.succ q) 2 (rowK [.i64,.i64] K) none 159 false false)]),J10,1⟩
end
end Go.Proofs.Ytoahnefofelglaa.gm
end
