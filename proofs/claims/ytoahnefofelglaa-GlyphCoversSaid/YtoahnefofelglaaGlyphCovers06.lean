/- A part of the proof of GlyphCovers; no condition. -/
import Derived.Test.YtoahnefofelglaaGlyphCovers05
import Derived.Below
import Derived.KernelRfl
set_option linter.unusedVariables false
set_option linter.unusedSimpArgs false
set_option linter.unusedSectionVars false
noncomputable section
section
namespace Go.AM
section
variable {CALL:x5} {E:i3} {nt:Nat} {ops:Array Oper} {fl:Nat} {ms:List Nat} {P:Nat→F6} {oc:Nat→Oc} {tm0:Tm} {B0:T AO} {K0:Ps} (h:A9 CALL E nt ops fl ms P oc tm0 B0 K0)
variable {X:Nat→Prop} {l:Nat} {γ:Gm} {w:World} {tmps:Array Value} {S:Hp} {γ0:Gm} {w0:World}
def XK (E:i3) (n:Nat) (P:Nat→F6):Prop:=
 ∀ q ∈ (P n).qs,∀ x ∈ (P n).levels,tb x.1 q.i=false→cI (Nat.land q.m (P n).Ef) x.1=true→∃ S',H7 q.o.op E q.tm ⟨w9 (W7 q.m x.1) x.2 (P n).news,(P n).K,(P n).K.idx⟩ q.o.type=some (.v q.v S')
include h
theorem A9.exec (hE:E.Ok) (hC:mX CALL E) (hq:XK E ops.size P) (hSf:S.fl=fl) (hSn:S.nx=K0) (hng:E.ng≤K0.idx) (hfl:fl≤K0.idx) (hR:tA nt ops ms P oc tm0 K0 E.ng S γ0 w0 X l γ w tmps)
 {i:Nat} (hi:i < ops.size) {o:Oper} {m:Nat} (ho:ops[i]? = some o) (hm:ms[i]? = some m) (hnX:¬ X i) (hpre:∀ p,tb m p=true→X p) {fr:Frame} {cs:List Frame} {k':List Item} {L:List Nat}
 (hft:fr.tmps=tmps) (hmo:fr.mode=.run) (hto:fr.todo=.inRegion ops (i::L)::k') :
 (∃ γ' w' v' l',Steps E.P (lone fr cs w) (lone (fr.finish v') cs w')∧tA nt ops ms P oc tm0 K0 E.ng S γ0 w0 (fun p=>X p∨p=i) l' γ' w' (mL o.dst v' tmps)) ∨
 (∃ v hp,oc i=.pan v hp∧∃ v' γ' w',Steps E.P (lone fr cs w) (lone (fr.raise [{ v:=v',recovered:=false }]) cs w')∧VR γ' v v'∧HR γ' E.ng ⟨hp,(P ops.size).K,fl⟩ w'∧j6 S γ0 w0 ⟨hp,(P ops.size).K,fl⟩ γ' w'):=by
 obtain ⟨hx,hs,hh,hold,hfd⟩:=hR
 have hkz:(P 0).K=K0:=h.kz
 have hKi:K0.idx≤(P i).K.idx:=by rw [← hkz];exact h.K (Nat.zero_le _) (by omega)
 have hKn:K0.idx≤(P ops.size).K.idx:=by rw [← hkz];exact h.K (Nat.zero_le _) (Nat.le_refl _)
 have hKin:(P i).K.idx≤(P ops.size).K.idx:=h.K (by omega) (Nat.le_refl _)
 have hK1n:(P (i+1)).K.idx≤(P ops.size).K.idx:=h.K (by omega) (Nat.le_refl _)
 have hK1:=h.K1 hi
 have hap:=h.apartK hi hnX hx.lt
 have hdl:=h.domLt hx.lt
 have want:∀ {b:Bool},y9 nt ops (P i).tm o=some b→Region.wanted o (yielded ops fr.tmps)=b:=fun hw=>h.want_at hft hs hx hi ho hm hnX hpre hw
 have hstep:=h.step i o m ho hm
 have hD1:∀ n,Dm P X n→Dm P (fun p=>X p∨p=i) n:=fun n hn=>by
  rcases hn with hn|⟨p,h1,h2⟩
  ·exact .inl hn
  ·exact .inr ⟨p,.inl h1,h2⟩
 have same:∀ {v:AV},oc i=.q v none∨oc i=.qb v→(∀ a b c,Ow P oc (fun p=>X p∨p=i) l a b c→Ow P oc X l a b c) ∧
  (∀ p v b,(X p∨p=i)→tb (P l).A p=false→oc p=.q v (some b)→T.get (P p).K (P l).B=none):=fun hoc=>by
  have hne:∀ {v b},oc i≠.q v (some b):=fun e=>by rcases hoc with hoc|hoc <;> rw [hoc] at e <;> cases e
  refine ⟨fun a b c hO=>?_,fun p v b hp ha hq=>?_⟩
  ·rcases hO with hO|⟨p,v,h1,h2,h3,h4⟩
   ·exact .inl hO
   ·rcases h1 with h1|rfl
    ·exact .inr ⟨p,v,h1,h2,h3,h4⟩
    ·exact absurd h3 hne
  ·rcases hp with hp|rfl
   ·exact hfd p v b hp ha hq
   ·exact absurd hq hne
 have empty:∀ (f:Nat),HR (γ.cut (P i).K.idx) E.ng ⟨.e,(P i).K,f⟩ w:=fun f=>hh.sub (fun a b e=>by rw [T.get_e] at e;cases e) (by omega) (fun a b e=>by rw [T.get_e] at e;cases e)
 have atl:(P l).A=(P l).A:=rfl
 generalize hoc:oc i=c at hstep
 generalize hsi:P (i+1)=s' at hstep
 cases hstep with
 | skip hk =>
   obtain ⟨p,v,hp,h1,h2,h3⟩:=h.skip hi hoc hm
   have:=hx.live p (hpre p h3)
   rw [h2] at this
   exact absurd rfl this
 | @un tm' hw hp =>
   have hval:(oc i).val=some (.tup []):=by rw [hoc];rfl
   obtain ⟨s1,s2⟩:=same (v:=.tup []) (.inl hoc)
   refine .inl ⟨γ,w,Go.undef,l,Steps.one (U2 hmo hto ho (want hw)),⟨hx.quiet hi hm hpre hval (by rw [hoc];exact fun x=>x),?_,hh.weaken s1 hD1,hold,s2⟩⟩
   exact h.s_next hs (Gm.le_refl _) ho hval (h.dst_lt hi ho hval) .undef
 | @qr x tm' hw he hp =>
   have hval:(oc i).val=some x:=by rw [hoc];rfl
   obtain ⟨s1,s2⟩:=same (v:=x) (.inl hoc)
   obtain ⟨γr,v',w',hrun,hv,hH',hP⟩:=h.ev_at hft hE hs hx hi ho hm hnX hpre he (Nat.le_refl _) (empty 0)
   obtain ⟨hh',g1,g2,g3⟩:=hh.next (H:=.e) (O':=Ow P oc X l) (fun a b e=>by rw [T.get_e] at e;cases e) (Nat.zero_le _) (by rw [hSn];omega) (by rw [hSf];omega) (fun a b e=>by rw [T.get_e] at e;cases e) hH' hP
    (fun n _ hc=>by have:n < (P i).K.idx:=hc.2;omega) (fun a b c ho=>.inr ⟨ho,.inl (T.get_e a)⟩)
   refine .inl ⟨_,w',v',l,Steps.one (V3 hmo hto ho (want hw) (.inr (z8 he (fun d e=>by cases e))) hrun),⟨hx.quiet hi hm hpre hval (by rw [hoc];exact fun x=>x),?_,hh'.weaken s1 (fun n hn=>?_),hold,s2⟩⟩
   ·exact h.s_next hs g1 ho hval (h.dst_lt hi ho hval) (hv.mono (Gm.le_trans g2 (Gm.cut_mono (Gm.le_refl _) hK1)))
   ·rcases hn with hn|hn
    ·exact hD1 n hn
    ·have:n < (P i).K.idx:=hn.2
     omega
 | @qa x tm' S' ob hw he hn hg hp =>
   have hval:(oc i).val=some x:=by rw [hoc];rfl
   have hKs:(P (i+1)).K=Ps.succ (P i).K:=by rw [hsi]
   have hSx:S'.nx.idx=(P (i+1)).K.idx:=by rw [hn,hKs]
   obtain ⟨γr,v',w',hrun,hv,hH',hP⟩:=h.ev_at hft hE hs hx hi ho hm hnX hpre he (Nat.le_refl _) (empty 0)
   obtain ⟨hh',g1,g2,g3⟩:=hh.next (H:=.e) (O':=Ow P oc (fun p=>X p∨p=i) l) (fun a b e=>by rw [T.get_e] at e;cases e) (Nat.zero_le _) (by rw [hSn];omega) (by rw [hSf];omega) (fun a b e=>by rw [T.get_e] at e;cases e) hH' hP
    (fun n hn hc=>hap n hn (by rw [← hSx];exact hc)) (fun a b c hO=>by
     rcases hO with hO|⟨p,v,h1,h2,h3,h4,h5⟩
     ·exact .inr ⟨.inl hO,.inl (T.get_e a)⟩
     ·rcases h1 with h1|rfl
      ·exact .inr ⟨.inr ⟨p,v,h1,h2,h3,h4,h5⟩,.inl (T.get_e a)⟩
      ·rw [hoc] at h3;cases h3
       exact .inl ⟨by rw [h4];exact hg,by rw [h5,hSx];exact Nat.le_refl _,.inr (by rw [h4];exact Nat.le_refl _)⟩)
   refine .inl ⟨_,w',v',l,Steps.one (V3 hmo hto ho (want hw) (.inr (z8 he (fun d e=>by cases e))) hrun),⟨hx.quiet hi hm hpre hval (by rw [hoc];exact fun x=>x),?_,hh'.weaken (fun _ _ _ x=>x) (fun n hn=>?_),hold,fun p v b hp ha hq=>?_⟩⟩
   ·exact h.s_next hs g1 ho hval (h.dst_lt hi ho hval) (hv.mono (Gm.le_trans g2 (Gm.cut_mono (Gm.le_refl _) (by omega))))
   ·rcases hn with hn|hn
    ·exact hD1 n hn
    ·exact .inr ⟨i,.inr rfl,hn.1,by rw [← hSx];exact hn.2⟩
   ·rcases hp with hp|rfl
    ·exact hfd p v b hp ha hq
    ·cases hB:T.get (P p).K (P l).B with
     | none=>rfl
     | some b2 =>
       obtain ⟨_,M,ob2,e1,_⟩:=hh.obj _ b2 _ (.inl ⟨hB,rfl⟩)
       refine absurd ⟨Nat.le_refl _,?_⟩ (hap _ (hh.dom _ _ e1))
       rw [hKs,Ps.idx_succ];omega
 | @qb x tm' hw hk hb hp =>
   have hval:(oc i).val=some x:=by rw [hoc];rfl
   obtain ⟨s1,s2⟩:=same (v:=x) (.inr hoc)
   have hln:l≤ops.size:=by
    rcases hx.lvl with rfl|⟨e,rfl,he,_⟩
    ·exact Nat.zero_le _
    ·exact he
   have hlev:=h.levels (Nat.le_refl _) hln (by
    rcases hx.lvl with rfl|⟨e,rfl,_,hf⟩
    ·exact .inl rfl
    ·exact .inr ⟨e,rfl,hf⟩)
   have hqs:=h.qs (Nat.le_refl _) hi hoc ho hm
   obtain ⟨S',he⟩:=hq _ hqs _ hlev (by
    show tb (P l).A i=false
    cases hb:tb (P l).A i with
    | false=>rfl
    | true =>
      obtain ⟨e,h1,h2,h3⟩:=h.A2 hln hb
      have hXe:X e:=(hx.eff e (by omega) h2).2 h1
      rcases h3 with rfl|⟨me,h4,h5⟩
      ·exact absurd hXe hnX
      ·exact absurd (hx.closed e me hXe h4 i h5) hnX) (by
    refine Ww (fun e he=>?_)
    rw [Ai] at he
    simp only [Bool.and_eq_true] at he
    obtain ⟨h1,h2⟩:=(h.Ef (Nat.le_refl _) e).1 he.2
    exact h.A1 hln ((hx.eff e h1 h2).1 (hpre e he.1)) h2)
   simp only at he
   have hSS:=DI (.inl hk) he
   subst hSS
   have hsub:∀ a b,T.get a (w9 (W7 m (P l).A) (P l).B (P ops.size).news)=some b→∃ c,Ow P oc X l a b c∧c≤(P ops.size).K.idx:=fun a b e=>h.viewH (Nat.le_refl _) hln hpre e
   obtain ⟨γr,v',w',hrun,hv,hH',hP⟩:=h.ev_at hft hE hs hx hi ho hm hnX hpre he hKin (hh.sub hsub (by omega) (fun a b e hf=>by rw [hSf];have hf:(P ops.size).K.idx≤a.idx:=hf;omega))
   obtain ⟨hh',g1,g2,g3⟩:=hh.next (O':=Ow P oc X l) hsub (Nat.le_refl _) (by rw [hSn];omega) (by rw [hSf];omega) (fun a b e hf=>by rw [hSf];omega) hH' hP
    (fun n _ hc=>by have:n < (P ops.size).K.idx:=hc.2;omega) (fun a b c ho=>.inr ⟨ho,.inr (Nat.le_refl _)⟩)
   refine .inl ⟨_,w',v',l,Steps.one (V3 hmo hto ho (want hw) (.inr (z8 he (fun d e=>by cases e))) hrun),⟨hx.quiet hi hm hpre hval (by rw [hoc];exact fun x=>x),?_,hh'.weaken s1 (fun n hn=>?_),hold,s2⟩⟩
   ·refine h.s_next hs g1 ho hval (h.dst_lt hi ho hval) ?_
    have hb2:=mW (hv.mono (Gm.le_trans g2 (Gm.cut_le _ _))) hb
    exact hb2.mono (Gm.cut_mono (Gm.le_refl _) hK1)
   ·rcases hn with hn|hn
    ·exact hD1 n hn
    ·have:n < (P ops.size).K.idx:=hn.2
     omega
 | @ef x tm' S' hw hn hsm he hK hp =>
   have hval:(oc i).val=some x:=by rw [hoc];rfl
   have hef:(oc i).isEf:=by rw [hoc];trivial
   obtain ⟨hl,hA,hB,hall⟩:=h.sync hx hi hpre hnX hsm (.inl hef)
   have hP1:P (i+1)=⟨tm',S'.hp,lvl (P i) i m,Nat.lor (P i).Ef (Pd i),(P i).news,(lvl (P i) i m,S'.hp)::(P i).levels,(P i).qs,S'.nx,(P i).pan⟩:=hsi
   have hB1:(P (i+1)).B=S'.hp:=by rw [hP1]
   have hA1:(P (i+1)).A=lvl (P i) i m:=by rw [hP1]
   have hKx:(P (i+1)).K=S'.nx:=by rw [hP1]
   rw [hA,hB] at he
   have hsub:∀ a b,T.get a (w9 (W7 m (P l).A) (P l).B (P i).news)=some b→∃ c,Ow P oc X l a b c∧c≤(P i).K.idx:=fun a b e=>h.viewH (by omega) hl hpre e
   have hHR:HR (γ.cut (P i).K.idx) E.ng ⟨w9 (W7 m (P l).A) (P l).B (P i).news,(P i).K,fl⟩ w:=hh.sub hsub (by omega) (fun a b e hf=>by rw [hSf];exact hf)
   have hrun:∃ γr v' w',Steps E.P (lone fr cs w) (lone (fr.finish v') cs w')∧VR γr x v'∧HR γr E.ng S' w'∧j6 ⟨w9 (W7 m (P l).A) (P l).B (P i).news,(P i).K,fl⟩ (γ.cut (P i).K.idx) w S' γr w':=by
    rcases he with he|⟨ro,he,hc⟩
    ·obtain ⟨γr,v',w',hrun,hv,hH',hP⟩:=h.ev_at hft hE hs hx hi ho hm hnX hpre he (Nat.le_refl _) hHR
     exact ⟨γr,v',w',Steps.one (V3 hmo hto ho (want hw) (.inr (z8 he (fun d e=>by cases e))) hrun),hv,hH',hP⟩
    ·obtain ⟨hnd,fr',hen,hgo⟩:=(hC ro _ _ w _ hHR (h.ev_at hft hE hs hx hi ho hm hnX hpre he (Nat.le_refl _) hHR)).1 x S' hc
     obtain ⟨γr,v',w',g1,g2,g3,g4⟩:=hgo fr cs
     exact ⟨γr,v',w',Steps.head (bF hmo hto ho (want hw) (.inr (z8 he hnd)) hen) g1,g2,g3,g4⟩
   obtain ⟨γr,v',w',hst,hv,hH',hP⟩:=hrun
   have notin:∀ p v b,X p→tb (lvl (P i) i m) p=false→oc p=.q v (some b)→tb (P l).A p=false∧T.get (P p).K (w9 (W7 m (P l).A) (P l).B (P i).news)=none:=fun p v b hp ha hq=>by
    unfold lvl at ha
    rw [eY,eY,mT,hA] at ha
    simp only [Bool.or_eq_false_iff,decide_eq_false_iff_not] at ha
    exact ⟨ha.1.1,h.notH (by omega) (hx.lt p hp) hq ha.1.2 (hfd p v b hp ha.1.1 hq)⟩
   obtain ⟨hh',g1,g2,g3⟩:=hh.next (O':=Ow P oc (fun p=>X p∨p=i) (i+1)) hsub (by omega) (by rw [hSn];omega) (by rw [hSf];omega) (fun a b e hf=>by rw [hSf];exact hf) hH' hP
    (fun n hn hc=>hap n hn (by rw [hKx];exact hc)) (fun a b c hO=>by
     rcases hO with ⟨hO,rfl⟩|⟨p,v,h1,h2,h3,h4,h5⟩
     ·exact .inl ⟨by rw [← hB1];exact hO,by rw [hKx];exact Nat.le_refl _,.inl hSf.symm⟩
     ·rcases h1 with h1|rfl
      ·rw [hA1] at h2
       obtain ⟨n1,n2⟩:=notin p v b h1 h2 h3
       exact .inr ⟨.inr ⟨p,v,h1,n1,h3,h4,h5⟩,.inl (by rw [h4];exact n2)⟩
      ·rw [hoc] at h3;cases h3)
   refine .inl ⟨_,w',v',i+1,hst,⟨⟨?_,?_,?_,.inr ⟨i,rfl,hi,hef⟩,?_⟩,?_,hh'.weaken (fun _ _ _ x=>x) (fun n hn=>?_),fun a b hab hlt=>?_,fun p v b hp ha hq=>?_⟩⟩
   ·intro j hj
    rcases hj with hj|rfl
    ·exact hx.lt j hj
    ·exact hi
   ·intro j m' hj hm' p hp
    rcases hj with hj|rfl
    ·exact .inl (hx.closed j m' hj hm' p hp)
    ·rw [hm] at hm';cases hm';exact .inl (hpre p hp)
   ·intro e he' hf
    constructor
    ·rintro (a|rfl)
     ·have:=(hx.eff e he' hf).1 a;omega
     ·omega
    ·intro a
     rcases Nat.lt_or_ge e i with hlt|hge
     ·exact .inl (hall e hlt hf)
     ·exact .inr (by omega)
   ·intro j hj
    rcases hj with hj|rfl
    ·exact hx.live j hj
    ·rw [hval];exact fun e=>by cases e
   ·exact h.s_next hs g1 ho hval (h.dst_lt hi ho hval) (hv.mono (Gm.le_trans g2 (Gm.cut_mono (Gm.le_refl _) (by rw [hKx];exact Nat.le_refl _))))
   ·rcases hn with hn|hn
    ·exact hD1 n hn
    ·exact .inr ⟨i,.inr rfl,hn.1,by rw [hKx];exact hn.2⟩
   ·rw [hB1]
    refine hP.old a b (V5 (hold a b hab hlt) (fun p k o hmem e=>?_)) (by show a.idx < fl;rw [← hSf];exact hlt)
    obtain ⟨q1,q2,_⟩:=h.news1 (by omega) hmem
    have:(P 0).K.idx≤(P p).K.idx:=h.K (Nat.zero_le _) (by omega)
    rw [← q2,e,hkz] at this
    omega
   ·rw [hB1]
    rcases hp with hp|rfl
    ·rw [hA1] at ha
     obtain ⟨n1,n2⟩:=notin p v b hp ha hq
     exact g3 _ b _ (.inr ⟨p,v,hp,n1,hq,rfl,rfl⟩) n2
    ·rw [hoc] at hq;cases hq
 | @pn v H f hw hn hsm hHs hff he =>
   obtain ⟨hl,hA,hB,hall⟩:=h.sync hx hi hpre hnX hsm (.inr ⟨_,_,hoc⟩)
   rw [hA,hB] at hHs hoc
   have hsub:∀ a b,T.get a (w9 (W7 m (P l).A) (P l).B (P i).news)=some b→∃ c,Ow P oc X l a b c∧c≤(P i).K.idx:=fun a b e=>h.viewH (by omega) hl hpre e
   have hfg:∀ a b,T.get a H=some b→f≤a.idx→S.fl≤a.idx:=fun a b e hx=>by
    have hK0:(P 0).K.idx≤(P i).K.idx:=h.K (Nat.zero_le _) (by omega)
    rw [hkz] at hK0
    rw [hSf]
    rcases hff a b e with e1|e1 <;> omega
   have hHR:HR (γ.cut (P i).K.idx) E.ng ⟨H,(P i).K,f⟩ w:=hh.sub (fun a b e=>hsub a b (hHs a b e)) (by omega) hfg
   obtain ⟨v',hr1,hr2⟩:=h.ev_at hft hE hs hx hi ho hm hnX hpre he (Nat.le_refl _) hHR
   obtain ⟨f1,f2⟩:=hh.final (H:=w9 (W7 m (P l).A) (P l).B (P i).news) (k:=(P ops.size).K) (fun a b e=>by obtain ⟨c,h1,_⟩:=hsub a b e;exact ⟨c,h1⟩)
    (fun a b hab hlt=>V5 (hold a b hab hlt) (fun p k o hmem e=>by
     obtain ⟨q1,q2,_⟩:=h.news1 (by omega) hmem
     have:(P 0).K.idx≤(P p).K.idx:=h.K (Nat.zero_le _) (by omega)
     rw [← q2,e,hkz] at this
     omega)) hdl (by rw [hSn];omega)
   rw [hSf] at f1 f2
   exact .inr ⟨v,_,by rw [hA,hB],v',γ,w,Steps.one (mG hmo hto ho (want hw) (.inr (z8 he (fun d e=>by cases e))) hr1),hr2.mono (Gm.cut_le _ _),f1,f2⟩
 | @pc v ro S' hw hn hsm he hc hK =>
   obtain ⟨hl,hA,hB,hall⟩:=h.sync hx hi hpre hnX hsm (.inr ⟨_,_,hoc⟩)
   have hKx:(P (i+1)).K=S'.nx:=by rw [hsi]
   rw [hA,hB] at he hc
   have hsub:∀ a b,T.get a (w9 (W7 m (P l).A) (P l).B (P i).news)=some b→∃ c,Ow P oc X l a b c∧c≤(P i).K.idx:=fun a b e=>h.viewH (by omega) hl hpre e
   have hHR:HR (γ.cut (P i).K.idx) E.ng ⟨w9 (W7 m (P l).A) (P l).B (P i).news,(P i).K,fl⟩ w:=hh.sub hsub (by omega) (fun a b e hf=>by rw [hSf];exact hf)
   obtain ⟨hnd,fr',hen,hgo⟩:=(hC ro _ _ w _ hHR (h.ev_at hft hE hs hx hi ho hm hnX hpre he (Nat.le_refl _) hHR)).2 v S' hc
   obtain ⟨γr,v',w',g1,g2,hH',hP⟩:=hgo fr cs
   obtain ⟨hh',e1,e2,_⟩:=hh.next (O':=fun a b c=>T.get a S'.hp=some b∧c=S'.nx.idx) hsub (by omega) (by rw [hSn];omega) (by rw [hSf];omega) (fun a b e hf=>by rw [hSf];exact hf) hH' hP
    (fun n hn hc=>hap n hn (by rw [hKx];exact hc)) (fun a b c hO=>.inl ⟨hO.1,by rw [hO.2];exact Nat.le_refl _,.inl hSf.symm⟩)
   obtain ⟨f1,f2⟩:=hh'.final (H:=S'.hp) (k:=(P ops.size).K) (fun a b e=>⟨_,e,rfl⟩)
    (fun a b hab hlt=>hP.old a b (V5 (hold a b hab hlt) (fun p k o hmem e=>by
     obtain ⟨q1,q2,_⟩:=h.news1 (by omega) hmem
     have:(P 0).K.idx≤(P p).K.idx:=h.K (Nat.zero_le _) (by omega)
     rw [← q2,e,hkz] at this
     omega)) (by show a.idx < fl;rw [← hSf];exact hlt)) (fun n hn=>by
      rcases hn with hn|hn
      ·exact hdl n hn
      ·rw [hKx] at hK1n;omega) (by rw [hSn];omega)
   rw [hSf] at f1 f2
   exact .inr ⟨v,_,rfl,v',_,w',Steps.head (bF hmo hto ho (want hw) (.inr (z8 he hnd)) hen) g1,g2.mono (Gm.le_trans e2 (Gm.cut_le _ _)),f1,f2⟩
end
def ID (A:Nat):Nat→Bool:=fun p=>Bool.rec true false (tb A p)
def Wz (E:i3) (s:F6) (q:QE) (x:Nat × T AO):Bool:=
 Bool.rec (Bool.rec true (match H7 q.o.op E q.tm ⟨w9 (W7 q.m x.1) x.2 s.news,s.K,s.K.idx⟩ q.o.type with|some (.v y _)=>VE 4 y q.v|_=>false) (cI (Nat.land q.m s.Ef) x.1)) true (tb x.1 q.i)
def fC {α:Type} (p:α→Bool) (l:List α):Bool:=List.rec true (fun x _ ih=>Bool.rec false ih (p x)) l
theorem tC {α:Type} {p:α→Bool}:∀ {l:List α},fC p l=true→∀ x ∈ l,p x=true
 | [],_,x,hx=>by cases hx
 | y::l,h,x,hx=>by
   obtain ⟨h1,h2⟩:=S7 (b:=p y) (c:=fC p l) h
   rcases List.mem_cons.1 hx with rfl|hx
   ·exact h1
   ·exact tC h2 x hx
def tD (E:i3) (fl:Nat) (s:F6):Option (Sum (Tm × Hp) (AV × Hp)):=
 Bool.rec none (match s.pan with
  | none=>some (.inl (s.tm,⟨w9 (ID s.A) s.B s.news,s.K,fl⟩))
  | some (_,v,hp)=>some (.inr (v,⟨hp,s.K,fl⟩))) (fC (fun q=>fC (Wz E s q) s.levels) s.qs)
def Pn (CALL:x5) (E:i3) (nt:Nat) (ops:Array Oper) (tm:Tm) (S:Hp) (ms:List Nat):Option (Sum (Tm × Hp) (AV × Hp)):=
 Hp.rec (fun hp nx fl=>Bool.rec none (Bool.rec none (Bool.rec none (Option.rec none (tD E fl) (Pi CALL E nt ops fl ops.toList ms 0 ⟨tm,hp,0,0,[],[(0,hp)],[],nx,none⟩)) (Nat.ble fl nx.idx)) (Nat.ble E.ng nx.idx)) (slots ops ms)) S
def mY (CALL:x5) (E:i3) (nt:Nat) (ops:Array Oper) (tm:Tm) (S:Hp):Option (Sum (Tm × Hp) (AV × Hp)):=
 Option.rec none (Pn CALL E nt ops tm S) (masks ops)
theorem Po {CALL:x5} {E:i3} {nt:Nat} {ops:Array Oper} {tm:Tm} {S:Hp} {r:Sum (Tm × Hp) (AV × Hp)} (h:mY CALL E nt ops tm S=some r) :
 ∃ ms P oc,A9 CALL E nt ops S.fl ms P oc tm S.hp S.nx∧XK E ops.size P∧S.fl≤S.nx.idx∧E.ng≤S.nx.idx ∧
   ((∃ p v hp,(P ops.size).pan=some (p,v,hp)∧r=.inr (v,⟨hp,(P ops.size).K,S.fl⟩)) ∨
    ((P ops.size).pan=none∧r=.inl ((P ops.size).tm,⟨w9 (ID (P ops.size).A) (P ops.size).B (P ops.size).news,(P ops.size).K,S.fl⟩))):=by
 obtain ⟨ms,h1,h2⟩:=m9 (o:=masks ops) h
 obtain ⟨h3,h4⟩:=d5 (b:=slots ops ms) h2
 obtain ⟨h5,h6⟩:=d5 h4
 obtain ⟨h7,h8⟩:=d5 h6
 obtain ⟨s,h9,h10⟩:=m9 h8
 obtain ⟨h11,h12⟩:=d5 h10
 obtain ⟨P,oc,g1,g2,g3⟩:=Es h9
 rw [Array.length_toList] at g2
 refine ⟨ms,P,oc,⟨Pe h1,Pf h3,g1,fun j o m hj hm=>?_⟩,?_,Nat.le_of_ble_eq_true h7,Nat.le_of_ble_eq_true h5,?_⟩
 ·have:=g3 j o m (by rw [Array.getElem?_toList];exact hj) hm
  rw [Nat.zero_add] at this
  exact this
 ·intro q hq x hx ha hs
  rw [g2] at hq hx hs ⊢
  have h13:=tC (tC h11 q hq) x hx
  unfold Wz at h13
  rw [ha,hs] at h13
  have h13:(match H7 q.o.op E q.tm ⟨w9 (W7 q.m x.1) x.2 s.news,s.K,s.K.idx⟩ q.o.type with|some (.v y _)=>VE 4 y q.v|_=>false)=true:=h13
  split at h13
  ·rename_i y S' he
   rw [IB _ _ _ h13] at he
   exact ⟨S',he⟩
  ·cases h13
 ·rw [g2]
  split at h12
  ·rename_i hp
   cases h12
   exact .inr ⟨hp,rfl⟩
  ·rename_i p v hp e
   cases h12
   exact .inl ⟨p,v,hp,e,rfl⟩
section
variable {CALL:x5} {E:i3} {nt:Nat} {ops:Array Oper} {fl:Nat} {ms:List Nat} {P:Nat→F6} {oc:Nat→Oc} {tm0:Tm} {B0:T AO} {K0:Ps} (h:A9 CALL E nt ops fl ms P oc tm0 B0 K0)
variable {S:Hp} {γ0:Gm} {w0:World}
theorem tA.congr {X X':Nat→Prop} (e:∀ i,X i↔X' i) {l:Nat} {γ:Gm} {w:World} {tmps:Array Value} (hR:tA nt ops ms P oc tm0 K0 E.ng S γ0 w0 X l γ w tmps):tA nt ops ms P oc tm0 K0 E.ng S γ0 w0 X' l γ w tmps:=by
 have:X=X':=funext fun i=>propext (e i)
 rw [← this];exact hR
include h in
theorem A9.run (hE:E.Ok) (hC:mX CALL E) (hq:XK E ops.size P) (hSf:S.fl=fl) (hSn:S.nx=K0) (hng:E.ng≤K0.idx) (hfl:fl≤K0.idx) {cs:List Frame} {k':List Item} :
 ∀ {listed:Array Bool} {L:List Nat},qM ops listed L→listed.size=ops.size→∀ {l:Nat} {γ:Gm} {w:World} {fr:Frame},tA nt ops ms P oc tm0 K0 E.ng S γ0 w0 (fun i=>listed.getD i false=true) l γ w fr.tmps→fr.mode=.run →
   fr.todo=.inRegion ops L::k' →
   (∃ γ' w' l' tmps',Steps E.P (lone fr cs w) (lone { fr with tmps:=tmps',todo:=.inRegion ops []::k' } cs w')∧tA nt ops ms P oc tm0 K0 E.ng S γ0 w0 (fun i=>i < ops.size) l' γ' w' tmps') ∨
   (∃ i v hp,i < ops.size∧oc i=.pan v hp∧∃ v' γ' w' tmps' L',tmps'.size=nt∧(∀ t,(∀ o,o ∈ ops.toList→o.dst≠some t)→tmps'.getD t Go.undef=fr.tmps.getD t Go.undef)∧Steps E.P (lone fr cs w) (lone (({ fr with tmps:=tmps',todo:=.inRegion ops L'::k' }:Frame).raise [{ v:=v',recovered:=false }]) cs w') ∧
    VR γ' v v'∧HR γ' E.ng ⟨hp,(P ops.size).K,fl⟩ w'∧j6 S γ0 w0 ⟨hp,(P ops.size).K,fl⟩ γ' w'):=by
 intro listed L hV
 induction hV with
 | @nil listed hr =>
   intro hsz l γ w fr hR hmo hto
   have all:∀ i,i < ops.size→listed.getD i false=true:=by
    intro i
    induction i using Nat.strongRecOn with
    | _ i ih =>
      intro hi
      obtain ⟨o,m,ho,hm,_⟩:=h.at hi
      cases hb:listed.getD i false with
      | true=>rfl
      | false =>
        exfalso
        have hb':listed.getD i true=false:=by
         rw [Array.getD_eq_getD_getElem?,Array.getElem?_eq_getElem (by omega)] at hb ⊢
         exact hb
        have:i ∈ Region.ready .any ops listed:=mem_ready.2 ⟨hb',o,ho,fun e he hbd=>by
         have:=h.masks.back i o (by rw [Array.getElem?_toList];exact ho) e he hbd
         exact ih e.on this (by omega)⟩
        rw [hr] at this;cases this
   refine .inl ⟨γ,w,l,fr.tmps,?_,hR.congr (fun i=>⟨hR.x.lt i,all i⟩)⟩
   have:({ fr with tmps:=fr.tmps,todo:=.inRegion ops []::k' }:Frame)=fr:=by rw [← hto]
   rw [this]
   exact Steps.refl _ _
 | @cons listed i L hr ht ih =>
   intro hsz l γ w fr hR hmo hto
   obtain ⟨hb,o,ho,hall⟩:=mem_ready.1 hr
   have hi:i < ops.size:=(Array.getElem?_eq_some_iff.1 ho).1
   obtain ⟨_,m,_,hm,_⟩:=h.at hi
   have hnX:¬ listed.getD i false=true:=by
    rw [Array.getD_eq_getD_getElem?,Array.getElem?_eq_getElem (by omega)] at hb ⊢
    simp at hb ⊢;exact hb
   have hpre:∀ p,tb m p=true→listed.getD p false=true:=by
    intro p hp
    obtain ⟨e,he,hbd,r⟩:=h.masks.bits i o m (by rw [Array.getElem?_toList];exact ho) hm p hp
    have h1:=hall e (by simpa using he) hbd
    rcases r with rfl|⟨m',h2,h3⟩
    ·exact h1
    ·exact hR.x.closed e.on m' h1 h2 p h3
   rcases h.exec hE hC hq hSf hSn hng hfl hR hi ho hm hnX hpre (fr:=fr) (cs:=cs) rfl hmo hto with ⟨γ1,w1,v1,l1,h1,h2⟩|⟨v,hp,h1,v',γ',w',h2,h3,h4,h5⟩
   ·have hfin:fr.finish v1={ fr with tmps:=mL o.dst v1 fr.tmps,todo:=.inRegion ops L::k' }:=by
     simp only [Frame.finish,hto,ho,Option.bind_some]
     rfl
    have hX:∀ p,(listed.getD p false=true∨p=i)↔((listed.setIfInBounds i true).getD p false=true):=fun p=>by
     rw [Array.getD_eq_getD_getElem?,Array.getD_eq_getD_getElem?,Array.getElem?_setIfInBounds]
     by_cases e:i=p
     ·subst e;simp [hsz,hi]
     ·simp [e,eq_comm (a:=p)]
    rw [hfin] at h1
    have h2:=h2.congr hX
    rcases ih (by simpa using hsz) (fr:={ fr with tmps:=mL o.dst v1 fr.tmps,todo:=.inRegion ops L::k' }) h2 hmo rfl with ⟨γ2,w2,l2,t2,g1,g2⟩|⟨j,v,hp,gj,g1,v',γ2,w2,t2,L2,g0,gk,g2,g3⟩
    ·exact .inl ⟨γ2,w2,l2,t2,Steps.trans h1 g1,g2⟩
    ·refine .inr ⟨j,v,hp,gj,g1,v',γ2,w2,t2,L2,g0,fun t ht=>(gk t ht).trans ?_,Steps.trans h1 g2,g3⟩
     have hne:=ht o (List.mem_iff_getElem?.2 ⟨i,by rw [Array.getElem?_toList];exact ho⟩)
     show (mL o.dst v1 fr.tmps).getD t Go.undef=_
     cases hd:o.dst with
     | none=>rfl
     | some d =>
       have:d≠t:=fun e=>hne (by rw [hd,e])
       show (fr.tmps.setIfInBounds d v1).getD t Go.undef=_
       simp only [Array.getD_eq_getD_getElem?]
       rw [Array.getElem?_setIfInBounds_ne (by exact this)]
   ·refine .inr ⟨i,v,hp,hi,h1,v',γ',w',fr.tmps,i::L,hR.s.size,fun _ _=>rfl,?_,h3,h4,h5⟩
    have:({ fr with tmps:=fr.tmps,todo:=.inRegion ops (i::L)::k' }:Frame)=fr:=by rw [← hto]
    rw [this];exact h2
include h in
theorem A9.start (hSn:S.nx=K0) (hSB:S.hp=B0) {γ:Gm} {w:World} (hH:HR γ E.ng S w) {tmps:Array Value} (hT:TR γ tm0 tmps) (hsz:tmps.size=nt) :
 tA nt ops ms P oc tm0 K0 E.ng S γ w (fun i=>(Array.replicate ops.size false).getD i false=true) 0 γ w tmps:=by
 have hno:∀ i,¬ (Array.replicate ops.size false).getD i false=true:=fun i=>by
  rw [Array.getD_eq_getD_getElem?,Array.getElem?_replicate]
  split <;> simp
 have hP0:=h.init
 refine ⟨⟨fun i e=>absurd e (hno i),fun i m e=>absurd e (hno i),fun e he hf=>⟨fun x=>absurd x (hno e),fun x=>by omega⟩,.inl rfl,fun i e=>absurd e (hno i)⟩,⟨hsz,fun p o d v e=>absurd e (hno p),fun t _=>?_⟩,?_,fun a b hab _=>?_,fun p v b e=>absurd e (hno p)⟩
 ·refine (hT t).mono (fun a L e=>Gm.cut_some.2 ⟨?_,e⟩)
  have:=hH.fresh a L e
  rw [hSn] at this;exact this
 ·have:=fB.start hH K0.idx (by rw [hSn];exact Nat.le_refl _) (Dm P (fun i=>(Array.replicate ops.size false).getD i false=true)) (fun n hn=>.inl (by rw [hP0];rw [hSn] at hn;exact hn))
  refine this.weaken (fun a b c hO=>?_) (fun _ x=>x)
  rcases hO with ⟨h1,h2⟩|⟨p,v,h1,_⟩
  ·rw [hP0] at h1 h2
   exact ⟨by rw [hSB];exact h1,h2⟩
  ·exact absurd h1 (hno p)
 ·rw [hP0,← hSB];exact hab
include h in
theorem A9.fin (hSf:S.fl=fl) (hSn:S.nx=K0) (hfl:fl≤K0.idx) {l:Nat} {γ:Gm} {w:World} {tmps:Array Value} (hR:tA nt ops ms P oc tm0 K0 E.ng S γ0 w0 (fun i=>i < ops.size) l γ w tmps) :
 (P ops.size).pan=none∧TR γ (P ops.size).tm tmps∧tmps.size=nt∧HR γ E.ng ⟨w9 (ID (P ops.size).A) (P ops.size).B (P ops.size).news,(P ops.size).K,fl⟩ w ∧
  j6 S γ0 w0 ⟨w9 (ID (P ops.size).A) (P ops.size).B (P ops.size).news,(P ops.size).K,fl⟩ γ w:=by
 obtain ⟨hx,hs,hh,hold,hfd⟩:=hR
 have hkz:(P 0).K=K0:=h.kz
 have hKn:K0.idx≤(P ops.size).K.idx:=by rw [← hkz];exact h.K (Nat.zero_le _) (Nat.le_refl _)
 have hln:l≤ops.size:=by
  rcases hx.lvl with rfl|⟨e,rfl,he,_⟩
  ·exact Nat.zero_le _
  ·exact he
 obtain ⟨hA,hB⟩:=h.AB hln (Nat.le_refl _) (fun e he hlt hf=>by have:=(hx.eff e hlt hf).1 hlt;omega)
 refine ⟨?_,fun t=>?_,hs.size,?_⟩
 ·cases hp:(P ops.size).pan with
  | none=>rfl
  | some q =>
    obtain ⟨p,v,hp'⟩:=q
    obtain ⟨h1,h2⟩:=h.pan1 (Nat.le_refl _) hp
    have:=hx.live p h1
    rw [h2] at this
    exact absurd rfl this
 ·have hP:=h.slotP (i:=ops.size) (Nat.le_refl _)
  by_cases hex:∃ j oj v,j < ops.size∧ops[j]? = some oj∧oj.dst=some t∧(oc j).val=some v
  ·obtain ⟨j,oj,v,h0,h1,h2,h3⟩:=hex
   rw [(hP t).1 j oj v h0 h1 h2 h3]
   exact (hs.slot j oj t v h0 h1 h2 h3).mono (Gm.cut_le _ _)
  ·rw [(hP t).2 (fun p o v hp ho hv hd=>hex ⟨p,o,v,hp,ho,hd,hv⟩)]
   exact (hs.slot0 t (fun p o v hp ho hv hd=>hex ⟨p,o,v,hp,ho,hd,hv⟩)).mono (Gm.cut_le _ _)
 ·have:=hh.final (H:=w9 (ID (P ops.size).A) (P ops.size).B (P ops.size).news) (k:=(P ops.size).K) (fun a b e=>?_) (fun a b hab hlt=>?_) (h.domLt hx.lt) (by rw [hSn];exact hKn)
  ·rw [hSf] at this;exact this
  ·rcases bD e with hb|⟨p,h1,h2⟩
   ·exact ⟨_,.inl ⟨by rw [← hB];exact hb,rfl⟩⟩
   ·obtain ⟨h3,h4,v,h5⟩:=h.news1 (Nat.le_refl _) h1
    refine ⟨_,.inr ⟨p,v,h3,?_,h5,h4,rfl⟩⟩
    unfold ID at h2
    rw [← hA]
    cases hb:tb (P ops.size).A p with
    | false=>rfl
    | true=>rw [hb] at h2;cases h2
  ·refine V5 (by rw [hB];exact hold a b hab hlt) (fun p k o hmem e=>?_)
   obtain ⟨q1,q2,_⟩:=h.news1 (Nat.le_refl _) hmem
   have:(P 0).K.idx≤(P p).K.idx:=h.K (Nat.zero_le _) (by omega)
   rw [← q2,e,hkz] at this
   omega
end
def I3 (E:i3) (H:Hp) (ro:RO):Option AF:=
 match ro with
 | .call f args=>d9 E f args false
 | .yld l args=>dK E H l args
 | _=>none
def Pp (D:s8) (E:i3) (N:Nat):x5:=fun ro H=>match I3 E H ro with|some f'=>Af D E N f' [] H|none=>.bad
def Eu (N:Nat) (n:Nat):s8:=
 Nat.rec (motive:=fun _=>s8) (fun _ _ _ _ _ _ _ _ _=>none) (fun _ ih E _ nt tm ops _ _ _ S=>mY (Pp ih E N) E nt ops tm S) n
theorem vW:∀ {l:List Oper} {a:Nat},qH l a=true→∀ o,o ∈ l→o.dst≠some a
 | [],a,_,o,ho=>by cases ho
 | x :: l,a,h,o,ho=>by
   have h':(Bool.rec (qH l a) false (Option.rec false (fun e=>Nat.beq e a) x.dst):Bool)=true:=h
   cases hb:(Option.rec false (fun e=>Nat.beq e a) x.dst:Bool) with
   | true=>rw [hb] at h';cases h'
   | false =>
     rw [hb] at h'
     rcases List.mem_cons.1 ho with rfl|ho
     ·intro e
      rw [e] at hb
      have:Nat.beq a a=false:=hb
      rw [i9] at this
      simp at this
     ·exact vW h' o ho
theorem vX {ops:Array Oper}:∀ {l:List Nat},(List.rec true (fun a _ ih=>Bool.rec false ih (qH ops.toList a)) l:Bool)=true→∀ a,a ∈ l→qH ops.toList a=true
 | [],_,a,ha=>by cases ha
 | x::l,h,a,ha=>by
   obtain ⟨h1,h2⟩:=S7 (b:=qH ops.toList x) h
   rcases List.mem_cons.1 ha with rfl|ha
   ·exact h1
   ·exact vX h2 a ha
theorem Aq {E:i3} {fn:Nat} {ops:Array Oper} (h:kI E fn ops=true) (a:Nat) (ha:a ∈ R2 E fn) (o:Oper) (ho:o ∈ ops.toList):o.dst≠some a:=
 vW (vX h a ha) o ho
section
variable {E:i3} (hE:E.Ok)
include hE
theorem Q9 {H:Hp} {γ:Gm} {w:World} {s:Sem Next} {ro:RO} {f':AF} (h:I3 E H ro=some f') (hH:HR γ E.ng H w) (ho:O7 E γ H w s ro):(∀ d,ro≠.dfr d)∧∃ fr',F8 E.P s w fr'∧FR γ E f' fr':=by
 cases ro with
 | call f args =>
   obtain ⟨vs,h1,h2,_⟩:=ho
   exact ⟨fun d e=>(by cases e),_,.inl ⟨f,_,h1,rfl⟩,iF hE h h2⟩
 | yld l args =>
   obtain ⟨L,vs,hL,h2,h3⟩:=ho
   obtain ⟨fn,tmps,a,b,g1,g2⟩:=qK h hH h2 hL
   exact ⟨fun d e=>(by cases e),_,.inr ⟨L.blk,fn,tmps,a,b,(h3 w).trans g1,rfl⟩,g2⟩
 | v _ _=>cases h
 | dfr _=>cases h
 | pan _=>cases h
 | rcv=>cases h
theorem Pq {D:s8} (hD:bB D E) (N:Nat):mX (Pp D E N) E:=by
 intro ro H γ w s hH ho
 unfold Pp
 cases hen:I3 E H ro with
 | none=>exact ⟨fun x S' e=>(by cases e),fun x S' e=>(by cases e)⟩
 | some f' =>
   obtain ⟨hnd,fr',he,hf⟩:=Q9 hE hen hH ho
   have hr:=Ek hE hD N hf .nil hH
   simp only
   refine ⟨fun x S' e=>⟨hnd,fr',he,?_⟩,fun x S' e=>⟨hnd,fr',he,?_⟩⟩
   ·rw [e] at hr
    exact hr.2
   ·rw [e] at hr
    exact hr
theorem vY {CALL:x5} (hC:mX CALL E) (hmix:E.P.follows .mixedOrders=true):bB (fun E _ nt tm ops _ _ _ S=>mY CALL E nt ops tm S) E:=by
 intro id ops fn nt tm t k dfs dk rd cs S γ fr frs w k' hf hcs hH hto hk
 unfold bX
 simp only
 cases hd:mY CALL E nt ops tm S with
 | none=>trivial
 | some r =>
   obtain ⟨ms,P,oc,hpl,hq,hfl,hng,hr⟩:=Po hd
   have hm:=hf.mode rfl
   have hH1:HR γ E.ng S { w with drawn:=w.drawn+1 }:=hH.drew rfl
   have hstart:=hpl.start rfl rfl hH1 (hf.tr rfl) hf.nt
   have hV:=mS ops (w.tape w.drawn (.order fr.fn id))
   have hst:∀ cs,step E.P (lone fr cs w)=.next (lone { fr with todo:=.inRegion ops (Region.schedule true ops (w.tape w.drawn (.order fr.fn id)))::k' } cs { w with drawn:=w.drawn+1 }):=fun cs=>by
    have:=Wh (P:=E.P) (cs:=cs) (w:=w) hm hto
    rw [hmix] at this;exact this
   have hrun:=fun cs=>hpl.run hE hC hq rfl rfl hng hfl (cs:=cs) (k':=k') hV (by simp) (fr:={ fr with todo:=.inRegion ops (Region.schedule true ops (w.tape w.drawn (.order fr.fn id)))::k' }) hstart hm rfl
   rcases hr with ⟨p,v,hp,hpn,rfl⟩|⟨hpn,rfl⟩
   ·show u5 E γ S fr frs w (Bool.rec .bad (.next ⟨fn,nt,tm,[],dfs,.pan v false,true,dk,rd⟩ cs _) (kI E fn ops))
    cases hfree:kI E fn ops with
    | false=>trivial
    | true =>
    intro bot
    rcases hrun (frs++bot) with ⟨γ',w',l',tmps',h1,h2⟩|⟨i,v2,hp2,hi,h1,v',γ',w',tmps',L',h2,hkeep,h3,h4,h5,h6⟩
    ·have:=(hpl.fin rfl rfl hfl h2).1
     rw [hpn] at this;cases this
    ·have:=hpl.pan2 (Nat.le_refl _) hi h1
     rw [hpn] at this;cases this
     have hraise:(({ fr with tmps:=tmps',todo:=.inRegion ops L'::k' }:Frame).raise [{ v:=v',recovered:=false }])={ fr with tmps:=tmps',todo:=.inRegion ops L'::k',mode:=.panicking [{ v:=v',recovered:=false }] }:=by
      simp [Frame.raise,hm]
     have h3':Steps E.P (lone { fr with todo:=.inRegion ops (Region.schedule true ops (w.tape w.drawn (.order fr.fn id)))::k' } (frs++bot) { w with drawn:=w.drawn+1 })
      (lone { fr with tmps:=tmps',todo:=.inRegion ops L'::k',mode:=.panicking [{ v:=v',recovered:=false }] } (frs++bot) w'):=by
      rw [← hraise];exact h3
     refine ⟨γ',_,frs,w',Steps.head (hst _) h3',⟨hf.fn,h2,(show ∀ a,a ∈ R2 E fn→VR γ' (n8 tm a) (tmps'.getD a Go.undef) from fun a ha=>by rw [hkeep a (Aq hfree a ha)];exact ((hf.tr rfl) a).mono h6.ext),fun e=>(by cases e),hf.dfs.mono h6.ext,.pan false h4,hf.kind,hf.rd.mono h6.ext,hf.fi⟩,hcs.mono h6.ext,h5,h6.drew rfl rfl rfl,?_⟩
     exact E9 (fr:=fr) (fr':={ fr with tmps:=tmps',todo:=.inRegion ops L'::k',mode:=.panicking [{ v:=v',recovered:=false }] }) rfl rfl frs
   ·intro bot
    rcases hrun (frs++bot) with ⟨γ',w',l',tmps',h1,h2⟩|⟨i,v2,hp2,hi,h1,_⟩
    ·obtain ⟨_,g1,g2,g3,g4⟩:=hpl.fin rfl rfl hfl h2
     have h4:step E.P (lone { fr with tmps:=tmps',todo:=.inRegion ops []::k' } (frs++bot) w')=.next (lone { fr with tmps:=tmps',todo:=k' } (frs++bot) w'):=
      eS (fr:={ fr with tmps:=tmps',todo:=.inRegion ops []::k' }) (ops:=ops) hm rfl
     refine ⟨γ',{ fr with tmps:=tmps',todo:=k' },frs,w',Steps.head (hst _) (Steps.trans h1 (Steps.one h4)),⟨hf.fn,g2,(show TR _ _ _ from g1),fun _=>hk.mono g4.ext,hf.dfs.mono g4.ext,hf.md.mono g4.ext,hf.kind,hf.rd.mono g4.ext,hf.fi⟩,hcs.mono g4.ext,g3,g4.drew rfl rfl rfl,?_⟩
     exact E9 (fr:=fr) (fr':={ fr with tmps:=tmps',todo:=k' }) rfl rfl frs
    ·have:=hpl.pan2 (Nat.le_refl _) hi h1
     rw [hpn] at this;cases this
theorem Pr (hmix:E.P.follows .mixedOrders=true) (N:Nat) (n:Nat):bB (Eu N n) E:=by
 induction n with
 | zero =>
   intro id ops fn nt tm t k dfs dk rd cs S γ fr frs w k' hf hcs hH hto hk
   trivial
 | succ n ih=>exact vY hE (Pq hE ih N) hmix
end
def pick {α:Type} (l:List α):Bool→List α:=List.rec (motive:=fun _=>Bool→List α) (fun _=>[]) (fun x _ ih b=>Bool.rec (ih true) (x::ih false) b) l
theorem fD {α:Type}:∀ (l:List α) (n:Nat),(pick l true)[n]? = l[2 * n]?∧(pick l false)[n]? = l[2 * n+1]?
 | [],n=>by simp [pick]
 | x :: l,n=>by
   obtain ⟨h1,h2⟩:=fD l n
   constructor
   ·show (x::pick l false)[n]? = _
    cases n with
    | zero=>rfl
    | succ n=>rw [List.getElem?_cons_succ,(fD l n).2];rw [show 2 * (n+1)=(2 * n+1)+1 from by omega,List.getElem?_cons_succ]
   ·show (pick l true)[n]? = _
    rw [h1,List.getElem?_cons_succ]
def Ur {α:Type} (f:Nat):List α→T α:=Nat.rec (motive:=fun _=>List α→T α) (fun _=>.e) (fun _ ih l=>List.rec .e (fun x t _=>.n (ih (pick t true)) (some x) (ih (pick t false))) l) f
theorem fE {α:Type}:∀ (f:Nat) (l:List α) (k:Ps) (x:α),T.get k (Ur f l)=some x→l[k.idx]? = some x
 | 0,l,k,x,h=>by rw [show Ur 0 l=.e from rfl,T.get_e] at h;cases h
 | f+1,[],k,x,h=>by rw [show Ur (f+1) ([]:List α)=.e from rfl,T.get_e] at h;cases h
 | f + 1,y::t,k,x,h=>by
   have h:T.get k (T.n (Ur f (pick t true)) (some y) (Ur f (pick t false)))=some x:=h
   cases k with
   | h=>exact h
   | o p =>
     have h:T.get p (Ur f (pick t true))=some x:=h
     have:=fE f _ p x h
     rw [(fD t p.idx).1] at this
     rw [Ps.idx_o,show p.idx+p.idx+1=(2 * p.idx)+1 from by omega,List.getElem?_cons_succ];exact this
   | i p =>
     have h:T.get p (Ur f (pick t false))=some x:=h
     have:=fE f _ p x h
     rw [(fD t p.idx).2] at this
     rw [Ps.idx_i,show p.idx+p.idx+2=(2 * p.idx+1)+1 from by omega,List.getElem?_cons_succ];exact this
def Pt {α β:Type} (f:α→β) (l:List α):List β:=List.rec [] (fun x _ ih=>f x::ih) l
theorem mZ {α β:Type} {f:α→β}:∀ {l:List α} {n:Nat} {y:β},(Pt f l)[n]? = some y→∃ x,l[n]? = some x∧f x=y
 | [],n,y,h=>by simp [Pt] at h
 | x::l,n,y,h=>by
   have h:(f x::Pt f l)[n]? = some y:=h
   cases n with
   | zero=>simp at h;exact ⟨x,rfl,h⟩
   | succ n=>rw [List.getElem?_cons_succ] at h;rw [List.getElem?_cons_succ];exact mZ h
def RE (fn:Func):Option FI:=match fn.body with|none=>none|some c=>Bool.rec (some ⟨c,fn.ntmps,fn.results.toList⟩) none (fn.name == "runtime.NumGoroutine")
def Pu (fn:Func):Option Un:=
 match fn.body with
 | some _=>none
 | none=>Bool.rec none (Bool.rec (Bool.rec (Bool.rec none (some .idxByte) (fn.name == "internal/bytealg.IndexByteString")) (some .noEscape) (fn.name == "internal/abi.NoEscape")) (some .sqrt) (fn.name == "math.sqrt")) (fn.origin == "")
theorem Ig:Extern.allNextRows.lookup "math.sqrt" = none:=by kernel_rfl
theorem iK:Extern.allNextRows.lookup "" = none:=by kernel_rfl
theorem Pv:Extern.allGenericRows.lookup "math.sqrt" = none:=by kernel_rfl
theorem Ar:Extern.allTypedRows.lookup "math.sqrt" = none:=by kernel_rfl
theorem Pw:Extern.allRows.lookup "math.sqrt" = some Extern.MathSqrt.sqrt:=by kernel_rfl
theorem As:Extern.allNextRows.lookup "internal/abi.NoEscape" = none:=by kernel_rfl
theorem Ih:Extern.allGenericRows.lookup "internal/abi.NoEscape" = none:=by kernel_rfl
theorem vZ:Extern.allTypedRows.lookup "internal/abi.NoEscape" = none:=by kernel_rfl
theorem Ii:Extern.allRows.lookup "internal/abi.NoEscape" = some Extern.AbiNoEscape.same:=by kernel_rfl
theorem Ij:Extern.allNextRows.lookup "internal/bytealg.IndexByteString" = none:=by kernel_rfl
theorem Px:Extern.allGenericRows.lookup "internal/bytealg.IndexByteString" = none:=by kernel_rfl
theorem At:Extern.allTypedRows.lookup "internal/bytealg.IndexByteString" = none:=by kernel_rfl
theorem Py:Extern.allRows.lookup "internal/bytealg.IndexByteString" = some Extern.BytealgIndexByte.indexByte:=by kernel_rfl
theorem Pz {fn:Func} {x:Un} (h:Pu fn=some x):fn.body=none∧(fn.name == "runtime.NumGoroutine")=false∧Extern.findNext fn=none∧Extern.find fn=some x.sem:=by
 unfold Pu at h
 split at h
 ·cases h
 ·rename_i hb
  obtain ⟨h1,h2⟩:=d5 h
  have e1:fn.origin = "":=eq_of_beq h1
  cases h3:(fn.name == "math.sqrt") with
  | true =>
    rw [h3] at h2
    cases h2
    have e2:fn.name = "math.sqrt":=eq_of_beq h3
    refine ⟨hb,by rw [e2];decide,?_,?_⟩
    ·simp [Extern.findNext,e1,e2,Ig,iK]
    ·simp [Extern.find,e2,Pv,Ar,Pw,Un.sem]
  | false =>
    rw [h3] at h2
    cases h4:(fn.name == "internal/abi.NoEscape") with
    | true =>
      rw [h4] at h2
      cases h2
      have e2:fn.name = "internal/abi.NoEscape":=eq_of_beq h4
      refine ⟨hb,by rw [e2];decide,?_,?_⟩
      ·simp [Extern.findNext,e1,e2,As,iK]
      ·simp [Extern.find,e2,Ih,vZ,Ii,Un.sem]
    | false =>
      rw [h4] at h2
      obtain ⟨h6,h7⟩:=d5 (b:=fn.name == "internal/bytealg.IndexByteString") h2
      cases h7
      have e2:fn.name = "internal/bytealg.IndexByteString":=eq_of_beq h6
      refine ⟨hb,by rw [e2];decide,?_,?_⟩
      ·simp [Extern.findNext,e1,e2,Ij,iK]
      ·simp [Extern.find,e2,Px,At,Py,Un.sem]
def Au (am:Nat→Bool) (P:Program):i3:=⟨P,Ur 40 P.types.toList,Ur 40 (Pt RE P.funcs.toList),Ur 40 (Pt Pu P.funcs.toList),P.globals.size,am⟩
theorem qO (am:Nat→Bool) (P:Program):(Au am P).Ok:=by
 refine ⟨fun t i h=>?_,fun f i h=>?_,fun f x h=>?_⟩
 ·have:=fE 40 _ _ _ h
  rw [Ps.idx_of,Array.getElem?_toList] at this
  show P.info? t=some i
  unfold Tables.info?
  rw [if_pos (Array.getElem?_eq_some_iff.1 this).1]
  exact this
 ·have:=fE 40 _ _ _ h
  rw [Ps.idx_of] at this
  obtain ⟨fn,h1,h2⟩:=mZ this
  rw [Array.getElem?_toList] at h1
  refine ⟨fn,h1,?_⟩
  unfold RE at h2
  split at h2
  ·cases h2
  ·rename_i c hc
   cases hn:(fn.name == "runtime.NumGoroutine") with
   | true=>rw [hn] at h2;cases h2
   | false=>rw [hn] at h2;cases h2;exact ⟨hc,rfl,rfl,rfl⟩
 ·have:=fE 40 _ _ _ h
  rw [Ps.idx_of] at this
  obtain ⟨fn,h1,h2⟩:=mZ this
  rw [Array.getElem?_toList] at h1
  exact ⟨fn,h1,Pz h2⟩
def isTrue (r:SR):Bool:=match r with|.fin (.bool b) _=>b|_=>false
def A8 (E:i3) (fn:Nat):Code:=match T.get (Ps.of fn) E.funcs with|some (some i)=>i.code|_=>.skip
def VH (a b:Code) (k:Nat):Code:=Nat.rec a (fun _ _=>b) k
def XL (c:Code):Nat→Code:=
 Code.rec (motive:=fun _=>Nat→Code) (fun _=>.skip) (fun _ _ _ _=>.skip) (fun a b _ _=>VH a b) (fun _ a b _ _=>VH a b) (fun _ b _ _=>b) (fun b _ _=>b) (fun _ _ a b _ _=>VH a b) (fun _ _=>.skip) (fun b _ _=>b)
  (fun _ _=>.skip) (fun _ _=>.skip) (fun _=>.skip) (fun _ _=>.skip) c
def U3 (c:Code) (p:List Nat):Code:=List.rec (motive:=fun _=>Code→Code) (fun c=>c) (fun k _ ih c=>ih (XL c k)) p c
def DJ (c:Code):Array Oper:=
 Code.rec #[] (fun _ ops _=>ops) (fun _ _ _ _=>#[]) (fun _ _ _ _ _=>#[]) (fun _ _ _=>#[]) (fun _ _=>#[]) (fun _ _ _ _ _ _=>#[]) (fun _=>#[]) (fun _ _=>#[]) (fun _=>#[]) (fun _=>#[]) #[] (fun _=>#[]) c
def cA (E:i3) (fn:Nat) (p:List Nat):AI:=.code (U3 (A8 E fn) p)
def lA (E:i3) (fn:Nat) (p:List Nat):AI:=.lop (U3 (A8 E fn) p)
def sA (E:i3) (fn:Nat) (p:List Nat):AI:=.scp (U3 (A8 E fn) p)
def rA (E:i3) (fn:Nat) (p:List Nat) (i:Nat):AI:=.reg (DJ (U3 (A8 E fn) p)) i (w7 i (DJ (U3 (A8 E fn) p)).toList)
def xu:AV:=.tup []
theorem HR.sub {γ:Gm} {ng:Nat} {S S':Hp} {w:World} (h:HR γ ng S w) (hs:∀ a o,T.get a S'.hp=some o→T.get a S.hp=some o) (hn:S'.nx=S.nx) (hf:S'.fl=S.fl:=by rfl):HR γ ng S' w:=
 ⟨fun a o ho=>h.obj a o (hs a o ho),fun a a' o o' L L' ho ho'=>by rw [hf];exact h.inj a a' o o' L L' (hs a o ho) (hs a' o' ho'),fun a L hL=>by rw [hn];exact h.fresh a L hL,h.glob⟩
section
variable {E:i3} (hE:E.Ok) (hmix:E.P.follows .mixedOrders=true) {N n:Nat} {S0:Hp} {F:Nat}
include hE hmix
end
structure Kp (S:Hp) (γ:Gm) (w:World) (γ':Gm) (w':World):Prop where
 ext:Gm.le γ γ'
 size:w.heap.size≤w'.heap.size
 keep:∀ r,r < w.heap.size→(∀ a o L,S.hp.get a=some o→S.fl≤a.idx→γ a=some L→L.blk≠r)→w'.heap[r]? = w.heap[r]?
 new:∀ a L,γ' a=some L→a.idx < S.nx.idx→γ a=some L
 os:(w'.os,w'.tape)=(w.os,w.tape)
 out:w'.output=w.output
theorem j6.kp {S S':Hp} {γ γ':Gm} {w w':World} (h:j6 S γ w S' γ' w'):Kp S γ w γ' w':=⟨h.ext,h.size,h.keep,h.new,h.os,h.out⟩
section
variable {E:i3} (hE:E.Ok) (hmix:E.P.follows .mixedOrders=true) {N n:Nat}
include hE hmix
omit hE hmix
def cW (E:i3) (f0:AF) (v:AV):Prop:=
 ∀ (γ:Gm) (S:Hp) (fr:Frame) (w:World),FR γ E f0 fr→HR γ E.ng S w→∀ c bot,∃ v' w',Steps E.P (lone fr (c::bot) w) (lone (c.finish v') bot w')∧VR γ v v'∧HR γ E.ng S w'∧j6 S γ w S γ w'
def H0 (E:i3):Hp:=⟨.e,Ps.of E.ng,E.ng⟩
theorem tE (E:i3) (a:Ps):(H0 E).hp.get a=none:=T.get_e a
theorem HR.h0 {γ:Gm} {S:Hp} {w:World} (h:HR γ E.ng S w):HR (γ.cut E.ng) E.ng (H0 E) w:=by
 refine ⟨fun a o e=>?_,fun a a' o o' L L' e=>?_,fun a L e=>?_,fun g hg=>?_⟩
 ·rw [tE] at e;cases e
 ·rw [tE] at e;cases e
 ·show a.idx < (Ps.of E.ng).idx
  rw [Ps.idx_of];exact (Gm.cut_some.1 e).1
 ·obtain ⟨s,hs⟩:=h.glob g hg
  exact ⟨s,Gm.cut_some.2 ⟨by rw [Ps.idx_of];exact hg,hs⟩⟩
def Qa (E:i3) (f:AF):Prop:=(∀ i,vN E.ng (n8 f.tm i)=true)∧(∃ c,f.todo = [.code c])∧f.dfs = []∧f.md=.run∧f.rd=none∧f.lost=false
theorem FR.cut {γ:Gm} {f:AF} {fr:Frame} (hp:Qa E f) (h:FR γ E f fr):FR (γ.cut E.ng) E f fr:=by
 obtain ⟨h1,⟨c,h2⟩,h3,h4,h5,h6⟩:=hp
 refine ⟨h.fn,h.nt,(by unfold Pa;rw [h6];exact fun i=>mW (h.tr h6 i) (h1 i)),fun e=>?_,?_,?_,h.kind,?_,h.fi⟩
 ·have:=h.todo e
  rw [h2] at this ⊢
  generalize fr.todo=t at this
  cases this with
  | cons hx ht=>cases ht;cases hx;exact .cons (.code c) .nil
 ·have:=h.dfs
  rw [h3] at this ⊢
  generalize fr.defers=t at this
  cases this;exact .nil
 ·have:=h.md
  rw [h4] at this ⊢
  generalize fr.mode=t at this
  cases this;exact .run
 ·have:=h.rd
  rw [h5] at this ⊢
  generalize fr.roundOf=t at this
  cases this;exact .none
theorem fF (fr:Frame) (v:Value):(fr.finish v).fn=fr.fn∧(fr.finish v).roundOf=fr.roundOf:=by
 unfold Frame.finish
 split <;> exact ⟨rfl,rfl⟩
theorem qP {k:Nat}:∀ (l:List AV) (i:Nat) (t:Tm),(∀ x,x ∈ l→vN k x=true)→(∀ j,vN k (n8 t j)=true)→∀ j,vN k (n8 (Hy l i t) j)=true
 | [],i,t,_,ht,j=>ht j
 | x::l,i,t,hl,ht,j=>by
   show vN k (n8 (Hy l (Nat.succ i) (V1 i x t)) j)=true
   refine qP l _ _ (fun y hy=>hl y (List.mem_cons_of_mem _ hy)) (fun j=>?_) j
   by_cases e:i=j
   ·subst e;rw [L5];exact hl x (List.mem_cons_self ..)
   ·rw [X4 e];exact ht j
theorem y7 {F:Nat} {args:List AV} {f0:AF} (h:d9 E F args false=some f0) (ha:∀ x,x ∈ args→vN E.ng x=true):Qa E f0:=by
 unfold d9 at h
 split at h
 ·obtain ⟨_,h2⟩:=d5 h
  cases h2
  exact ⟨qP args 0 te ha (fun j=>by rw [rK];rfl),⟨_,rfl⟩,rfl,rfl,rfl,rfl⟩
 ·cases h
end
def Ev (ops:Array Oper) (i:Nat) (o:Oper) (rest:List Oper):SF:=fun E fn nt tm k dfs dk rd cs S =>
 match y9 nt ops tm o with
 | none=>.bad
 | some false=>(match A7 nt o.dst (.tup []) tm with|some tm'=>.next ⟨fn,nt,tm',.reg ops (Nat.succ i) rest::k,dfs,.run,false,dk,rd⟩ cs S|none=>.bad)
 | some true=>(match T5 o.op E tm S o.type with
   | none=>.bad
   | some (.v x S')=>(match A7 nt o.dst x tm with|some tm'=>.next ⟨fn,nt,tm',.reg ops (Nat.succ i) rest::k,dfs,.run,false,dk,rd⟩ cs S'|none=>.bad)
   | some r=>R1 ops (.stop tm S i (o::rest) r) E fn nt tm k dfs dk rd cs S)
def IE (ops:Array Oper) (i:Nat) (rest:List Oper):SF:=fun E fn nt tm k dfs dk rd cs S =>
 match rest with
 | []=>.next ⟨fn,nt,tm,k,dfs,.run,false,dk,rd⟩ cs S
 | o::rest=>Ev ops i o rest E fn nt tm k dfs dk rd cs S
def Qb (D:s8) (x:AI):SF:=fun E fn nt tm k dfs dk rd cs S =>
 match x with
 | .code (.region _ ops false)=>.next ⟨fn,nt,tm,.reg ops 0 ops.toList::k,dfs,.run,false,dk,rd⟩ cs S
 | .reg ops i rest=>IE ops i rest E fn nt tm k dfs dk rd cs S
 | x=>qI D x E fn nt tm k dfs dk rd cs S
def Qc (D:s8) (E:i3) (f:AF) (cs:List AF) (S:Hp):SR:=
 match f with
 | ⟨fn,nt,tm,x::k,dfs,.run,false,dk,rd⟩=>Qb D x E fn nt tm k dfs dk rd cs S
 | f=>cU D E f cs S
section
variable {E:i3} (hE:E.Ok) {γ:Gm} {S:Hp} {fr:Frame} {frs:List Frame} {w:World}
include hE
theorem wA {fn nt:Nat} {tm:Tm} {k:List AI} {dfs:List AD} {dk:Bool} {rd:Option Ps} {ops:Array Oper} {i:Nat} {o:Oper} {rest:List Oper} {cs:List AF}
 (hf:FR γ E ⟨fn,nt,tm,.reg ops i (o::rest)::k,dfs,.run,false,dk,rd⟩ fr) (hcs:M7 γ E cs frs) (hH:HR γ E.ng S w):u5 E γ S fr frs w (Ev ops i o rest E fn nt tm k dfs dk rd cs S):=by
 obtain ⟨k',ht,ho⟩:=eW hf
 have hm:=hf.mode rfl
 have hT:=hf.tr rfl
 unfold Ev
 cases hw:y9 nt ops tm o with
 | none=>trivial
 | some b =>
   have hwd:=eV hw hf.nt hT
   cases b with
   | false =>
     simp only
     cases hp:A7 nt o.dst (.tup []) tm with
     | none=>trivial
     | some tm' =>
       simp only
       have hfin:r6 ⟨fn,nt,tm,.reg ops i (o::rest)::k,dfs,.run,false,dk,rd⟩ (.tup [])=some ⟨fn,nt,tm',.reg ops (i+1) rest::k,dfs,.run,false,dk,rd⟩:=by
        simp only [H1,I2,hp]
       have hf2:=C1 hfin hf rfl rfl .undef
       exact aB.here hf hcs rfl rfl (fun cs=>⟨γ,_,w,Steps.one (U2 hm ht ho hwd),hf2,hH,j6.refl _ _ _⟩)
   | true =>
     simp only
     cases hev:T5 o.op E tm S o.type with
     | none=>trivial
     | some r =>
       have hop:=eR hE hT hH hev
       cases r with
       | v x S' =>
         simp only
         cases hp:A7 nt o.dst x tm with
         | none=>trivial
         | some tm' =>
           simp only
           obtain ⟨γ₁,v,w₁,hr,hv,hH1,hP1⟩:=hop
           have hfin:r6 ⟨fn,nt,tm,.reg ops i (o::rest)::k,dfs,.run,false,dk,rd⟩ x=some ⟨fn,nt,tm',.reg ops (i+1) rest::k,dfs,.run,false,dk,rd⟩:=by
            simp only [H1,I2,hp]
           have hf2:=C1 hfin (hf.mono hP1.ext) rfl rfl hv
           exact aB.here hf hcs rfl rfl (fun cs=>⟨γ₁,_,w₁,Steps.one (V3 hm ht ho hwd (.inr (D3 hev (fun d e=>by cases e))) hr),hf2,hH1,hP1⟩)
       | call f args=>exact stop_ok hf hcs hH hwd hev (fun _ _ e=>by cases e)
       | yld l args=>exact stop_ok hf hcs hH hwd hev (fun _ _ e=>by cases e)
       | dfr d=>exact stop_ok hf hcs hH hwd hev (fun _ _ e=>by cases e)
       | pan v=>exact stop_ok hf hcs hH hwd hev (fun _ _ e=>by cases e)
       | rcv=>exact stop_ok hf hcs hH hwd hev (fun _ _ e=>by cases e)
where
 stop_ok {fn nt:Nat} {tm:Tm} {k:List AI} {dfs:List AD} {dk:Bool} {rd:Option Ps} {ops:Array Oper} {i:Nat} {o:Oper} {rest:List Oper} {cs:List AF} {r:RO}
  (hf:FR γ E ⟨fn,nt,tm,.reg ops i (o::rest)::k,dfs,.run,false,dk,rd⟩ fr) (hcs:M7 γ E cs frs) (hH:HR γ E.ng S w) (hwd:Region.wanted o (yielded ops fr.tmps)=true)
  (hev:T5 o.op E tm S o.type=some r) (hr:∀ x S,r≠.v x S):u5 E γ S fr frs w (R1 ops (.stop tm S i (o::rest) r) E fn nt tm k dfs dk rd cs S):=by
  have hq:Hz E S γ w fn nt k dfs dk rd ops (.stop tm S i (o::rest) r) γ fr w:=.stop hf hH (j6.refl _ _ _) hwd hev hr
  obtain ⟨S₁,h3,h4⟩:=aZ hE (tm0:=tm) hq hcs
  exact u5.ahead (fun cs=>Steps.refl _ _) h3 rfl rfl h4
variable {D:s8} (hD:bB D E)
include hD
theorem Qd {f:AF} {cs:List AF} (hf:FR γ E f fr) (hcs:M7 γ E cs frs) (hH:HR γ E.ng S w):u5 E γ S fr frs w (Qc D E f cs S):=by
 unfold Qc
 split
 ·rename_i fn nt tm x k dfs dk rd
  unfold Qb
  split
  ·rename_i id ops
   obtain ⟨k',ht,hk⟩:=jC.code (hf.todo rfl)
   have hf2:jC γ (.reg ops 0 ops.toList::k) (.inRegion ops (List.range ops.size)::k'):=by
    rw [List.range_eq_range',← Array.length_toList]
    exact .cons (.reg rfl) hk
   exact Z0 hf hcs hH hf2 (fun cs=>qD (hf.mode rfl) ht)
  ·rename_i ops i rest
   unfold IE
   split
   ·have hq:Hz E S γ w fn nt k dfs dk rd ops (.done tm S) γ fr w:=.done hf hH (j6.refl _ _ _)
    obtain ⟨S₁,h3,h4⟩:=aZ hE (tm0:=tm) hq hcs
    exact u5.ahead (fun cs=>Steps.refl _ _) h3 rfl rfl h4
   ·exact wA hE hf hcs hH
  ·have:qI D x E fn nt tm k dfs dk rd cs S=cU D E ⟨fn,nt,tm,x::k,dfs,.run,false,dk,rd⟩ cs S:=rfl
   rw [this]
   exact bC hE hD hf hcs hH
 ·exact bC hE hD hf hcs hH
end
section
variable {E:i3} (hE:E.Ok) (hmix:E.P.follows .mixedOrders=true) {N n:Nat}
include hE hmix
omit hE hmix
end
theorem off {x:Bool} {p:Prop} (hx:x=true↔p) (h:¬ p):x=false:=by
 cases x with
 | false=>rfl
 | true=>exact absurd (hx.1 rfl) h
section
section
variable {CALL:x5} {E:i3} {nt:Nat} {ops:Array Oper} {fl:Nat}
end
open Classical in
section
variable {E:i3} (hE:E.Ok) (hmix:E.P.follows .mixedOrders=Bool.true) {N n:Nat} {S0:Hp} {f0:AF}
include hE hmix
end
end
def Gm.via (γ:Gm) (ρ:Ps→Ps):Gm:=fun a=>γ (ρ a)
def F1 (ρ:Ps→Ps) (x:AV):AV:=
 AV.rec (motive_1:=fun _=>AV) (motive_2:=fun _=>List AV) (fun k n=>.int k n) (fun b=>.bool b) (fun k b=>.flt k b) (fun s=>.str s) .nilp (fun b o=>.ptr (ρ b) o) .nils (fun b o l c=>.sl (ρ b) o l c) (fun b o l z=>.su (ρ b) o l z) .nilm
  (fun b=>.mp (ρ b)) (fun f _ _ x y=>.fn f x y) (fun b=>.yl (ρ b)) .nilf (fun t _ x=>.ifc t x) .nili (fun _ x=>.agg x) (fun _ x=>.tup x) (fun b e l z=>.sa (ρ b) e l z) (fun b i z k=>.pte (ρ b) i z k) .any [] (fun _ _ x y=>x::y) x
def F5 (ρ:Ps→Ps) (l:List AV):List AV:=
 AV.rec_1 (motive_1:=fun _=>AV) (motive_2:=fun _=>List AV) (fun k n=>.int k n) (fun b=>.bool b) (fun k b=>.flt k b) (fun s=>.str s) .nilp (fun b o=>.ptr (ρ b) o) .nils (fun b o l c=>.sl (ρ b) o l c) (fun b o l z=>.su (ρ b) o l z) .nilm
  (fun b=>.mp (ρ b)) (fun f _ _ x y=>.fn f x y) (fun b=>.yl (ρ b)) .nilf (fun t _ x=>.ifc t x) .nili (fun _ x=>.agg x) (fun _ x=>.tup x) (fun b e l z=>.sa (ρ b) e l z) (fun b i z k=>.pte (ρ b) i z k) .any [] (fun _ _ x y=>x::y) l
theorem R3 (ρ:Ps→Ps):∀ l:List AV,F5 ρ l=l.map (F1 ρ)
 | []=>rfl
 | x::l=>by show F1 ρ x::F5 ρ l=_;rw [R3 ρ l];rfl
section
variable {γ γ':Gm} {ρ:Ps→Ps}
theorem V6 (h:∀ a L,γ a=some L→γ' (ρ a)=some L) {x:AV} {y:Value} (hx:VR γ x y):VR γ' (F1 ρ x) y:=
 VR.rec (γ:=γ) (motive_1:=fun x y _=>VR γ' (F1 ρ x) y) (motive_2:=fun l l' _=>LR γ' (F5 ρ l) l')
  (fun k n=>.int k n) (fun b=>.bool b) (fun k b=>.flt k b) (fun s=>.str s) .nilp (fun o e=>.ptr o (h _ _ e)) .nils (fun o l c e=>.sl o l c (h _ _ e))
  (fun o l c z e hl hz he=>.su o l c z (h _ _ e) hl hz he) .nilm (fun e=>.mp (h _ _ e)) (fun f _ _ h hc=>.fn f h hc) (fun e=>.yl (h _ _ e)) .nilf
  (fun t _ h=>.ifc t h) .nili (fun _ h=>.agg h) (fun _ h=>.tup h) (fun e' l c z e hl hz he=>.sa e' l c z (h _ _ e) hl hz he) (fun i z k e=>.pte i z k (h _ _ e)) (fun v=>.any v) .nil (fun _ _ h t=>.cons h t) hx
theorem wB (h:∀ a L,γ a=some L→γ' (ρ a)=some L) {x:List AV} {y:List Value} (hx:LR γ x y):LR γ' (F5 ρ x) y:=by
 induction x generalizing y with
 | nil=>cases hx;exact .nil
 | cons x l ih=>cases hx with|cons h1 t=>exact .cons (V6 h h1) (ih t)
theorem H5 (x:AV):∀ {y:Value},VR γ (F1 ρ x) y→VR (γ.via ρ) x y:=
 AV.rec (motive_1:=fun x=>∀ {y:Value},VR γ (F1 ρ x) y→VR (γ.via ρ) x y) (motive_2:=fun l=>∀ {y:List Value},LR γ (F5 ρ l) y→LR (γ.via ρ) l y)
  (fun k n y h=>by have h':VR γ (.int k n) y:=h;cases h';exact .int k n)
  (fun b y h=>by have h':VR γ (.bool b) y:=h;cases h';exact .bool b)
  (fun k b y h=>by have h':VR γ (.flt k b) y:=h;cases h';exact .flt k b)
  (fun s y h=>by have h':VR γ (.str s) y:=h;cases h';exact .str _)
  (fun {y} h=>by have h':VR γ .nilp y:=h;cases h';exact .nilp)
  (fun b o y h=>by have h':VR γ (.ptr (ρ b) o) y:=h;cases h' with|ptr _ e=>exact .ptr o e)
  (fun {y} h=>by have h':VR γ .nils y:=h;cases h';exact .nils)
  (fun b o l c y h=>by have h':VR γ (.sl (ρ b) o l c) y:=h;cases h' with|sl _ _ _ e=>exact .sl o l c e)
  (fun b o l z y h=>by have h':VR γ (.su (ρ b) o l z) y:=h;cases h' with|su _ _ c _ e hl hz he=>exact .su o l c z e hl hz he)
  (fun {y} h=>by have h':VR γ .nilm y:=h;cases h';exact .nilm)
  (fun b y h=>by have h':VR γ (.mp (ρ b)) y:=h;cases h' with|mp e=>exact .mp e)
  (fun f a b iha ihb y h=>by have h':VR γ (.fn f (F5 ρ a) (F5 ρ b)) y:=h;cases h' with|fn _ h1 h2=>exact .fn f (iha h1) (ihb h2))
  (fun b y h=>by have h':VR γ (.yl (ρ b)) y:=h;cases h' with|yl e=>exact .yl e)
  (fun {y} h=>by have h':VR γ .nilf y:=h;cases h';exact .nilf)
  (fun t v ih y h=>by have h':VR γ (.ifc t (F1 ρ v)) y:=h;cases h' with|ifc _ e=>exact .ifc t (ih e))
  (fun {y} h=>by have h':VR γ .nili y:=h;cases h';exact .nili)
  (fun l ih y h=>by have h':VR γ (.agg (F5 ρ l)) y:=h;cases h' with|agg e=>exact .agg (ih e))
  (fun l ih y h=>by have h':VR γ (.tup (F5 ρ l)) y:=h;cases h' with|tup e=>exact .tup (ih e))
  (fun b o l z y h=>by have h':VR γ (.sa (ρ b) o l z) y:=h;cases h' with|sa _ _ c _ e hl hz he=>exact .sa o l c z e hl hz he)
  (fun b i z k y h=>by have h':VR γ (.pte (ρ b) i z k) y:=h;cases h' with|pte _ _ _ e=>exact .pte i z k e)
  (fun {y} h=>.any y)
  (fun {y} h=>by have h':LR γ [] y:=h;cases h';exact .nil)
  (fun x l ihx ihl y h=>by have h':LR γ (F1 ρ x::F5 ρ l) y:=h;cases h' with|cons e t=>exact .cons (ihx e) (ihl t)) x
theorem bZ (x:List AV) {y:List Value} (hx:LR γ (F5 ρ x) y):LR (γ.via ρ) x y:=by
 induction x generalizing y with
 | nil=>have h':LR γ [] y:=hx;cases h';exact .nil
 | cons x l ih=>have h':LR γ (F1 ρ x::F5 ρ l) y:=hx;cases h' with|cons h1 t=>exact .cons (H5 x h1) (ih t)
end
def Ik {α:Type} (g:α→α) (q:Q α):Q α:=⟨g q.a,g q.b,g q.c,g q.d⟩
def Qe {α:Type} (g:α→α) (t:T α):T α:=T.rec .e (fun _ v _ l r=>.n l (Option.rec none (fun x=>some (g x)) v) r) t
theorem Qf {α:Type} (g:α→α) (p:Ps):∀ t:T α,T.get p (Qe g t)=Option.rec none (fun x=>some (g x)) (T.get p t):=by
 induction p with
 | h=>intro t;cases t <;> rfl
 | o p ih=>intro t;cases t with
   | e=>rfl
   | n l v r=>show T.get p (Qe g l)=_;rw [ih];rfl
 | i p ih=>intro t;cases t with
   | e=>rfl
   | n l v r=>show T.get p (Qe g r)=_;rw [ih];rfl
theorem bG {D:Type} {sub:Nat→Ul D} {G:D→D} {g:AV→AV} (h:∀ i t,(sub i).g (G t)=g ((sub i).g t)) (i:Nat) (t:Q D):(P7 sub i).g (Ik G t)=g ((P7 sub i).g t):=by
 rcases L3 sub i with ⟨_,e⟩|⟨_,e⟩|⟨_,e⟩|⟨_,e⟩ <;> rw [e] <;> exact h _ _
def Il (ρ:Ps→Ps) (t:Tm):Tm:=⟨Ik (Ik (Ik (Ik (Ik (F1 ρ))))) t.m,Qe (F1 ρ) t.x⟩
theorem nC (ρ:Ps→Ps) (t:Tm) (i:Nat):n8 (Il ρ t) i=F1 ρ (n8 t i):=by
 unfold n8
 rcases L4 i with ⟨_,e⟩|⟨_,e⟩ <;> rw [e]
 ·exact bG (sub:=P7 (P7 (P7 (P7 yI)))) (g:=F1 ρ) (bG (sub:=P7 (P7 (P7 yI))) (bG (sub:=P7 (P7 yI)) (bG (sub:=P7 yI) (bG (sub:=yI) (G:=F1 ρ) (fun _ _=>rfl))))) i t.m
 ·show (Option.rec (.tup []) (fun v=>v) (T.get (Ps.of i) (Qe (F1 ρ) t.x)):AV)=F1 ρ (Option.rec (.tup []) (fun v=>v) (T.get (Ps.of i) t.x))
  rw [Qf]
  cases T.get (Ps.of i) t.x <;> rfl
def Xa (ρ:Ps→Ps) (x:AI):AI:=match x with|.inRF l=>.inRF (ρ l)|.endRF l=>.endRF (ρ l)|x=>x
def Xb (ρ:Ps→Ps) (x:AD):AD:=match x with|.mark b=>.mark (ρ b)|.call f a c=>.call f (F5 ρ a) (F5 ρ c)
def IF (ρ:Ps→Ps) (x:Hw):Hw:=match x with|.pan v r=>.pan (F1 ρ v) r|x=>x
def G4 (ρ:Ps→Ps) (f:AF):AF:=⟨f.fn,f.nt,Il ρ f.tm,f.todo.map (Xa ρ),f.dfs.map (Xb ρ),IF ρ f.md,f.lost,f.dk,f.rd.map ρ⟩
def RF (ρ:Ps→Ps) (l:List (AV × AV × Nat)):List (AV × AV × Nat):=l.map fun x=>(F1 ρ x.1,F1 ρ x.2.1,x.2.2)
def w8 (ρ:Ps→Ps) (o:AO):AO:=match o with
 | .cells c el ex sty lo hi=>.cells (F5 ρ c) el ex sty lo hi
 | .map es clock=>.map (RF ρ es) clock
 | .loop st pend fn nt tm ps assign body dfr=>.loop st pend fn nt (Il ρ tm) ps assign body (ρ dfr)
 | .arr n z f ov el ex sty=>.arr n z (fun i=>F5 ρ (f i)) (Option.rec none (fun p=>some (p.1,F5 ρ p.2)) ov) el ex sty
 | o=>o
theorem Qg (ρ:Ps→Ps) (a b:List AV):F5 ρ (a++b)=F5 ρ a++F5 ρ b:=by rw [R3,R3,R3,List.map_append]
theorem nD (ρ:Ps→Ps) {f g:Nat→List AV} (h:∀ i,g i=F5 ρ (f i)):∀ n,i7 g n=F5 ρ (i7 f n)
 | 0=>rfl
 | n+1=>by show i7 g n++g n=F5 ρ (i7 f n++f n);rw [Qg,nD ρ h n,h n]
theorem fG (ρ:Ps→Ps) (f:Nat→List AV) (ov:Option (Nat × List AV)) (i:Nat):E8 (fun i=>F5 ρ (f i)) (Option.rec none (fun p=>some (p.1,F5 ρ p.2)) ov) i=F5 ρ (E8 f ov i):=by
 cases ov with
 | none=>rfl
 | some p =>
   obtain ⟨j,l⟩:=p
   show upd (fun i=>F5 ρ (f i)) j (F5 ρ l) i=F5 ρ (upd f j l i)
   unfold upd
   by_cases e:i=j
   ·rw [if_pos e,if_pos e]
   ·rw [if_neg e,if_neg e]
theorem jF (ρ:Ps→Ps) (l:List AV):(F5 ρ l).length=l.length:=by rw [R3,List.length_map]
section
variable {γ γ':Gm} {ρ:Ps→Ps}
theorem Qh (h:∀ a L,γ a=some L→γ' (ρ a)=some L) {tm:Tm} {tmps:Array Value} (ht:TR γ tm tmps):TR γ' (Il ρ tm) tmps:=fun i=>by rw [nC];exact V6 h (ht i)
theorem qQ {tm:Tm} {tmps:Array Value} (ht:TR γ (Il ρ tm) tmps):TR (γ.via ρ) tm tmps:=fun i=>by have:=ht i;rw [nC] at this;exact H5 _ this
theorem Qi (h:∀ a L,γ a=some L→γ' (ρ a)=some L) {L:Loc} {o:AO} {ob:Obj} (ho:OR γ L o ob):OR γ' L (w8 ρ o) ob:=by
 cases o with
 | cells c el ex sty lo hi =>
   obtain ⟨pre,cs,post,fz,h1,h2,h3,h4,h5,h6,h7⟩:=ho
   exact ⟨pre,cs,post,fz,h1,h2,h3,wB h h4,h5,by rw [jF];exact h6,h7⟩
 | map es clock =>
   obtain ⟨es',h1,h2⟩:=ho
   refine ⟨es',h1,?_⟩
   clear h1
   induction h2 with
   | nil=>exact .nil
   | cons n hk hv _ ih=>exact .cons n (V6 h hk) (V6 h hv) ih
 | siter s pos=>exact ho
 | loop st pend fn nt tm ps assign body dfr =>
   obtain ⟨tmps,D,h1,h2,h3,h4⟩:=ho
   exact ⟨tmps,D,h1,Qh h h2,h _ _ h3,h4⟩
 | dfr tk=>exact ho
 | arr n z f ov el ex sty =>
   obtain ⟨⟨pre,cs,post,fz,h1,h2,h3,h4,h5,h6,h7⟩,h8,h9⟩:=ho
   refine ⟨⟨pre,cs,post,fz,h1,h2,h3,?_,h5,Nat.zero_le _,h7⟩,h8,fun i hi=>?_⟩
   ·rw [nD ρ (fG ρ f ov)];exact wB h h4
   ·rw [fG,R3,List.length_map];exact h9 i hi
theorem Im {L:Loc} {o:AO} {ob:Obj} (ho:OR γ L (w8 ρ o) ob):OR (γ.via ρ) L o ob:=by
 cases o with
 | cells c el ex sty lo hi =>
   obtain ⟨pre,cs,post,fz,h1,h2,h3,h4,h5,h6,h7⟩:=ho
   exact ⟨pre,cs,post,fz,h1,h2,h3,bZ c h4,h5,by rw [jF] at h6;exact h6,h7⟩
 | map es clock =>
   obtain ⟨es',h1,h2⟩:=ho
   refine ⟨es',h1,?_⟩
   clear h1
   induction es generalizing es' with
   | nil=>have h2':ER γ [] es':=h2;cases h2';exact .nil
   | cons x es ih =>
     obtain ⟨k,v,n⟩:=x
     have h2':ER γ ((F1 ρ k,F1 ρ v,n)::RF ρ es) es':=h2
     cases h2' with
     | cons n hk hv t=>exact .cons n (H5 k hk) (H5 v hv) (ih _ t)
 | siter s pos=>exact ho
 | loop st pend fn nt tm ps assign body dfr =>
   obtain ⟨tmps,D,h1,h2,h3,h4⟩:=ho
   exact ⟨tmps,D,h1,qQ h2,h3,h4⟩
 | dfr tk=>exact ho
 | arr n z f ov el ex sty =>
   obtain ⟨⟨pre,cs,post,fz,h1,h2,h3,h4,h5,h6,h7⟩,h8,h9⟩:=ho
   refine ⟨⟨pre,cs,post,fz,h1,h2,h3,?_,h5,Nat.zero_le _,h7⟩,h8,fun i hi=>?_⟩
   ·rw [nD ρ (fG ρ f ov)] at h4;exact bZ _ h4
   ·have:=h9 i hi
    rw [fG,R3,List.length_map] at this;exact this
theorem Av {l:List AI}:∀ {l':List Item},jC γ (l.map (Xa ρ)) l'→jC (γ.via ρ) l l':=by
 induction l with
 | nil=>intro l' h;have h':jC γ [] l':=h;cases h';exact .nil
 | cons x l ih =>
   intro l' h
   have h':jC γ (Xa ρ x::l.map (Xa ρ)) l':=h
   cases h' with
   | cons q t =>
     refine .cons ?_ (ih t)
     cases x with
     | inRF k=>have h1:IR γ (.inRF (ρ k)) _:=q;cases h1 with|inRF e=>exact .inRF e
     | endRF k=>have h1:IR γ (.endRF (ρ k)) _:=q;cases h1 with|endRF e=>exact .endRF e
     | code c=>have h1:IR γ (.code c) _:=q;cases h1;exact .code c
     | blk c=>have h1:IR γ (.blk c) _:=q;cases h1;exact .blk c
     | lop c=>have h1:IR γ (.lop c) _:=q;cases h1;exact .lop c
     | scp c=>have h1:IR γ (.scp c) _:=q;cases h1;exact .scp c
     | reg ops i rest=>have h1:IR γ (.reg ops i rest) _:=q;cases h1 with|reg e=>exact .reg e
     | beg=>have h1:IR γ .beg _:=q;cases h1;exact .beg
theorem Aw {l:List AD}:∀ {l':List Deferred},Oz γ (l.map (Xb ρ)) l'→Oz (γ.via ρ) l l':=by
 induction l with
 | nil=>intro l' h;have h':Oz γ [] l':=h;cases h';exact .nil
 | cons x l ih =>
   intro l' h
   have h':Oz γ (Xb ρ x::l.map (Xb ρ)) l':=h
   cases h' with
   | cons q t =>
     refine .cons ?_ (ih t)
     cases x with
     | mark b=>have h1:DR γ (.mark (ρ b)) _:=q;cases h1 with|mark e=>exact .mark e
     | call f a c=>have h1:DR γ (.call f (F5 ρ a) (F5 ρ c)) _:=q;cases h1 with|call f e1 e2=>exact .call f (bZ a e1) (bZ c e2)
theorem Io {m:Hw} {m':FrameMode} (h:MR γ (IF ρ m) m'):MR (γ.via ρ) m m':=by
 cases m with
 | run=>have h1:MR γ .run m':=h;cases h1;exact .run
 | ret=>have h1:MR γ .ret m':=h;cases h1;exact .ret
 | pan v r=>have h1:MR γ (.pan (F1 ρ v) r) m':=h;cases h1 with|pan r e=>exact .pan r (H5 v e)
theorem Ax {m:Option Ps} {m':Option Nat} (h:yB γ (m.map ρ) m'):yB (γ.via ρ) m m':=by
 cases m with
 | none=>have h1:yB γ none m':=h;cases h1;exact .none
 | some l=>have h1:yB γ (some (ρ l)) m':=h;cases h1 with|some e=>exact .some e
theorem cB {E:i3} {f:AF} {fr:Frame} (h:FR γ E (G4 ρ f) fr):FR (γ.via ρ) E f fr:=by
 refine ⟨h.fn,h.nt,?_,fun e=>Av (h.todo (by show IF ρ f.md=.run;rw [e];rfl)),Aw h.dfs,Io h.md,h.kind,Ax h.rd,h.fi⟩
 have:=h.tm
 have this':Pa γ E f.fn f.lost (Il ρ f.tm) fr.tmps:=this
 unfold Pa at this' ⊢
 cases hl:f.lost with
 | false=>rw [hl] at this';exact qQ this'
 | true =>
   rw [hl] at this'
   intro a ha
   have h1:=this' a ha
   rw [nC] at h1
   exact H5 _ h1
theorem Ay {E:i3} {l:List AF}:∀ {l':List Frame},M7 γ E (l.map (G4 ρ)) l'→M7 (γ.via ρ) E l l':=by
 induction l with
 | nil=>intro l' h;have h':M7 γ E [] l':=h;cases h';exact .nil
 | cons x l ih =>
   intro l' h
   have h':M7 γ E (G4 ρ x::l.map (G4 ρ)) l':=h
   cases h' with
   | cons q t=>exact .cons (cB q) (ih t)
end
structure Kd (S:Hp) (γ:Gm) (w:World) (S':Hp) (γ':Gm) (w':World):Prop where
 kp:Kp S γ w γ' w'
 desc:∀ a o L,S'.hp.get a=some o→S.fl≤a.idx→γ' a=some L→w.heap.size≤L.blk∨∃ a₀ o₀ L₀,S.hp.get a₀=some o₀∧S.fl≤a₀.idx∧γ a₀=some L₀∧L₀.blk=L.blk
 fl:S'.fl=S.fl
 nx:S.nx.idx≤S'.nx.idx
theorem j6.kd {S S':Hp} {γ γ':Gm} {w w':World} (h:j6 S γ w S' γ' w'):Kd S γ w S' γ' w':=⟨h.kp,fun a o L h1 h2 h3=>h.desc a o L h1 (by rw [h.fl];exact h2) h3,h.fl,h.nx⟩
theorem Kd.sub {S S1 S2:Hp} {γ γ1:Gm} {w w1:World} (h:Kd S γ w S1 γ1 w1) (hs:∀ a o,S2.hp.get a=some o→S1.hp.get a=some o) (hn:S2.nx=S1.nx) (hf:S2.fl=S1.fl):Kd S γ w S2 γ1 w1:=
 ⟨h.kp,fun a o L h1 h2 h3=>h.desc a o L (hs a o h1) h2 h3,by rw [hf];exact h.fl,by rw [hn];exact h.nx⟩
structure Kn (n:Nat) (S:Hp) (γ:Gm) (w:World) (S':Hp) (γ':Gm) (w':World):Prop where
 same:∀ a L,a.idx < n→(γ a=some L↔γ' a=some L)
 size:w.heap.size≤w'.heap.size
 keep:∀ r,r < w.heap.size→(∀ a o L,S.hp.get a=some o→S.fl≤a.idx→γ a=some L→L.blk≠r)→w'.heap[r]? = w.heap[r]?
 os:(w'.os,w'.tape)=(w.os,w.tape)
 out:w'.output=w.output
 desc:∀ a o L,S'.hp.get a=some o→S.fl≤a.idx→γ' a=some L→w.heap.size≤L.blk∨∃ a₀ o₀ L₀,S.hp.get a₀=some o₀∧S.fl≤a₀.idx∧γ a₀=some L₀∧L₀.blk=L.blk
 fl:S'.fl=S.fl
theorem Kd.kn {n:Nat} {S S':Hp} {γ γ':Gm} {w w':World} (h:Kd S γ w S' γ' w') (hn:n≤S.nx.idx):Kn n S γ w S' γ' w':=
 ⟨fun a L ha=>⟨fun e=>h.kp.ext a L e,fun e=>h.kp.new a L e (by omega)⟩,h.kp.size,h.kp.keep,h.kp.os,h.kp.out,h.desc,h.fl⟩
theorem Kd.kn_trans {n:Nat} {S S1 S2:Hp} {γ γ1 γ2:Gm} {w w1 w2:World} (h:Kd S γ w S1 γ1 w1) (hn:n≤S.nx.idx) (k:Kn n S1 γ1 w1 S2 γ2 w2):Kn n S γ w S2 γ2 w2 where
 same:=fun a L ha=>⟨fun e=>(k.same a L ha).1 (h.kp.ext a L e),fun e=>h.kp.new a L ((k.same a L ha).2 e) (by omega)⟩
 size:=Nat.le_trans h.kp.size k.size
 keep:=fun r hr hno=>by
  rw [k.keep r (Nat.lt_of_lt_of_le hr h.kp.size) ?_,h.kp.keep r hr hno]
  intro a o L h1 h2 h3 e
  rcases h.desc a o L h1 (by rw [← h.fl];exact h2) h3 with h4|⟨a₀,o₀,L₀,g1,g2,g3,g4⟩
  ·omega
  ·exact hno a₀ o₀ L₀ g1 g2 g3 (g4.trans e)
 os:=k.os.trans h.kp.os
 out:=k.out.trans h.kp.out
 desc:=fun a o L h1 h2 h3=>by
  rcases k.desc a o L h1 (by rw [h.fl];exact h2) h3 with h4|⟨a₀,o₀,L₀,g1,g2,g3,g4⟩
  ·exact .inl (Nat.le_trans h.kp.size h4)
  ·rcases h.desc a₀ o₀ L₀ g1 (by rw [← h.fl];exact g2) g3 with h5|⟨a1,o1,L1,k1,k2,k3,k4⟩
   ·exact .inl (by rw [← g4];exact h5)
   ·exact .inr ⟨a1,o1,L1,k1,k2,k3,k4.trans g4⟩
 fl:=k.fl.trans h.fl
def tF (E:i3) (n:Nat) (f:AF) (cs:List AF) (S:Hp) (v:AV) (S':Hp):Prop:=
 ∀ (γ:Gm) (fr:Frame) (frs:List Frame) (w:World),FR γ E f fr→M7 γ E cs frs→HR γ E.ng S w →
   ((E1 fr frs).2=none→∀ bot,∃ γ' v' fr' w' fn,Steps E.P (lone fr (frs++bot) w) (lone fr' bot w')∧fr'.mode=.returning∧fr'.defers = []∧fr'.kind=.normal∧fr'.fn=(E1 fr frs).1 ∧
     E.P.funcs[fr'.fn]? = some fn∧(results fn fr'.tmps).run E.P w'=.ok v' w'∧VR γ' v v'∧HR γ' E.ng S' w'∧Kn n S γ w S' γ' w') ∧
   (∀ c bot,∃ γ' v' w',Steps E.P (lone fr (frs++c::bot) w) (lone (c.finish v') bot w')∧VR γ' v v'∧HR γ' E.ng S' w'∧Kn n S γ w S' γ' w')
def i6 (E:i3) (n:Nat) (f:AF) (cs:List AF) (S:Hp) (Q:AV→Hp→Prop):Prop:=∃ v S',Q v S'∧tF E n f cs S v S'
section
variable {E:i3} {n:Nat}
theorem i6.mono {f:AF} {cs:List AF} {S:Hp} {Q Q':AV→Hp→Prop} (h:i6 E n f cs S Q) (hq:∀ v S',Q v S'→Q' v S'):i6 E n f cs S Q':=by
 obtain ⟨v,S',h1,h2⟩:=h
 exact ⟨v,S',hq _ _ h1,h2⟩
theorem tF.goes {f f':AF} {cs cs':List AF} {S S1 S':Hp} {v:AV} {S2:Hp} (hn:n≤S.nx.idx) (hs:∀ a o,S'.hp.get a=some o→S1.hp.get a=some o) (hfl:S'.fl=S1.fl) (hnx:S'.nx=S1.nx)
 (hg:∀ γ fr frs w,FR γ E f fr→M7 γ E cs frs→HR γ E.ng S w→aB E γ S fr frs w f' cs' S1) (h:tF E n f' cs' S' v S2):tF E n f cs S v S2:=by
 intro γ fr frs w hf hc hH
 have hgo:=hg γ fr frs w hf hc hH
 refine ⟨fun hr bot=>?_,fun c bot=>?_⟩
 ·obtain ⟨γ1,fr1,frs1,w1,g1,g2,g3,g4,g5,g6⟩:=hgo bot
  obtain ⟨γ',v',fr',w',fn,k1,k2,k3,k4,k5,k6,k7,k8,k9,k10⟩:=(h γ1 fr1 frs1 w1 g2 g3 (g4.sub hs hnx hfl)).1 (by rw [g6];exact hr) bot
  exact ⟨γ',v',fr',w',fn,Steps.trans g1 k1,k2,k3,k4,by rw [k5,g6],k6,k7,k8,k9,(g5.kd.sub hs hnx hfl).kn_trans hn k10⟩
 ·obtain ⟨γ1,fr1,frs1,w1,g1,g2,g3,g4,g5,g6⟩:=hgo (c::bot)
  obtain ⟨γ',v',w',k1,k2,k3,k4⟩:=(h γ1 fr1 frs1 w1 g2 g3 (g4.sub hs hnx hfl)).2 c bot
  exact ⟨γ',v',w',Steps.trans g1 k1,k2,k3,(g5.kd.sub hs hnx hfl).kn_trans hn k4⟩
theorem i6.goes {f f':AF} {cs cs':List AF} {S S1 S':Hp} {Q:AV→Hp→Prop} (hn:n≤S.nx.idx) (hs:∀ a o,S'.hp.get a=some o→S1.hp.get a=some o) (hfl:S'.fl=S1.fl) (hnx:S'.nx=S1.nx)
 (hg:∀ γ fr frs w,FR γ E f fr→M7 γ E cs frs→HR γ E.ng S w→aB E γ S fr frs w f' cs' S1) (h:i6 E n f' cs' S' Q):i6 E n f cs S Q:=by
 obtain ⟨v,S2,k0,h⟩:=h
 exact ⟨v,S2,k0,h.goes hn hs hfl hnx hg⟩
end
structure Ip (E:i3) (ρ:Ps→Ps) (H S:Hp):Prop where
 lo:∀ a,a.idx < E.ng→ρ a=a
 hi:∀ a,H.fl≤a.idx→S.fl≤(ρ a).idx
 new:∀ a,H.nx.idx≤a.idx→(ρ a).idx=S.nx.idx+(a.idx - H.nx.idx)
 inj:∀ a b o o',H.hp.get a=some o→H.hp.get b=some o'→ρ a=ρ b→a=b
 obj:∀ a o,H.hp.get a=some o→S.hp.get (ρ a)=some (w8 ρ o)
 ngH:E.ng≤H.nx.idx
 ngS:E.ng≤S.nx.idx
structure Mg (E:i3) (ρ:Ps→Ps) (S H H' S2:Hp):Prop where
 get:∀ a o,S2.hp.get a=some o→(∃ k o',H.fl≤k.idx∧a=ρ k∧H'.hp.get k=some o'∧o=w8 ρ o')∨(S.hp.get a=some o∧∀ k o',H.hp.get k=some o'→H.fl≤k.idx→ρ k≠a)
 nx:S2.nx.idx=S.nx.idx+(H'.nx.idx - H.nx.idx)
 fl:S2.fl=S.fl
def Gm.put (γ γ':Gm) (n m:Nat):Gm:=fun a=>if a.idx < n then γ a else γ' (Ps.of (a.idx - n+m))
section
variable {E:i3} {ρ:Ps→Ps} {H S:Hp} {γ:Gm} {w:World}
theorem Ip.small (h:Ip E ρ H S) (hH:HR γ E.ng S w):HR (γ.via ρ) E.ng H w where
 obj:=fun a o ho=>by
  obtain ⟨L,ob,h1,h2,h3⟩:=hH.obj _ _ (h.obj a o ho)
  exact ⟨L,ob,h1,h2,Im h3⟩
 inj := fun a a' o o' L L' ho ho' hL hL' e=>(hH.inj _ _ _ _ L L' (h.obj a o ho) (h.obj a' o' ho') hL hL' e).imp (h.inj a a' o o' ho ho') (fun ⟨k1,k2⟩=>by
  constructor
  ·rcases Nat.lt_or_ge a.idx H.fl with hx|hx
   ·exact hx
   ·have:=h.hi a hx;omega
  ·rcases Nat.lt_or_ge a'.idx H.fl with hx|hx
   ·exact hx
   ·have:=h.hi a' hx;omega)
 fresh:=fun a L hL=>by
  have h1:=hH.fresh (ρ a) L hL
  by_cases e:a.idx < H.nx.idx
  ·exact e
  ·have:=h.new a (by omega)
   omega
 glob:=fun g hg=>by
  obtain ⟨s,hs⟩:=hH.glob g hg
  exact ⟨s,by show γ (ρ (Ps.of g))=_;rw [h.lo _ (by rw [Ps.idx_of];exact hg)];exact hs⟩
theorem Ip.fwd (h:Ip E ρ H S) (hH:HR γ E.ng S w) {γ':Gm} (hn:∀ a L,γ' a=some L→a.idx < H.nx.idx→γ.via ρ a=some L):∀ a L,γ' a=some L→Gm.put γ γ' S.nx.idx H.nx.idx (ρ a)=some L:=fun a L hL=>by
 unfold Gm.put
 by_cases e:a.idx < H.nx.idx
 ·have h1:γ (ρ a)=some L:=hn a L hL e
  rw [if_pos (hH.fresh _ _ h1)];exact h1
 ·have h1:=h.new a (by omega)
  rw [if_neg (by omega)]
  have:Ps.of ((ρ a).idx - S.nx.idx+H.nx.idx)=a:=Ps.idx_inj (by rw [Ps.idx_of];omega)
  rw [this];exact hL
theorem IG (hH:HR γ E.ng S w) (γ':Gm) (m:Nat):Gm.le γ (Gm.put γ γ' S.nx.idx m):=fun a L hL=>by
 unfold Gm.put
 rw [if_pos (hH.fresh a L hL)];exact hL
theorem Ip.back (h:Ip E ρ H S) (hH:HR γ E.ng S w) {γ':Gm} {H' S2:Hp} {w':World} (k:Kn H.nx.idx H (γ.via ρ) w H' γ' w') (hH':HR γ' E.ng H' w') (hm:Mg E ρ S H H' S2) :
 HR (Gm.put γ γ' S.nx.idx H.nx.idx) E.ng S2 w'∧Kd S γ w S2 (Gm.put γ γ' S.nx.idx H.nx.idx) w':=by
 have hle:=IG hH γ' H.nx.idx
 have hf:=h.fwd hH (fun a L e ha=>(k.same a L ha).2 e)
 have hsame:∀ a o L,S.hp.get a=some o→γ a=some L→(∀ k o',H.hp.get k=some o'→H.fl≤k.idx→ρ k≠a)→w'.heap[L.blk]? = w.heap[L.blk]?:=fun a o L ho hL hno=>by
  obtain ⟨L1,ob,h1,h2,h3⟩:=hH.obj a o ho
  rw [hL] at h1;cases h1
  refine k.keep _ (Array.getElem?_eq_some_iff.1 h2).1 (fun b o' L' hb hbf hL' e=>?_)
  exact hno b o' hb hbf ((hH.inj _ _ _ _ L' L (h.obj b o' hb) ho hL' hL e).resolve_right (fun hx=>by have:=h.hi b hbf;omega))
 have hmix:∀ b o' Lb a o L,H.fl≤b.idx→H'.hp.get b=some o'→γ' b=some Lb→S.hp.get a=some o→γ a=some L→(∀ k o',H.hp.get k=some o'→H.fl≤k.idx→ρ k≠a)→Lb.blk≠L.blk:=fun b o' Lb a o L hb1 hb2 hb3 ho hL hno e=>by
  obtain ⟨L1,ob,h1,h2,h3⟩:=hH.obj a o ho
  rw [hL] at h1;cases h1
  have hlt:=(Array.getElem?_eq_some_iff.1 h2).1
  rcases k.desc b o' Lb hb2 hb1 hb3 with h4|⟨a₀,o₀,L₀,g1,g2,g3,g4⟩
  ·omega
  ·exact hno a₀ o₀ g1 g2 ((hH.inj _ _ _ _ L₀ L (h.obj a₀ o₀ g1) ho g3 hL (g4.trans e)).resolve_right (fun hx=>by have:=h.hi a₀ g2;omega))
 refine ⟨⟨fun a o ho=>?_,fun a a' o o' L L' ho ho' hL hL' e=>?_,fun a L hL=>?_,fun g hg=>?_⟩,⟨⟨hle,k.size,fun r hr hno=>?_,fun a L hL hlt=>?_,k.os,k.out⟩,fun a o L ho hfl hL=>?_,?_,?_⟩⟩
 ·rcases hm.get a o ho with ⟨b,o',hb,rfl,hg,rfl⟩|⟨hg,hno⟩
  ·obtain ⟨L,ob,h1,h2,h3⟩:=hH'.obj b o' hg
   exact ⟨L,ob,hf b L h1,h2,Qi hf h3⟩
  ·obtain ⟨L,ob,h1,h2,h3⟩:=hH.obj a o hg
   exact ⟨L,ob,hle a L h1,by rw [hsame a o L hg h1 hno];exact h2,h3.mono hle⟩
 ·rcases hm.get a o ho with ⟨b,p,hb,rfl,hg,rfl⟩|⟨hg,hno⟩ <;> rcases hm.get a' o' ho' with ⟨b',p',hb',rfl,hg',rfl⟩|⟨hg',hno'⟩
  ·obtain ⟨L1,ob,h1,_,_⟩:=hH'.obj b p hg
   obtain ⟨L2,ob2,h2,_,_⟩:=hH'.obj b' p' hg'
   have e1:=hf b L1 h1;rw [hL] at e1;cases e1
   have e2:=hf b' L2 h2;rw [hL'] at e2;cases e2
   refine (hH'.inj b b' p p' L L' hg hg' h1 h2 e).imp (fun e=>by rw [e]) (fun hx=>?_)
   have e0:H'.fl=H.fl:=k.fl
   omega
  ·obtain ⟨L1,ob,h1,_,_⟩:=hH'.obj b p hg
   obtain ⟨L2,ob2,h2,_,_⟩:=hH.obj a' o' hg'
   have e1:=hf b L1 h1;rw [hL] at e1;cases e1
   have e2:=hle a' L2 h2;rw [hL'] at e2;cases e2
   exact absurd e (hmix b p L a' o' L' hb hg h1 hg' h2 hno')
  ·obtain ⟨L1,ob,h1,_,_⟩:=hH.obj a o hg
   obtain ⟨L2,ob2,h2,_,_⟩:=hH'.obj b' p' hg'
   have e1:=hle a L1 h1;rw [hL] at e1;cases e1
   have e2:=hf b' L2 h2;rw [hL'] at e2;cases e2
   exact absurd e.symm (hmix b' p' L' a o L hb' hg' h2 hg h1 hno)
  ·obtain ⟨L1,ob,h1,_,_⟩:=hH.obj a o hg
   obtain ⟨L2,ob2,h2,_,_⟩:=hH.obj a' o' hg'
   have e1:=hle a L1 h1;rw [hL] at e1;cases e1
   have e2:=hle a' L2 h2;rw [hL'] at e2;cases e2
   rw [hm.fl];exact hH.inj a a' o o' L L' hg hg' h1 h2 e
 ·unfold Gm.put at hL
  rw [hm.nx]
  by_cases e:a.idx < S.nx.idx
  ·omega
  ·rw [if_neg e] at hL
   have:=hH'.fresh _ L hL
   rw [Ps.idx_of] at this
   omega
 ·obtain ⟨s,hs⟩:=hH.glob g hg
  exact ⟨s,hle _ _ hs⟩
 ·refine k.keep r hr (fun a o L ho hfl hL=>?_)
  exact hno (ρ a) (w8 ρ o) L (h.obj a o ho) (h.hi a hfl) hL
 ·unfold Gm.put at hL
  rw [if_pos hlt] at hL;exact hL
 ·rcases hm.get a o ho with ⟨b,o',hb,rfl,hg,rfl⟩|⟨hg,hno⟩
  ·obtain ⟨L1,ob,h1,_,_⟩:=hH'.obj b o' hg
   have e1:=hf b L1 h1;rw [hL] at e1;cases e1
   rcases k.desc b o' L hg hb h1 with h4|⟨a₀,o₀,L₀,g1,g2,g3,g4⟩
   ·exact .inl h4
   ·exact .inr ⟨ρ a₀,w8 ρ o₀,L₀,h.obj a₀ o₀ g1,h.hi a₀ g2,g3,g4⟩
  ·obtain ⟨L1,ob,h1,_,_⟩:=hH.obj a o hg
   have e1:=hle a L1 h1;rw [hL] at e1;cases e1
   exact .inr ⟨a,o,L,hg,hfl,h1,rfl⟩
 ·exact hm.fl
 ·rw [hm.nx];omega
theorem i6.canon {n:Nat} (h:Ip E ρ H S) (hfe:H.fl=S.fl) (hn:∀ a,a.idx < n→ρ a=a) {f f':AF} {cs cs':List AF} {Q:AV→Hp→Prop} (ef:f'=G4 ρ f) (ec:cs'=cs.map (G4 ρ)) (hr:i6 E n f cs H Q):i6 E n f' cs' S Q:=by
 subst ef ec
 have hk:∀ {γ:Gm} {w:World} {γ':Gm} {H':Hp} {w':World},Kn n H (γ.via ρ) w H' γ' w'→Kn n S γ w H' γ' w':=fun {γ w γ' H' w'} k =>
  ⟨fun a L ha=>by rw [← k.same a L ha];show _↔γ (ρ a)=some L;rw [hn a ha],k.size,
   fun r hr hno=>k.keep r hr (fun a o L ho hfl hL=>hno (ρ a) (w8 ρ o) L (h.obj a o ho) (h.hi a hfl) hL),k.os,k.out,
   fun a o L h1 h2 h3=>by
    rcases k.desc a o L h1 (by rw [hfe];exact h2) h3 with h4|⟨a₀,o₀,L₀,g1,g2,g3,g4⟩
    ·exact .inl h4
    ·exact .inr ⟨ρ a₀,w8 ρ o₀,L₀,h.obj a₀ o₀ g1,h.hi a₀ g2,g3,g4⟩,
   by rw [k.fl,hfe]⟩
 obtain ⟨v,H',k0,hr⟩:=hr
 refine ⟨v,H',k0,fun γ fr frs w hf hc hH=>?_⟩
 obtain ⟨h1,h2⟩:=hr (γ.via ρ) fr frs w (cB hf) (Ay hc) (h.small hH)
 refine ⟨fun hl bot=>?_,fun c bot=>?_⟩
 ·obtain ⟨γ',v',fr',w',fn,k1,k2,k3,k4,k5,k6,k7,k8,k9,k10⟩:=h1 hl bot
  exact ⟨γ',v',fr',w',fn,k1,k2,k3,k4,k5,k6,k7,k8,k9,hk k10⟩
 ·obtain ⟨γ',v',w',k1,k2,k3,k4⟩:=h2 c bot
  exact ⟨γ',v',w',k1,k2,k3,hk k4⟩
theorem i6.call {n:Nat} (h:Ip E ρ H S) (hn:n≤S.nx.idx) {f f' c:AF} {cs:List AF} {Q1 Q:AV→Hp→Prop} (ef:f'=G4 ρ f) (hr:i6 E H.nx.idx f [] H Q1) (hm:c.md=.run) (hl:c.lost=false)
 (hq:∀ v H',Q1 v H'→∃ S2 c',Mg E ρ S H H' S2∧r6 c (F1 ρ v)=some c'∧i6 E n c' cs S2 Q):i6 E n f' (c::cs) S Q:=by
 subst ef
 obtain ⟨v,H',k0,hr⟩:=hr
 obtain ⟨S2,c',m1,m2,x,S3,q0,m3⟩:=hq v H' k0
 refine ⟨x,S3,q0,fun γ fr frs w hf hc hH=>?_⟩
 cases hc with
 | @cons _ y _ ys hy hys =>
   obtain ⟨_,h2⟩:=hr (γ.via ρ) fr [] w (cB hf) .nil (h.small hH)
   have key:∀ bot,∃ γ1 w1 v',Steps E.P (lone fr ((y::ys)++bot) w) (lone (y.finish v') (ys++bot) w1)∧FR γ1 E c' (y.finish v')∧M7 γ1 E cs ys∧HR γ1 E.ng S2 w1∧Kd S γ w S2 γ1 w1:=fun bot=>by
    obtain ⟨γ',v',w',k1,k2,k3,k4⟩:=h2 y (ys++bot)
    obtain ⟨n1,n2⟩:=h.back hH k4 k3 m1
    exact ⟨_,w',v',k1,C1 m2 (hy.mono n2.kp.ext) hm hl (V6 (h.fwd hH (fun a L e ha=>(k4.same a L ha).2 e)) k2),hys.mono n2.kp.ext,n1,n2⟩
   refine ⟨fun hlast bot=>?_,fun d bot=>?_⟩
   ·obtain ⟨γ1,w1,v',s1,s2,s3,s4,s5⟩:=key bot
    have hlf:E1 (y.finish v') ys=E1 y ys:=E9 (fF y v').1 (fF y v').2 ys
    obtain ⟨γ2,x',fr',w2,fn,k1,k2,k3,k4,k5,k6,k7,k8,k9,k10⟩:=(m3 γ1 _ ys w1 s2 s3 s4).1 (by rw [hlf];exact hlast) bot
    exact ⟨γ2,x',fr',w2,fn,Steps.trans s1 k1,k2,k3,k4,by rw [k5,hlf];rfl,k6,k7,k8,k9,s5.kn_trans hn k10⟩
   ·obtain ⟨γ1,w1,v',s1,s2,s3,s4,s5⟩:=key (d::bot)
    obtain ⟨γ2,x',w2,k1,k2,k3,k4⟩:=(m3 γ1 _ ys w1 s2 s3 s4).2 d bot
    exact ⟨γ2,x',w2,Steps.trans s1 k1,k2,k3,s5.kn_trans hn k4⟩
end
section
variable {E:i3} (hE:E.Ok) (hmix:E.P.follows .mixedOrders=true) {N n:Nat}
include hE hmix
end
def r7 (ng n m:Nat) (l:List Ps) (a:Ps):Ps:=
 Bool.rec (Bool.rec (Ps.of (Nat.add m (Nat.sub a.idx n))) (Option.rec a (fun x=>x) (nth l (Nat.sub a.idx ng))) (Nat.blt a.idx n)) a (Nat.blt a.idx ng)
theorem Az {ng n m:Nat} {l:List Ps} {a:Ps} (h:a.idx < ng):r7 ng n m l a=a:=by
 unfold r7
 rw [show Nat.blt a.idx ng=true from Nat.ble_eq_true_of_le h]
theorem fI {ng n m:Nat} {l:List Ps} {a:Ps} (h1:ng≤a.idx) (h:n≤a.idx):r7 ng n m l a=Ps.of (m+(a.idx - n)):=by
 unfold r7
 rw [show Nat.blt a.idx ng=false from by rw [f6];exact decide_eq_false (by omega),show Nat.blt a.idx n=false from by rw [f6];exact decide_eq_false (by omega)]
 rfl
theorem Qj {ng n m:Nat} {l:List Ps} {a:Ps} (h1:ng≤a.idx) (h:a.idx < n):r7 ng n m l a=(l[a.idx - ng]?).getD a:=by
 unfold r7
 rw [show Nat.blt a.idx ng=false from by rw [f6];exact decide_eq_false (by omega),show Nat.blt a.idx n=true from Nat.ble_eq_true_of_le h]
 show (Option.rec a (fun x=>x) (nth l (Nat.sub a.idx ng)):Ps)=_
 rw [H8]
 show (Option.rec a (fun x=>x) (l[a.idx - ng]?):Ps)=_
 cases l[a.idx - ng]? <;> rfl
structure Ba (ng n m k:Nat) (l:List Ps):Prop where
 len:n=ng+l.length
 lo:∀ (i:Nat) (x:Ps),l[i]? = some x→ng≤x.idx∧x.idx < m
 inj:∀ (i j:Nat) (x:Ps),l[i]? = some x→l[j]? = some x→i=j
 fix:∀ (i:Nat) (x:Ps),l[i]? = some x→i < k→x.idx=ng+i
 far:∀ (i:Nat) (x:Ps),l[i]? = some x→k≤i→ng+k≤x.idx
 le:k≤l.length
 m:n≤m
theorem Ba.rn {E:i3} {n m k:Nat} {l:List Ps} (h:Ba E.ng n m k l):(∀ a,a.idx < E.ng+k→r7 E.ng n m l a=a)∧(∀ a,E.ng+k≤a.idx→E.ng+k≤(r7 E.ng n m l a).idx)∧(∀ a b,r7 E.ng n m l a=r7 E.ng n m l b→a=b):=by
 obtain ⟨hlen,hlo,hinj,hfix,hfar,hle,hm⟩:=h
 have at_:∀ a:Ps,E.ng≤a.idx→a.idx < n→∃ x,l[a.idx - E.ng]? = some x∧r7 E.ng n m l a=x:=fun a h1 h2=>by
  have hx:a.idx - E.ng < l.length:=by omega
  exact ⟨l[a.idx - E.ng],List.getElem?_eq_getElem hx,by rw [Qj h1 h2,List.getElem?_eq_getElem hx];rfl⟩
 refine ⟨fun a ha=>?_,fun a ha=>?_,fun a b e=>?_⟩
 ·by_cases h1:a.idx < E.ng
  ·exact Az h1
  ·obtain ⟨x,g1,g2⟩:=at_ a (by omega) (by omega)
   rw [g2]
   refine Ps.idx_inj ?_
   have:=hfix _ x g1 (by omega)
   omega
 ·by_cases h2:a.idx < n
  ·obtain ⟨x,g1,g2⟩:=at_ a (by omega) h2
   rw [g2];exact hfar _ x g1 (by omega)
  ·rw [fI (by omega) (by omega),Ps.idx_of];omega
 ·have cls:∀ c:Ps,(c.idx < E.ng∧r7 E.ng n m l c=c)∨(E.ng≤c.idx∧c.idx < n∧∃ x,l[c.idx - E.ng]? = some x∧r7 E.ng n m l c=x)∨(n≤c.idx∧(r7 E.ng n m l c).idx=m+(c.idx - n)):=fun c=>by
   by_cases h1:c.idx < E.ng
   ·exact .inl ⟨h1,Az h1⟩
   ·by_cases h2:c.idx < n
    ·exact .inr (.inl ⟨by omega,h2,at_ c (by omega) h2⟩)
    ·exact .inr (.inr ⟨by omega,by rw [fI (by omega) (by omega),Ps.idx_of]⟩)
  refine Ps.idx_inj ?_
  rcases cls a with ⟨h1,g1⟩|⟨h1,h1',x,g1,g1'⟩|⟨h1,g1⟩ <;> rcases cls b with ⟨h2,g2⟩|⟨h2,h2',y,g2,g2'⟩|⟨h2,g2⟩
  ·rw [g1,g2] at e;rw [e]
  ·rw [g1,g2'] at e;have:=(hlo _ y g2).1;rw [← e] at this;omega
  ·have:=congrArg Ps.idx e;rw [g1,g2] at this;omega
  ·rw [g1',g2] at e;have:=(hlo _ x g1).1;rw [e] at this;omega
  ·rw [g1',g2'] at e;subst e;have:=hinj _ _ _ g1 g2;omega
  ·have:=congrArg Ps.idx e;rw [g1',g2] at this;have:=(hlo _ x g1).2;omega
  ·have:=congrArg Ps.idx e;rw [g1,g2] at this;omega
  ·have:=congrArg Ps.idx e;rw [g1,g2'] at this;have:=(hlo _ y g2).2;omega
  ·have:=congrArg Ps.idx e;rw [g1,g2] at this;omega
theorem Ba.at {ng n m k:Nat} {l:List Ps} (h:Ba ng n m k l) (a:Ps) (h1:ng≤a.idx) (h2:a.idx < n):∃ x,l[a.idx - ng]? = some x∧r7 ng n m l a=x:=by
 have:=h.len
 have hx:a.idx - ng < l.length:=by omega
 exact ⟨l[a.idx - ng],List.getElem?_eq_getElem hx,by rw [Qj h1 h2,List.getElem?_eq_getElem hx];rfl⟩
theorem Ba.emb {E:i3} {k:Nat} {l:List Ps} {H S:Hp} (h:Ba E.ng H.nx.idx S.nx.idx k l) (hhi:∀ (i:Nat) (x:Ps),l[i]? = some x→H.fl≤E.ng+i→S.fl≤x.idx) (hf:E.ng≤H.fl) (hf':S.fl≤S.nx.idx)
 (ho:∀ a o,H.hp.get a=some o→S.hp.get (r7 E.ng H.nx.idx S.nx.idx l a)=some (w8 (r7 E.ng H.nx.idx S.nx.idx l) o)):Ip E (r7 E.ng H.nx.idx S.nx.idx l) H S:=by
 have hr:=h.rn
 have hl:=h.len
 refine ⟨fun a ha=>Az ha,fun a ha=>?_,fun a ha=>?_,fun a b _ _ _ _ e=>hr.2.2 a b e,ho,by omega,by have:=h.m;omega⟩
 ·by_cases h2:a.idx < H.nx.idx
  ·obtain ⟨x,g1,g2⟩:=h.at a (by omega) h2
   rw [g2]
   exact hhi _ x g1 (by omega)
  ·rw [fI (by omega) (by omega),Ps.idx_of];omega
 ·rw [fI (by omega) ha,Ps.idx_of]
def Xc {α:Type} (p:Nat→α→Bool) (l:List α):Nat→Bool:=List.rec (motive:=fun _=>Nat→Bool) (fun _=>true) (fun x _ ih i=>Bool.rec false (ih (Nat.succ i)) (p i x)) l
theorem tG {α:Type} {p:Nat→α→Bool}:∀ {l:List α} {i:Nat},Xc p l i=true→∀ (j:Nat) (x:α),l[j]? = some x→p (i+j) x=true
 | [],_,_,j,x,h=>by simp at h
 | y :: l,i,h,j,x,hx=>by
   have h':(Bool.rec false (Xc p l (Nat.succ i)) (p i y):Bool)=true:=h
   cases hp:p i y with
   | false=>rw [hp] at h';cases h'
   | true =>
     rw [hp] at h'
     cases j with
     | zero=>simp at hx;subst hx;exact hp
     | succ j =>
       simp at hx
       have:=tG (i:=Nat.succ i) h' j x hx
       rw [show i+(j+1)=Nat.succ i+j from by omega];exact this
def H2 (a b:Bool):Bool:=Bool.rec false b a
theorem p9 {a b:Bool} (h:H2 a b=true):a=true∧b=true:=by
 cases a
 ·cases h
 ·exact ⟨rfl,h⟩
def OL (a b:Bool):Bool:=Bool.rec b true a
theorem nE {a b:Bool} (h:OL a b=true):a=true∨b=true:=by
 cases a
 ·exact .inr h
 ·exact .inl rfl
theorem M0 {a b:Nat} (h:Nat.ble a b=true):a≤b:=Nat.le_of_ble_eq_true h
def H6 (ng n m k fH fS:Nat) (l:List Ps):Bool:=
 H2 (H2 (H2 (Nat.beq n (Nat.add ng (y8 l))) (Nat.ble k (y8 l))) (H2 (Nat.ble n m) (H2 (Nat.ble ng fH) (Nat.ble fS m))))
  (Xc (fun i x=>H2 (H2 (H2 (Nat.ble ng x.idx) (Nat.ble (Nat.succ x.idx) m)) (H2 (OL (Nat.ble k i) (Nat.beq x.idx (Nat.add ng i))) (OL (Nat.ble (Nat.succ i) k) (Nat.ble (Nat.add ng k) x.idx))))
   (H2 (OL (Nat.ble (Nat.succ (Nat.add ng i)) fH) (Nat.ble fS x.idx)) (Xc (fun j y=>OL (Nat.beq i j) (OL (Nat.ble (Nat.succ x.idx) y.idx) (Nat.ble (Nat.succ y.idx) x.idx))) l 0))) l 0)
theorem fJ {ng n m k fH fS:Nat} {l:List Ps} (h:H6 ng n m k fH fS l=true):Ba ng n m k l∧ng≤fH∧fS≤m∧(∀ (i:Nat) (x:Ps),l[i]? = some x→fH≤ng+i→fS≤x.idx):=by
 unfold H6 at h
 obtain ⟨h1,h2⟩:=p9 h
 obtain ⟨h3,h4⟩:=p9 h1
 obtain ⟨h5,h6⟩:=p9 h3
 obtain ⟨h7,h8⟩:=p9 h4
 obtain ⟨h9,h10⟩:=p9 h8
 have e5:=Nat.eq_of_beq_eq_true h5
 rw [x4] at e5 h6
 have each:∀ (i:Nat) (x:Ps),l[i]? = some x→(ng≤x.idx∧x.idx < m)∧(k≤i∨x.idx=ng+i)∧(i < k∨ng+k≤x.idx)∧(ng+i < fH∨fS≤x.idx)∧∀ (j:Nat) (y:Ps),l[j]? = some y→i=j∨x.idx≠y.idx:=fun i x hx=>by
  have:=tG h2 i x hx
  rw [Nat.zero_add] at this
  obtain ⟨g1,g2⟩:=p9 this
  obtain ⟨g3,g4⟩:=p9 g1
  obtain ⟨g5,g6⟩:=p9 g3
  obtain ⟨g7,g8⟩:=p9 g4
  obtain ⟨g9,g10⟩:=p9 g2
  refine ⟨⟨M0 g5,M0 g6⟩,?_,?_,?_,fun j y hy=>?_⟩
  ·rcases nE g7 with e|e
   ·exact .inl (M0 e)
   ·exact .inr (Nat.eq_of_beq_eq_true e)
  ·rcases nE g8 with e|e
   ·exact .inl (M0 e)
   ·exact .inr (M0 e)
  ·rcases nE g9 with e|e
   ·exact .inl (M0 e)
   ·exact .inr (M0 e)
  ·have:=tG g10 j y hy
   rw [Nat.zero_add] at this
   rcases nE this with e|e
   ·exact .inl (Nat.eq_of_beq_eq_true e)
   ·rcases nE e with e|e
    ·have:=M0 e;exact .inr (by omega)
    ·have:=M0 e;exact .inr (by omega)
 refine ⟨⟨e5,fun i x hx=>(each i x hx).1,fun i j x hx hy=>?_,fun i x hx hi=>?_,fun i x hx hi=>?_,M0 h6,M0 h7⟩,M0 h9,M0 h10,fun i x hx hi=>?_⟩
 ·rcases (each i x hx).2.2.2.2 j x hy with e|e
  ·exact e
  ·exact absurd rfl e
 ·rcases (each i x hx).2.1 with e|e
  ·omega
  ·exact e
 ·rcases (each i x hx).2.2.1 with e|e
  ·omega
  ·exact e
 ·rcases (each i x hx).2.2.2.1 with e|e
  ·omega
  ·exact e
section
variable {E:i3} (hE:E.Ok)
include hE
theorem i6.calls {n F:Nat} {args:List AV} {f0:AF} {S:Hp} {Q:AV→Hp→Prop} (hen:d9 E F args false=some f0) (h:i6 E n f0 [] S Q) {γ:Gm} {w:World} {vs:List Value} (ha:LR γ args vs) (hH:HR γ E.ng S w) :
 Calls E.P F ⟨vs⟩ w fun e w'=>∃ v v' γ' S',e=.returned v'∧Q v S'∧VR γ' v v'∧HR γ' E.ng S' w'∧Kn n S γ w S' γ' w':=by
 obtain ⟨v,S',q0,h⟩:=h
 have hf:=iF hE hen ha
 intro cs
 obtain ⟨γ',v',fr',w',fn,g1,g2,g3,g4,g5,g6,g7,g8,g9,g10⟩:=(h γ _ [] w hf .nil hH).1 rfl cs
 exact ⟨.returned v',w',fr',⟨v,v',γ',S',rfl,q0,g8,g9,g10⟩,g1,g5,g2,g3,g4,fn,g6,g7⟩
end
theorem Kn.below {n:Nat} {S S':Hp} {γ γ':Gm} {w w':World} (h:Kn n S γ w S' γ' w') (hno:∀ a o,S.hp.get a=some o→a.idx < S.fl):RowKit.Below w.heap.size w w':=by
 have h5:=h.os
 injection h5 with h6 h7
 exact ⟨h6,h7,h.out,h.size,fun r hr=>h.keep r hr (fun a o L ha hf=>by have:=hno a o ha;omega)⟩
end Go.AM
end
