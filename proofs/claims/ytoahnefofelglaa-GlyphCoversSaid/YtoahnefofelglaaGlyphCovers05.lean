/- A part of the proof of GlyphCovers; no condition. -/
import Derived.Test.YtoahnefofelglaaGlyphCovers04
import Derived.Orders
set_option linter.unusedVariables false
set_option linter.unusedSimpArgs false
set_option linter.unusedSectionVars false
noncomputable section
section
namespace Go.AM
section
variable {E:i3} (hE:E.Ok) {γ:Gm} {S:Hp} {fr:Frame} {frs:List Frame} {w:World}
theorem MR.not_run {m:Hw} {m':FrameMode} (h:MR γ m m') (hn:m≠.run):m'=.returning∨∃ c,m'=.panicking c:=by
 cases h with
 | run=>exact absurd rfl hn
 | ret=>exact .inl rfl
 | pan r h=>exact .inr ⟨_,rfl⟩
include hE in
theorem mO {fn nt:Nat} {tm:Tm} {todo:List AI} {dfs:List AD} {md:Hw} {lost dk:Bool} {rd:Option Ps} {cs:List AF} {last:SR}
 (hf:FR γ E ⟨fn,nt,tm,todo,dfs,md,lost,dk,rd⟩ fr) (hn:md≠.run) (hcs:M7 γ E cs frs) (hH:HR γ E.ng S w) (hl:dfs = []→fr.defers = []→u5 E γ S fr frs w last) :
 u5 E γ S fr frs w (bY E fn nt tm todo dfs md lost dk rd cs S last):=by
 have hd:=hf.dfs
 have hmd:=hf.md.not_run hn
 simp only at hd
 unfold bY
 generalize hfd:fr.defers=fd at hd
 cases hd with
 | nil=>exact hl rfl hfd
 | @cons x y l l' hx htl =>
   cases hx with
   | @mark b L hL =>
     simp only
     split
     ·rename_i h1 h2
      obtain ⟨M,ob,g1,g2,g3⟩:=hH.obj b _ h1
      rw [hL] at g1;cases g1
      have g3':ob=.deferred (some []):=g3
      subst g3'
      have hlt:L.blk < w.heap.size:=(Array.getElem?_eq_some_iff.1 g2).1
      obtain ⟨p1,p2⟩:=hH.put (w':={ w with heap:=w.heap.setIfInBounds L.blk (.deferred none) }) (o':=.dfr true) (ob':=.deferred none) h1 hL (Nat.le_of_ble_eq_true h2) (by simp)
       (fun r hr=>by
        show (w.heap.setIfInBounds L.blk _)[r]? = _
        rw [Array.getElem?_setIfInBounds_ne (fun e=>hr e.symm)])
       (by
        show (w.heap.setIfInBounds L.blk _)[L.blk]? = _
        rw [Array.getElem?_setIfInBounds_self_of_lt hlt]) rfl rfl rfl
      refine aB.here hf hcs rfl rfl (fun cs=>⟨γ,{ fr with defers:=l' },_,Steps.one (Wi hmd hfd g2),?_,p1,p2⟩)
      exact ⟨hf.fn,hf.nt,hf.tm,fun e=>absurd e hn,htl,hf.md,hf.kind,hf.rd,hf.fi⟩
     ·trivial
   | @call a c a' c' f ha hc =>
     simp only
     cases hen:d9 E f (lapp a c) true with
     | none=>trivial
     | some f' =>
       obtain ⟨i,hi⟩:=iH hen
       rw [← hen]
       refine eX hE (dk:=true) (c':={ fr with defers:=l' }) rfl (args':=a'++c') (ha.lapp hc) ?_ hcs hH (j6.refl _ _ _) (fun cs=>Steps.one ?_) rfl rfl
       ·exact ⟨hf.fn,hf.nt,hf.tm,fun e=>absurd e hn,htl,hf.md,hf.kind,hf.rd,hf.fi⟩
       ·have:=vB (P:=E.P) (fr:=fr) (cs:=cs) (w:=w) hmd hfd (fun w=>sX hE hi _ w)
        simpa using this
omit hE in
theorem mP:∀ {l:List ResultVar} {r:ResultVar},mK l=false→r ∈ l→bA r ∈ sU l
 | [],r,_,h=>by cases h
 | .tmp t::l,r,h,_=>by cases h
 | .cell a t::l,r,h,hr=>by
   have h':mK l=false:=h
   show bA r ∈ a::sU l
   rcases List.mem_cons.1 hr with rfl|hr
   ·exact List.mem_cons_self ..
   ·exact List.mem_cons_of_mem _ (mP h' hr)
include hE in
theorem Ag {fn nt:Nat} {tm:Tm} {todo:List AI} {lost dk:Bool} {rd:Option Ps} {cs:List AF}
 (hf:FR γ E ⟨fn,nt,tm,todo,[],.ret,lost,dk,rd⟩ fr) (hcs:M7 γ E cs frs) (hH:HR γ E.ng S w) (hd:fr.defers = []):u5 E γ S fr frs w (kJ E fn tm lost dk cs S):=by
 unfold kJ
 split
 ·rename_i i hi
  cases hlost:Bool.and lost (mK i.res) with
  | true=>trivial
  | false =>
    simp only
    cases hv:Wm E S tm i.res with
    | none=>trivial
    | some v =>
      obtain ⟨fu,g1,g2,g3,g4,g5⟩:=hE.funcs fn i hi
      have hslots:∀ r,r ∈ i.res→VR γ (n8 tm (bA r)) (fr.tmps.getD (bA r) undef):=by
       cases lost with
       | false=>exact fun r _=>(hf.tr rfl) (bA r)
       | true =>
         have hnt:mK i.res=false:=hlost
         have hrc:R2 E fn=sU i.res:=by unfold R2;rw [hi]
         have htm:∀ a,a ∈ R2 E fn→VR γ (n8 tm a) (fr.tmps.getD a undef):=hf.tm
         rw [hrc] at htm
         exact fun r hr=>htm _ (mP hnt hr)
      rw [← g4] at hv hslots
      obtain ⟨v',r1,r2⟩:=Ws hH hE hslots hv
      have hfu:E.P.funcs[fr.fn]? = some fu:=by rw [hf.fn];exact g1
      have hm:fr.mode=.returning:=by
       have:=hf.md
       simp only at this
       generalize fr.mode=m at this
       cases this;rfl
      cases dk with
      | false =>
        have hk:fr.kind=.normal:=hf.kind
        exact vI hcs r2 hH (j6.refl _ _ _) (fun c cs=>Steps.one (Hv hm hd hfu hk r1)) (fun _ bot=>⟨fr,fu,Steps.refl _ _,hm,hd,hk,rfl,hfu,r1⟩)
      | true =>
        have hk:fr.kind=.deferred:=hf.kind
        cases hcs with
        | nil=>trivial
        | @cons x y l l' hx ht =>
          obtain ⟨xfn,xnt,xtm,xtodo,xdfs,xmd,xlost,xdk,xrd⟩:=x
          have hst:=fun cs=>Aa (P:=E.P) (c:=y) (cs:=cs) hm hd hfu hk r1
          have hmd:=hx.md
          simp only at hmd
          have same:(∀ cs,step E.P (lone fr (y::cs) w)=.next (lone y cs w))→u5 E γ S fr (y::l') w (.next ⟨xfn,xnt,xtm,xtodo,xdfs,xmd,xlost,xdk,xrd⟩ l S):=fun hs bot =>
           ⟨γ,y,l',w,Steps.one (hs (l'++bot)),hx,ht,hH,j6.refl _ _ _,rfl⟩
          cases xmd with
          | run =>
            refine same (fun cs=>?_)
            rw [hst]
            have:y.mode=.run:=hx.mode rfl
            rw [this]
          | ret =>
            refine same (fun cs=>?_)
            rw [hst]
            generalize y.mode=m at hmd
            cases hmd;rfl
          | pan u r =>
            generalize hym:y.mode=m at hmd
            cases hmd with
            | @pan _ u' _ hu =>
              cases r with
              | false =>
                refine same (fun cs=>?_)
                rw [hst,hym]
              | true =>
                intro bot
                refine ⟨γ,{ y with mode:=.returning },l',w,Steps.one ?_,⟨hx.fn,hx.nt,hx.tm,fun e=>(by cases e),hx.dfs,.ret,hx.kind,hx.rd,hx.fi⟩,ht,hH,j6.refl _ _ _,?_⟩
                ·show step E.P (lone fr (y::(l'++bot)) w)=_
                 rw [hst,hym]
                 rfl
                ·show E1 { y with mode:=.returning } l'=E1 y l'
                 exact E9 (fr:=y) (fr':={ y with mode:=.returning }) rfl rfl l'
 ·trivial
include hE in
theorem Ic {fn nt:Nat} {tm:Tm} {todo:List AI} {lost dk:Bool} {rd:Option Ps} {cs:List AF} {v:AV}
 (hf:FR γ E ⟨fn,nt,tm,todo,[],.pan v false,lost,dk,rd⟩ fr) (hcs:M7 γ E cs frs) (hH:HR γ E.ng S w) (hd:fr.defers = []):u5 E γ S fr frs w (sV v cs S):=by
 obtain ⟨i,hi⟩:=hf.fi
 obtain ⟨fu,g1,_⟩:=hE.funcs fn i hi
 have hfu:E.P.funcs[fr.fn]? = some fu:=by rw [hf.fn];exact g1
 have hmd:=hf.md
 simp only at hmd
 generalize hfm:fr.mode=m at hmd
 cases hmd with
 | @pan _ v' _ hv =>
   unfold sV
   cases hcs with
   | nil=>exact ⟨rfl,fun c bot=>⟨γ,v',w,Steps.one (vC hfm hd hfu),hv,hH,j6.refl _ _ _⟩⟩
   | @cons x y l l' hx ht =>
     obtain ⟨xfn,xnt,xtm,xtodo,xdfs,xmd,xlost,xdk,xrd⟩:=x
     cases xmd with
     | ret=>trivial
     | pan _ _=>trivial
     | run =>
       have hym:y.mode=.run:=hx.mode rfl
       have hr:y.raise [{ v:=v',recovered:=false }]={ y with mode:=.panicking [{ v:=v',recovered:=false }] }:=by simp [Frame.raise,hym]
       intro bot
       refine ⟨γ,{ y with mode:=.panicking [{ v:=v',recovered:=false }] },l',w,Steps.one ?_,⟨hx.fn,hx.nt,hx.tm,fun e=>(by cases e),hx.dfs,.pan false hv,hx.kind,hx.rd,hx.fi⟩,ht,hH,j6.refl _ _ _,?_⟩
       ·show step E.P (lone fr (y::(l'++bot)) w)=_
        rw [vC hfm hd hfu,hr]
       ·show E1 { y with mode:=.panicking _ } l'=E1 y l'
        exact E9 (fr:=y) (fr':={ y with mode:=.panicking _ }) rfl rfl l'
end
def bB (D:s8) (E:i3):Prop:=
 ∀ (id:Nat) (ops:Array Oper) (fn nt:Nat) (tm:Tm) (t k:List AI) (dfs:List AD) (dk:Bool) (rd:Option Ps) (cs:List AF) (S:Hp) (γ:Gm) (fr:Frame) (frs:List Frame) (w:World) (k':List Item),
   FR γ E ⟨fn,nt,tm,t,dfs,.run,false,dk,rd⟩ fr→M7 γ E cs frs→HR γ E.ng S w→fr.todo=.code (.region id ops true)::k'→jC γ k k' →
   u5 E γ S fr frs w (bX D id ops true E fn nt tm k dfs dk rd cs S)
section
variable {E:i3} (hE:E.Ok) {γ:Gm} {S:Hp} {fr:Frame} {frs:List Frame} {w:World}
include hE in
theorem Ej {ops:Array Oper} {i:Nat} {rest:List Oper} {fn nt:Nat} {tm:Tm} {k:List AI} {dfs:List AD} {dk:Bool} {rd:Option Ps} {cs:List AF}
 (hf:FR γ E ⟨fn,nt,tm,.reg ops i rest::k,dfs,.run,false,dk,rd⟩ fr) (hcs:M7 γ E cs frs) (hH:HR γ E.ng S w):u5 E γ S fr frs w (Wk ops i rest E fn nt tm k dfs dk rd cs S):=by
 unfold Wk
 rcases iE hE rest i tm S γ fr w hf hH with h|⟨γ',fr',w',h1,h2⟩
 ·rw [h];trivial
 ·have e:Gm.le γ γ'∧fr'.fn=fr.fn∧fr'.roundOf=fr.roundOf:=by
   clear h1
   generalize dJ E nt ops rest i tm S=rs at h2
   cases h2 with
   | done hf2 _ hP=>exact ⟨hP.ext,by rw [hf2.fn,hf.fn],yB.eq hP.ext hf.rd hf2.rd⟩
   | stop hf2 _ hP _ _ _=>exact ⟨hP.ext,by rw [hf2.fn,hf.fn],yB.eq hP.ext hf.rd hf2.rd⟩
  obtain ⟨S₁,h3,h4⟩:=aZ hE (tm0:=tm) h2 (hcs.mono e.1)
  exact u5.ahead h1 h3 e.2.1 e.2.2 h4
variable {D:s8} (hD:bB D E)
include hE hD
theorem Pb {c:Code} {fn nt:Nat} {tm:Tm} {k:List AI} {dfs:List AD} {dk:Bool} {rd:Option Ps} {cs:List AF}
 (hf:FR γ E ⟨fn,nt,tm,.code c::k,dfs,.run,false,dk,rd⟩ fr) (hcs:M7 γ E cs frs) (hH:HR γ E.ng S w):u5 E γ S fr frs w (DH D c E fn nt tm k dfs dk rd cs S):=by
 have hm:=hf.mode rfl
 obtain ⟨k',ht,hk⟩:=jC.code (hf.todo rfl)
 cases c with
 | skip=>exact Z0 hf hcs hH hk (fun cs=>Wd hm ht)
 | label l=>exact Z0 hf hcs hH hk (fun cs=>Oi hm ht)
 | seq a b=>exact Z0 hf hcs hH (.cons (.code a) (.cons (.code b) hk)) (fun cs=>HP hm ht)
 | block id b=>exact Z0 hf hcs hH (.cons (.code b) (.cons (.blk id) hk)) (fun cs=>Oj hm ht)
 | loop b=>exact Z0 hf hcs hH (.cons (.code b) (.cons (.lop b) hk)) (fun cs=>We hm ht)
 | scope b=>exact Z0 hf hcs hH (.cons (.code b) (.cons (.scp b) hk)) (fun cs=>Ol hm ht)
 | cond c a b =>
   show u5 E γ S fr frs w (Eh c a b E fn nt tm k dfs dk rd cs S)
   rw [Ou]
   split
   ·rename_i t he
    have hv:=rN (fr:=fr) (hf.tr rfl) hH.glob he
    generalize hu:fr.eval c=u at hv
    cases hv
    refine Z0 hf hcs hH (.cons ?_ hk) (fun cs=>Wg hm ht hu)
    cases t
    ·exact .code b
    ·exact .code a
   ·trivial
 | exit id =>
   show u5 E γ S fr frs w (Ov id E fn nt tm k dfs dk rd cs S)
   unfold Ov
   cases he:qE id k with
   | none=>exact iG hf hcs hH (.inr (.inr ⟨id,ht,(vH hk).2 he,rfl⟩))
   | some k2 =>
     obtain ⟨k3,h1,h2⟩:=(vH hk).1 k2 he
     exact Z0 hf hcs hH h2 (fun cs=>Wf hm ht h1)
 | ret=>exact iG (k:=k) hf hcs hH (.inr (.inl ⟨ht,rfl⟩))
 | goto l=>trivial
 | refuse s=>trivial
 | rangeFunc f ps a b=>exact HY hE hf hcs hH ht hk
 | region id ops draw =>
   cases draw with
   | true=>exact hD id ops fn nt tm _ k dfs dk rd cs S γ fr frs w k' hf hcs hH ht hk
   | false =>
     have hf2:FR γ E ⟨fn,nt,tm,.reg ops 0 ops.toList::k,dfs,.run,false,dk,rd⟩ { fr with todo:=.inRegion ops (List.range ops.size)::k' }:=by
      have:jC γ (.reg ops 0 ops.toList::k) (.inRegion ops (List.range ops.size)::k'):=by
       rw [List.range_eq_range',← Array.length_toList]
       exact .cons (.reg rfl) hk
      exact hf.to this
     exact u5.ahead (fun cs=>Steps.one (qD hm ht)) (j6.refl S γ w) rfl rfl (Ej hE hf2 hcs hH)
theorem Wu {todo:List AI} {fn nt:Nat} {tm:Tm} {dfs:List AD} {dk:Bool} {rd:Option Ps} {cs:List AF}
 (hf:FR γ E ⟨fn,nt,tm,todo,dfs,.run,false,dk,rd⟩ fr) (hcs:M7 γ E cs frs) (hH:HR γ E.ng S w):u5 E γ S fr frs w (HW D todo E fn nt tm dfs dk rd cs S):=by
 have hm:=hf.mode rfl
 have hto:=hf.todo rfl
 simp only at hto
 generalize hft:fr.todo=ft at hto
 cases hto with
 | nil=>exact iG (k:=[]) (k':=[]) hf hcs hH (.inl ⟨hft,rfl⟩)
 | @cons x y l l' hx ht =>
   cases hx with
   | code c=>exact Pb hE hD hf hcs hH
   | blk id=>exact Z0 hf hcs hH ht (fun cs=>zY hm hft)
   | lop c=>exact Z0 hf hcs hH (.cons (.code c) (.cons (.lop c) ht)) (fun cs=>Hu hm hft)
   | scp c=>exact Z0 hf hcs hH ht (fun cs=>zZ hm hft)
   | reg h=>exact Ej hE hf hcs hH
   | inRF h=>trivial
   | endRF h=>exact Ib hf hcs hH hft h ht
   | beg=>exact Wt hf hcs hH hft ht
theorem bC {f:AF} {cs:List AF} (hf:FR γ E f fr) (hcs:M7 γ E cs frs) (hH:HR γ E.ng S w):u5 E γ S fr frs w (cU D E f cs S):=by
 obtain ⟨fn,nt,tm,todo,dfs,md,lost,dk,rd⟩:=f
 rw [Oy];unfold Ox
 cases md with
 | run =>
   cases lost with
   | true=>trivial
   | false=>exact Wu hE hD hf hcs hH
 | ret=>exact mO hE hf (fun e=>by cases e) hcs hH (fun e hd=>by subst e;exact Ag hE hf hcs hH hd)
 | pan v r =>
   refine mO hE hf (fun e=>by cases e) hcs hH (fun e hd=>?_)
   subst e
   cases r with
   | true=>trivial
   | false=>exact Ic hE hf hcs hH hd
def cH (E:i3) (γ:Gm) (S:Hp) (fr:Frame) (frs:List Frame) (w:World):SR→Prop
 | .next f cs S'=>aB E γ S fr frs w f cs S'
 | .fin v S'=>((E1 fr frs).2=none→∀ bot,∃ γ' v' fr' w' fn,Steps E.P (lone fr (frs++bot) w) (lone fr' bot w')∧fr'.mode=.returning∧fr'.defers = []∧fr'.kind=.normal∧fr'.fn=(E1 fr frs).1∧E.P.funcs[fr'.fn]? = some fn ∧
  (results fn fr'.tmps).run E.P w'=.ok v' w'∧VR γ' v v'∧HR γ' E.ng S' w'∧j6 S γ w S' γ' w') ∧
  (∀ c bot,∃ γ' v' w',Steps E.P (lone fr (frs++c::bot) w) (lone (c.finish v') bot w')∧VR γ' v v'∧HR γ' E.ng S' w'∧j6 S γ w S' γ' w')
 | .finP v S'=>∀ c bot,∃ γ' v' w',Steps E.P (lone fr (frs++c::bot) w) (lone (c.raise [{ v:=v',recovered:=false }]) bot w')∧VR γ' v v'∧HR γ' E.ng S' w'∧j6 S γ w S' γ' w'
 | .bad=>True
omit hE hD in
theorem u5.run {r:SR} (h:u5 E γ S fr frs w r):cH E γ S fr frs w r:=by
 cases r with
 | next f cs S'=>exact h
 | fin v S'=>obtain ⟨rfl,h1,h2⟩:=h;exact ⟨h1,h2⟩
 | finP v S'=>obtain ⟨rfl,h2⟩:=h;exact h2
 | bad=>trivial
omit hE hD in
theorem cH.after {f:AF} {cs:List AF} {S1:Hp} {r:SR} (h:aB E γ S fr frs w f cs S1)
 (k:∀ {γ':Gm} {fr':Frame} {frs':List Frame} {w':World},FR γ' E f fr'→M7 γ' E cs frs'→HR γ' E.ng S1 w'→cH E γ' S1 fr' frs' w' r):cH E γ S fr frs w r:=by
 cases r with
 | next f cs S2 =>
   intro bot
   obtain ⟨γ1,fr1,frs1,w1,h1,h2,h3,h4,h5,h6⟩:=h bot
   obtain ⟨γ2,fr2,frs2,w2,g1,g2,g3,g4,g5,g6⟩:=k h2 h3 h4 bot
   exact ⟨γ2,fr2,frs2,w2,Steps.trans h1 g1,g2,g3,g4,h5.trans g5,g6.trans h6⟩
 | fin v S' =>
   refine ⟨fun hr bot=>?_,fun c bot=>?_⟩
   ·obtain ⟨γ1,fr1,frs1,w1,h1,h2,h3,h4,h5,h6⟩:=h bot
    obtain ⟨γ2,v',fr',w',fn,g1,g2,g3,g4,g5,g6,g7,g8,g9,g10⟩:=(k h2 h3 h4).1 (by rw [h6];exact hr) bot
    exact ⟨γ2,v',fr',w',fn,Steps.trans h1 g1,g2,g3,g4,by rw [g5,h6],g6,g7,g8,g9,h5.trans g10⟩
   ·obtain ⟨γ1,fr1,frs1,w1,h1,h2,h3,h4,h5,h6⟩:=h (c::bot)
    obtain ⟨γ2,v',w',g1,g2,g3,g4⟩:=(k h2 h3 h4).2 c bot
    exact ⟨γ2,v',w',Steps.trans h1 g1,g2,g3,h5.trans g4⟩
 | finP v S' =>
   intro c bot
   obtain ⟨γ1,fr1,frs1,w1,h1,h2,h3,h4,h5,h6⟩:=h (c::bot)
   obtain ⟨γ2,v',w',g1,g2,g3,g4⟩:=k h2 h3 h4 c bot
   exact ⟨γ2,v',w',Steps.trans h1 g1,g2,g3,h5.trans g4⟩
 | bad=>trivial
theorem Ek (n:Nat):∀ {f:AF} {cs:List AF} {S:Hp} {γ:Gm} {fr:Frame} {frs:List Frame} {w:World},FR γ E f fr→M7 γ E cs frs→HR γ E.ng S w→cH E γ S fr frs w (Af D E n f cs S):=by
 induction n with
 | zero =>
   intro f cs S γ fr frs w hf hcs hH bot
   exact ⟨γ,fr,frs,w,Steps.refl _ _,hf,hcs,hH,j6.refl _ _ _,rfl⟩
 | succ n ih =>
   intro f cs S γ fr frs w hf hcs hH
   have h1:=bC hE hD hf hcs hH
   have e:Af D E (n+1) f cs S=SR.rec (Af D E n) .fin .finP .bad (cU D E f cs S):=rfl
   rw [e]
   generalize cU D E f cs S=r at h1
   cases r with
   | next f' cs' S'=>exact cH.after h1 (fun a b c=>ih a b c)
   | fin v S'=>exact h1.run
   | finP v S'=>exact h1.run
   | bad=>trivial
end
theorem L9 {ng:Nat} {tm tm':Tm}:∀ {l:List Operand},(∀ x ∈ l,n6 ng tm x=n6 ng tm' x)→F4 ng tm l=F4 ng tm' l
 | [],_=>rfl
 | x::l,h=>by
   show (Option.rec none (fun y=>Option.rec none (fun t=>some (y::t)) (F4 ng tm l)) (n6 ng tm x):Option (List AV))=_
   rw [h x (by simp),L9 (l:=l) (fun y hy=>h y (by simp [hy]))]
   rfl
theorem dL {ng:Nat} {tm tm':Tm}:∀ {l:List (Nat × Operand)},(∀ x ∈ l.map (·.2),n6 ng tm x=n6 ng tm' x)→gW ng tm l=gW ng tm' l
 | [],_=>rfl
 | x::l,h=>by
   show (Option.rec none (fun y=>Bool.rec none (Option.rec none (fun t=>some ((x.1,y)::t)) (gW ng tm l)) (D6 y)) (n6 ng tm x.2):Option (List (Nat × AV)))=_
   rw [h x.2 (by simp),dL (l:=l) (fun y hy=>h y (by simp at hy ⊢;exact .inr hy))]
   rfl
theorem Q8 {ng:Nat} {tm tm':Tm} {o:Option Operand} (h:∀ x ∈ o,n6 ng tm x=n6 ng tm' x):kD ng tm o=kD ng tm' o:=by
 cases o with
 | none=>rfl
 | some x=>unfold kD;simp only [h x rfl]
theorem vJ {E:i3} {tm tm':Tm} {S:Hp} {ty:Nat} {op:Op} (h:∀ x ∈ op.operands,n6 E.ng tm x=n6 E.ng tm' x):O6 op E tm S ty=O6 op E tm' S ty:=by
 cases op <;> simp only [Op.operands] at h <;> first
  | rfl
  | (simp only [O6,Mt,CT,PV,CU,Mv,PW,PX,YK,CV,PY,My,Na,Nb,Nc,Nd,CW,Ne,PZ,QD,Ni] <;> (simp_all;done))
  | skip
 case build t ps =>
  have h1:gW E.ng tm ps.toList=gW E.ng tm' ps.toList:=dL (fun x hx=>h x (by simpa using hx))
  simp only [O6,Mu,h1]
 case buildSlice t n ps =>
  have h1:gW E.ng tm ps.toList=gW E.ng tm' ps.toList:=dL (fun x hx=>h x (by simpa using hx))
  simp only [O6,Ds,h1]
 case makeFunc fn first cap =>
  have h1:F4 E.ng tm first.toList=F4 E.ng tm' first.toList:=L9 (fun x hx=>h x (by simp at hx ⊢;exact .inl hx))
  have h2:F4 E.ng tm cap.toList=F4 E.ng tm' cap.toList:=L9 (fun x hx=>h x (by simp at hx ⊢;exact .inr hx))
  simp only [O6,Mx,h1,h2]
 case slice t x lo hi mx =>
  have h1:=h x (by simp)
  have h2:kD E.ng tm lo=kD E.ng tm' lo:=Q8 (fun y hy=>h y (by simp at hy;simp [hy]))
  have h3:kD E.ng tm hi=kD E.ng tm' hi:=Q8 (fun y hy=>h y (by simp at hy;simp [hy]))
  have h4:kD E.ng tm mx=kD E.ng tm' mx:=Q8 (fun y hy=>h y (by simp at hy;simp [hy]))
  simp only [O6,Mz,h1,h2,h3,h4]
 case call c =>
  have h1:F4 E.ng tm c.args.toList=F4 E.ng tm' c.args.toList:=L9 (fun x hx=>h x (by simp at hx;simp [Call.operands,hx]))
  simp only [O6,CX,h1]
  cases hc:c.callee with
  | value f=>simp only [h f (by simp [Call.operands,hc])]
  | invoke r m=>rfl
  | builtin b=>rfl
 case defer c =>
  have h1:F4 E.ng tm c.args.toList=F4 E.ng tm' c.args.toList:=L9 (fun x hx=>h x (by simp at hx;simp [Call.operands,hx]))
  simp only [O6,Nh,h1]
  cases hc:c.callee with
  | value f=>simp only [h f (by simp [Call.operands,hc])]
  | invoke r m=>rfl
  | builtin b=>rfl
theorem Id {opt:Bool} {E:i3} {tm tm':Tm} {S:Hp} {op:Op} (h:∀ x ∈ op.operands,n6 E.ng tm x=n6 E.ng tm' x):Eb opt op E tm S=Eb opt op E tm' S:=by
 cases op <;> simp only [Op.operands] at h <;> first
  | rfl
  | (simp only [Eb] <;> (simp_all;done))
  | skip
 case slice t x lo hi mx =>
  have h1:=h x (by simp)
  have h2:kD E.ng tm lo=kD E.ng tm' lo:=Q8 (fun y hy=>h y (by simp at hy;simp [hy]))
  have h3:kD E.ng tm hi=kD E.ng tm' hi:=Q8 (fun y hy=>h y (by simp at hy;simp [hy]))
  have h4:kD E.ng tm mx=kD E.ng tm' mx:=Q8 (fun y hy=>h y (by simp at hy;simp [hy]))
  simp only [Eb,h1,h2,h3,h4]
 case call c =>
  have h1:F4 E.ng tm c.args.toList=F4 E.ng tm' c.args.toList:=L9 (fun x hx=>h x (by simp at hx;simp [Call.operands,hx]))
  simp only [Eb,h1]
theorem Ah {E:i3} {tm tm':Tm} {S:Hp} {ty:Nat} {op:Op} (h:∀ x ∈ op.operands,n6 E.ng tm x=n6 E.ng tm' x):H7 op E tm S ty=H7 op E tm' S ty:=by
 unfold H7 DE
 rw [vJ h,Id h]
inductive qM (ops:Array Oper):Array Bool→List Nat→Prop where
 | nil {l:Array Bool} (h:Region.ready .any ops l = []):qM ops l []
 | cons {l:Array Bool} {i:Nat} {L:List Nat} (h:i ∈ Region.ready .any ops l) (t:qM ops (l.setIfInBounds i true) L):qM ops l (i::L)
def Kl (l:Array Bool):Nat→Nat
 | 0=>0
 | m+1=>Kl l m+(if l.getD m true then 0 else 1)
theorem mQ {l:Array Bool} {i:Nat}:∀ {m:Nat},m≤i→Kl (l.setIfInBounds i true) m=Kl l m
 | 0,_=>rfl
 | m+1,h=>by
   unfold Kl
   rw [mQ (Nat.le_of_succ_le h),getD_set_ne true (by omega)]
theorem mR {l:Array Bool} {i:Nat} (hi:l.getD i true=false):∀ {m:Nat},i < m→Kl (l.setIfInBounds i true) m+1=Kl l m
 | m + 1,h=>by
   unfold Kl
   by_cases e:i=m
   ·subst e
    rw [mQ (Nat.le_refl _),hi]
    have:(l.setIfInBounds i true).getD i true=true:=by
     rw [Array.getD_eq_getD_getElem?]
     by_cases h:i < l.size
     ·rw [Array.getElem?_setIfInBounds_self_of_lt h];rfl
     ·rw [Array.getElem?_eq_none (by simp;omega)];rfl
    rw [this];simp
   ·have:=mR hi (m:=m) (by omega)
    rw [getD_set_ne true (by omega)]
    omega
theorem vK {l:Array Bool}:∀ {m:Nat},Kl l m=0→∀ i,i < m→l.getD i true=true
 | m + 1,h,i,hi=>by
   unfold Kl at h
   by_cases e:i=m
   ·subst e
    cases hb:l.getD i true with
    | true=>rfl
    | false=>rw [hb] at h;simp at h
   ·exact vK (m:=m) (by omega) i (by omega)
theorem Pc {l:Array Bool}:∀ {m:Nat},Kl l m≤m
 | 0=>Nat.le_refl _
 | m+1=>by unfold Kl;have:=Pc (l:=l) (m:=m);split <;> omega
theorem vL (ops:Array Oper):∀ (fuel t:Nat) (l:Array Bool),Kl l ops.size≤fuel→qM ops l (Region.linearise.go .any ops fuel t l [])
 | 0,t,l,h=>by
   refine .nil ?_
   have hz:=vK (Nat.le_zero.1 h)
   cases hr:Region.ready .any ops l with
   | nil=>rfl
   | cons i r =>
     have hm:i ∈ Region.ready .any ops l:=by rw [hr];simp
     obtain ⟨h0,o,ho,_⟩:=mem_ready.1 hm
     rw [hz i (Array.getElem?_eq_some_iff.1 ho).1] at h0;cases h0
 | fuel+1,t,l,h=>by
   have e:Region.linearise.go .any ops (fuel+1) t l []=(match (Region.ready .any ops l)[t % (Region.ready .any ops l).length]? with
    | some i=>Region.linearise.go .any ops fuel (t / (Region.ready .any ops l).length) (l.setIfInBounds i true) [i]
    | none=>[]):=by simp only [Region.linearise.go];rfl
   rw [e]
   split
   ·rename_i i hi
    have hm:i ∈ Region.ready .any ops l:=List.mem_of_getElem? hi
    obtain ⟨h0,o,ho,_⟩:=mem_ready.1 hm
    rw [linearise_go_acc]
    refine .cons hm (vL ops fuel _ _ ?_)
    have:=mR h0 (Array.getElem?_eq_some_iff.1 ho).1
    omega
   ·rename_i hn
    refine .nil ?_
    cases hr:Region.ready .any ops l with
    | nil=>rfl
    | cons i r =>
      rw [hr] at hn
      have:t % (i::r).length < (i::r).length:=Nat.mod_lt _ (by simp)
      rw [List.getElem?_eq_getElem this] at hn;cases hn
theorem mS (ops:Array Oper) (t:Nat):qM ops (Array.replicate ops.size false) (Region.schedule true ops t):=by
 unfold Region.schedule
 simp only [Bool.true_or,if_true]
 exact vL ops _ _ _ Pc
def tb (m i:Nat):Bool:=Nat.ble 1 (Nat.land 1 (Nat.shiftRight m i))
theorem cV (m i:Nat):tb m i=m.testBit i:=by
 unfold tb Nat.testBit
 show Nat.ble 1 (1 &&& (m >>> i))=_
 rw [l8]
 cases h:(1 &&& (m >>> i)) with
 | zero=>rfl
 | succ n=>simp
def Pd (i:Nat):Nat:=Nat.shiftLeft 1 i
theorem mT (i j:Nat):tb (Pd i) j=decide (i=j):=by
 rw [cV]
 show (1 <<< i).testBit j=_
 rw [Nat.one_shiftLeft,Nat.testBit_two_pow]
theorem eY (a b i:Nat):tb (Nat.lor a b) i=(tb a i || tb b i):=by
 rw [cV,cV,cV];exact Nat.testBit_or a b i
theorem Ai (a b i:Nat):tb (Nat.land a b) i=(tb a i && tb b i):=by
 rw [cV,cV,cV];exact Nat.testBit_and a b i
theorem sY (i:Nat):tb 0 i=false:=by rw [cV];simp
def cI (a b:Nat):Bool:=Nat.beq (Nat.land a b) a
theorem Wv {a b:Nat} (h:cI a b=true) {i:Nat} (hi:tb a i=true):tb b i=true:=by
 have e:Nat.land a b=a:=Nat.eq_of_beq_eq_true h
 rw [← e,Ai] at hi
 simp at hi;exact hi.2
theorem Ww {a b:Nat} (h:∀ i,tb a i=true→tb b i=true):cI a b=true:=by
 unfold cI
 have:Nat.land a b=a:=by
  apply Nat.eq_of_testBit_eq
  intro i
  have h1:=Ai a b i
  rw [cV] at h1
  rw [h1,← cV]
  cases ha:tb a i with
  | false=>rfl
  | true=>rw [h i ha];rfl
 rw [this];exact Nat.beq_refl a
def vM (i:Nat) (ms:List Nat) (l:List Edge):Option Nat:=
 List.rec (some 0) (fun e _ ih=>Bool.rec ih (Option.rec none (fun m=>Bool.rec none (Option.rec none (fun m'=>some (Nat.lor m (Nat.lor m' (Pd e.on)))) (nth ms e.on)) (Nat.blt e.on i)) ih) (Region.binds .any e)) l
def Aj (l:List Oper):Nat→List Nat→Option (List Nat):=
 List.rec (motive:=fun _=>Nat→List Nat→Option (List Nat)) (fun _ ms=>some ms) (fun o _ ih i ms=>Option.rec none (fun m=>ih (Nat.succ i) (List.append ms [m])) (vM i ms o.after.toList)) l
theorem mU {i:Nat} {ms:List Nat}:∀ {l:List Edge} {m:Nat},vM i ms l=some m →
 (∀ e ∈ l,Region.binds .any e=true→e.on < i)∧∀ p,tb m p=true→∃ e ∈ l,Region.binds .any e=true∧(p=e.on∨∃ m',ms[e.on]? = some m'∧tb m' p=true)
 | [],m,h=>by
   cases h
   exact ⟨fun e he=>(by cases he),fun p hp=>(by rw [sY] at hp;cases hp)⟩
 | e :: l,m,h=>by
   have h':(Bool.rec (vM i ms l) (Option.rec none (fun m=>Bool.rec none (Option.rec none (fun m'=>some (Nat.lor m (Nat.lor m' (Pd e.on)))) (nth ms e.on)) (Nat.blt e.on i)) (vM i ms l)) (Region.binds .any e):Option Nat)=some m:=h
   cases hb:Region.binds .any e with
   | false =>
     rw [hb] at h'
     obtain ⟨g1,g2⟩:=mU (l:=l) (m:=m) h'
     refine ⟨fun x hx hbx=>?_,fun p hp=>?_⟩
     ·rcases List.mem_cons.1 hx with rfl|hx
      ·rw [hb] at hbx;cases hbx
      ·exact g1 x hx hbx
     ·obtain ⟨x,hx,r⟩:=g2 p hp
      exact ⟨x,List.mem_cons_of_mem _ hx,r⟩
   | true =>
     rw [hb] at h'
     obtain ⟨m1,h1,h2⟩:=m9 h'
     obtain ⟨h3,h4⟩:=d5 h2
     obtain ⟨m2,h5,h6⟩:=m9 h4
     cases h6
     rw [f6] at h3
     obtain ⟨g1,g2⟩:=mU h1
     refine ⟨fun x hx hbx=>?_,fun p hp=>?_⟩
     ·rcases List.mem_cons.1 hx with rfl|hx
      ·exact of_decide_eq_true h3
      ·exact g1 x hx hbx
     ·rw [eY,eY,mT] at hp
      simp only [Bool.or_eq_true,decide_eq_true_eq] at hp
      rcases hp with hp|hp|hp
      ·obtain ⟨x,hx,r⟩:=g2 p hp
       exact ⟨x,List.mem_cons_of_mem _ hx,r⟩
      ·exact ⟨e,by simp,hb,.inr ⟨m2,by rw [← H8];exact h5,hp⟩⟩
      ·exact ⟨e,by simp,hb,.inl hp.symm⟩
structure kK (ops:List Oper) (ms:List Nat):Prop where
 len:ms.length=ops.length
 back:∀ i o,ops[i]? = some o→∀ e ∈ o.after,Region.binds .any e=true→e.on < i
 bits:∀ (i:Nat) o m,ops[i]? = some o→ms[i]? = some m→∀ p,tb m p=true→∃ e ∈ o.after,Region.binds .any e=true∧(p=e.on∨∃ m',ms[e.on]? = some m'∧tb m' p=true)
theorem qN:∀ (l:List Oper) (pre:List Oper) (ms r:List Nat),Aj l pre.length ms=some r→kK pre ms→kK (pre++l) r
 | [],pre,ms,r,h,hm=>by cases h;rw [List.append_nil];exact hm
 | o :: l,pre,ms,r,h,hm=>by
   have h':(Option.rec none (fun m=>Aj l (Nat.succ pre.length) (List.append ms [m])) (vM pre.length ms o.after.toList):Option (List Nat))=some r:=h
   obtain ⟨m,h1,h2⟩:=m9 h'
   obtain ⟨g1,g2⟩:=mU h1
   have:=qN l (pre++[o]) (ms++[m]) r (by rw [List.length_append];exact h2) ⟨by simp [hm.len],fun i x hx e he hb=>?_,fun i x y hx hy p hp=>?_⟩
   ·rw [List.append_assoc] at this;exact this
   ·by_cases hi:i < pre.length
    ·rw [List.getElem?_append_left hi] at hx;exact hm.back i x hx e he hb
    ·rw [List.getElem?_append_right (by omega)] at hx
     cases hk:i - pre.length with
     | zero=>rw [hk] at hx;simp at hx;subst hx;have:=g1 e (by simpa using he) hb;omega
     | succ k=>rw [hk] at hx;simp at hx
   ·by_cases hi:i < pre.length
    ·rw [List.getElem?_append_left hi] at hx
     rw [List.getElem?_append_left (by rw [hm.len];exact hi)] at hy
     obtain ⟨e,he,hb,r⟩:=hm.bits i x y hx hy p hp
     refine ⟨e,he,hb,r.imp id (fun ⟨m',h1,h2⟩=>⟨m',?_,h2⟩)⟩
     rw [List.getElem?_append_left (List.getElem?_eq_some_iff.1 h1).1];exact h1
    ·rw [List.getElem?_append_right (by omega)] at hx
     rw [List.getElem?_append_right (by rw [hm.len];omega),hm.len] at hy
     cases hk:i - pre.length with
     | zero =>
       rw [hk] at hx hy
       simp at hx hy
       subst hx hy
       obtain ⟨e,he,hb,r⟩:=g2 p hp
       refine ⟨e,by simpa using he,hb,r.imp id (fun ⟨m',h1,h2⟩=>⟨m',?_,h2⟩)⟩
       rw [List.getElem?_append_left (List.getElem?_eq_some_iff.1 h1).1];exact h1
     | succ k=>rw [hk] at hx;simp at hx
def masks (ops:Array Oper):Option (List Nat):=Aj ops.toList 0 []
theorem Pe {ops:Array Oper} {ms:List Nat} (h:masks ops=some ms):kK ops.toList ms:=by
 have:=qN ops.toList [] [] ms h ⟨rfl,fun i o e=>by simp at e,fun i o m e=>by simp at e⟩
 simpa using this
def Wx {α:Type} (p:Nat→α→Bool) (l:List α):Nat→Bool:=List.rec (motive:=fun _=>Nat→Bool) (fun _=>true) (fun x _ ih i=>Bool.rec false (ih (Nat.succ i)) (p i x)) l
theorem sZ {α:Type} {p:Nat→α→Bool}:∀ {l:List α} {k:Nat},Wx p l k=true→∀ i x,l[i]? = some x→p (k+i) x=true
 | [],k,h,i,x,e=>by simp at e
 | y :: l,k,h,i,x,e=>by
   have h':(Bool.rec false (Wx p l (k+1)) (p k y):Bool)=true:=h
   cases hp:p k y with
   | false=>rw [hp] at h';cases h'
   | true =>
     rw [hp] at h'
     cases i with
     | zero=>simp at e;subst e;exact hp
     | succ i=>have:=sZ (l:=l) h' i x (by simpa using e);rw [show k+(i+1)=k+1+i from by omega];exact this
def Wy (x:Nat) (l:List Nat):Bool:=List.rec false (fun y _ ih=>Bool.rec ih true (Nat.beq x y)) l
theorem El {x:Nat}:∀ {l:List Nat},x ∈ l→Wy x l=true
 | y :: l,h=>by
   show (Bool.rec (Wy x l) true (Nat.beq x y):Bool)=true
   cases hb:Nat.beq x y with
   | true=>rfl
   | false =>
     rcases List.mem_cons.1 h with rfl|h
     ·rw [Nat.beq_refl] at hb;cases hb
     ·exact El h
def Em (d:Nat) (o:Option Nat):Bool:=Option.rec false (fun e=>Nat.beq d e) o
def HZ (i mi:Nat) (li:List Nat) (di:Option Nat) (j mj:Nat) (oj:Option Nat):Bool:=
 Option.rec true (fun d=>Bool.rec (Bool.rec (Bool.rec true (Bool.rec (tb mj i) true (tb mi j)) (Wy d li)) false (Em d di)) true (Nat.beq i j)) oj
def Eo (ops:Array Oper):List Oper→List Nat→List (Nat × List Nat × Option Nat):=
 fun l=>List.rec (motive:=fun _=>List Nat→List (Nat × List Nat × Option Nat)) (fun _=>[]) (fun o _ ih ms=>match ms with|m::ms=>(m,o.looksAt ops,o.dst)::ih ms|[]=>[]) l
def slots (ops:Array Oper) (ms:List Nat):Bool:=
 Wx (fun i x=>Wx (fun j y=>HZ i x.1 x.2.1 x.2.2 j y.1 y.2.2) (Eo ops ops.toList ms) 0) (Eo ops ops.toList ms) 0
theorem iI {ops:Array Oper}:∀ {l:List Oper} {ms:List Nat} {i:Nat} {o:Oper} {m:Nat},l[i]? = some o→ms[i]? = some m→(Eo ops l ms)[i]? = some (m,o.looksAt ops,o.dst)
 | [],ms,i,o,m,h,_=>by simp at h
 | o'::l,[],i,o,m,_,h=>by simp at h
 | o'::l,m'::ms,i,o,m,h1,h2=>by
   show ((m',o'.looksAt ops,o'.dst)::Eo ops l ms)[i]? = _
   cases i with
   | zero=>simp at h1 h2;subst h1 h2;rfl
   | succ i=>simp at h1 h2 ⊢;exact iI h1 h2
structure Ep (ops:Array Oper) (ms:List Nat):Prop where
 apart:∀ (i j:Nat) (oi oj:Oper) (mi mj d:Nat),ops[i]? = some oi→ops[j]? = some oj→ms[i]? = some mi→ms[j]? = some mj→i≠j→oj.dst=some d→oi.dst≠some d∧(d ∈ oi.looksAt ops→tb mi j=true∨tb mj i=true)
theorem Pf {ops:Array Oper} {ms:List Nat} (h:slots ops ms=true):Ep ops ms:=by
 refine ⟨fun i j oi oj mi mj d hi hj hmi hmj hne hd=>?_⟩
 have ri:=iI (ops:=ops) (l:=ops.toList) (by rw [Array.getElem?_toList];exact hi) hmi
 have rj:=iI (ops:=ops) (l:=ops.toList) (by rw [Array.getElem?_toList];exact hj) hmj
 have h1:=sZ (sZ h i _ ri) j _ rj
 simp only [Nat.zero_add] at h1
 rw [hd] at h1
 have h2:(Bool.rec (Bool.rec (Bool.rec true (Bool.rec (tb mj i) true (tb mi j)) (Wy d (oi.looksAt ops))) false (Em d oi.dst)) true (Nat.beq i j):Bool)=true:=h1
 have hb:Nat.beq i j=false:=by rw [i9];simp [hne]
 rw [hb] at h2
 constructor
 ·intro e
  rw [e] at h2
  have:Em d (some d)=true:=Nat.beq_refl d
  rw [this] at h2;cases h2
 ·intro hm
  cases hd2:Em d oi.dst with
  | true=>rw [hd2] at h2;cases h2
  | false =>
    rw [hd2,El hm] at h2
    cases h3:tb mi j with
    | true=>exact .inl rfl
    | false=>rw [h3] at h2;exact .inr h2
def Pg (f:AV→AV→Bool) (l:List AV):List AV→Bool:=
 List.rec (motive:=fun _=>List AV→Bool) (fun r=>match r with|[]=>true|_=>false) (fun x _ ih r=>match r with|y::r=>Bool.rec false (ih r) (f x y)|[]=>false) l
def VE (n:Nat):AV→AV→Bool:=
 Nat.rec (motive:=fun _=>AV→AV→Bool) (fun _ _=>false) (fun _ ih x y=>match x with
  | .int k a=>(match y with|.int l b=>Bool.rec false (c9 a b) (Nat.beq (kZ k) (kZ l))|_=>false)
  | .bool a=>(match y with|.bool b=>P6 a b|_=>false)
  | .str a=>(match y with|.str b=>seq a b|_=>false)
  | .nilp=>(match y with|.nilp=>true|_=>false)
  | .ptr a i=>(match y with|.ptr b j=>Bool.rec false (Nat.beq i j) (Ps.beq a b)|_=>false)
  | .nils=>(match y with|.nils=>true|_=>false)
  | .sl a i l c=>(match y with|.sl b j m d=>Bool.rec false (Bool.rec false (Bool.rec false (Nat.beq c d) (Nat.beq l m)) (Nat.beq i j)) (Ps.beq a b)|_=>false)
  | .su a i l c=>(match y with|.su b j m d=>Bool.rec false (Bool.rec false (Bool.rec false (Nat.beq c d) (Nat.beq l m)) (Nat.beq i j)) (Ps.beq a b)|_=>false)
  | .sa a i l c=>(match y with|.sa b j m d=>Bool.rec false (Bool.rec false (Bool.rec false (Nat.beq c d) (Nat.beq l m)) (Nat.beq i j)) (Ps.beq a b)|_=>false)
  | .pte a i l c=>(match y with|.pte b j m d=>Bool.rec false (Bool.rec false (Bool.rec false (Nat.beq c d) (Nat.beq l m)) (Nat.beq i j)) (Ps.beq a b)|_=>false)
  | .nilm=>(match y with|.nilm=>true|_=>false)
  | .mp a=>(match y with|.mp b=>Ps.beq a b|_=>false)
  | .nilf=>(match y with|.nilf=>true|_=>false)
  | .nili=>(match y with|.nili=>true|_=>false)
  | .ifc t v=>(match y with|.ifc u w=>Bool.rec false (ih v w) (Nat.beq t u)|_=>false)
  | .fn f a c=>(match y with|.fn g b d=>Bool.rec false (Bool.rec false (Pg ih c d) (Pg ih a b)) (Nat.beq f g)|_=>false)
  | .agg l=>(match y with|.agg r=>Pg ih l r|_=>false)
  | .tup l=>(match y with|.tup r=>Pg ih l r|_=>false)
  | _=>false) n
theorem S7 {b c:Bool} (h:(Bool.rec false c b:Bool)=true):b=true∧c=true:=by cases b with
 | false=>cases h
 | true=>exact ⟨rfl,h⟩
theorem eZ {f:AV→AV→Bool} (hf:∀ x y,f x y=true→x=y):∀ {l r:List AV},Pg f l r=true→l=r
 | [],[],_=>rfl
 | [],_::_,h=>by cases h
 | _::_,[],h=>by cases h
 | x::l,y::r,h=>by
   obtain ⟨h1,h2⟩:=S7 (b:=f x y) h
   rw [hf _ _ h1,eZ hf h2]
theorem dM {a b:Nat} (h:Nat.beq a b=true):a=b:=Nat.eq_of_beq_eq_true h
theorem IB (n:Nat):∀ x y,VE n x y=true→x=y:=by
 induction n with
 | zero=>intro x y h;cases h
 | succ n ih =>
   intro x y h
   cases x <;> cases y <;> first|(cases h;done)|skip
   case int k a l b=>obtain ⟨h1,h2⟩:=S7 (b:=Nat.beq (kZ k) (kZ l)) h;rw [X6] at h2;rw [eE h1,eq_of_beq h2]
   case bool a b=>cases a <;> cases b <;> first|rfl|cases h
   case str a b=>rw [kA.1 h]
   case nilp=>rfl
   case ptr a i b j=>obtain ⟨h1,h2⟩:=S7 (b:=Ps.beq a b) h;rw [Ps.beq_eq.1 h1,dM h2]
   case nils=>rfl
   case sl a i l c b j m d =>
    obtain ⟨h1,h2⟩:=S7 (b:=Ps.beq a b) h;obtain ⟨h3,h4⟩:=S7 h2;obtain ⟨h5,h6⟩:=S7 h4
    rw [Ps.beq_eq.1 h1,dM h3,dM h5,dM h6]
   case su a i l c b j m d =>
    obtain ⟨h1,h2⟩:=S7 (b:=Ps.beq a b) h;obtain ⟨h3,h4⟩:=S7 h2;obtain ⟨h5,h6⟩:=S7 h4
    rw [Ps.beq_eq.1 h1,dM h3,dM h5,dM h6]
   case sa a i l c b j m d =>
    obtain ⟨h1,h2⟩:=S7 (b:=Ps.beq a b) h;obtain ⟨h3,h4⟩:=S7 h2;obtain ⟨h5,h6⟩:=S7 h4
    rw [Ps.beq_eq.1 h1,dM h3,dM h5,dM h6]
   case pte a i l c b j m d =>
    obtain ⟨h1,h2⟩:=S7 (b:=Ps.beq a b) h;obtain ⟨h3,h4⟩:=S7 h2;obtain ⟨h5,h6⟩:=S7 h4
    rw [Ps.beq_eq.1 h1,dM h3,dM h5,dM h6]
   case nilm=>rfl
   case mp a b=>rw [Ps.beq_eq.1 h]
   case nilf=>rfl
   case nili=>rfl
   case ifc t v u w=>obtain ⟨h1,h2⟩:=S7 (b:=Nat.beq t u) h;rw [dM h1,ih _ _ h2]
   case fn f a c g b d =>
    obtain ⟨h1,h2⟩:=S7 (b:=Nat.beq f g) h;obtain ⟨h3,h4⟩:=S7 h2
    rw [dM h1,eZ ih h3,eZ ih h4]
   case agg l r=>rw [eZ ih h]
   case tup l r=>rw [eZ ih h]
def cK (c:Call):Nat:=match c.callee with|.builtin .len=>1|.builtin .max=>3|.builtin .min=>3|_=>2
def x8 (o:Op):Nat:=
 Op.rec (motive:=fun _=>Nat) (fun _=>3) (fun _=>3) (fun _ _ _=>3) (fun _=>0) (fun _ _=>0) (fun _ _=>3) (fun _ _ _=>0) (fun _ _ _ _=>2) (fun _ _=>1) (fun _ _ _=>2) (fun _=>2) (fun _=>2) (fun _=>3) (fun _ _ _ _ _=>3) (fun _ _ _=>3) (fun _ _ _=>1) (fun _ _=>2) (fun _ _=>3) (fun _ _ _=>3) (fun _ _=>0) (fun _ _=>2) (fun _ _ _=>0) (fun _ _ _ _ _=>1) (fun _ _ _=>3) (fun _ _ _=>3) (fun _ _ _=>3) (fun _ _ _=>3) (fun _ _ _ _=>1) (fun _ _ _ _=>2) (fun _ _ _=>2) (fun _ _ _ _=>2) (fun _ _=>2) (fun _ _=>2) (fun _=>2) (fun _ _ _ _=>3) (fun _ _=>3) cK (fun _=>2) (fun _=>2) (fun _=>3) (fun _ _=>2) (fun _ _ _=>2) (fun _ _=>2) o
theorem Er (op:Op):x8 op≤3:=by
 cases op <;> first|(simp [x8];done)|skip
 rename_i c
 show cK c≤3
 unfold cK
 split <;> omega
theorem IC {op:Op} (hk:x8 op=1∨x8 op=3) {E:i3} {tm:Tm} {S S':Hp} {ty:Nat} {x:AV} (h:O6 op E tm S ty=some (.v x S')):S'=S:=by
 cases op <;> first|(rcases hk with hk|hk <;> cases hk;done)|skip
 case call c =>
  cases hc:c.callee with
  | value f=>simp [x8,cK,hc] at hk
  | invoke a b=>simp [x8,cK,hc] at hk
  | builtin b =>
    cases b <;> first|(simp [x8,cK,hc] at hk;done)|skip
    all_goals
     obtain ⟨args,h1,h2⟩:=m9 (o:=F4 E.ng tm c.args.toList) h
     simp only [hc,sL] at h2
     split at h2
     ·obtain ⟨z,_,h4⟩:=l9 h2;cases h4;rfl
     ·cases h2
 case move=>obtain ⟨z,_,h4⟩:=l9 h;cases h4;rfl
 case assign=>obtain ⟨z,_,h4⟩:=l9 h;cases h4;rfl
 case pick c a b =>
  obtain ⟨a,_,h2⟩:=j4 h
  split at h2
  ·obtain ⟨z,_,h4⟩:=l9 h2;cases h4;rfl
  ·obtain ⟨z,_,h4⟩:=l9 h2;cases h4;rfl
  ·cases h2
 case build=>obtain ⟨a,_,h2⟩:=m9 h;obtain ⟨z,_,h4⟩:=l9 h2;cases h4;rfl
 case panic =>
  obtain ⟨a,_,h2⟩:=j4 h
  split at h2 <;> cases h2
 case load t a=>obtain ⟨a,_,h2⟩:=j4 h;obtain ⟨z,_,h4⟩:=l9 h2;cases h4;rfl
 case nilCheck a=>obtain ⟨a,_,h2⟩:=j4 h;obtain ⟨_,h3⟩:=d5 h2;cases h3;rfl
 case binOp=>obtain ⟨a,_,h2⟩:=j4 h;obtain ⟨b,_,h2⟩:=j4 h2;obtain ⟨z,_,h4⟩:=l9 h2;cases h4;rfl
 case unOp=>obtain ⟨a,_,h2⟩:=j4 h;obtain ⟨z,_,h4⟩:=l9 h2;cases h4;rfl
 case convert=>obtain ⟨a,_,h2⟩:=j4 h;obtain ⟨z,_,h4⟩:=l9 h2;cases h4;rfl
 case makeInterface=>obtain ⟨a,_,h2⟩:=j4 h;obtain ⟨z,_,h4⟩:=l9 h2;cases h4;rfl
 case makeFunc fn first cap =>
  simp only [O6,Mx] at h
  cases fn <;> first|(cases h;done)|skip
  obtain ⟨a,_,h2⟩:=m9 h;obtain ⟨b,_,h2⟩:=m9 h2;cases h2;rfl
 case slice =>
  obtain ⟨a,_,h2⟩:=j4 h
  split at h2
  ·obtain ⟨z,_,h4⟩:=l9 h2;cases h4;rfl
  ·cases h2
 case fieldAddr=>obtain ⟨a,_,h2⟩:=j4 h;obtain ⟨z,_,h4⟩:=l9 h2;cases h4;rfl
 case field=>obtain ⟨a,_,h2⟩:=j4 h;obtain ⟨z,_,h4⟩:=l9 h2;cases h4;rfl
 case indexAddr=>obtain ⟨a,_,h2⟩:=j4 h;obtain ⟨b,_,h2⟩:=j4 h2;obtain ⟨z,_,h4⟩:=l9 h2;cases h4;rfl
 case index=>obtain ⟨a,_,h2⟩:=j4 h;obtain ⟨b,_,h2⟩:=j4 h2;obtain ⟨z,_,h4⟩:=l9 h2;cases h4;rfl
 case lookup=>obtain ⟨a,_,h2⟩:=j4 h;obtain ⟨b,_,h2⟩:=j4 h2;obtain ⟨z,_,h4⟩:=l9 h2;cases h4;rfl
 case typeAssert=>obtain ⟨a,_,h2⟩:=j4 h;obtain ⟨z,_,h4⟩:=l9 h2;cases h4;rfl
 case extract =>
  obtain ⟨a,_,h2⟩:=j4 h
  split at h2
  ·obtain ⟨z,_,h4⟩:=l9 h2;cases h4;rfl
  ·cases h2
theorem XI {opt:Bool} {op:Op} (hk:x8 op=1∨x8 op=3) {E:i3} {tm:Tm} {S S':Hp} {x:AV} (h:Eb opt op E tm S=some (.v x S')):S'=S:=by
 cases op <;> first|(rcases hk with hk|hk <;> cases hk;done)|(cases h;done)|skip
 case call c =>
  obtain ⟨args,h1,h2⟩:=m9 (o:=F4 E.ng tm c.args.toList) h
  cases hc:c.callee with
  | value f=>rw [hc] at h2;cases h2
  | invoke a b=>rw [hc] at h2;cases h2
  | builtin b =>
    rw [hc] at h2
    cases b <;> first|(simp [x8,cK,hc] at hk;done)|(cases h2;done)|skip
    simp only [dI] at h2
    split at h2
    ·obtain ⟨z,_,h4⟩:=l9 h2;cases h4;rfl
    ·cases h2
 case load t a=>obtain ⟨a,_,h2⟩:=j4 h;obtain ⟨z,_,h4⟩:=l9 h2;cases h4;rfl
 case binOp=>obtain ⟨a,_,h2⟩:=j4 h;obtain ⟨b,_,h2⟩:=j4 h2;obtain ⟨z,_,h4⟩:=l9 h2;cases h4;rfl
 case slice =>
  obtain ⟨a,_,h2⟩:=j4 h
  split at h2
  ·obtain ⟨z,_,h4⟩:=l9 h2;cases h4;rfl
  ·cases h2
 case fieldAddr=>obtain ⟨a,_,h2⟩:=j4 h;obtain ⟨z,_,h4⟩:=l9 h2;cases h4;rfl
 case index=>obtain ⟨a,_,h2⟩:=j4 h;obtain ⟨b,_,h2⟩:=j4 h2;obtain ⟨z,_,h4⟩:=l9 h2;cases h4;rfl
 case indexAddr=>obtain ⟨a,_,h2⟩:=j4 h;obtain ⟨b,_,h2⟩:=j4 h2;obtain ⟨z,_,h4⟩:=l9 h2;cases h4;rfl
theorem XJ {opt:Bool} {op:Op} (hk:x8 op=1∨x8 op=3) {E:i3} {tm:Tm} {S S':Hp} {ty:Nat} {x:AV} (h:DE opt op E tm S ty=some (.v x S')):S'=S:=by
 unfold DE at h
 cases hr:Eb opt op E tm S with
 | none=>rw [hr] at h;exact IC hk h
 | some r=>rw [hr] at h;cases h;exact XI hk hr
theorem DI {op:Op} (hk:x8 op=1∨x8 op=3) {E:i3} {tm:Tm} {S S':Hp} {ty:Nat} {x:AV} (h:H7 op E tm S ty=some (.v x S')):S'=S:=XJ hk h
def vN (k:Nat) (v:AV):Bool:=
 AV.rec (motive_1:=fun _=>Bool) (motive_2:=fun _=>Bool) (fun _ _=>true) (fun _=>true) (fun _ _=>true) (fun _=>true) true (fun b _=>Nat.blt b.idx k) true (fun b _ _ _=>Nat.blt b.idx k) (fun b _ _ _=>Nat.blt b.idx k) true
  (fun b=>Nat.blt b.idx k) (fun _ _ _ x y=>Bool.rec false y x) (fun b=>Nat.blt b.idx k) true (fun _ _ x=>x) true (fun _ x=>x) (fun _ x=>x) (fun b _ _ _=>Nat.blt b.idx k) (fun b _ _ _=>Nat.blt b.idx k) true true (fun _ _ x y=>Bool.rec false y x) v
abbrev x5:=RO→Hp→SR
structure QE where
 i:Nat
 m:Nat
 o:Oper
 tm:Tm
 v:AV
structure F6 where
 tm:Tm
 B:T AO
 A:Nat
 Ef:Nat
 news:List (Nat × Ps × AO)
 levels:List (Nat × T AO)
 qs:List QE
 K:Ps
 pan:Option (Nat × AV × T AO)
def w9 (f:Nat→Bool) (B:T AO) (l:List (Nat × Ps × AO)):T AO:=
 List.rec B (fun x _ ih=>Bool.rec ih (T.set x.2.1 x.2.2 ih) (f x.1)) l
def W7 (m A:Nat):Nat→Bool:=fun p=>Bool.rec (tb m p) false (tb A p)
def OH (pan:Option (Nat × AV × T AO)) (m:Nat):Bool:=match pan with|some (j,_,_)=>tb m j|none=>false
def Ak (i m:Nat) (s:F6) (v:AV) (hp:T AO) (K':Ps):Option F6:=
 match s.pan with
 | some _=>none
 | none=>Bool.rec none (Bool.rec none (some ⟨s.tm,s.B,s.A,s.Ef,s.news,s.levels,s.qs,K',some (i,v,hp)⟩) (Nat.ble s.K.idx K'.idx)) (cI s.Ef m)
def OI (nt i m:Nat) (o:Oper) (s:F6) (r:Option RO) (H:T AO):Option F6:=
 match r with
 | some (.v x _)=>Option.rec none (fun tm'=>some ⟨tm',s.B,s.A,s.Ef,s.news,s.levels,s.qs,s.K,s.pan⟩) (A7 nt o.dst x s.tm)
 | some (.pan v)=>Ak i m s v H s.K
 | _=>none
def OJ (nt i:Nat) (o:Oper) (s:F6) (r:Option RO):Option F6:=
 match r with
 | some (.v x S')=>(match T.get s.K S'.hp with
   | some ob=>Bool.rec none (Option.rec none (fun tm'=>some ⟨tm',s.B,s.A,s.Ef,(i,s.K,ob)::s.news,s.levels,s.qs,Ps.succ s.K,s.pan⟩) (A7 nt o.dst x s.tm)) (Ps.beq S'.nx (Ps.succ s.K))
   | none=>none)
 | _=>none
def OK (nt i m:Nat) (o:Oper) (s:F6) (r:Option RO) (H:T AO):Option F6:=
 match r with
 | some (.v x _)=>Bool.rec none (Option.rec none (fun tm'=>some ⟨tm',s.B,s.A,s.Ef,s.news,s.levels,⟨i,m,o,s.tm,x⟩::s.qs,s.K,s.pan⟩) (A7 nt o.dst x s.tm)) (vN s.K.idx x)
 | some (.pan v)=>Ak i m s v H s.K
 | _=>none
def lvl (s:F6) (i m:Nat):Nat:=Nat.lor (Nat.lor s.A m) (Pd i)
def VF (nt i m:Nat) (o:Oper) (s:F6) (x:AV) (S':Hp):Option F6:=
 Bool.rec none (Option.rec none (fun tm'=>some ⟨tm',S'.hp,lvl s i m,Nat.lor s.Ef (Pd i),s.news,(lvl s i m,S'.hp)::s.levels,s.qs,S'.nx,s.pan⟩) (A7 nt o.dst x s.tm)) (Nat.ble s.K.idx S'.nx.idx)
def Ph (CALL:x5) (nt i m:Nat) (o:Oper) (s:F6) (r:Option RO) (H:Hp):Option F6:=
 match r with
 | some (.v x S')=>VF nt i m o s x S'
 | some (.call f args)=>(match CALL (.call f args) H with
   | .fin x S'=>VF nt i m o s x S'
   | .finP v S'=>Ak i m s v S'.hp S'.nx
   | _=>none)
 | some (.yld l args)=>(match CALL (.yld l args) H with
   | .fin x S'=>VF nt i m o s x S'
   | .finP v S'=>Ak i m s v S'.hp S'.nx
   | _=>none)
 | some (.pan v)=>Ak i m s v H.hp s.K
 | _=>none
def vO (CALL:x5) (E:i3) (nt:Nat) (i m:Nat) (o:Oper) (s:F6) (H:Hp):Option F6:=
 match s.pan with
 | some _=>none
 | none=>Bool.rec none (Ph CALL nt i m o s (H7 o.op E s.tm H o.type) H) (cI s.Ef m)
def YP (CALL:x5) (E:i3) (nt:Nat) (fl:Nat) (i:Nat) (o:Oper) (m:Nat) (s:F6) (H:T AO) (k:Nat):Option F6:=
 Nat.rec (OJ nt i o s (H7 o.op E s.tm ⟨.e,s.K,0⟩ o.type)) (fun k _=>Nat.rec (OK nt i m o s (H7 o.op E s.tm ⟨H,s.K,s.K.idx⟩ o.type) H)
  (fun k _=>Nat.rec (vO CALL E nt i m o s ⟨H,s.K,fl⟩) (fun _ _=>OI nt i m o s (H7 o.op E s.tm ⟨.e,s.K,0⟩ o.type) H) k) k) k
def mV (CALL:x5) (E:i3) (nt:Nat) (ops:Array Oper) (fl:Nat) (i:Nat) (o:Oper) (m:Nat) (s:F6):Option F6:=
 match OH s.pan m with
 | true=>some s
 | false=>(match y9 nt ops s.tm o with
   | none=>none
   | some false=>Option.rec none (fun tm'=>some ⟨tm',s.B,s.A,s.Ef,s.news,s.levels,s.qs,s.K,s.pan⟩) (A7 nt o.dst (.tup []) s.tm)
   | some true=>YP CALL E nt fl i o m s (w9 (W7 m s.A) s.B s.news) (x8 o.op))
def Pi (CALL:x5) (E:i3) (nt:Nat) (ops:Array Oper) (fl:Nat) (l:List Oper):List Nat→Nat→F6→Option F6:=
 List.rec (motive:=fun _=>List Nat→Nat→F6→Option F6) (fun _ _ s=>some s) (fun o _ ih ms i s=>match ms with
  | m::ms=>Option.rec none (ih ms (Nat.succ i)) (mV CALL E nt ops fl i o m s)
  | []=>none) l
inductive Oc where
 | skip
 | q (v:AV) (nw:Option AO)
 | qb (v:AV)
 | ef (v:AV)
 | pan (v:AV) (hp:T AO)
inductive Al (CALL:x5) (E:i3) (nt:Nat) (ops:Array Oper) (fl:Nat) (i:Nat) (o:Oper) (m:Nat) (s:F6):Oc→F6→Prop where
 | skip (h:OH s.pan m=true):Al CALL E nt ops fl i o m s .skip s
 | un {tm':Tm} (hw:y9 nt ops s.tm o=some false) (hp:A7 nt o.dst (.tup []) s.tm=some tm'):Al CALL E nt ops fl i o m s (.q (.tup []) none) ⟨tm',s.B,s.A,s.Ef,s.news,s.levels,s.qs,s.K,s.pan⟩
 | qr {x:AV} {tm':Tm} (hw:y9 nt ops s.tm o=some true) (he:H7 o.op E s.tm ⟨.e,s.K,0⟩ o.type=some (.v x ⟨.e,s.K,0⟩)) (hp:A7 nt o.dst x s.tm=some tm') :
  Al CALL E nt ops fl i o m s (.q x none) ⟨tm',s.B,s.A,s.Ef,s.news,s.levels,s.qs,s.K,s.pan⟩
 | qa {x:AV} {tm':Tm} {S':Hp} {ob:AO} (hw:y9 nt ops s.tm o=some true) (he:H7 o.op E s.tm ⟨.e,s.K,0⟩ o.type=some (.v x S')) (hn:S'.nx=Ps.succ s.K) (hg:T.get s.K S'.hp=some ob)
  (hp:A7 nt o.dst x s.tm=some tm'):Al CALL E nt ops fl i o m s (.q x (some ob)) ⟨tm',s.B,s.A,s.Ef,(i,s.K,ob)::s.news,s.levels,s.qs,Ps.succ s.K,s.pan⟩
 | qb {x:AV} {tm':Tm} (hw:y9 nt ops s.tm o=some true) (hk:x8 o.op=1) (hb:vN s.K.idx x=true) (hp:A7 nt o.dst x s.tm=some tm') :
  Al CALL E nt ops fl i o m s (.qb x) ⟨tm',s.B,s.A,s.Ef,s.news,s.levels,⟨i,m,o,s.tm,x⟩::s.qs,s.K,s.pan⟩
 | ef {x:AV} {tm':Tm} {S':Hp} (hw:y9 nt ops s.tm o=some true) (hn:s.pan=none) (hs:cI s.Ef m=true)
  (he:H7 o.op E s.tm ⟨w9 (W7 m s.A) s.B s.news,s.K,fl⟩ o.type=some (.v x S')∨∃ ro,H7 o.op E s.tm ⟨w9 (W7 m s.A) s.B s.news,s.K,fl⟩ o.type=some ro∧CALL ro ⟨w9 (W7 m s.A) s.B s.news,s.K,fl⟩=.fin x S')
  (hK:s.K.idx≤S'.nx.idx) (hp:A7 nt o.dst x s.tm=some tm') :
  Al CALL E nt ops fl i o m s (.ef x) ⟨tm',S'.hp,lvl s i m,Nat.lor s.Ef (Pd i),s.news,(lvl s i m,S'.hp)::s.levels,s.qs,S'.nx,s.pan⟩
 | pn {v:AV} {H:T AO} {f:Nat} (hw:y9 nt ops s.tm o=some true) (hn:s.pan=none) (hs:cI s.Ef m=true) (hH:∀ a b,T.get a H=some b→T.get a (w9 (W7 m s.A) s.B s.news)=some b)
  (hff:∀ a b,T.get a H=some b→f=fl∨f=s.K.idx) (he:H7 o.op E s.tm ⟨H,s.K,f⟩ o.type=some (.pan v)):Al CALL E nt ops fl i o m s (.pan v (w9 (W7 m s.A) s.B s.news)) ⟨s.tm,s.B,s.A,s.Ef,s.news,s.levels,s.qs,s.K,some (i,v,w9 (W7 m s.A) s.B s.news)⟩
 | pc {v:AV} {ro:RO} {S':Hp} (hw:y9 nt ops s.tm o=some true) (hn:s.pan=none) (hs:cI s.Ef m=true)
  (he:H7 o.op E s.tm ⟨w9 (W7 m s.A) s.B s.news,s.K,fl⟩ o.type=some ro) (hc:CALL ro ⟨w9 (W7 m s.A) s.B s.news,s.K,fl⟩=.finP v S') (hK:s.K.idx≤S'.nx.idx) :
  Al CALL E nt ops fl i o m s (.pan v S'.hp) ⟨s.tm,s.B,s.A,s.Ef,s.news,s.levels,s.qs,S'.nx,some (i,v,S'.hp)⟩
section
variable {CALL:x5} {E:i3} {nt:Nat} {ops:Array Oper} {fl:Nat} {i:Nat} {o:Oper} {m:Nat} {s s':F6}
theorem fA {v:AV} {hp:T AO} {K':Ps} (h:Ak i m s v hp K'=some s'):s.pan=none∧cI s.Ef m=true∧s.K.idx≤K'.idx∧s'=⟨s.tm,s.B,s.A,s.Ef,s.news,s.levels,s.qs,K',some (i,v,hp)⟩:=by
 unfold Ak at h
 split at h
 ·cases h
 ·rename_i hn
  obtain ⟨h1,h2⟩:=d5 h
  obtain ⟨h3,h4⟩:=d5 h2
  cases h4
  exact ⟨hn,h1,Nat.le_of_ble_eq_true h3,rfl⟩
theorem T.get_none_e {α:Type} (a:Ps):T.get a (.e:T α)=none:=T.get_e a
theorem Am {x:AV} {S':Hp} (h:VF nt i m o s x S'=some s'):s.K.idx≤S'.nx.idx∧∃ tm',A7 nt o.dst x s.tm=some tm'∧s'=⟨tm',S'.hp,lvl s i m,Nat.lor s.Ef (Pd i),s.news,(lvl s i m,S'.hp)::s.levels,s.qs,S'.nx,s.pan⟩:=by
 obtain ⟨h1,h2⟩:=d5 (b:=Nat.ble s.K.idx S'.nx.idx) h
 obtain ⟨tm',h3,h4⟩:=m9 (o:=A7 nt o.dst x s.tm) h2
 cases h4
 exact ⟨Nat.le_of_ble_eq_true h1,tm',h3,rfl⟩
theorem Pj (h:mV CALL E nt ops fl i o m s=some s'):∃ oc,Al CALL E nt ops fl i o m s oc s':=by
 unfold mV at h
 split at h
 ·rename_i hs
  cases h
  exact ⟨_,.skip hs⟩
 ·split at h
  ·cases h
  ·rename_i hw
   obtain ⟨tm',h1,h2⟩:=m9 (o:=A7 nt o.dst (.tup []) s.tm) h
   cases h2
   exact ⟨_,.un hw h1⟩
  ·rename_i hw
   have hsub:∀ a b,T.get a (.e:T AO)=some b→T.get a (w9 (W7 m s.A) s.B s.news)=some b:=fun a b e=>by rw [T.get_none_e] at e;cases e
   cases hk:x8 o.op with
   | zero =>
     rw [hk] at h
     have h':OJ nt i o s (H7 o.op E s.tm ⟨.e,s.K,0⟩ o.type)=some s':=h
     unfold OJ at h'
     split at h'
     ·rename_i x S' he
      split at h'
      ·rename_i ob hg
       obtain ⟨h1,h2⟩:=d5 h'
       obtain ⟨tm',h3,h4⟩:=m9 (o:=A7 nt o.dst x s.tm) h2
       cases h4
       exact ⟨_,.qa hw he (Ps.beq_eq.1 h1) hg h3⟩
      ·cases h'
     ·cases h'
   | succ k1 =>
     rw [hk] at h
     cases k1 with
     | zero =>
       have h':OK nt i m o s (H7 o.op E s.tm ⟨w9 (W7 m s.A) s.B s.news,s.K,s.K.idx⟩ o.type) (w9 (W7 m s.A) s.B s.news)=some s':=h
       unfold OK at h'
       split at h'
       ·rename_i x S' he
        obtain ⟨h1,h2⟩:=d5 h'
        obtain ⟨tm',h3,h4⟩:=m9 (o:=A7 nt o.dst x s.tm) h2
        cases h4
        exact ⟨_,.qb hw hk h1 h3⟩
       ·rename_i v he
        obtain ⟨h1,h2,h3,rfl⟩:=fA h'
        exact ⟨_,.pn hw h1 h2 (fun _ _ e=>e) (fun _ _ _=>.inr rfl) he⟩
       ·cases h'
     | succ k2 =>
       cases k2 with
       | zero =>
         have h':vO CALL E nt i m o s ⟨w9 (W7 m s.A) s.B s.news,s.K,fl⟩=some s':=h
         unfold vO at h'
         split at h'
         ·cases h'
         ·rename_i hn
          obtain ⟨h1,h2⟩:=d5 h'
          unfold Ph at h2
          split at h2
          ·rename_i x S' he
           obtain ⟨h3,tm',h4,rfl⟩:=Am h2
           exact ⟨_,.ef hw hn h1 (.inl he) h3 h4⟩
          ·rename_i f args he
           split at h2
           ·rename_i x S' hc
            obtain ⟨h3,tm',h4,rfl⟩:=Am h2
            exact ⟨_,.ef hw hn h1 (.inr ⟨_,he,hc⟩) h3 h4⟩
           ·rename_i v S' hc
            obtain ⟨h1,h3,h4,rfl⟩:=fA h2
            exact ⟨_,.pc hw h1 h3 he hc h4⟩
           ·cases h2
          ·rename_i l args he
           split at h2
           ·rename_i x S' hc
            obtain ⟨h3,tm',h4,rfl⟩:=Am h2
            exact ⟨_,.ef hw hn h1 (.inr ⟨_,he,hc⟩) h3 h4⟩
           ·rename_i v S' hc
            obtain ⟨h1,h3,h4,rfl⟩:=fA h2
            exact ⟨_,.pc hw h1 h3 he hc h4⟩
           ·cases h2
          ·rename_i v he
           obtain ⟨h1,h3,h4,rfl⟩:=fA h2
           exact ⟨_,.pn hw h1 h3 (fun _ _ e=>e) (fun _ _ _=>.inl rfl) he⟩
          ·cases h2
       | succ k3 =>
         have hk3:x8 o.op=3:=by
          have:=Er o.op
          omega
         have h':OI nt i m o s (H7 o.op E s.tm ⟨.e,s.K,0⟩ o.type) (w9 (W7 m s.A) s.B s.news)=some s':=h
         unfold OI at h'
         split at h'
         ·rename_i x S' he
          obtain ⟨tm',h3,h4⟩:=m9 (o:=A7 nt o.dst x s.tm) h'
          cases h4
          rw [DI (.inr hk3) he] at he
          exact ⟨_,.qr hw he h3⟩
         ·rename_i v he
          obtain ⟨h1,h2,h3,rfl⟩:=fA h'
          exact ⟨_,.pn hw h1 h2 hsub (fun a b e=>by rw [T.get_none_e] at e;cases e) he⟩
         ·cases h'
def Pk {α:Type} (x:α) (f:Nat→α):Nat→α|0=>x|n+1=>f n
theorem Es:∀ {l:List Oper} {ms:List Nat} {i:Nat} {s s':F6},Pi CALL E nt ops fl l ms i s=some s' →
 ∃ (P:Nat→F6) (oc:Nat→Oc),P 0=s∧P l.length=s'∧∀ j o m,l[j]? = some o→ms[j]? = some m→Al CALL E nt ops fl (i+j) o m (P j) (oc j) (P (j+1))
 | [],ms,i,s,s',h=>by
   cases h
   exact ⟨fun _=>s,fun _=>.skip,rfl,rfl,fun j o m e=>by simp at e⟩
 | o::l,[],i,s,s',h=>by cases h
 | o :: l,m::ms,i,s,s',h=>by
   have h':(Option.rec none (Pi CALL E nt ops fl l ms (i+1)) (mV CALL E nt ops fl i o m s):Option F6)=some s':=h
   obtain ⟨s1,h1,h2⟩:=m9 h'
   obtain ⟨oc1,h3⟩:=Pj h1
   obtain ⟨P,oc,g1,g2,g3⟩:=Es h2
   refine ⟨Pk s P,Pk oc1 oc,rfl,g2,fun j o' m' hj hm=>?_⟩
   cases j with
   | zero =>
     simp at hj hm
     subst hj hm
     show Al CALL E nt ops fl i o m s oc1 (P 0)
     rw [g1];exact h3
   | succ j =>
     have:=g3 j o' m' (by simpa using hj) (by simpa using hm)
     rw [show i+(j+1)=i+1+j from by omega]
     exact this
end
def Oc.val:Oc→Option AV|.q v _=>some v|.qb v=>some v|.ef v=>some v|_=>none
def Oc.isEf:Oc→Prop|.ef _=>True|_=>False
structure A9 (CALL:x5) (E:i3) (nt:Nat) (ops:Array Oper) (fl:Nat) (ms:List Nat) (P:Nat→F6) (oc:Nat→Oc) (tm0:Tm) (B0:T AO) (K0:Ps):Prop where
 masks:kK ops.toList ms
 slots:Ep ops ms
 init:P 0=⟨tm0,B0,0,0,[],[(0,B0)],[],K0,none⟩
 step:∀ j o m,ops[j]? = some o→ms[j]? = some m→Al CALL E nt ops fl j o m (P j) (oc j) (P (j+1))
section
variable {CALL:x5} {E:i3} {nt:Nat} {ops:Array Oper} {fl:Nat} {ms:List Nat} {P:Nat→F6} {oc:Nat→Oc} {tm0:Tm} {B0:T AO} {K0:Ps} (h:A9 CALL E nt ops fl ms P oc tm0 B0 K0)
include h
theorem A9.at {j:Nat} (hj:j < ops.size):∃ o m,ops[j]? = some o∧ms[j]? = some m∧Al CALL E nt ops fl j o m (P j) (oc j) (P (j+1)):=by
 have h1:ops[j]? = some ops[j]:=Array.getElem?_eq_getElem hj
 have h2:j < ms.length:=by rw [h.masks.len];simpa using hj
 have h3:ms[j]? = some ms[j]:=List.getElem?_eq_getElem h2
 exact ⟨_,_,h1,h3,h.step j _ _ h1 h3⟩
theorem A9.K1 {j:Nat} (hj:j < ops.size):(P j).K.idx≤(P (j+1)).K.idx:=by
 obtain ⟨o,m,h1,h2,h3⟩:=h.at hj
 generalize oc j=c at h3
 generalize hs:P (j+1)=s' at h3
 cases h3 with
 | skip h=>exact Nat.le_refl _
 | un hw hp=>exact Nat.le_refl _
 | qr hw he hp=>exact Nat.le_refl _
 | qa hw he hn hg hp=>show _≤(Ps.succ _).idx;rw [Ps.idx_succ];omega
 | qb hw hk hb hp=>exact Nat.le_refl _
 | ef hw hn hs he hK hp=>exact hK
 | pn hw hn hs hH hff he=>exact Nat.le_refl _
 | pc hw hn hs he hc hK=>exact hK
theorem A9.K {i j:Nat} (hij:i≤j) (hj:j≤ops.size):(P i).K.idx≤(P j).K.idx:=by
 induction j with
 | zero => have:i=0:=by omega
           subst this;exact Nat.le_refl _
 | succ j ih =>
   by_cases e:i=j+1
   ·subst e;exact Nat.le_refl _
   ·exact Nat.le_trans (ih (by omega) (by omega)) (h.K1 (by omega))
theorem A9.Ef {i:Nat} (hi:i≤ops.size) (e:Nat):tb (P i).Ef e=true↔e < i∧(oc e).isEf:=by
 induction i with
 | zero=>rw [h.init];simp [sY]
 | succ i ih =>
   obtain ⟨o,m,h1,h2,h3⟩:=h.at (j:=i) (by omega)
   have ih:=ih (by omega)
   have same:(P (i+1)).Ef=(P i).Ef→¬ (oc i).isEf→(tb (P (i+1)).Ef e=true↔e < i+1∧(oc e).isEf):=fun e1 e2=>by
    rw [e1,ih]
    constructor
    ·rintro ⟨a,b⟩;exact ⟨by omega,b⟩
    ·rintro ⟨a,b⟩
     refine ⟨?_,b⟩
     rcases Nat.lt_or_ge e i with h|h
     ·exact h
     ·have:e=i:=by omega
      subst this;exact absurd b e2
   generalize hc:oc i=c at h3 same
   generalize hs:P (i+1)=s' at h3 same
   cases h3 with
   | skip h=>exact same rfl (fun x=>x)
   | un hw hp=>exact same rfl (fun x=>x)
   | qr hw he hp=>exact same rfl (fun x=>x)
   | qa hw he hn hg hp=>exact same rfl (fun x=>x)
   | qb hw hk hb hp=>exact same rfl (fun x=>x)
   | pn hw hn hs hH hff he=>exact same rfl (fun x=>x)
   | pc hw hn hs he hc hK=>exact same rfl (fun x=>x)
   | ef hw hn hs he hK hp =>
     show tb (Nat.lor (P i).Ef (Pd i)) e=true↔_
     rw [eY,mT,Bool.or_eq_true,ih]
     simp only [decide_eq_true_eq]
     constructor
     ·rintro (⟨a,b⟩|rfl)
      ·exact ⟨by omega,b⟩
      ·exact ⟨by omega,by rw [hc];trivial⟩
     ·rintro ⟨a,b⟩
      rcases Nat.lt_or_ge e i with h|h
      ·exact .inl ⟨h,b⟩
      ·exact .inr (by omega)
theorem A9.A1 {i:Nat} (hi:i≤ops.size) {e:Nat} (he:e < i) (hf:(oc e).isEf):tb (P i).A e=true:=by
 induction i with
 | zero=>omega
 | succ i ih =>
   obtain ⟨o,m,h1,h2,h3⟩:=h.at (j:=i) (by omega)
   have ih:=ih (by omega)
   have same:(P (i+1)).A=(P i).A→¬ (oc i).isEf→tb (P (i+1)).A e=true:=fun e1 e2=>by
    rw [e1];refine ih ?_
    rcases Nat.lt_or_ge e i with h|h
    ·exact h
    ·have:e=i:=by omega
     subst this;exact absurd hf e2
   generalize hc:oc i=c at h3 same
   generalize hs:P (i+1)=s' at h3 same
   cases h3 with
   | skip h=>exact same rfl (fun x=>x)
   | un hw hp=>exact same rfl (fun x=>x)
   | qr hw he hp=>exact same rfl (fun x=>x)
   | qa hw he hn hg hp=>exact same rfl (fun x=>x)
   | qb hw hk hb hp=>exact same rfl (fun x=>x)
   | pn hw hn hs hH hff he=>exact same rfl (fun x=>x)
   | pc hw hn hs he hc hK=>exact same rfl (fun x=>x)
   | ef hw hn hs he' hK hp =>
     show tb (Nat.lor (Nat.lor (P i).A m) (Pd i)) e=true
     rw [eY,eY,mT]
     rcases Nat.lt_or_ge e i with h|h
     ·rw [ih h];rfl
     ·have:i=e:=by omega
      simp [this]
theorem A9.A2 {i:Nat} (hi:i≤ops.size) {p:Nat} (hp:tb (P i).A p=true):∃ e,e < i∧(oc e).isEf∧(p=e∨∃ m,ms[e]? = some m∧tb m p=true):=by
 induction i with
 | zero=>rw [h.init] at hp;rw [sY] at hp;cases hp
 | succ i ih =>
   obtain ⟨o,m,h1,h2,h3⟩:=h.at (j:=i) (by omega)
   have ih:=ih (by omega)
   have up:tb (P i).A p=true→∃ e,e < i+1∧(oc e).isEf∧(p=e∨∃ m,ms[e]? = some m∧tb m p=true):=fun x=>by
    obtain ⟨e,a,b⟩:=ih x;exact ⟨e,by omega,b⟩
   generalize hc:oc i=c at h3
   generalize hs:P (i+1)=s' at h3 hp
   cases h3 with
   | skip h=>exact up hp
   | un hw _=>exact up hp
   | qr hw he _=>exact up hp
   | qa hw he hn hg _=>exact up hp
   | qb hw hk hb _=>exact up hp
   | pn hw hn hs hH hff he=>exact up hp
   | pc hw hn hs he hc hK=>exact up hp
   | ef hw hn hs he' hK _ =>
     have hp:tb (Nat.lor (Nat.lor (P i).A m) (Pd i)) p=true:=hp
     rw [eY,eY,mT] at hp
     simp only [Bool.or_eq_true,decide_eq_true_eq] at hp
     rcases hp with (hp|hp)|hp
     ·exact up hp
     ·exact ⟨i,by omega,by rw [hc];trivial,.inr ⟨m,h2,hp⟩⟩
     ·exact ⟨i,by omega,by rw [hc];trivial,.inl hp.symm⟩
theorem A9.AB {i j:Nat} (hij:i≤j) (hj:j≤ops.size) (hn:∀ e,i≤e→e < j→¬ (oc e).isEf):(P j).A=(P i).A∧(P j).B=(P i).B:=by
 induction j with
 | zero => have:i=0:=by omega
           subst this;exact ⟨rfl,rfl⟩
 | succ j ih =>
   by_cases e:i=j+1
   ·subst e;exact ⟨rfl,rfl⟩
   ·have ih:=ih (by omega) (by omega) (fun e a b=>hn e a (by omega))
    obtain ⟨o,m,h1,h2,h3⟩:=h.at (j:=j) (by omega)
    have hne:=hn j (by omega) (by omega)
    generalize hc:oc j=c at h3 hne
    generalize hs:P (j+1)=s' at h3
    cases h3 with
    | skip h=>exact ih
    | un hw hp=>exact ih
    | qr hw he hp=>exact ih
    | qa hw he hn hg hp=>exact ih
    | qb hw hk hb hp=>exact ih
    | pn hw hn hs hH hff he=>exact ih
    | pc hw hn hs he hc hK=>exact ih
    | ef hw hn hs he' hK hp=>exact absurd trivial hne
theorem A9.news1 {i:Nat} (hi:i≤ops.size) {p:Nat} {k:Ps} {b:AO} (hp:(p,k,b) ∈ (P i).news):p < i∧k=(P p).K∧∃ v,oc p=.q v (some b):=by
 induction i with
 | zero=>rw [h.init] at hp;cases hp
 | succ i ih =>
   obtain ⟨o,m,h1,h2,h3⟩:=h.at (j:=i) (by omega)
   have ih:=ih (by omega)
   have up:(p,k,b) ∈ (P i).news→p < i+1∧k=(P p).K∧∃ v,oc p=.q v (some b):=fun x=>by
    obtain ⟨a,r⟩:=ih x;exact ⟨by omega,r⟩
   generalize hc:oc i=c at h3
   generalize hs:P (i+1)=s' at h3 hp
   cases h3 with
   | skip h=>exact up hp
   | un hw _=>exact up hp
   | qr hw he _=>exact up hp
   | qb hw hk hb _=>exact up hp
   | pn hw hn hs hH hff he=>exact up hp
   | pc hw hn hs he hc hK=>exact up hp
   | ef hw hn hs he' hK _=>exact up hp
   | qa hw he hn hg _ =>
     rcases List.mem_cons.1 hp with e|e
     ·cases e;exact ⟨by omega,rfl,_,hc⟩
     ·exact up e
theorem A9.qs {i:Nat} (hi:i≤ops.size) {q:Nat} {v:AV} (hq:q < i) (ho:oc q=.qb v) {o:Oper} {m:Nat} (hoq:ops[q]? = some o) (hmq:ms[q]? = some m):(⟨q,m,o,(P q).tm,v⟩:QE) ∈ (P i).qs:=by
 induction i with
 | zero=>omega
 | succ i ih =>
   obtain ⟨o',m',h1,h2,h3⟩:=h.at (j:=i) (by omega)
   have ih:=ih (by omega)
   have up:(P (i+1)).qs=(P i).qs→(∀ v,oc i≠.qb v)→(⟨q,m,o,(P q).tm,v⟩:QE) ∈ (P (i+1)).qs:=fun e1 e2=>by
    rw [e1];refine ih ?_
    rcases Nat.lt_or_ge q i with h|h
    ·exact h
    ·have:q=i:=by omega
     subst this;exact absurd ho (e2 v)
   generalize hc:oc i=c at h3 up
   generalize hs:P (i+1)=s' at h3 up
   cases h3 with
   | skip h=>exact up rfl (fun _ e=>by cases e)
   | un hw _=>exact up rfl (fun _ e=>by cases e)
   | qr hw he _=>exact up rfl (fun _ e=>by cases e)
   | qa hw he hn hg _=>exact up rfl (fun _ e=>by cases e)
   | pn hw hn hs hH hff he=>exact up rfl (fun _ e=>by cases e)
   | pc hw hn hs he hc hK=>exact up rfl (fun _ e=>by cases e)
   | ef hw hn hs he' hK _=>exact up rfl (fun _ e=>by cases e)
   | qb hw hk hb _ =>
     rcases Nat.lt_or_ge q i with h|h
     ·exact List.mem_cons_of_mem _ (ih h)
     ·have:q=i:=by omega
      subst this
      rw [h1] at hoq;cases hoq
      rw [h2] at hmq;cases hmq
      rw [hc] at ho;cases ho
      exact List.mem_cons_self ..
theorem A9.levels {i l:Nat} (hi:i≤ops.size) (hl:l≤i) (hf:l=0∨∃ e,l=e+1∧(oc e).isEf):((P l).A,(P l).B) ∈ (P i).levels:=by
 induction i with
 | zero => have:l=0:=by omega
           subst this;rw [h.init];simp
 | succ i ih =>
   obtain ⟨o',m',h1,h2,h3⟩:=h.at (j:=i) (by omega)
   have ih:=ih (by omega)
   have up:(P (i+1)).levels=(P i).levels→¬ (oc i).isEf→((P l).A,(P l).B) ∈ (P (i+1)).levels:=fun e1 e2=>by
    rw [e1];refine ih ?_
    rcases Nat.lt_or_ge l (i+1) with h|h
    ·omega
    ·have:l=i+1:=by omega
     subst this
     rcases hf with hf|⟨e,hf,hg⟩
     ·omega
     ·have:e=i:=by omega
      subst this;exact absurd hg e2
   generalize hc:oc i=c at h3 up
   generalize hs:P (i+1)=s' at h3 up
   cases h3 with
   | skip h=>exact up rfl (fun x=>x)
   | un hw _=>exact up rfl (fun x=>x)
   | qr hw he _=>exact up rfl (fun x=>x)
   | qa hw he hn hg _=>exact up rfl (fun x=>x)
   | pn hw hn hs hH hff he=>exact up rfl (fun x=>x)
   | pc hw hn hs he hc hK=>exact up rfl (fun x=>x)
   | qb hw hk hb _=>exact up rfl (fun x=>x)
   | ef hw hn hs' he' hK _ =>
     rcases Nat.lt_or_ge l (i+1) with h|h
     ·exact List.mem_cons_of_mem _ (ih (by omega))
     ·have:l=i+1:=by omega
      subst this
      rw [hs]
      exact List.mem_cons_self ..
theorem A9.pan1 {i:Nat} (hi:i≤ops.size) {p:Nat} {v:AV} {hp:T AO} (hpn:(P i).pan=some (p,v,hp)):p < i∧oc p=.pan v hp:=by
 induction i with
 | zero=>rw [h.init] at hpn;cases hpn
 | succ i ih =>
   obtain ⟨o',m',h1,h2,h3⟩:=h.at (j:=i) (by omega)
   have ih:=ih (by omega)
   have up:(P i).pan=some (p,v,hp)→p < i+1∧oc p=.pan v hp:=fun x=>by
    obtain ⟨a,b⟩:=ih x;exact ⟨by omega,b⟩
   generalize hc:oc i=c at h3
   generalize hs:P (i+1)=s' at h3 hpn
   cases h3 with
   | skip h=>exact up hpn
   | un hw _=>exact up hpn
   | qr hw he _=>exact up hpn
   | qa hw he hn hg _=>exact up hpn
   | qb hw hk hb _=>exact up hpn
   | ef hw hn hs' he' hK _=>exact up hpn
   | pn hw hn hs hH hff he=>cases hpn;exact ⟨by omega,hc⟩
   | pc hw hn hs he hc' hK=>cases hpn;exact ⟨by omega,hc⟩
theorem A9.pan2 {i:Nat} (hi:i≤ops.size) {p:Nat} {v:AV} {hp:T AO} (hlt:p < i) (ho:oc p=.pan v hp):(P i).pan=some (p,v,hp):=by
 induction i with
 | zero=>omega
 | succ i ih =>
   obtain ⟨o',m',h1,h2,h3⟩:=h.at (j:=i) (by omega)
   have ih:=ih (by omega)
   by_cases e:p=i
   ·subst e
    generalize hs:P (p+1)=s' at h3
    generalize hc:oc p=c at h3
    rw [hc] at ho;subst ho
    cases h3 <;> rfl
   ·have hq:=ih (by omega)
    generalize hc:oc i=c at h3
    generalize hs:P (i+1)=s' at h3
    cases h3 with
    | skip h=>exact hq
    | un hw _=>exact hq
    | qr hw he _=>exact hq
    | qa hw he hn hg _=>exact hq
    | qb hw hk hb _=>exact hq
    | ef hw hn hs' he' hK _=>rw [hn] at hq;cases hq
    | pn hw hn hs hH hff he=>rw [hn] at hq;cases hq
    | pc hw hn hs he hc' hK=>rw [hn] at hq;cases hq
theorem A9.skip {i:Nat} (hi:i < ops.size) (ho:oc i=.skip) {m:Nat} (hm:ms[i]? = some m):∃ p v hp,p < i∧oc p=.pan v hp∧tb m p=true:=by
 obtain ⟨o',m',h1,h2,h3⟩:=h.at hi
 rw [h2] at hm;cases hm
 generalize hs:P (i+1)=s' at h3
 rw [ho] at h3
 cases h3 with
 | skip hk =>
   unfold OH at hk
   split at hk
   ·rename_i p v hp e
    obtain ⟨a,b⟩:=h.pan1 (by omega) e
    exact ⟨p,v,hp,a,b,hk⟩
   ·cases hk
end
theorem vQ {nt:Nat} {d:Option Nat} {v:AV} {tm tm':Tm} (h:A7 nt d v tm=some tm') (t:Nat):(d=some t→n8 tm' t=v∧t < nt)∧(d≠some t→n8 tm' t=n8 tm t):=by
 cases d with
 | none=>cases h;exact ⟨fun e=>(by cases e),fun _=>rfl⟩
 | some d =>
   obtain ⟨h1,h2⟩:=d5 (b:=Nat.blt d nt) h
   cases h2
   rw [f6] at h1
   constructor
   ·intro e
    cases e
    exact ⟨L5 _ _ _,of_decide_eq_true h1⟩
   ·intro e
    exact X4 (fun e'=>e (by rw [e'])) _ _
def An (ops:Array Oper) (oc:Nat→Oc) (tm0 tm:Tm) (X:Nat→Prop):Prop:=
 ∀ t,(∀ p o v,X p→ops[p]? = some o→o.dst=some t→(oc p).val=some v→n8 tm t=v) ∧
   ((∀ p o v,X p→ops[p]? = some o→(oc p).val=some v→o.dst≠some t)→n8 tm t=n8 tm0 t)
section
variable {CALL:x5} {E:i3} {nt:Nat} {ops:Array Oper} {fl:Nat} {ms:List Nat} {P:Nat→F6} {oc:Nat→Oc} {tm0:Tm} {B0:T AO} {K0:Ps} (h:A9 CALL E nt ops fl ms P oc tm0 B0 K0)
theorem Al.tm {i:Nat} {o:Oper} {m:Nat} {s s':F6} {c:Oc} (h:Al CALL E nt ops fl i o m s c s'):(∀ v,c.val=some v→A7 nt o.dst v s.tm=some s'.tm)∧(c.val=none→s'.tm=s.tm):=by
 cases h <;> first|exact ⟨fun v e=>(by cases e;assumption),fun e=>(by cases e)⟩|exact ⟨fun v e=>(by cases e),fun _=>rfl⟩
include h
theorem A9.dst_ne {i j:Nat} {oi oj:Oper} (hi:ops[i]? = some oi) (hj:ops[j]? = some oj) (hne:i≠j) {d:Nat} (hd:oj.dst=some d):oi.dst≠some d:=by
 obtain ⟨_,mi,_,h1,_⟩:=h.at (Array.getElem?_eq_some_iff.1 hi).1
 obtain ⟨_,mj,_,h2,_⟩:=h.at (Array.getElem?_eq_some_iff.1 hj).1
 exact (h.slots.apart i j oi oj mi mj d hi hj h1 h2 hne hd).1
theorem A9.slot_step {X:Nat→Prop} {tm tm':Tm} (hX:An ops oc tm0 tm X) {i:Nat} {o:Oper} (ho:ops[i]? = some o)
 (hv:∀ v,(oc i).val=some v→A7 nt o.dst v tm=some tm') (hn:(oc i).val=none→tm'=tm):An ops oc tm0 tm' (fun p=>X p∨p=i):=by
 intro t
 cases hval:(oc i).val with
 | none =>
   rw [hn hval]
   refine ⟨fun p o' v hp ho' hd hv'=>?_,fun hh=>?_⟩
   ·rcases hp with hp|rfl
    ·exact (hX t).1 p o' v hp ho' hd hv'
    ·rw [hval] at hv';cases hv'
   ·exact (hX t).2 (fun p o' v hp=>hh p o' v (.inl hp))
 | some v =>
   obtain ⟨g1,g2⟩:=vQ (hv v hval) t
   refine ⟨fun p o' v' hp ho' hd hv'=>?_,fun hh=>?_⟩
   ·by_cases e:p=i
    ·subst e
     rw [ho] at ho';cases ho'
     rw [hval] at hv';cases hv'
     exact (g1 hd).1
    ·rcases hp with hp|rfl
     ·rw [g2 (h.dst_ne ho ho' (fun e'=>e e'.symm) hd)]
      exact (hX t).1 p o' v' hp ho' hd hv'
     ·exact absurd rfl e
   ·rw [g2 (hh i o v (.inr rfl) ho hval)]
    exact (hX t).2 (fun p o' v hp=>hh p o' v (.inl hp))
theorem A9.slotP {i:Nat} (hi:i≤ops.size):An ops oc tm0 (P i).tm (fun p=>p < i):=by
 induction i with
 | zero=>rw [h.init];exact fun t=>⟨fun p o v hp=>by omega,fun _=>rfl⟩
 | succ i ih =>
   obtain ⟨o,m,h1,h2,h3⟩:=h.at (j:=i) (by omega)
   have:=h.slot_step (ih (by omega)) h1 h3.tm.1 h3.tm.2
   intro t
   refine ⟨fun p o v hp=>(this t).1 p o v (by omega),fun hh=>(this t).2 (fun p o v hp=>hh p o v (by omega))⟩
theorem A9.back {q:Nat}:∀ {mq:Nat},ms[q]? = some mq→∀ p,tb mq p=true→p < q:=by
 induction q using Nat.strongRecOn with
 | _ q ih =>
   intro mq hq p hp
   have hlt:q < ops.size:=by have:=(List.getElem?_eq_some_iff.1 hq).1;rw [h.masks.len] at this;simpa using this
   obtain ⟨o,m,h1,h2,_⟩:=h.at hlt
   have hm:mq=m:=by rw [h2] at hq;exact (Option.some.inj hq).symm
   subst hm
   have h1':ops.toList[q]? = some o:=by rw [Array.getElem?_toList];exact h1
   obtain ⟨e,he,hb,r⟩:=h.masks.bits q o _ h1' h2 p hp
   have hlt2:=h.masks.back q o h1' e he hb
   rcases r with rfl|⟨m',h3,h4⟩
   ·exact hlt2
   ·have:=ih e.on hlt2 h3 p h4;omega
end
def Gm.cut (γ:Gm) (k:Nat):Gm:=fun a=>if a.idx < k then γ a else none
theorem Gm.cut_le (γ:Gm) (k:Nat):Gm.le (γ.cut k) γ:=by
 intro a L h
 unfold Gm.cut at h
 split at h
 ·exact h
 ·cases h
theorem Gm.cut_some {γ:Gm} {k:Nat} {a:Ps} {L:Loc}:γ.cut k a=some L↔a.idx < k∧γ a=some L:=by
 unfold Gm.cut
 split
 ·rename_i h;exact ⟨fun e=>⟨h,e⟩,fun e=>e.2⟩
 ·rename_i h;exact ⟨fun e=>(by cases e),fun e=>absurd e.1 h⟩
theorem Gm.cut_mono {γ γ':Gm} {k k':Nat} (h:Gm.le γ γ') (hk:k≤k'):Gm.le (γ.cut k) (γ'.cut k'):=by
 intro a L e
 obtain ⟨h1,h2⟩:=Gm.cut_some.1 e
 exact Gm.cut_some.2 ⟨by omega,h _ _ h2⟩
structure fB (S:Hp) (γ0:Gm) (w0:World) (ng:Nat) (O:Ps→AO→Nat→Prop) (D:Nat→Prop) (γ:Gm) (w:World):Prop where
 obj:∀ a b c,O a b c→a.idx < c∧∃ L ob,γ a=some L∧w.heap[L.blk]? = some ob∧OR (γ.cut c) L b ob
 inj:∀ a a' b b' c c' L L',O a b c→O a' b' c'→γ a=some L→γ a'=some L'→L.blk=L'.blk→a=a'∨(a.idx < S.fl∧a'.idx < S.fl)
 glob:∀ g,g < ng→∃ s,γ (Ps.of g)=some ⟨g,0,s⟩
 dom:∀ a L,γ a=some L→D a.idx
 ext:Gm.le γ0 γ
 size:w0.heap.size≤w.heap.size
 keep:∀ r,r < w0.heap.size→(∀ a o L,S.hp.get a=some o→S.fl≤a.idx→γ0 a=some L→L.blk≠r)→w.heap[r]? = w0.heap[r]?
 desc:∀ a b c L,O a b c→S.fl≤a.idx→γ a=some L→w0.heap.size≤L.blk∨∃ a₀ o₀ L₀,S.hp.get a₀=some o₀∧S.fl≤a₀.idx∧γ0 a₀=some L₀∧L₀.blk=L.blk
 back:∀ a b c,O a b c→a.idx < S.fl→S.hp.get a=some b
 new:∀ a L,γ a=some L→a.idx < S.nx.idx→γ0 a=some L
 os:(w.os,w.tape)=(w0.os,w0.tape)
 out:w.output=w0.output
section
variable {S:Hp} {γ0:Gm} {w0:World} {ng:Nat} {O:Ps→AO→Nat→Prop} {D:Nat→Prop} {γ:Gm} {w:World}
theorem fB.start (hH:HR γ ng S w) (c:Nat) (hc:S.nx.idx≤c) (D:Nat→Prop) (hD:∀ n,n < S.nx.idx→D n):fB S γ w ng (fun a b k=>T.get a S.hp=some b∧k=c) D γ w:=by
 refine ⟨fun a b c' h=>?_,fun a a' b b' c c' L L' h h'=>hH.inj a a' b b' L L' h.1 h'.1,hH.glob,fun a L e=>hD _ (hH.fresh a L e),Gm.le_refl _,Nat.le_refl _,fun _ _ _=>rfl,
  fun a b c L h1 h2 h3=>.inr ⟨a,b,L,h1.1,h2,h3,rfl⟩,fun a b c h _=>h.1,fun _ _ e _=>e,rfl,rfl⟩
 obtain ⟨h1,rfl⟩:=h
 obtain ⟨L,ob,g1,g2,g3⟩:=hH.obj a b h1
 have:=hH.fresh _ _ g1
 refine ⟨by omega,L,ob,g1,g2,g3.mono ?_⟩
 intro x L hx
 have:=hH.fresh _ _ hx
 exact Gm.cut_some.2 ⟨by omega,hx⟩
theorem fB.sub (h:fB S γ0 w0 ng O D γ w) {H:T AO} {k:Ps} {f:Nat} (hs:∀ a b,T.get a H=some b→∃ c,O a b c∧c≤k.idx) (hg:ng≤k.idx) (hfH:∀ a b,T.get a H=some b→f≤a.idx→S.fl≤a.idx):HR (γ.cut k.idx) ng ⟨H,k,f⟩ w:=by
 refine ⟨fun a b hb=>?_,fun a a' b b' L L' hb hb' hL hL' e=>?_,fun a L e=>(Gm.cut_some.1 e).1,fun g hgl=>?_⟩
 ·obtain ⟨c,h1,h2⟩:=hs a b hb
  obtain ⟨h3,L,ob,h4,h5,h6⟩:=h.obj a b c h1
  exact ⟨L,ob,Gm.cut_some.2 ⟨by omega,h4⟩,h5,h6.mono (Gm.cut_mono (Gm.le_refl _) h2)⟩
 ·obtain ⟨c,h1,h2⟩:=hs a b hb
  obtain ⟨c',h1',h2'⟩:=hs a' b' hb'
  refine (h.inj a a' b b' c c' L L' h1 h1' (Gm.cut_some.1 hL).2 (Gm.cut_some.1 hL').2 e).imp id (fun ⟨k1,k2⟩=>⟨?_,?_⟩)
  ·rcases Nat.lt_or_ge a.idx f with hx|hx
   ·exact hx
   ·have:=hfH a b hb hx;omega
  ·rcases Nat.lt_or_ge a'.idx f with hx|hx
   ·exact hx
   ·have:=hfH a' b' hb' hx;omega
 ·obtain ⟨s,hs⟩:=h.glob g hgl
  exact ⟨s,Gm.cut_some.2 ⟨by rw [Ps.idx_of];omega,hs⟩⟩
def Gm.glue (γ γr:Gm) (k k':Nat):Gm:=fun a=>if k≤a.idx∧a.idx < k' then γr a else γ a
theorem fB.next (h:fB S γ0 w0 ng O D γ w) {H:T AO} {k:Ps} {f:Nat} {S':Hp} {γr:Gm} {w':World} {O':Ps→AO→Nat→Prop}
 (hs:∀ a b,T.get a H=some b→∃ c,O a b c∧c≤k.idx) (hf:f≤k.idx) (hk:S.nx.idx≤k.idx) (hfl:S.fl≤k.idx)
 (hfH:∀ a b,T.get a H=some b→f≤a.idx→S.fl≤a.idx)
 (hH':HR γr ng S' w') (hP:j6 ⟨H,k,f⟩ (γ.cut k.idx) w S' γr w')
 (hD:∀ n,D n→¬ (k.idx≤n∧n < S'.nx.idx))
 (hO:∀ a b c,O' a b c→(T.get a S'.hp=some b∧S'.nx.idx≤c∧(f=S.fl∨k.idx≤a.idx))∨(O a b c∧(T.get a H=none∨k.idx≤f))) :
 fB S γ0 w0 ng O' (fun n=>D n∨(k.idx≤n∧n < S'.nx.idx)) (γ.glue γr k.idx S'.nx.idx) w'∧Gm.le γ (γ.glue γr k.idx S'.nx.idx)∧Gm.le γr ((γ.glue γr k.idx S'.nx.idx).cut S'.nx.idx) ∧
 ∀ a b c,O a b c→T.get a H=none→T.get a S'.hp=none:=by
 have g1:Gm.le γ (γ.glue γr k.idx S'.nx.idx):=by
  intro a L e
  unfold Gm.glue
  rw [if_neg (hD _ (h.dom a L e))];exact e
 have g0:∀ a L,γr a=some L→a.idx < k.idx→γ a=some L:=fun a L e hlt=>(Gm.cut_some.1 (hP.new a L e hlt)).2
 have g2:Gm.le γr ((γ.glue γr k.idx S'.nx.idx).cut S'.nx.idx):=by
  intro a L e
  have hlt:=hH'.fresh a L e
  refine Gm.cut_some.2 ⟨hlt,?_⟩
  unfold Gm.glue
  split
  ·exact e
  ·rename_i hn
   exact g0 a L e (by omega)
 have g3:∀ a L,(γ.glue γr k.idx S'.nx.idx) a=some L→γ a=some L∨(k.idx≤a.idx∧a.idx < S'.nx.idx∧γr a=some L):=by
  intro a L e
  unfold Gm.glue at e
  split at e
  ·rename_i hh;exact .inr ⟨hh.1,hh.2,e⟩
  ·exact .inl e
 have g4:∀ a b L,T.get a S'.hp=some b→(γ.glue γr k.idx S'.nx.idx) a=some L→γr a=some L:=by
  intro a b L hb e
  obtain ⟨M,ob,h1,_⟩:=hH'.obj a b hb
  have:=(Gm.cut_some.1 (g2 a M h1)).2
  rw [e] at this;cases this;exact h1
 have g5:∀ a b c L,O a b c→(T.get a H=none∨k.idx≤f)→γ a=some L→w'.heap[L.blk]? = w.heap[L.blk]?:=by
  intro a b c L ho hc hL
  obtain ⟨_,M,ob,h1,h2,_⟩:=h.obj a b c ho
  rw [hL] at h1;cases h1
  refine hP.keep L.blk (Array.getElem?_eq_some_iff.1 h2).1 (fun a1 b1 L1 hb1 hf1 hL1 e=>?_)
  obtain ⟨c1,ho1,Yf⟩:=hs a1 b1 hb1
  have hL1':=(Gm.cut_some.1 hL1).2
  rcases hc with hc|hc
  ·have:=(h.inj a1 a b1 b c1 c L1 L ho1 ho hL1' hL e).resolve_right (fun hx=>by have:=hfH a1 b1 hb1 hf1;omega)
   subst this
   have hb1:T.get a1 H=some b1:=hb1
   rw [hc] at hb1;cases hb1
  ·have:=(Gm.cut_some.1 hL1).1
   have hf1:f≤a1.idx:=hf1
   omega
 have g6 : ∀ a b L a' b' c' L',T.get a S'.hp=some b→(f=S.fl∨k.idx≤a.idx)→γr a=some L→O a' b' c'→(T.get a' H=none∨k.idx≤f)→γ a'=some L'→L.blk=L'.blk→a=a'∨(a.idx < S.fl∧a'.idx < S.fl):=by
  intro a b L a' b' c' L' hb hka hL ho' hc' hL' e
  by_cases hfa:f≤a.idx
  ·rcases hP.desc a b L hb (by rw [hP.fl];exact hfa) hL with hd|⟨a0,o0,L0,d1,d2,d3,d4⟩
   ·obtain ⟨_,M,ob,h1,h2,_⟩:=h.obj a' b' c' ho'
    rw [hL'] at h1;cases h1
    have:=(Array.getElem?_eq_some_iff.1 h2).1
    omega
   ·obtain ⟨c0,ho0,Ff⟩:=hs a0 o0 d1
    have:=(h.inj a0 a' o0 b' c0 c' L0 L' ho0 ho' (Gm.cut_some.1 d3).2 hL' (d4.trans e)).resolve_right (fun hx=>by have:=hfH a0 o0 d1 d2;omega)
    subst this
    rcases hc' with hc'|hc'
    ·have d1:T.get a0 H=some o0:=d1
     rw [hc'] at d1;cases d1
    ·have:=(Gm.cut_some.1 d3).1
     have d2:f≤a0.idx:=d2
     omega
  ·have hlt:a.idx < k.idx:=by omega
   have hb0:=hP.back a b hb (by show a.idx < f;omega) hlt
   obtain ⟨c0,ho0,Ff⟩:=hs a b hb0
   exact h.inj a a' b b' c0 c' L L' ho0 ho' (g0 a L hL hlt) hL' e
 have g7 : ∀ a b c,O a b c→T.get a H=none→T.get a S'.hp=none:=by
  intro a b c ho hn
  cases hb:T.get a S'.hp with
  | none=>rfl
  | some b2 =>
    obtain ⟨_,M,ob,h1,h2,_⟩:=h.obj a b c ho
    have hg:=g4 a b2 M hb (g1 _ _ h1)
    by_cases hfa:f≤a.idx
    ·rcases hP.desc a b2 M hb (by rw [hP.fl];exact hfa) hg with hd|⟨a0,o0,L0,d1,d2,d3,d4⟩
     ·have:=(Array.getElem?_eq_some_iff.1 h2).1
      omega
     ·obtain ⟨c0,ho0,Ff⟩:=hs a0 o0 d1
      have:=(h.inj a0 a o0 b c0 c L0 M ho0 ho (Gm.cut_some.1 d3).2 h1 d4).resolve_right (fun hx=>by have:=hfH a0 o0 d1 d2;omega)
      subst this
      have d1:T.get a0 H=some o0:=d1
      rw [hn] at d1;cases d1
    ·have hb0:T.get a H=some b2:=hP.back a b2 hb (by show a.idx < f;omega) (by show a.idx < k.idx;omega)
     rw [hn] at hb0;cases hb0
 refine ⟨⟨?_,?_,?_,?_,Gm.le_trans h.ext g1,Nat.le_trans h.size hP.size,?_,?_,?_,?_,hP.os.trans h.os,hP.out.trans h.out⟩,g1,g2,g7⟩
 ·intro a b c ho
  rcases hO a b c ho with ⟨h1,h2,h3⟩|⟨h1,h2⟩
  ·obtain ⟨L,ob,e1,e2,e3⟩:=hH'.obj a b h1
   have:=hH'.fresh _ _ e1
   refine ⟨by omega,L,ob,(Gm.cut_some.1 (g2 a L e1)).2,e2,e3.mono (Gm.le_trans g2 (Gm.cut_mono (Gm.le_refl _) h2))⟩
  ·obtain ⟨e0,L,ob,e1,e2,e3⟩:=h.obj a b c h1
   exact ⟨e0,L,ob,g1 _ _ e1,by rw [g5 a b c L h1 h2 e1];exact e2,e3.mono (Gm.cut_mono g1 (Nat.le_refl _))⟩
 ·intro a a' b b' c c' L L' ho ho' hL hL' e
  have old:∀ a b c L,O a b c→(γ.glue γr k.idx S'.nx.idx) a=some L→γ a=some L:=fun a b c L ho hL=>by
   obtain ⟨_,M,ob,h1,_⟩:=h.obj a b c ho
   have:=g1 _ _ h1
   rw [hL] at this;cases this;exact h1
  rcases hO a b c ho with ⟨h1,h2,h3⟩|⟨h1,h2⟩
  ·rcases hO a' b' c' ho' with ⟨h1',h2',h3'⟩|⟨h1',h2'⟩
   ·refine (hH'.inj a a' b b' L L' h1 h1' (g4 a b L h1 hL) (g4 a' b' L' h1' hL') e).imp id (fun ⟨k1,k2⟩=>?_)
    have e0:S'.fl=f:=hP.fl
    rw [e0] at k1 k2
    constructor <;> omega
   ·exact g6 a b L a' b' c' L' h1 h3 (g4 a b L h1 hL) h1' h2' (old a' b' c' L' h1' hL') e
  ·rcases hO a' b' c' ho' with ⟨h1',h2',h3'⟩|⟨h1',h2'⟩
   ·exact (g6 a' b' L' a b c L h1' h3' (g4 a' b' L' h1' hL') h1 h2 (old a b c L h1 hL) e.symm).imp Eq.symm And.symm
   ·exact h.inj a a' b b' c c' L L' h1 h1' (old a b c L h1 hL) (old a' b' c' L' h1' hL') e
 ·intro g hgl
  obtain ⟨s,hs⟩:=h.glob g hgl
  exact ⟨s,g1 _ _ hs⟩
 ·intro a L e
  rcases g3 a L e with e1|⟨e1,e2,_⟩
  ·exact .inl (h.dom a L e1)
  ·exact .inr ⟨e1,e2⟩
 ·intro r hr hn
  rw [← h.keep r hr hn]
  refine hP.keep r (Nat.lt_of_lt_of_le hr h.size) (fun a b L hb hfa hL e=>?_)
  obtain ⟨c,ho,_⟩:=hs a b hb
  rcases h.desc a b c L ho (hfH a b hb hfa) (Gm.cut_some.1 hL).2 with d|⟨a0,o0,L0,d1,d2,d3,d4⟩
  ·omega
  ·exact hn a0 o0 L0 d1 d2 d3 (d4.trans e)
 ·intro a b c L ho hfa hL
  rcases hO a b c ho with ⟨h1,h2,h3⟩|⟨h1,h2⟩
  ·have hL:=g4 a b L h1 hL
   by_cases hff:f≤a.idx
   ·rcases hP.desc a b L h1 (by rw [hP.fl];exact hff) hL with hd|⟨a0,o0,L0,d1,d2,d3,d4⟩
    ·exact .inl (Nat.le_trans h.size hd)
    ·obtain ⟨c0,ho0,_⟩:=hs a0 o0 d1
     rcases h.desc a0 o0 c0 L0 ho0 (hfH a0 o0 d1 d2) (Gm.cut_some.1 d3).2 with d|⟨a1,o1,L1,f1,f2,f3,f4⟩
     ·exact .inl (by omega)
     ·exact .inr ⟨a1,o1,L1,f1,f2,f3,f4.trans d4⟩
   ·have hlt:a.idx < k.idx:=by omega
    have hb0:=hP.back a b h1 (by show a.idx < f;omega) hlt
    obtain ⟨c0,ho0,_⟩:=hs a b hb0
    exact h.desc a b c0 L ho0 hfa (g0 a L hL hlt)
  ·obtain ⟨_,M,ob,e1,_⟩:=h.obj a b c h1
   have e2:=g1 _ _ e1
   rw [hL] at e2;cases e2
   exact h.desc a b c L h1 hfa e1
 ·intro a b c ho hlt
  rcases hO a b c ho with ⟨h1,h2,h3⟩|⟨h1,h2⟩
  ·rcases h3 with h3|h3
   ·have hb0:=hP.back a b h1 (by show a.idx < f;omega) (by show a.idx < k.idx;omega)
    obtain ⟨c0,ho0,_⟩:=hs a b hb0
    exact h.back a b c0 ho0 hlt
   ·omega
  ·exact h.back a b c h1 hlt
 ·intro a L e hlt
  rcases g3 a L e with e1|⟨e1,e2,_⟩
  ·exact h.new a L e1 hlt
  ·omega
theorem fB.weaken (h:fB S γ0 w0 ng O D γ w) {O':Ps→AO→Nat→Prop} {D':Nat→Prop} (hO:∀ a b c,O' a b c→O a b c) (hD:∀ n,D n→D' n):fB S γ0 w0 ng O' D' γ w:=
 ⟨fun a b c ho=>h.obj a b c (hO a b c ho),fun a a' b b' c c' L L' ho ho'=>h.inj a a' b b' c c' L L' (hO _ _ _ ho) (hO _ _ _ ho'),h.glob,fun a L e=>hD _ (h.dom a L e),h.ext,h.size,h.keep,
  fun a b c L ho=>h.desc a b c L (hO _ _ _ ho),fun a b c ho=>h.back a b c (hO _ _ _ ho),h.new,h.os,h.out⟩
theorem fB.final (h:fB S γ0 w0 ng O D γ w) {H:T AO} {k:Ps} (hs:∀ a b,T.get a H=some b→∃ c,O a b c) (hold:∀ a b,T.get a S.hp=some b→a.idx < S.fl→T.get a H=some b)
 (hD:∀ n,D n→n < k.idx) (hk:S.nx.idx≤k.idx):HR γ ng ⟨H,k,S.fl⟩ w∧j6 S γ0 w0 ⟨H,k,S.fl⟩ γ w:=by
 refine ⟨⟨fun a b hb=>?_,fun a a' b b' L L' hb hb' hL hL' e=>?_,fun a L e=>hD _ (h.dom a L e),h.glob⟩,⟨h.ext,h.size,h.keep,fun a b L hb hf hL=>?_,hold,rfl,hk,h.new,h.os,h.out,fun a b hb hlt _=>?_⟩⟩
 ·obtain ⟨c,ho⟩:=hs a b hb
  obtain ⟨_,L,ob,e1,e2,e3⟩:=h.obj a b c ho
  exact ⟨L,ob,e1,e2,e3.mono (Gm.cut_le _ _)⟩
 ·obtain ⟨c,ho⟩:=hs a b hb
  obtain ⟨c',ho'⟩:=hs a' b' hb'
  exact h.inj a a' b b' c c' L L' ho ho' hL hL' e
 ·obtain ⟨c,ho⟩:=hs a b hb
  exact h.desc a b c L ho hf hL
 ·obtain ⟨c,ho⟩:=hs a b hb
  exact h.back a b c ho hlt
end
def VG (k:Nat) (l:List AV):Bool:=
 AV.rec_1 (motive_1:=fun _=>Bool) (motive_2:=fun _=>Bool) (fun _ _=>true) (fun _=>true) (fun _ _=>true) (fun _=>true) true (fun b _=>Nat.blt b.idx k) true (fun b _ _ _=>Nat.blt b.idx k) (fun b _ _ _=>Nat.blt b.idx k) true
  (fun b=>Nat.blt b.idx k) (fun _ _ _ x y=>Bool.rec false y x) (fun b=>Nat.blt b.idx k) true (fun _ _ x=>x) true (fun _ x=>x) (fun _ x=>x) (fun b _ _ _=>Nat.blt b.idx k) (fun b _ _ _=>Nat.blt b.idx k) true true (fun _ _ x y=>Bool.rec false y x) l
theorem mW {γ:Gm} {k:Nat} {x:AV} {v:Value} (h:VR γ x v):vN k x=true→VR (γ.cut k) x v:=by
 have blt:∀ {b:Ps},Nat.blt b.idx k=true→b.idx < k:=fun e=>by rw [f6] at e;exact of_decide_eq_true e
 exact VR.rec (γ:=γ) (motive_1:=fun x v _=>vN k x=true→VR (γ.cut k) x v) (motive_2:=fun l l' _=>VG k l=true→LR (γ.cut k) l l')
  (fun k n _=>.int k n) (fun b _=>.bool b) (fun k b _=>.flt k b) (fun s _=>.str s) (fun _=>.nilp) (fun o h e=>.ptr o (Gm.cut_some.2 ⟨blt e,h⟩)) (fun _=>.nils) (fun o l c h e=>.sl o l c (Gm.cut_some.2 ⟨blt e,h⟩))
  (fun o l c z h hl hz he e=>.su o l c z (Gm.cut_some.2 ⟨blt e,h⟩) hl hz he) (fun _=>.nilm) (fun h e=>.mp (Gm.cut_some.2 ⟨blt e,h⟩))
  (fun {l c _ _} f _ _ h hc e=>by obtain ⟨h1,h2⟩:=S7 (b:=VG k l) (c:=VG k c) e;exact .fn f (h h1) (hc h2)) (fun h e=>.yl (Gm.cut_some.2 ⟨blt e,h⟩)) (fun _=>.nilf)
  (fun t _ h e=>.ifc t (h e)) (fun _=>.nili) (fun _ h e=>.agg (h e)) (fun _ h e=>.tup (h e)) (fun o l c z h hl hz he e=>.sa o l c z (Gm.cut_some.2 ⟨blt e,h⟩) hl hz he) (fun i z q h e=>.pte i z q (Gm.cut_some.2 ⟨blt e,h⟩)) (fun v _=>.any v) (fun _=>.nil)
  (fun {x _ l _} _ _ h t e=>by obtain ⟨h1,h2⟩:=S7 (b:=vN k x) (c:=VG k l) e;exact .cons (h h1) (t h2)) h
def jE (tm:Tm) (l:List Nat):Tm:=List.rec te (fun t _ ih=>V1 t (n8 tm t) ih) l
theorem V4 (tm:Tm) (t:Nat):∀ (l:List Nat),n8 (jE tm l) t=if t ∈ l then n8 tm t else .tup []
 | []=>by show n8 te t=_;rw [rK];rfl
 | x :: l=>by
   show n8 (V1 x (n8 tm x) (jE tm l)) t=_
   by_cases e:t=x
   ·subst e
    rw [if_pos (List.mem_cons_self ..)]
    rw [L5]
   ·have:n8 (V1 x (n8 tm x) (jE tm l)) t=n8 (jE tm l) t:=X4 (fun e'=>e e'.symm) _ _
    rw [this,V4 tm t l]
    simp [e]
section
variable {CALL:x5} {E:i3} {nt:Nat} {ops:Array Oper} {fl:Nat} {ms:List Nat} {P:Nat→F6} {oc:Nat→Oc} {tm0:Tm} {B0:T AO} {K0:Ps} (h:A9 CALL E nt ops fl ms P oc tm0 B0 K0)
variable {X:Nat→Prop} {l:Nat} {γ:Gm} {w:World} {tmps:Array Value} {S:Hp} {γ0:Gm} {w0:World}
structure Ie (nt:Nat) (ops:Array Oper) (P:Nat→F6) (oc:Nat→Oc) (tm0:Tm) (K0:Ps) (X:Nat→Prop) (γ:Gm) (tmps:Array Value):Prop where
 size:tmps.size=nt
 slot:∀ p o d v,X p→ops[p]? = some o→o.dst=some d→(oc p).val=some v→VR (γ.cut (P (p+1)).K.idx) v (tmps.getD d Go.undef)
 slot0:∀ t,(∀ p o v,X p→ops[p]? = some o→(oc p).val=some v→o.dst≠some t)→VR (γ.cut K0.idx) (n8 tm0 t) (tmps.getD t Go.undef)
structure vR (ops:Array Oper) (ms:List Nat) (oc:Nat→Oc) (X:Nat→Prop) (l:Nat):Prop where
 lt:∀ i,X i→i < ops.size
 closed:∀ i m,X i→ms[i]? = some m→∀ p,tb m p=true→X p
 eff:∀ e,e < ops.size→(oc e).isEf→(X e↔e < l)
 lvl:l=0∨∃ e,l=e+1∧e < ops.size∧(oc e).isEf
 live:∀ i,X i→(oc i).val≠none
def Ow (P:Nat→F6) (oc:Nat→Oc) (X:Nat→Prop) (l:Nat) (a:Ps) (b:AO) (c:Nat):Prop:=
 (T.get a (P l).B=some b∧c=(P l).K.idx)∨∃ p v,X p∧tb (P l).A p=false∧oc p=.q v (some b)∧a=(P p).K∧c=(P (p+1)).K.idx
def Dm (P:Nat→F6) (X:Nat→Prop) (n:Nat):Prop:=n < (P 0).K.idx∨∃ p,X p∧(P p).K.idx≤n∧n < (P (p+1)).K.idx
structure tA (nt:Nat) (ops:Array Oper) (ms:List Nat) (P:Nat→F6) (oc:Nat→Oc) (tm0:Tm) (K0:Ps) (ng:Nat) (S:Hp) (γ0:Gm) (w0:World) (X:Nat→Prop) (l:Nat) (γ:Gm) (w:World) (tmps:Array Value):Prop where
 x:vR ops ms oc X l
 s:Ie nt ops P oc tm0 K0 X γ tmps
 h:fB S γ0 w0 ng (Ow P oc X l) (Dm P X) γ w
 old:∀ a b,T.get a S.hp=some b→a.idx < S.fl→T.get a (P l).B=some b
 fd:∀ p v b,X p→tb (P l).A p=false→oc p=.q v (some b)→T.get (P p).K (P l).B=none
include h
theorem A9.newK {p:Nat} (hp:p < ops.size) {v:AV} {b:AO} (ho:oc p=.q v (some b)):(P (p+1)).K=Ps.succ (P p).K:=by
 obtain ⟨o,m,_,_,h3⟩:=h.at hp
 generalize hs:P (p+1)=s' at h3
 rw [ho] at h3
 cases h3 with
 | qa _ _ _ _ _=>rfl
theorem A9.newInj {p q:Nat} (hp:p < ops.size) (hq:q < ops.size) {v v':AV} {b b':AO} (ho:oc p=.q v (some b)) (ho':oc q=.q v' (some b')) (e:(P p).K=(P q).K):p=q:=by
 have h1:=congrArg Ps.idx (h.newK hp ho)
 have h2:=congrArg Ps.idx (h.newK hq ho')
 rw [Ps.idx_succ] at h1 h2
 have e:=congrArg Ps.idx e
 rcases Nat.lt_trichotomy p q with hlt|rfl|hlt
 ·have:=h.K (i:=p+1) (j:=q) hlt (by omega);omega
 ·rfl
 ·have:=h.K (i:=q+1) (j:=p) hlt (by omega);omega
omit h in
theorem bD {f:Nat→Bool} {B:T AO} {a:Ps} {b:AO}:∀ {l:List (Nat × Ps × AO)},T.get a (w9 f B l)=some b→T.get a B=some b∨∃ p,(p,a,b) ∈ l∧f p=true
 | [],e=>.inl e
 | (p, k,o)::l,e=>by
   have e':T.get a (Bool.rec (w9 f B l) (T.set k o (w9 f B l)) (f p):T AO)=some b:=e
   cases hf:f p with
   | false =>
     rw [hf] at e'
     rcases bD (l:=l) e' with h|⟨q,h1,h2⟩
     ·exact .inl h
     ·exact .inr ⟨q,List.mem_cons_of_mem _ h1,h2⟩
   | true =>
     rw [hf] at e'
     have e':T.get a (T.set k o (w9 f B l))=some b:=e'
     by_cases hk:a=k
     ·subst hk
      rw [T.get_set_same] at e';cases e'
      exact .inr ⟨p,List.mem_cons_self ..,hf⟩
     ·rw [T.get_set_ne (fun e=>hk e.symm)] at e'
      rcases bD (l:=l) e' with h|⟨q,h1,h2⟩
      ·exact .inl h
      ·exact .inr ⟨q,List.mem_cons_of_mem _ h1,h2⟩
omit h in
theorem V5 {f:Nat→Bool} {B:T AO} {a:Ps} {b:AO}:∀ {l:List (Nat × Ps × AO)},T.get a B=some b→(∀ p k o,(p,k,o) ∈ l→k≠a)→T.get a (w9 f B l)=some b
 | [],e,_=>e
 | (p,k,o)::l,e,hn=>by
   have ih:=V5 (f:=f) (l:=l) e (fun p k o hm=>hn p k o (List.mem_cons_of_mem _ hm))
   show T.get a (Bool.rec (w9 f B l) (T.set k o (w9 f B l)) (f p):T AO)=some b
   cases hf:f p with
   | false=>exact ih
   | true =>
     show T.get a (T.set k o (w9 f B l))=some b
     rw [T.get_set_ne (hn p k o (List.mem_cons_self ..))];exact ih
omit h in
theorem Et {m A p:Nat}:W7 m A p=true↔tb A p=false∧tb m p=true:=by
 unfold W7
 cases tb A p <;> simp
end
section
variable {CALL:x5} {E:i3} {nt:Nat} {ops:Array Oper} {fl:Nat} {ms:List Nat} {P:Nat→F6} {oc:Nat→Oc} {tm0:Tm} {B0:T AO} {K0:Ps} (h:A9 CALL E nt ops fl ms P oc tm0 B0 K0)
variable {X:Nat→Prop} {l:Nat} {γ:Gm} {w:World} {tmps:Array Value}
include h in
theorem A9.kz:(P 0).K=K0:=by rw [h.init]
include h in
theorem A9.look_vr (hs:Ie nt ops P oc tm0 K0 X γ tmps) (hx:vR ops ms oc X l) {i:Nat} (hi:i < ops.size) {o:Oper} {m:Nat} (ho:ops[i]? = some o) (hm:ms[i]? = some m) (hnX:¬ X i) (hpre:∀ p,tb m p=true→X p)
 {t:Nat} (ht:t ∈ o.looksAt ops):VR (γ.cut (P i).K.idx) (n8 (P i).tm t) (tmps.getD t Go.undef):=by
 have hP:=h.slotP (i:=i) (by omega)
 by_cases hex:∃ j oj v,ops[j]? = some oj∧oj.dst=some t∧(oc j).val=some v
 ·obtain ⟨j,oj,v,h1,h2,h3⟩:=hex
  have uniq:∀ p o',ops[p]? = some o'→o'.dst=some t→p=j:=fun p o' a b=>by
   by_cases e:p=j
   ·exact e
   ·exact absurd b (h.dst_ne a h1 e h2)
  have zero:¬ X j→¬ j < i→VR (γ.cut (P i).K.idx) (n8 (P i).tm t) (tmps.getD t Go.undef):=fun a b=>by
   have e0:n8 (P i).tm t=n8 tm0 t:=(hP t).2 (fun p o' v' hp ho' _ hd=>by
    have:=uniq p o' ho' hd
    subst this;exact b hp)
   rw [e0]
   refine (hs.slot0 t (fun p o' v' hp ho' _ hd=>?_)).mono (Gm.cut_mono (Gm.le_refl _) ?_)
   ·have:=uniq p o' ho' hd
    subst this;exact a hp
   ·rw [← h.kz];exact h.K (Nat.zero_le _) (by omega)
  have some1:X j→j < i→VR (γ.cut (P i).K.idx) (n8 (P i).tm t) (tmps.getD t Go.undef):=fun a b=>by
   rw [(hP t).1 j oj v b h1 h2 h3]
   exact (hs.slot j oj t v a h1 h2 h3).mono (Gm.cut_mono (Gm.le_refl _) (h.K b (by omega)))
  by_cases hij:i=j
  ·subst hij;exact zero hnX (by omega)
  ·obtain ⟨_,mj,_,hmj,_⟩:=h.at (Array.getElem?_eq_some_iff.1 h1).1
   rcases (h.slots.apart i j o oj m mj t ho h1 hm hmj hij h2).2 ht with h4|h4
   ·exact some1 (hpre j h4) (h.back hm j h4)
   ·have h5:=h.back hmj i h4
    exact zero (fun hj=>hnX (hx.closed j mj hj hmj i h4)) (by omega)
 ·have e0:n8 (P i).tm t=n8 tm0 t:=(hP t).2 (fun p o' v' hp ho' hv hd=>hex ⟨p,o',v',ho',hd,hv⟩)
  rw [e0]
  refine (hs.slot0 t (fun p o' v' hp ho' hv hd=>hex ⟨p,o',v',ho',hd,hv⟩)).mono (Gm.cut_mono (Gm.le_refl _) ?_)
  rw [← h.kz];exact h.K (Nat.zero_le _) (by omega)
def bE (nt:Nat) (tmps:Array Value) (L:List Nat):Array Value:=Array.ofFn (n:=nt) fun t=>if t.val ∈ L then tmps.getD t.val Go.undef else Go.undef
theorem iJ {nt:Nat} {tmps:Array Value} (hs:tmps.size=nt) {L:List Nat} (t:Nat):(bE nt tmps L).getD t Go.undef=if t ∈ L then tmps.getD t Go.undef else Go.undef:=by
 unfold bE
 by_cases hlt:t < nt
 ·rw [Array.getD_eq_getD_getElem?,Array.getElem?_ofFn,dif_pos hlt];rfl
 ·rw [Array.getD_eq_getD_getElem?,Array.getElem?_ofFn,dif_neg hlt]
  have:tmps.getD t Go.undef=Go.undef:=by rw [Array.getD_eq_getD_getElem?,Array.getElem?_eq_none (by omega)];rfl
  rw [this];simp
theorem Ao {nt:Nat} {tmps:Array Value} (hs:tmps.size=nt) {L:List Nat} {t:Nat} (ht:t ∈ L):(bE nt tmps L)[t]? = tmps[t]?:=by
 unfold bE
 rw [Array.getElem?_ofFn]
 by_cases hlt:t < nt
 ·rw [dif_pos hlt,if_pos ht,Array.getElem?_eq_getElem (by omega)]
  simp [Array.getD,hs,hlt]
 ·rw [dif_neg hlt,Array.getElem?_eq_none (by omega)]
variable {fr:Frame} (hft:fr.tmps=tmps)
theorem vT {nt:Nat} {ops:Array Oper} {tm tm':Tm} {o:Oper} (he:∀ t ∈ o.looksAt ops,n8 tm t=n8 tm' t):y9 nt ops tm o=y9 nt ops tm' o:=by
 rw [mH,mH];unfold sS
 cases hg:o.guard with
 | none=>rfl
 | some g =>
   obtain ⟨j,want⟩:=g
   simp only
   cases hj:nth ops.toList j with
   | none=>rfl
   | some oj =>
     simp only
     cases hd:oj.dst with
     | none=>rfl
     | some d =>
       simp only
       rw [he d]
       rw [H8,Array.getElem?_toList] at hj
       simp [Oper.looksAt,hg,hj,hd]
theorem tB {o:Oper} {t1 t2:Array Value} (he:∀ t ∈ o.looksAt ops,t1[t]? = t2[t]?):Region.wanted o (yielded ops t1)=Region.wanted o (yielded ops t2):=by
 unfold Region.wanted
 cases hg:o.guard with
 | none=>rfl
 | some g =>
   obtain ⟨j,want⟩:=g
   simp only
   have:yielded ops t1 j=yielded ops t2 j:=by
    unfold yielded
    cases ht:(ops[j]?).bind (·.dst) with
    | none=>rfl
    | some t =>
      simp only [Option.bind_some]
      rw [he t (by simp [Oper.looksAt,hg,ht])]
   rw [this]
theorem Pm {ng:Nat} {tm tm':Tm} {o:Oper} (he:∀ t ∈ o.looksAt ops,n8 tm t=n8 tm' t):∀ x ∈ o.op.operands,n6 ng tm x=n6 ng tm' x:=by
 intro x hx
 cases x with
 | tmp t=>exact congrArg some (he t (List.mem_append_left _ (List.mem_filterMap.2 ⟨.tmp t,by simpa using hx,rfl⟩)))
 | const v=>rfl
 | global g=>rfl
 | func f=>rfl
theorem Ap {E:i3} {tm:Tm} {S:Hp} {o:Oper} {r:RO} (h:H7 o.op E tm S o.type=some r):∀ cs b,o.op≠.select cs b:=by
 intro cs b e
 rw [e] at h
 cases h
include h hft in
theorem A9.want_at (hs:Ie nt ops P oc tm0 K0 X γ tmps) (hx:vR ops ms oc X l) {i:Nat} (hi:i < ops.size) {o:Oper} {m:Nat} (ho:ops[i]? = some o) (hm:ms[i]? = some m) (hnX:¬ X i) (hpre:∀ p,tb m p=true→X p)
 {b:Bool} (hw:y9 nt ops (P i).tm o=some b):Region.wanted o (yielded ops fr.tmps)=b:=by
 have hT:TR (γ.cut (P i).K.idx) (jE (P i).tm (o.looksAt ops)) (bE nt tmps (o.looksAt ops)):=by
  intro t
  rw [V4,iJ hs.size]
  split
  ·rename_i ht;exact h.look_vr hs hx hi ho hm hnX hpre ht
  ·exact .undef
 rw [vT (tm':=jE (P i).tm (o.looksAt ops)) (fun t ht=>by rw [V4,if_pos ht])] at hw
 have:=eV hw (by simp [bE]) hT
 rw [hft,← tB (t1:=bE nt tmps (o.looksAt ops)) (fun t ht=>Ao hs.size ht)]
 exact this
include h hft in
theorem A9.ev_at (hE:E.Ok) (hs:Ie nt ops P oc tm0 K0 X γ tmps) (hx:vR ops ms oc X l) {i:Nat} (hi:i < ops.size) {o:Oper} {m:Nat} (ho:ops[i]? = some o) (hm:ms[i]? = some m) (hnX:¬ X i) (hpre:∀ p,tb m p=true→X p)
 {H:Hp} {r:RO} (he:H7 o.op E (P i).tm H o.type=some r) {k:Nat} (hk:(P i).K.idx≤k) (hH:HR (γ.cut k) E.ng H w):O7 E (γ.cut k) H w (execOp fr.eval o) r:=by
 have hT:TR (γ.cut k) (jE (P i).tm (o.looksAt ops)) (bE nt tmps (o.looksAt ops)):=by
  intro t
  rw [V4,iJ hs.size]
  split
  ·rename_i ht;exact (h.look_vr hs hx hi ho hm hnX hpre ht).mono (Gm.cut_mono (Gm.le_refl _) hk)
  ·exact .undef
 have hns:=Ap he
 rw [Ah (tm':=jE (P i).tm (o.looksAt ops)) (Pm (fun t ht=>by rw [V4,if_pos ht]))] at he
 have h1:=Ec (fr:={ fr with tmps:=bE nt tmps (o.looksAt ops) }) hE hT hH he
 have h2:execOp (Frame.eval { fr with tmps:=bE nt tmps (o.looksAt ops) }) o=execOp fr.eval o:=by
  refine execOp_congr o hns (fun x hx'=>?_)
  cases x with
  | tmp t =>
    have ht:t ∈ o.looksAt ops:=List.mem_append_left _ (List.mem_filterMap.2 ⟨.tmp t,by simpa using hx',rfl⟩)
    show (bE nt tmps (o.looksAt ops)).getD t Go.undef=fr.tmps.getD t Go.undef
    rw [iJ hs.size,if_pos ht,hft]
  | const v=>rfl
  | global g=>rfl
  | func f=>rfl
 rw [h2] at h1
 exact h1
end
def F8 (P:Program) (s:Sem Next) (w:World) (fr:Frame):Prop:=
 (∃ f vs,s.run P w=.ok (.enter f vs) w∧fr=Frame.enter P f vs .normal)∨(∃ l f tmps a b,s.run P w=.ok (.round l f tmps a b) w∧fr=Frame.round l f tmps a b .normal)
theorem bF {P:Program} {fr fr':Frame} {cs:List Frame} {w:World} {k:List Item} {ops:Array Oper} {i:Nat} {rest:List Nat} {o:Oper} (hm:fr.mode=.run) (ht:fr.todo=.inRegion ops (i::rest)::k) (ho:ops[i]? = some o) (hw:Region.wanted o (yielded ops fr.tmps)=true)
 (hd:fr.roundOf=none∨∀ c,o.op≠.defer c) (hr:F8 P (execOp fr.eval o) w fr'):step P (lone fr cs w)=.next (lone fr' (fr::cs) w):=by
 rcases hr with ⟨f,vs,h1,rfl⟩|⟨l,f,tmps,a,b,h1,rfl⟩
 ·exact lY hm ht ho hw hd h1
 ·exact lZ hm ht ho hw hd h1
def mX (CALL:x5) (E:i3):Prop:=
 ∀ (ro:RO) (H:Hp) (γ:Gm) (w:World) (s:Sem Next),HR γ E.ng H w→O7 E γ H w s ro →
   (∀ x S',CALL ro H=.fin x S'→(∀ d,ro≠.dfr d)∧∃ fr',F8 E.P s w fr'∧∀ c bot,∃ γ' v' w',Steps E.P (lone fr' (c::bot) w) (lone (c.finish v') bot w')∧VR γ' x v'∧HR γ' E.ng S' w'∧j6 H γ w S' γ' w') ∧
   (∀ x S',CALL ro H=.finP x S'→(∀ d,ro≠.dfr d)∧∃ fr',F8 E.P s w fr'∧∀ c bot,∃ γ' v' w',Steps E.P (lone fr' (c::bot) w) (lone (c.raise [{ v:=v',recovered:=false }]) bot w')∧VR γ' x v'∧HR γ' E.ng S' w'∧j6 H γ w S' γ' w')
theorem vV (d:Option Nat) (v:Value) (t:Array Value) (x:Nat):(mL d v t).getD x Go.undef=if d=some x∧x < t.size then v else t.getD x Go.undef:=by
 cases d with
 | none=>simp [mL]
 | some d =>
   show (t.setIfInBounds d v).getD x Go.undef=_
   rw [Array.getD_eq_getD_getElem?,Array.getD_eq_getD_getElem?,Array.getElem?_setIfInBounds]
   by_cases e:d=x
   ·subst e
    by_cases hlt:d < t.size
    ·simp [hlt]
    ·simp [hlt]
   ·simp [e]
theorem If (d:Option Nat) (v:Value) (t:Array Value):(mL d v t).size=t.size:=by cases d <;> simp [mL]
section
variable {CALL:x5} {E:i3} {nt:Nat} {ops:Array Oper} {fl:Nat} {ms:List Nat} {P:Nat→F6} {oc:Nat→Oc} {tm0:Tm} {B0:T AO} {K0:Ps} (h:A9 CALL E nt ops fl ms P oc tm0 B0 K0)
variable {X:Nat→Prop} {l:Nat} {γ:Gm} {w:World} {tmps:Array Value} {S:Hp} {γ0:Gm} {w0:World}
include h
theorem A9.s_next (hs:Ie nt ops P oc tm0 K0 X γ tmps) {γ':Gm} (hg:Gm.le γ γ') {i:Nat} {o:Oper} (ho:ops[i]? = some o) {v:AV} (hv:(oc i).val=some v) (hd:∀ d,o.dst=some d→d < nt)
 {v':Value} (hr:VR (γ'.cut (P (i+1)).K.idx) v v'):Ie nt ops P oc tm0 K0 (fun p=>X p∨p=i) γ' (mL o.dst v' tmps):=by
 refine ⟨by rw [If];exact hs.size,fun p o' d u hp ho' hd' hu=>?_,fun t ht=>?_⟩
 ·rw [vV]
  by_cases e:p=i
  ·subst e
   rw [ho] at ho';cases ho'
   rw [hv] at hu;cases hu
   rw [if_pos ⟨hd',by rw [hs.size];exact hd d hd'⟩];exact hr
  ·rcases hp with hp|hp
   ·rw [if_neg (fun hc=>h.dst_ne ho ho' (fun e'=>e e'.symm) hd' hc.1)]
    exact (hs.slot p o' d u hp ho' hd' hu).mono (Gm.cut_mono hg (Nat.le_refl _))
   ·exact absurd hp e
 ·rw [vV,if_neg (fun hc=>ht i o v (.inr rfl) ho hv hc.1)]
  exact (hs.slot0 t (fun p o' u hp=>ht p o' u (.inl hp))).mono (Gm.cut_mono hg (Nat.le_refl _))
omit h in
theorem vR.quiet (hx:vR ops ms oc X l) {i:Nat} (hi:i < ops.size) {m:Nat} (hm:ms[i]? = some m) (hpre:∀ p,tb m p=true→X p) {v:AV} (hv:(oc i).val=some v) (hn:¬ (oc i).isEf):vR ops ms oc (fun p=>X p∨p=i) l:=by
 refine ⟨fun j hj=>?_,fun j m' hj hm' p hp=>?_,fun e he hf=>?_,hx.lvl,fun j hj=>?_⟩
 ·rcases hj with hj|rfl
  ·exact hx.lt j hj
  ·exact hi
 ·rcases hj with hj|rfl
  ·exact .inl (hx.closed j m' hj hm' p hp)
  ·rw [hm] at hm';cases hm';exact .inl (hpre p hp)
 ·rw [← hx.eff e he hf]
  constructor
  ·rintro (a|rfl)
   ·exact a
   ·exact absurd hf hn
  ·exact .inl
 ·rcases hj with hj|rfl
  ·exact hx.live j hj
  ·rw [hv];exact fun e=>by cases e
theorem A9.sync (hx:vR ops ms oc X l) {i:Nat} (hi:i < ops.size) {m:Nat} (hpre:∀ p,tb m p=true→X p) (hnX:¬ X i) (hs:cI (P i).Ef m=true) (hk:(oc i).isEf∨∃ v hp,oc i=.pan v hp) :
 l≤i∧(P i).A=(P l).A∧(P i).B=(P l).B∧∀ e,e < i→(oc e).isEf→X e:=by
 have hall:∀ e,e < i→(oc e).isEf→X e:=fun e he hf=>hpre e (Wv hs ((h.Ef (by omega) e).2 ⟨he,hf⟩))
 have hl : l≤i:=by
  rcases hx.lvl with rfl|⟨e,rfl,he,hf⟩
  ·exact Nat.zero_le _
  ·refine Nat.succ_le_of_lt ?_
   rcases Nat.lt_trichotomy e i with hlt|rfl|hlt
   ·exact hlt
   ·exact absurd ((hx.eff e he hf).2 (by omega)) hnX
   ·rcases hk with hk|⟨v,hp,hk⟩
    ·exact absurd ((hx.eff i hi hk).2 (by omega)) hnX
    ·have h1:=h.pan2 (i:=e) (by omega) hlt hk
     obtain ⟨o,m,_,_,h3⟩:=h.at he
     generalize hs:P (e+1)=s' at h3
     generalize hc:oc e=c at h3 hf
     cases h3 with
     | ef hw hn _ _ _ _=>rw [hn] at h1;cases h1
     | _=>exact absurd hf (fun x=>x)
 obtain ⟨h1,h2⟩:=h.AB hl (by omega) (fun e he hlt hf=>by
  have:=(hx.eff e (by omega) hf).1 (hall e hlt hf);omega)
 exact ⟨hl,h1,h2,hall⟩
theorem A9.viewH {j:Nat} (hj:j≤ops.size) (hl:l≤j) {m:Nat} (hpre:∀ p,tb m p=true→X p) {a:Ps} {b:AO} (hb:T.get a (w9 (W7 m (P l).A) (P l).B (P j).news)=some b):∃ c,Ow P oc X l a b c∧c≤(P j).K.idx:=by
 rcases bD hb with hb|⟨p,h1,h2⟩
 ·exact ⟨_,.inl ⟨hb,rfl⟩,h.K hl hj⟩
 ·obtain ⟨h3,h4,v,h5⟩:=h.news1 hj h1
  obtain ⟨h6,h7⟩:=Et.1 h2
  exact ⟨_,.inr ⟨p,v,hpre p h7,h6,h5,h4,rfl⟩,h.K (by omega) hj⟩
theorem A9.notH {j:Nat} (hj:j≤ops.size) {m:Nat} {p:Nat} (hp:p < ops.size) {v:AV} {b:AO} (ho:oc p=.q v (some b)) (hm:tb m p=false) (hB:T.get (P p).K (P l).B=none) :
 T.get (P p).K (w9 (W7 m (P l).A) (P l).B (P j).news)=none:=by
 cases hg:T.get (P p).K (w9 (W7 m (P l).A) (P l).B (P j).news) with
 | none=>rfl
 | some b2 =>
   rcases bD hg with hb|⟨q,h1,h2⟩
   ·rw [hB] at hb;cases hb
   ·obtain ⟨h3,h4,v2,h5⟩:=h.news1 hj h1
    have:=h.newInj hp (by omega) ho h5 h4
    subst this
    rw [(Et.1 h2).2] at hm;cases hm
theorem A9.dst_lt {i:Nat} (hi:i < ops.size) {o:Oper} (ho:ops[i]? = some o) {v:AV} (hv:(oc i).val=some v):∀ d,o.dst=some d→d < nt:=by
 intro d hd
 obtain ⟨o',m,h1,h2,h3⟩:=h.at hi
 rw [ho] at h1;cases h1
 exact ((vQ (h3.tm.1 v hv) d).1 hd).2
theorem A9.apartK {i:Nat} (hi:i < ops.size) (hnX:¬ X i) (hlt:∀ p,X p→p < ops.size):∀ n,Dm P X n→¬ ((P i).K.idx≤n∧n < (P (i+1)).K.idx):=by
 intro n hn hc
 rcases hn with hn|⟨p,h1,h2,h3⟩
 ·have:=h.K (Nat.zero_le i) (by omega);omega
 ·rcases Nat.lt_trichotomy p i with hlt'|rfl|hlt'
  ·have:=h.K (i:=p+1) (j:=i) hlt' (by omega);omega
  ·exact hnX h1
  ·have:=hlt p h1
   have:=h.K (i:=i+1) (j:=p) hlt' (by omega);omega
theorem A9.domLt (hlt:∀ p,X p→p < ops.size):∀ n,Dm P X n→n < (P ops.size).K.idx:=by
 intro n hn
 rcases hn with hn|⟨p,h1,h2,h3⟩
 ·have:=h.K (Nat.zero_le ops.size) (Nat.le_refl _);omega
 ·have:=hlt p h1
  have:=h.K (i:=p+1) (j:=ops.size) (by omega) (Nat.le_refl _);omega
end
end Go.AM
end
