/- A part of the proof of GlyphMoves; no condition. -/
import Derived.Test.YtoahnefofelglaaGlyphMoves05
import Derived.Below
import Derived.KernelRfl
set_option linter.unusedVariables false
set_option linter.unusedSimpArgs false
set_option linter.unusedSectionVars false
section
namespace Go.AM
noncomputable def flo (A:Nat):Nat→Bool:=fun p=>Bool.rec true false (tb A p)
noncomputable def chkQ (E:Env) (s:PSt) (q:QE) (x:Nat × T AO):Bool:=
  Bool.rec (Bool.rec true (match evOp q.o.op E q.tm ⟨addN (vis q.m x.1) x.2 s.news,s.K,s.K.idx⟩ q.o.type with|some (.v y _)=>eqA 4 y q.v|_=>false) (subM (Nat.land q.m s.Ef) x.1)) true (tb x.1 q.i)
noncomputable def allL {α:Type} (p:α→Bool) (l:List α):Bool:=List.rec true (fun x _ ih=>Bool.rec false ih (p x)) l
theorem allL_ok {α:Type} {p:α→Bool}:∀ {l:List α},allL p l=true→∀ x ∈ l,p x=true
  | [],_,x,hx=>by cases hx
  | y::l,h,x,hx=>by
    obtain ⟨h1,h2⟩:=recf (b:=p y) (c:=allL p l) h
    rcases List.mem_cons.1 hx with rfl|hx
    · exact h1
    · exact allL_ok h2 x hx
noncomputable def drawEnd (E:Env) (fl:Nat) (s:PSt):Option (Sum (Tm × Hp) (AV × Hp)):=
  Bool.rec none (match s.pan with
    | none=>some (.inl (s.tm,⟨addN (flo s.A) s.B s.news,s.K,fl⟩))
    | some (_,v,hp)=>some (.inr (v,⟨hp,s.K,fl⟩))) (allL (fun q=>allL (chkQ E s q) s.levels) s.qs)
noncomputable def draw1 (CALL:CallF) (E:Env) (nt:Nat) (ops:Array Oper) (tm:Tm) (S:Hp) (ms:List Nat):Option (Sum (Tm × Hp) (AV × Hp)):=
  Hp.rec (fun hp nx fl=>Bool.rec none (Bool.rec none (Bool.rec none (Option.rec none (drawEnd E fl) (pass CALL E nt ops fl ops.toList ms 0 ⟨tm,hp,0,0,[],[(0,hp)],[],nx,none⟩)) (Nat.ble fl nx.idx)) (Nat.ble E.ng nx.idx)) (slots ops ms)) S
noncomputable def drawA (CALL:CallF) (E:Env) (nt:Nat) (ops:Array Oper) (tm:Tm) (S:Hp):Option (Sum (Tm × Hp) (AV × Hp)):=
  Option.rec none (draw1 CALL E nt ops tm S) (masks ops)
theorem draw1_ok {CALL:CallF} {E:Env} {nt:Nat} {ops:Array Oper} {tm:Tm} {S:Hp} {r:Sum (Tm × Hp) (AV × Hp)} (h:drawA CALL E nt ops tm S=some r) :
    ∃ ms P oc,Plan CALL E nt ops S.fl ms P oc tm S.hp S.nx∧QOk E ops.size P∧S.fl≤S.nx.idx∧E.ng≤S.nx.idx ∧
      ((∃ p v hp,(P ops.size).pan=some (p,v,hp)∧r=.inr (v,⟨hp,(P ops.size).K,S.fl⟩)) ∨
       ((P ops.size).pan=none∧r=.inl ((P ops.size).tm,⟨addN (flo (P ops.size).A) (P ops.size).B (P ops.size).news,(P ops.size).K,S.fl⟩))):=by
  obtain ⟨ms,h1,h2⟩:=recb_ok (o:=masks ops) h
  obtain ⟨h3,h4⟩:=rec_some (b:=slots ops ms) h2
  obtain ⟨h5,h6⟩:=rec_some h4
  obtain ⟨h7,h8⟩:=rec_some h6
  obtain ⟨s,h9,h10⟩:=recb_ok h8
  obtain ⟨h11,h12⟩:=rec_some h10
  obtain ⟨P,oc,g1,g2,g3⟩:=pass_ok h9
  rw [Array.length_toList] at g2
  refine ⟨ms,P,oc,⟨masks_ok h1,slots_ok h3,g1,fun j o m hj hm=>?_⟩,?_,Nat.le_of_ble_eq_true h7,Nat.le_of_ble_eq_true h5,?_⟩
  · have:=g3 j o m (by rw [Array.getElem?_toList];exact hj) hm
    rw [Nat.zero_add] at this
    exact this
  · intro q hq x hx ha hs
    rw [g2] at hq hx hs ⊢
    have h13:=allL_ok (allL_ok h11 q hq) x hx
    unfold chkQ at h13
    rw [ha,hs] at h13
    have h13:(match evOp q.o.op E q.tm ⟨addN (vis q.m x.1) x.2 s.news,s.K,s.K.idx⟩ q.o.type with|some (.v y _)=>eqA 4 y q.v|_=>false)=true:=h13
    split at h13
    · rename_i y S' he
      rw [eqA_ok _ _ _ h13] at he
      exact ⟨S',he⟩
    · cases h13
  · rw [g2]
    split at h12
    · rename_i hp
      cases h12
      exact .inr ⟨hp,rfl⟩
    · rename_i p v hp e
      cases h12
      exact .inl ⟨p,v,hp,e,rfl⟩
section
variable {CALL:CallF} {E:Env} {nt:Nat} {ops:Array Oper} {fl:Nat} {ms:List Nat} {P:Nat→PSt} {oc:Nat→Oc} {tm0:Tm} {B0:T AO} {K0:Ps} (h:Plan CALL E nt ops fl ms P oc tm0 B0 K0)
variable {S:Hp} {γ0:Gm} {w0:World}
theorem RInv.congr {X X':Nat→Prop} (e:∀ i,X i↔X' i) {l:Nat} {γ:Gm} {w:World} {tmps:Array Value} (hR:RInv nt ops ms P oc tm0 K0 E.ng S γ0 w0 X l γ w tmps):RInv nt ops ms P oc tm0 K0 E.ng S γ0 w0 X' l γ w tmps:=by
  have:X=X':=funext fun i=>propext (e i)
  rw [← this];exact hR
include h in
theorem Plan.run (hE:E.Ok) (hC:CallOk CALL E) (hq:QOk E ops.size P) (hSf:S.fl=fl) (hSn:S.nx=K0) (hng:E.ng≤K0.idx) (hfl:fl≤K0.idx) {cs:List Frame} {k':List Item} :
    ∀ {listed:Array Bool} {L:List Nat},Valid ops listed L→listed.size=ops.size→∀ {l:Nat} {γ:Gm} {w:World} {fr:Frame},RInv nt ops ms P oc tm0 K0 E.ng S γ0 w0 (fun i=>listed.getD i false=true) l γ w fr.tmps→fr.mode=.run →
      fr.todo=.inRegion ops L::k' →
      (∃ γ' w' l' tmps',Steps E.P (lone fr cs w) (lone { fr with tmps:=tmps',todo:=.inRegion ops []::k' } cs w')∧RInv nt ops ms P oc tm0 K0 E.ng S γ0 w0 (fun i=>i < ops.size) l' γ' w' tmps') ∨
      (∃ i v hp,i < ops.size∧oc i=.pan v hp∧∃ v' γ' w' tmps' L',tmps'.size=nt∧(∀ t,(∀ o,o ∈ ops.toList→o.dst≠some t)→tmps'.getD t Go.undef=fr.tmps.getD t Go.undef)∧Steps E.P (lone fr cs w) (lone (({ fr with tmps:=tmps',todo:=.inRegion ops L'::k' }:Frame).raise [{ v:=v',recovered:=false }]) cs w') ∧
        VR γ' v v'∧HR γ' E.ng ⟨hp,(P ops.size).K,fl⟩ w'∧Pres S γ0 w0 ⟨hp,(P ops.size).K,fl⟩ γ' w'):=by
  intro listed L hV
  induction hV with
  | @nil listed hr =>
    intro hsz l γ w fr hR hmo hto
    have all:∀ i,i < ops.size→listed.getD i false=true:=by
      intro i
      induction i using Nat.strongRecOn with
      | _ i ih =>
        intro hi
        obtain ⟨o,m,ho,hm,_⟩:=h.at hi
        cases hb:listed.getD i false with
        | true=>rfl
        | false =>
          exfalso
          have hb':listed.getD i true=false:=by
            rw [Array.getD_eq_getD_getElem?,Array.getElem?_eq_getElem (by omega)] at hb ⊢
            exact hb
          have:i ∈ Region.ready .any ops listed:=mem_ready.2 ⟨hb',o,ho,fun e he hbd=>by
            have:=h.masks.back i o (by rw [Array.getElem?_toList];exact ho) e he hbd
            exact ih e.on this (by omega)⟩
          rw [hr] at this;cases this
    refine .inl ⟨γ,w,l,fr.tmps,?_,hR.congr (fun i=>⟨hR.x.lt i,all i⟩)⟩
    have:({ fr with tmps:=fr.tmps,todo:=.inRegion ops []::k' }:Frame)=fr:=by rw [← hto]
    rw [this]
    exact Steps.refl _ _
  | @cons listed i L hr ht ih =>
    intro hsz l γ w fr hR hmo hto
    obtain ⟨hb,o,ho,hall⟩:=mem_ready.1 hr
    have hi:i < ops.size:=(Array.getElem?_eq_some_iff.1 ho).1
    obtain ⟨_,m,_,hm,_⟩:=h.at hi
    have hnX:¬ listed.getD i false=true:=by
      rw [Array.getD_eq_getD_getElem?,Array.getElem?_eq_getElem (by omega)] at hb ⊢
      simp at hb ⊢;exact hb
    have hpre:∀ p,tb m p=true→listed.getD p false=true:=by
      intro p hp
      obtain ⟨e,he,hbd,r⟩:=h.masks.bits i o m (by rw [Array.getElem?_toList];exact ho) hm p hp
      have h1:=hall e (by simpa using he) hbd
      rcases r with rfl|⟨m',h2,h3⟩
      · exact h1
      · exact hR.x.closed e.on m' h1 h2 p h3
    rcases h.exec hE hC hq hSf hSn hng hfl hR hi ho hm hnX hpre (fr:=fr) (cs:=cs) rfl hmo hto with ⟨γ1,w1,v1,l1,h1,h2⟩|⟨v,hp,h1,v',γ',w',h2,h3,h4,h5⟩
    · have hfin:fr.finish v1={ fr with tmps:=setD o.dst v1 fr.tmps,todo:=.inRegion ops L::k' }:=by
        simp only [Frame.finish,hto,ho,Option.bind_some]
        rfl
      have hX:∀ p,(listed.getD p false=true∨p=i)↔((listed.setIfInBounds i true).getD p false=true):=fun p=>by
        rw [Array.getD_eq_getD_getElem?,Array.getD_eq_getD_getElem?,Array.getElem?_setIfInBounds]
        by_cases e:i=p
        · subst e;simp [hsz,hi]
        · simp [e,eq_comm (a:=p)]
      rw [hfin] at h1
      have h2:=h2.congr hX
      rcases ih (by simpa using hsz) (fr:={ fr with tmps:=setD o.dst v1 fr.tmps,todo:=.inRegion ops L::k' }) h2 hmo rfl with ⟨γ2,w2,l2,t2,g1,g2⟩|⟨j,v,hp,gj,g1,v',γ2,w2,t2,L2,g0,gk,g2,g3⟩
      · exact .inl ⟨γ2,w2,l2,t2,Steps.trans h1 g1,g2⟩
      · refine .inr ⟨j,v,hp,gj,g1,v',γ2,w2,t2,L2,g0,fun t ht=>(gk t ht).trans ?_,Steps.trans h1 g2,g3⟩
        have hne:=ht o (List.mem_iff_getElem?.2 ⟨i,by rw [Array.getElem?_toList];exact ho⟩)
        show (setD o.dst v1 fr.tmps).getD t Go.undef=_
        cases hd:o.dst with
        | none=>rfl
        | some d =>
          have:d≠t:=fun e=>hne (by rw [hd,e])
          show (fr.tmps.setIfInBounds d v1).getD t Go.undef=_
          simp only [Array.getD_eq_getD_getElem?]
          rw [Array.getElem?_setIfInBounds_ne (by exact this)]
    · refine .inr ⟨i,v,hp,hi,h1,v',γ',w',fr.tmps,i::L,hR.s.size,fun _ _=>rfl,?_,h3,h4,h5⟩
      have:({ fr with tmps:=fr.tmps,todo:=.inRegion ops (i::L)::k' }:Frame)=fr:=by rw [← hto]
      rw [this];exact h2
include h in
theorem Plan.start (hSn:S.nx=K0) (hSB:S.hp=B0) {γ:Gm} {w:World} (hH:HR γ E.ng S w) {tmps:Array Value} (hT:TR γ tm0 tmps) (hsz:tmps.size=nt) :
    RInv nt ops ms P oc tm0 K0 E.ng S γ w (fun i=>(Array.replicate ops.size false).getD i false=true) 0 γ w tmps:=by
  have hno:∀ i,¬ (Array.replicate ops.size false).getD i false=true:=fun i=>by
    rw [Array.getD_eq_getD_getElem?,Array.getElem?_replicate]
    split <;> simp
  have hP0:=h.init
  refine ⟨⟨fun i e=>absurd e (hno i),fun i m e=>absurd e (hno i),fun e he hf=>⟨fun x=>absurd x (hno e),fun x=>by omega⟩,.inl rfl,fun i e=>absurd e (hno i)⟩,⟨hsz,fun p o d v e=>absurd e (hno p),fun t _=>?_⟩,?_,fun a b hab _=>?_,fun p v b e=>absurd e (hno p)⟩
  · refine (hT t).mono (fun a L e=>Gm.cut_some.2 ⟨?_,e⟩)
    have:=hH.fresh a L e
    rw [hSn] at this;exact this
  · have:=HInv.start hH K0.idx (by rw [hSn];exact Nat.le_refl _) (Dm P (fun i=>(Array.replicate ops.size false).getD i false=true)) (fun n hn=>.inl (by rw [hP0];rw [hSn] at hn;exact hn))
    refine this.weaken (fun a b c hO=>?_) (fun _ x=>x)
    rcases hO with ⟨h1,h2⟩|⟨p,v,h1,_⟩
    · rw [hP0] at h1 h2
      exact ⟨by rw [hSB];exact h1,h2⟩
    · exact absurd h1 (hno p)
  · rw [hP0,← hSB];exact hab
include h in
theorem Plan.fin (hSf:S.fl=fl) (hSn:S.nx=K0) (hfl:fl≤K0.idx) {l:Nat} {γ:Gm} {w:World} {tmps:Array Value} (hR:RInv nt ops ms P oc tm0 K0 E.ng S γ0 w0 (fun i=>i < ops.size) l γ w tmps) :
    (P ops.size).pan=none∧TR γ (P ops.size).tm tmps∧tmps.size=nt∧HR γ E.ng ⟨addN (flo (P ops.size).A) (P ops.size).B (P ops.size).news,(P ops.size).K,fl⟩ w ∧
      Pres S γ0 w0 ⟨addN (flo (P ops.size).A) (P ops.size).B (P ops.size).news,(P ops.size).K,fl⟩ γ w:=by
  obtain ⟨hx,hs,hh,hold,hfd⟩:=hR
  have hkz:(P 0).K=K0:=h.kz
  have hKn:K0.idx≤(P ops.size).K.idx:=by rw [← hkz];exact h.K (Nat.zero_le _) (Nat.le_refl _)
  have hln:l≤ops.size:=by
    rcases hx.lvl with rfl|⟨e,rfl,he,_⟩
    · exact Nat.zero_le _
    · exact he
  obtain ⟨hA,hB⟩:=h.AB hln (Nat.le_refl _) (fun e he hlt hf=>by have:=(hx.eff e hlt hf).1 hlt;omega)
  refine ⟨?_,fun t=>?_,hs.size,?_⟩
  · cases hp:(P ops.size).pan with
    | none=>rfl
    | some q =>
      obtain ⟨p,v,hp'⟩:=q
      obtain ⟨h1,h2⟩:=h.pan1 (Nat.le_refl _) hp
      have:=hx.live p h1
      rw [h2] at this
      exact absurd rfl this
  · have hP:=h.slotP (i:=ops.size) (Nat.le_refl _)
    by_cases hex:∃ j oj v,j < ops.size∧ops[j]? = some oj∧oj.dst=some t∧(oc j).val=some v
    · obtain ⟨j,oj,v,h0,h1,h2,h3⟩:=hex
      rw [(hP t).1 j oj v h0 h1 h2 h3]
      exact (hs.slot j oj t v h0 h1 h2 h3).mono (Gm.cut_le _ _)
    · rw [(hP t).2 (fun p o v hp ho hv hd=>hex ⟨p,o,v,hp,ho,hd,hv⟩)]
      exact (hs.slot0 t (fun p o v hp ho hv hd=>hex ⟨p,o,v,hp,ho,hd,hv⟩)).mono (Gm.cut_le _ _)
  · have:=hh.final (H:=addN (flo (P ops.size).A) (P ops.size).B (P ops.size).news) (k:=(P ops.size).K) (fun a b e=>?_) (fun a b hab hlt=>?_) (h.domLt hx.lt) (by rw [hSn];exact hKn)
    · rw [hSf] at this;exact this
    · rcases addN_get e with hb|⟨p,h1,h2⟩
      · exact ⟨_,.inl ⟨by rw [← hB];exact hb,rfl⟩⟩
      · obtain ⟨h3,h4,v,h5⟩:=h.news1 (Nat.le_refl _) h1
        refine ⟨_,.inr ⟨p,v,h3,?_,h5,h4,rfl⟩⟩
        unfold flo at h2
        rw [← hA]
        cases hb:tb (P ops.size).A p with
        | false=>rfl
        | true=>rw [hb] at h2;cases h2
    · refine addN_base (by rw [hB];exact hold a b hab hlt) (fun p k o hmem e=>?_)
      obtain ⟨q1,q2,_⟩:=h.news1 (Nat.le_refl _) hmem
      have:(P 0).K.idx≤(P p).K.idx:=h.K (Nat.zero_le _) (by omega)
      rw [← q2,e,hkz] at this
      omega
end
noncomputable def startA (E:Env) (H:Hp) (ro:RO):Option AF:=
  match ro with
  | .call f args=>enterA E f args false
  | .yld l args=>roundA E H l args
  | _=>none
noncomputable def callA (D:DrawF) (E:Env) (N:Nat):CallF:=fun ro H=>match startA E H ro with|some f'=>runA D E N f' [] H|none=>.bad
noncomputable def drawF (N:Nat) (n:Nat):DrawF:=
  Nat.rec (motive:=fun _=>DrawF) (fun _ _ _ _ _ _ _ _ _=>none) (fun _ ih E _ nt tm ops _ _ _ S=>drawA (callA ih E N) E nt ops tm S) n
theorem noDst_ok:∀ {l:List Oper} {a:Nat},noDst l a=true→∀ o,o ∈ l→o.dst≠some a
  | [],a,_,o,ho=>by cases ho
  | x :: l,a,h,o,ho=>by
    have h':(Bool.rec (noDst l a) false (Option.rec false (fun e=>Nat.beq e a) x.dst):Bool)=true:=h
    cases hb:(Option.rec false (fun e=>Nat.beq e a) x.dst:Bool) with
    | true=>rw [hb] at h';cases h'
    | false =>
      rw [hb] at h'
      rcases List.mem_cons.1 ho with rfl|ho
      · intro e
        rw [e] at hb
        have:Nat.beq a a=false:=hb
        rw [nat_beq_decide] at this
        simp at this
      · exact noDst_ok h' o ho
theorem all_free {ops:Array Oper}:∀ {l:List Nat},(List.rec true (fun a _ ih=>Bool.rec false ih (noDst ops.toList a)) l:Bool)=true→∀ a,a ∈ l→noDst ops.toList a=true
  | [],_,a,ha=>by cases ha
  | x::l,h,a,ha=>by
    obtain ⟨h1,h2⟩:=recf (b:=noDst ops.toList x) h
    rcases List.mem_cons.1 ha with rfl|ha
    · exact h1
    · exact all_free h2 a ha
theorem resFree_ok {E:Env} {fn:Nat} {ops:Array Oper} (h:resFree E fn ops=true) (a:Nat) (ha:a ∈ resCells E fn) (o:Oper) (ho:o ∈ ops.toList):o.dst≠some a:=
  noDst_ok (all_free h a ha) o ho
section
variable {E:Env} (hE:E.Ok)
include hE
theorem startA_ok {H:Hp} {γ:Gm} {w:World} {s:Sem Next} {ro:RO} {f':AF} (h:startA E H ro=some f') (hH:HR γ E.ng H w) (ho:OpR E γ H w s ro):(∀ d,ro≠.dfr d)∧∃ fr',Enters E.P s w fr'∧FR γ E f' fr':=by
  cases ro with
  | call f args =>
    obtain ⟨vs,h1,h2,_⟩:=ho
    exact ⟨fun d e=>(by cases e),_,.inl ⟨f,_,h1,rfl⟩,enterA_ok hE h h2⟩
  | yld l args =>
    obtain ⟨L,vs,hL,h2,h3⟩:=ho
    obtain ⟨fn,tmps,a,b,g1,g2⟩:=roundA_ok h hH h2 hL
    exact ⟨fun d e=>(by cases e),_,.inr ⟨L.blk,fn,tmps,a,b,(h3 w).trans g1,rfl⟩,g2⟩
  | v _ _=>cases h
  | dfr _=>cases h
  | pan _=>cases h
  | rcv=>cases h
theorem callA_ok {D:DrawF} (hD:DrawOk D E) (N:Nat):CallOk (callA D E N) E:=by
  intro ro H γ w s hH ho
  unfold callA
  cases hen:startA E H ro with
  | none=>exact ⟨fun x S' e=>(by cases e),fun x S' e=>(by cases e)⟩
  | some f' =>
    obtain ⟨hnd,fr',he,hf⟩:=startA_ok hE hen hH ho
    have hr:=runA_ok hE hD N hf .nil hH
    simp only
    refine ⟨fun x S' e=>⟨hnd,fr',he,?_⟩,fun x S' e=>⟨hnd,fr',he,?_⟩⟩
    · rw [e] at hr
      exact hr.2
    · rw [e] at hr
      exact hr
theorem drawA_ok {CALL:CallF} (hC:CallOk CALL E) (hmix:E.P.follows .mixedOrders=true):DrawOk (fun E _ nt tm ops _ _ _ S=>drawA CALL E nt ops tm S) E:=by
  intro id ops fn nt tm t k dfs dk rd cs S γ fr frs w k' hf hcs hH hto hk
  unfold sRegion
  simp only
  cases hd:drawA CALL E nt ops tm S with
  | none=>trivial
  | some r =>
    obtain ⟨ms,P,oc,hpl,hq,hfl,hng,hr⟩:=draw1_ok hd
    have hm:=hf.mode rfl
    have hH1:HR γ E.ng S { w with drawn:=w.drawn+1 }:=hH.drew rfl
    have hstart:=hpl.start rfl rfl hH1 (hf.tr rfl) hf.nt
    have hV:=schedule_valid ops (w.tape w.drawn (.order fr.fn id))
    have hst:∀ cs,step E.P (lone fr cs w)=.next (lone { fr with todo:=.inRegion ops (Region.schedule true ops (w.tape w.drawn (.order fr.fn id)))::k' } cs { w with drawn:=w.drawn+1 }):=fun cs=>by
      have:=st_draw (P:=E.P) (cs:=cs) (w:=w) hm hto
      rw [hmix] at this;exact this
    have hrun:=fun cs=>hpl.run hE hC hq rfl rfl hng hfl (cs:=cs) (k':=k') hV (by simp) (fr:={ fr with todo:=.inRegion ops (Region.schedule true ops (w.tape w.drawn (.order fr.fn id)))::k' }) hstart hm rfl
    rcases hr with ⟨p,v,hp,hpn,rfl⟩|⟨hpn,rfl⟩
    · show StepQ E γ S fr frs w (Bool.rec .bad (.next ⟨fn,nt,tm,[],dfs,.pan v false,true,dk,rd⟩ cs _) (resFree E fn ops))
      cases hfree:resFree E fn ops with
      | false=>trivial
      | true =>
      intro bot
      rcases hrun (frs++bot) with ⟨γ',w',l',tmps',h1,h2⟩|⟨i,v2,hp2,hi,h1,v',γ',w',tmps',L',h2,hkeep,h3,h4,h5,h6⟩
      · have:=(hpl.fin rfl rfl hfl h2).1
        rw [hpn] at this;cases this
      · have:=hpl.pan2 (Nat.le_refl _) hi h1
        rw [hpn] at this;cases this
        have hraise:(({ fr with tmps:=tmps',todo:=.inRegion ops L'::k' }:Frame).raise [{ v:=v',recovered:=false }])={ fr with tmps:=tmps',todo:=.inRegion ops L'::k',mode:=.panicking [{ v:=v',recovered:=false }] }:=by
          simp [Frame.raise,hm]
        have h3':Steps E.P (lone { fr with todo:=.inRegion ops (Region.schedule true ops (w.tape w.drawn (.order fr.fn id)))::k' } (frs++bot) { w with drawn:=w.drawn+1 })
            (lone { fr with tmps:=tmps',todo:=.inRegion ops L'::k',mode:=.panicking [{ v:=v',recovered:=false }] } (frs++bot) w'):=by
          rw [← hraise];exact h3
        refine ⟨γ',_,frs,w',Steps.head (hst _) h3',⟨hf.fn,h2,(show ∀ a,a ∈ resCells E fn→VR γ' (tget tm a) (tmps'.getD a Go.undef) from fun a ha=>by rw [hkeep a (resFree_ok hfree a ha)];exact ((hf.tr rfl) a).mono h6.ext),fun e=>(by cases e),hf.dfs.mono h6.ext,.pan false h4,hf.kind,hf.rd.mono h6.ext,hf.fi⟩,hcs.mono h6.ext,h5,h6.drew rfl rfl rfl,?_⟩
        exact lastF_eq (fr:=fr) (fr':={ fr with tmps:=tmps',todo:=.inRegion ops L'::k',mode:=.panicking [{ v:=v',recovered:=false }] }) rfl rfl frs
    · intro bot
      rcases hrun (frs++bot) with ⟨γ',w',l',tmps',h1,h2⟩|⟨i,v2,hp2,hi,h1,_⟩
      · obtain ⟨_,g1,g2,g3,g4⟩:=hpl.fin rfl rfl hfl h2
        have h4:step E.P (lone { fr with tmps:=tmps',todo:=.inRegion ops []::k' } (frs++bot) w')=.next (lone { fr with tmps:=tmps',todo:=k' } (frs++bot) w'):=
          st_regionEnd (fr:={ fr with tmps:=tmps',todo:=.inRegion ops []::k' }) (ops:=ops) hm rfl
        refine ⟨γ',{ fr with tmps:=tmps',todo:=k' },frs,w',Steps.head (hst _) (Steps.trans h1 (Steps.one h4)),⟨hf.fn,g2,(show TR _ _ _ from g1),fun _=>hk.mono g4.ext,hf.dfs.mono g4.ext,hf.md.mono g4.ext,hf.kind,hf.rd.mono g4.ext,hf.fi⟩,hcs.mono g4.ext,g3,g4.drew rfl rfl rfl,?_⟩
        exact lastF_eq (fr:=fr) (fr':={ fr with tmps:=tmps',todo:=k' }) rfl rfl frs
      · have:=hpl.pan2 (Nat.le_refl _) hi h1
        rw [hpn] at this;cases this
theorem drawF_ok (hmix:E.P.follows .mixedOrders=true) (N:Nat) (n:Nat):DrawOk (drawF N n) E:=by
  induction n with
  | zero =>
    intro id ops fn nt tm t k dfs dk rd cs S γ fr frs w k' hf hcs hH hto hk
    trivial
  | succ n ih=>exact drawA_ok hE (callA_ok hE ih N) hmix
end
noncomputable def pick {α:Type} (l:List α):Bool→List α:=List.rec (motive:=fun _=>Bool→List α) (fun _=>[]) (fun x _ ih b=>Bool.rec (ih true) (x::ih false) b) l
theorem pick_get {α:Type}:∀ (l:List α) (n:Nat),(pick l true)[n]? = l[2 * n]?∧(pick l false)[n]? = l[2 * n+1]?
  | [],n=>by simp [pick]
  | x :: l,n=>by
    obtain ⟨h1,h2⟩:=pick_get l n
    constructor
    · show (x::pick l false)[n]? = _
      cases n with
      | zero=>rfl
      | succ n=>rw [List.getElem?_cons_succ,(pick_get l n).2];rw [show 2 * (n+1)=(2 * n+1)+1 from by omega,List.getElem?_cons_succ]
    · show (pick l true)[n]? = _
      rw [h1,List.getElem?_cons_succ]
noncomputable def ofL {α:Type} (f:Nat):List α→T α:=Nat.rec (motive:=fun _=>List α→T α) (fun _=>.e) (fun _ ih l=>List.rec .e (fun x t _=>.n (ih (pick t true)) (some x) (ih (pick t false))) l) f
theorem ofL_get {α:Type}:∀ (f:Nat) (l:List α) (k:Ps) (x:α),T.get k (ofL f l)=some x→l[k.idx]? = some x
  | 0,l,k,x,h=>by rw [show ofL 0 l=.e from rfl,T.get_e] at h;cases h
  | f+1,[],k,x,h=>by rw [show ofL (f+1) ([]:List α)=.e from rfl,T.get_e] at h;cases h
  | f + 1,y::t,k,x,h=>by
    have h:T.get k (T.n (ofL f (pick t true)) (some y) (ofL f (pick t false)))=some x:=h
    cases k with
    | h=>exact h
    | o p =>
      have h:T.get p (ofL f (pick t true))=some x:=h
      have:=ofL_get f _ p x h
      rw [(pick_get t p.idx).1] at this
      rw [Ps.idx_o,show p.idx+p.idx+1=(2 * p.idx)+1 from by omega,List.getElem?_cons_succ];exact this
    | i p =>
      have h:T.get p (ofL f (pick t false))=some x:=h
      have:=ofL_get f _ p x h
      rw [(pick_get t p.idx).2] at this
      rw [Ps.idx_i,show p.idx+p.idx+2=(2 * p.idx+1)+1 from by omega,List.getElem?_cons_succ];exact this
noncomputable def lmap {α β:Type} (f:α→β) (l:List α):List β:=List.rec [] (fun x _ ih=>f x::ih) l
theorem lmap_get {α β:Type} {f:α→β}:∀ {l:List α} {n:Nat} {y:β},(lmap f l)[n]? = some y→∃ x,l[n]? = some x∧f x=y
  | [],n,y,h=>by simp [lmap] at h
  | x::l,n,y,h=>by
    have h:(f x::lmap f l)[n]? = some y:=h
    cases n with
    | zero=>simp at h;exact ⟨x,rfl,h⟩
    | succ n=>rw [List.getElem?_cons_succ] at h;rw [List.getElem?_cons_succ];exact lmap_get h
noncomputable def fiOf (fn:Func):Option FI:=match fn.body with|none=>none|some c=>Bool.rec (some ⟨c,fn.ntmps,fn.results.toList⟩) none (fn.name == "runtime.NumGoroutine")
noncomputable def extOf (fn:Func):Option Ext:=
  match fn.body with
  | some _=>none
  | none=>Bool.rec none (Bool.rec (Bool.rec (Bool.rec none (some .idxByte) (fn.name == "internal/bytealg.IndexByteString")) (some .noEscape) (fn.name == "internal/abi.NoEscape")) (some .sqrt) (fn.name == "math.sqrt")) (fn.origin == "")
theorem sqrt_next:Extern.allNextRows.lookup "math.sqrt" = none:=by kernel_rfl
theorem none_next:Extern.allNextRows.lookup "" = none:=by kernel_rfl
theorem sqrt_gen:Extern.allGenericRows.lookup "math.sqrt" = none:=by kernel_rfl
theorem sqrt_typed:Extern.allTypedRows.lookup "math.sqrt" = none:=by kernel_rfl
theorem sqrt_row:Extern.allRows.lookup "math.sqrt" = some Extern.MathSqrt.sqrt:=by kernel_rfl
theorem noesc_next:Extern.allNextRows.lookup "internal/abi.NoEscape" = none:=by kernel_rfl
theorem noesc_gen:Extern.allGenericRows.lookup "internal/abi.NoEscape" = none:=by kernel_rfl
theorem noesc_typed:Extern.allTypedRows.lookup "internal/abi.NoEscape" = none:=by kernel_rfl
theorem noesc_row:Extern.allRows.lookup "internal/abi.NoEscape" = some Extern.AbiNoEscape.same:=by kernel_rfl
theorem idxb_next:Extern.allNextRows.lookup "internal/bytealg.IndexByteString" = none:=by kernel_rfl
theorem idxb_gen:Extern.allGenericRows.lookup "internal/bytealg.IndexByteString" = none:=by kernel_rfl
theorem idxb_typed:Extern.allTypedRows.lookup "internal/bytealg.IndexByteString" = none:=by kernel_rfl
theorem idxb_row:Extern.allRows.lookup "internal/bytealg.IndexByteString" = some Extern.BytealgIndexByte.indexByte:=by kernel_rfl
theorem extOf_ok {fn:Func} {x:Ext} (h:extOf fn=some x):fn.body=none∧(fn.name == "runtime.NumGoroutine")=false∧Extern.findNext fn=none∧Extern.find fn=some x.sem:=by
  unfold extOf at h
  split at h
  · cases h
  · rename_i hb
    obtain ⟨h1,h2⟩:=rec_some h
    have e1:fn.origin = "":=eq_of_beq h1
    cases h3:(fn.name == "math.sqrt") with
    | true =>
      rw [h3] at h2
      cases h2
      have e2:fn.name = "math.sqrt":=eq_of_beq h3
      refine ⟨hb,by rw [e2];decide,?_,?_⟩
      · simp [Extern.findNext,e1,e2,sqrt_next,none_next]
      · simp [Extern.find,e2,sqrt_gen,sqrt_typed,sqrt_row,Ext.sem]
    | false =>
      rw [h3] at h2
      cases h4:(fn.name == "internal/abi.NoEscape") with
      | true =>
        rw [h4] at h2
        cases h2
        have e2:fn.name = "internal/abi.NoEscape":=eq_of_beq h4
        refine ⟨hb,by rw [e2];decide,?_,?_⟩
        · simp [Extern.findNext,e1,e2,noesc_next,none_next]
        · simp [Extern.find,e2,noesc_gen,noesc_typed,noesc_row,Ext.sem]
      | false =>
        rw [h4] at h2
        obtain ⟨h6,h7⟩:=rec_some (b:=fn.name == "internal/bytealg.IndexByteString") h2
        cases h7
        have e2:fn.name = "internal/bytealg.IndexByteString":=eq_of_beq h6
        refine ⟨hb,by rw [e2];decide,?_,?_⟩
        · simp [Extern.findNext,e1,e2,idxb_next,none_next]
        · simp [Extern.find,e2,idxb_gen,idxb_typed,idxb_row,Ext.sem]
noncomputable def mkEnvA (am:Nat→Bool) (P:Program):Env:=⟨P,ofL 40 P.types.toList,ofL 40 (lmap fiOf P.funcs.toList),ofL 40 (lmap extOf P.funcs.toList),P.globals.size,am⟩
theorem mkEnvA_ok (am:Nat→Bool) (P:Program):(mkEnvA am P).Ok:=by
  refine ⟨fun t i h=>?_,fun f i h=>?_,fun f x h=>?_⟩
  · have:=ofL_get 40 _ _ _ h
    rw [Ps.idx_of,Array.getElem?_toList] at this
    show P.info? t=some i
    unfold Tables.info?
    rw [if_pos (Array.getElem?_eq_some_iff.1 this).1]
    exact this
  · have:=ofL_get 40 _ _ _ h
    rw [Ps.idx_of] at this
    obtain ⟨fn,h1,h2⟩:=lmap_get this
    rw [Array.getElem?_toList] at h1
    refine ⟨fn,h1,?_⟩
    unfold fiOf at h2
    split at h2
    · cases h2
    · rename_i c hc
      cases hn:(fn.name == "runtime.NumGoroutine") with
      | true=>rw [hn] at h2;cases h2
      | false=>rw [hn] at h2;cases h2;exact ⟨hc,rfl,rfl,rfl⟩
  · have:=ofL_get 40 _ _ _ h
    rw [Ps.idx_of] at this
    obtain ⟨fn,h1,h2⟩:=lmap_get this
    rw [Array.getElem?_toList] at h1
    exact ⟨fn,h1,extOf_ok h2⟩
noncomputable def isTrue (r:SR):Bool:=match r with|.fin (.bool b) _=>b|_=>false
noncomputable def bodyOf (E:Env) (fn:Nat):Code:=match T.get (Ps.of fn) E.funcs with|some (some i)=>i.code|_=>.skip
noncomputable def two (a b:Code) (k:Nat):Code:=Nat.rec a (fun _ _=>b) k
noncomputable def sub1 (c:Code):Nat→Code:=
  Code.rec (motive:=fun _=>Nat→Code) (fun _=>.skip) (fun _ _ _ _=>.skip) (fun a b _ _=>two a b) (fun _ a b _ _=>two a b) (fun _ b _ _=>b) (fun b _ _=>b) (fun _ _ a b _ _=>two a b) (fun _ _=>.skip) (fun b _ _=>b)
    (fun _ _=>.skip) (fun _ _=>.skip) (fun _=>.skip) (fun _ _=>.skip) c
noncomputable def subC (c:Code) (p:List Nat):Code:=List.rec (motive:=fun _=>Code→Code) (fun c=>c) (fun k _ ih c=>ih (sub1 c k)) p c
noncomputable def opsIn (c:Code):Array Oper:=
  Code.rec #[] (fun _ ops _=>ops) (fun _ _ _ _=>#[]) (fun _ _ _ _ _=>#[]) (fun _ _ _=>#[]) (fun _ _=>#[]) (fun _ _ _ _ _ _=>#[]) (fun _=>#[]) (fun _ _=>#[]) (fun _=>#[]) (fun _=>#[]) #[] (fun _=>#[]) c
noncomputable def cA (E:Env) (fn:Nat) (p:List Nat):AI:=.code (subC (bodyOf E fn) p)
noncomputable def lA (E:Env) (fn:Nat) (p:List Nat):AI:=.lop (subC (bodyOf E fn) p)
noncomputable def sA (E:Env) (fn:Nat) (p:List Nat):AI:=.scp (subC (bodyOf E fn) p)
noncomputable def rA (E:Env) (fn:Nat) (p:List Nat) (i:Nat):AI:=.reg (opsIn (subC (bodyOf E fn) p)) i (ldrop i (opsIn (subC (bodyOf E fn) p)).toList)
noncomputable def xu:AV:=.tup []
theorem HR.sub {γ:Gm} {ng:Nat} {S S':Hp} {w:World} (h:HR γ ng S w) (hs:∀ a o,T.get a S'.hp=some o→T.get a S.hp=some o) (hn:S'.nx=S.nx) (hf:S'.fl=S.fl:=by rfl):HR γ ng S' w:=
  ⟨fun a o ho=>h.obj a o (hs a o ho),fun a a' o o' L L' ho ho'=>by rw [hf];exact h.inj a a' o o' L L' (hs a o ho) (hs a' o' ho'),fun a L hL=>by rw [hn];exact h.fresh a L hL,h.glob⟩
section
variable {E:Env} (hE:E.Ok) (hmix:E.P.follows .mixedOrders=true) {N n:Nat} {S0:Hp} {F:Nat}
include hE hmix
end
structure Kp (S:Hp) (γ:Gm) (w:World) (γ':Gm) (w':World):Prop where
  ext:Gm.le γ γ'
  size:w.heap.size≤w'.heap.size
  keep:∀ r,r < w.heap.size→(∀ a o L,S.hp.get a=some o→S.fl≤a.idx→γ a=some L→L.blk≠r)→w'.heap[r]? = w.heap[r]?
  new:∀ a L,γ' a=some L→a.idx < S.nx.idx→γ a=some L
  os:(w'.os,w'.tape)=(w.os,w.tape)
  out:w'.output=w.output
theorem Pres.kp {S S':Hp} {γ γ':Gm} {w w':World} (h:Pres S γ w S' γ' w'):Kp S γ w γ' w':=⟨h.ext,h.size,h.keep,h.new,h.os,h.out⟩
section
variable {E:Env} (hE:E.Ok) (hmix:E.P.follows .mixedOrders=true) {N n:Nat}
include hE hmix
omit hE hmix
def PureF (E:Env) (f0:AF) (v:AV):Prop:=
  ∀ (γ:Gm) (S:Hp) (fr:Frame) (w:World),FR γ E f0 fr→HR γ E.ng S w→∀ c bot,∃ v' w',Steps E.P (lone fr (c::bot) w) (lone (c.finish v') bot w')∧VR γ v v'∧HR γ E.ng S w'∧Pres S γ w S γ w'
noncomputable def H0 (E:Env):Hp:=⟨.e,Ps.of E.ng,E.ng⟩
theorem H0_get (E:Env) (a:Ps):(H0 E).hp.get a=none:=T.get_e a
theorem HR.h0 {γ:Gm} {S:Hp} {w:World} (h:HR γ E.ng S w):HR (γ.cut E.ng) E.ng (H0 E) w:=by
  refine ⟨fun a o e=>?_,fun a a' o o' L L' e=>?_,fun a L e=>?_,fun g hg=>?_⟩
  · rw [H0_get] at e;cases e
  · rw [H0_get] at e;cases e
  · show a.idx < (Ps.of E.ng).idx
    rw [Ps.idx_of];exact (Gm.cut_some.1 e).1
  · obtain ⟨s,hs⟩:=h.glob g hg
    exact ⟨s,Gm.cut_some.2 ⟨by rw [Ps.idx_of];exact hg,hs⟩⟩
def Plain (E:Env) (f:AF):Prop:=(∀ i,kbA E.ng (tget f.tm i)=true)∧(∃ c,f.todo = [.code c])∧f.dfs = []∧f.md=.run∧f.rd=none∧f.lost=false
theorem FR.cut {γ:Gm} {f:AF} {fr:Frame} (hp:Plain E f) (h:FR γ E f fr):FR (γ.cut E.ng) E f fr:=by
  obtain ⟨h1,⟨c,h2⟩,h3,h4,h5,h6⟩:=hp
  refine ⟨h.fn,h.nt,(by unfold TmQ;rw [h6];exact fun i=>kbA_ok (h.tr h6 i) (h1 i)),fun e=>?_,?_,?_,h.kind,?_,h.fi⟩
  · have:=h.todo e
    rw [h2] at this ⊢
    generalize fr.todo=t at this
    cases this with
    | cons hx ht=>cases ht;cases hx;exact .cons (.code c) .nil
  · have:=h.dfs
    rw [h3] at this ⊢
    generalize fr.defers=t at this
    cases this;exact .nil
  · have:=h.md
    rw [h4] at this ⊢
    generalize fr.mode=t at this
    cases this;exact .run
  · have:=h.rd
    rw [h5] at this ⊢
    generalize fr.roundOf=t at this
    cases this;exact .none
theorem finish_keeps (fr:Frame) (v:Value):(fr.finish v).fn=fr.fn∧(fr.finish v).roundOf=fr.roundOf:=by
  unfold Frame.finish
  split <;> exact ⟨rfl,rfl⟩
theorem argT_flat {k:Nat}:∀ (l:List AV) (i:Nat) (t:Tm),(∀ x,x ∈ l→kbA k x=true)→(∀ j,kbA k (tget t j)=true)→∀ j,kbA k (tget (argT l i t) j)=true
  | [],i,t,_,ht,j=>ht j
  | x::l,i,t,hl,ht,j=>by
    show kbA k (tget (argT l (Nat.succ i) (tset i x t)) j)=true
    refine argT_flat l _ _ (fun y hy=>hl y (List.mem_cons_of_mem _ hy)) (fun j=>?_) j
    by_cases e:i=j
    · subst e;rw [tget_same];exact hl x (List.mem_cons_self ..)
    · rw [tget_ne e];exact ht j
theorem plain_of_enter {F:Nat} {args:List AV} {f0:AF} (h:enterA E F args false=some f0) (ha:∀ x,x ∈ args→kbA E.ng x=true):Plain E f0:=by
  unfold enterA at h
  split at h
  · obtain ⟨_,h2⟩:=rec_some h
    cases h2
    exact ⟨argT_flat args 0 te ha (fun j=>by rw [tget_te];rfl),⟨_,rfl⟩,rfl,rfl,rfl,rfl⟩
  · cases h
end
noncomputable def opOne (ops:Array Oper) (i:Nat) (o:Oper) (rest:List Oper):SF:=fun E fn nt tm k dfs dk rd cs S =>
  match wantA nt ops tm o with
  | none=>.bad
  | some false=>(match putD nt o.dst (.tup []) tm with|some tm'=>.next ⟨fn,nt,tm',.reg ops (Nat.succ i) rest::k,dfs,.run,false,dk,rd⟩ cs S|none=>.bad)
  | some true=>(match evOpX o.op E tm S o.type with
    | none=>.bad
    | some (.v x S')=>(match putD nt o.dst x tm with|some tm'=>.next ⟨fn,nt,tm',.reg ops (Nat.succ i) rest::k,dfs,.run,false,dk,rd⟩ cs S'|none=>.bad)
    | some r=>afterOps ops (.stop tm S i (o::rest) r) E fn nt tm k dfs dk rd cs S)
noncomputable def regF (ops:Array Oper) (i:Nat) (rest:List Oper):SF:=fun E fn nt tm k dfs dk rd cs S =>
  match rest with
  | []=>.next ⟨fn,nt,tm,k,dfs,.run,false,dk,rd⟩ cs S
  | o::rest=>opOne ops i o rest E fn nt tm k dfs dk rd cs S
noncomputable def itemF (D:DrawF) (x:AI):SF:=fun E fn nt tm k dfs dk rd cs S =>
  match x with
  | .code (.region _ ops false)=>.next ⟨fn,nt,tm,.reg ops 0 ops.toList::k,dfs,.run,false,dk,rd⟩ cs S
  | .reg ops i rest=>regF ops i rest E fn nt tm k dfs dk rd cs S
  | x=>sItem D x E fn nt tm k dfs dk rd cs S
noncomputable def stepF (D:DrawF) (E:Env) (f:AF) (cs:List AF) (S:Hp):SR:=
  match f with
  | ⟨fn,nt,tm,x::k,dfs,.run,false,dk,rd⟩=>itemF D x E fn nt tm k dfs dk rd cs S
  | f=>stepA D E f cs S
noncomputable def runF (D:DrawF) (E:Env) (n:Nat):AF→List AF→Hp→SR:=
  Nat.rec (motive:=fun _=>AF→List AF→Hp→SR) (fun f cs S=>.next f cs S) (fun _ ih f cs S=>SR.rec ih .fin .finP .bad (stepF D E f cs S)) n
section
variable {E:Env} (hE:E.Ok) {γ:Gm} {S:Hp} {fr:Frame} {frs:List Frame} {w:World}
include hE
theorem opOne_ok {fn nt:Nat} {tm:Tm} {k:List AI} {dfs:List AD} {dk:Bool} {rd:Option Ps} {ops:Array Oper} {i:Nat} {o:Oper} {rest:List Oper} {cs:List AF}
    (hf:FR γ E ⟨fn,nt,tm,.reg ops i (o::rest)::k,dfs,.run,false,dk,rd⟩ fr) (hcs:CsR γ E cs frs) (hH:HR γ E.ng S w):StepQ E γ S fr frs w (opOne ops i o rest E fn nt tm k dfs dk rd cs S):=by
  obtain ⟨k',ht,ho⟩:=todo_reg hf
  have hm:=hf.mode rfl
  have hT:=hf.tr rfl
  unfold opOne
  cases hw:wantA nt ops tm o with
  | none=>trivial
  | some b =>
    have hwd:=wantA_ok hw hf.nt hT
    cases b with
    | false =>
      simp only
      cases hp:putD nt o.dst (.tup []) tm with
      | none=>trivial
      | some tm' =>
        simp only
        have hfin:finishA ⟨fn,nt,tm,.reg ops i (o::rest)::k,dfs,.run,false,dk,rd⟩ (.tup [])=some ⟨fn,nt,tm',.reg ops (i+1) rest::k,dfs,.run,false,dk,rd⟩:=by
          simp only [finishA_eq,finishA0,hp]
        have hf2:=finishA_ok hfin hf rfl rfl .undef
        exact Goes.here hf hcs rfl rfl (fun cs=>⟨γ,_,w,Steps.one (step_unwanted hm ht ho hwd),hf2,hH,Pres.refl _ _ _⟩)
    | true =>
      simp only
      cases hev:evOpX o.op E tm S o.type with
      | none=>trivial
      | some r =>
        have hop:=evOpX_ok hE hT hH hev
        cases r with
        | v x S' =>
          simp only
          cases hp:putD nt o.dst x tm with
          | none=>trivial
          | some tm' =>
            simp only
            obtain ⟨γ₁,v,w₁,hr,hv,hH1,hP1⟩:=hop
            have hfin:finishA ⟨fn,nt,tm,.reg ops i (o::rest)::k,dfs,.run,false,dk,rd⟩ x=some ⟨fn,nt,tm',.reg ops (i+1) rest::k,dfs,.run,false,dk,rd⟩:=by
              simp only [finishA_eq,finishA0,hp]
            have hf2:=finishA_ok hfin (hf.mono hP1.ext) rfl rfl hv
            exact Goes.here hf hcs rfl rfl (fun cs=>⟨γ₁,_,w₁,Steps.one (step_val hm ht ho hwd (.inr (evOpX_noDefer hev (fun d e=>by cases e))) hr),hf2,hH1,hP1⟩)
        | call f args=>exact stop_ok hf hcs hH hwd hev (fun _ _ e=>by cases e)
        | yld l args=>exact stop_ok hf hcs hH hwd hev (fun _ _ e=>by cases e)
        | dfr d=>exact stop_ok hf hcs hH hwd hev (fun _ _ e=>by cases e)
        | pan v=>exact stop_ok hf hcs hH hwd hev (fun _ _ e=>by cases e)
        | rcv=>exact stop_ok hf hcs hH hwd hev (fun _ _ e=>by cases e)
where
  stop_ok {fn nt:Nat} {tm:Tm} {k:List AI} {dfs:List AD} {dk:Bool} {rd:Option Ps} {ops:Array Oper} {i:Nat} {o:Oper} {rest:List Oper} {cs:List AF} {r:RO}
      (hf:FR γ E ⟨fn,nt,tm,.reg ops i (o::rest)::k,dfs,.run,false,dk,rd⟩ fr) (hcs:CsR γ E cs frs) (hH:HR γ E.ng S w) (hwd:Region.wanted o (yielded ops fr.tmps)=true)
      (hev:evOpX o.op E tm S o.type=some r) (hr:∀ x S,r≠.v x S):StepQ E γ S fr frs w (afterOps ops (.stop tm S i (o::rest) r) E fn nt tm k dfs dk rd cs S):=by
    have hq:RegQ E S γ w fn nt k dfs dk rd ops (.stop tm S i (o::rest) r) γ fr w:=.stop hf hH (Pres.refl _ _ _) hwd hev hr
    obtain ⟨S₁,h3,h4⟩:=afterOps_ok hE (tm0:=tm) hq hcs
    exact StepQ.ahead (fun cs=>Steps.refl _ _) h3 rfl rfl h4
variable {D:DrawF} (hD:DrawOk D E)
include hD
theorem stepF_ok {f:AF} {cs:List AF} (hf:FR γ E f fr) (hcs:CsR γ E cs frs) (hH:HR γ E.ng S w):StepQ E γ S fr frs w (stepF D E f cs S):=by
  unfold stepF
  split
  · rename_i fn nt tm x k dfs dk rd
    unfold itemF
    split
    · rename_i id ops
      obtain ⟨k',ht,hk⟩:=IsR.code (hf.todo rfl)
      have hf2:IsR γ (.reg ops 0 ops.toList::k) (.inRegion ops (List.range ops.size)::k'):=by
        rw [List.range_eq_range',← Array.length_toList]
        exact .cons (.reg rfl) hk
      exact to_ok hf hcs hH hf2 (fun cs=>st_region (hf.mode rfl) ht)
    · rename_i ops i rest
      unfold regF
      split
      · have hq:RegQ E S γ w fn nt k dfs dk rd ops (.done tm S) γ fr w:=.done hf hH (Pres.refl _ _ _)
        obtain ⟨S₁,h3,h4⟩:=afterOps_ok hE (tm0:=tm) hq hcs
        exact StepQ.ahead (fun cs=>Steps.refl _ _) h3 rfl rfl h4
      · exact opOne_ok hE hf hcs hH
    · have:sItem D x E fn nt tm k dfs dk rd cs S=stepA D E ⟨fn,nt,tm,x::k,dfs,.run,false,dk,rd⟩ cs S:=rfl
      rw [this]
      exact stepA_ok hE hD hf hcs hH
  · exact stepA_ok hE hD hf hcs hH
theorem runF_ok (n:Nat):∀ {f:AF} {cs:List AF} {S:Hp} {γ:Gm} {fr:Frame} {frs:List Frame} {w:World},FR γ E f fr→CsR γ E cs frs→HR γ E.ng S w→RunQ E γ S fr frs w (runF D E n f cs S):=by
  induction n with
  | zero =>
    intro f cs S γ fr frs w hf hcs hH bot
    exact ⟨γ,fr,frs,w,Steps.refl _ _,hf,hcs,hH,Pres.refl _ _ _,rfl⟩
  | succ n ih =>
    intro f cs S γ fr frs w hf hcs hH
    have h1:=stepF_ok hE hD hf hcs hH
    have e:runF D E (n+1) f cs S=SR.rec (runF D E n) .fin .finP .bad (stepF D E f cs S):=rfl
    rw [e]
    generalize stepF D E f cs S=r at h1
    cases r with
    | next f' cs' S'=>exact RunQ.after h1 (fun a b c=>ih a b c)
    | fin v S'=>exact h1.run
    | finP v S'=>exact h1.run
    | bad=>trivial
end
section
variable {E:Env} (hE:E.Ok) (hmix:E.P.follows .mixedOrders=true) {N n:Nat}
include hE hmix
omit hE hmix
end
theorem off {x:Bool} {p:Prop} (hx:x=true↔p) (h:¬ p):x=false:=by
  cases x with
  | false=>rfl
  | true=>exact absurd (hx.1 rfl) h
section
section
variable {CALL:CallF} {E:Env} {nt:Nat} {ops:Array Oper} {fl:Nat}
end
open Classical in
section
variable {E:Env} (hE:E.Ok) (hmix:E.P.follows .mixedOrders=Bool.true) {N n:Nat} {S0:Hp} {f0:AF}
include hE hmix
end
end
def Gm.via (γ:Gm) (ρ:Ps→Ps):Gm:=fun a=>γ (ρ a)
noncomputable def renV (ρ:Ps→Ps) (x:AV):AV:=
  AV.rec (motive_1:=fun _=>AV) (motive_2:=fun _=>List AV) (fun k n=>.int k n) (fun b=>.bool b) (fun k b=>.flt k b) (fun s=>.str s) .nilp (fun b o=>.ptr (ρ b) o) .nils (fun b o l c=>.sl (ρ b) o l c) (fun b o l z=>.su (ρ b) o l z) .nilm
    (fun b=>.mp (ρ b)) (fun f _ _ x y=>.fn f x y) (fun b=>.yl (ρ b)) .nilf (fun t _ x=>.ifc t x) .nili (fun _ x=>.agg x) (fun _ x=>.tup x) (fun b e l z=>.sa (ρ b) e l z) (fun b i z k=>.pte (ρ b) i z k) .any [] (fun _ _ x y=>x::y) x
noncomputable def renL (ρ:Ps→Ps) (l:List AV):List AV:=
  AV.rec_1 (motive_1:=fun _=>AV) (motive_2:=fun _=>List AV) (fun k n=>.int k n) (fun b=>.bool b) (fun k b=>.flt k b) (fun s=>.str s) .nilp (fun b o=>.ptr (ρ b) o) .nils (fun b o l c=>.sl (ρ b) o l c) (fun b o l z=>.su (ρ b) o l z) .nilm
    (fun b=>.mp (ρ b)) (fun f _ _ x y=>.fn f x y) (fun b=>.yl (ρ b)) .nilf (fun t _ x=>.ifc t x) .nili (fun _ x=>.agg x) (fun _ x=>.tup x) (fun b e l z=>.sa (ρ b) e l z) (fun b i z k=>.pte (ρ b) i z k) .any [] (fun _ _ x y=>x::y) l
theorem renL_map (ρ:Ps→Ps):∀ l:List AV,renL ρ l=l.map (renV ρ)
  | []=>rfl
  | x::l=>by show renV ρ x::renL ρ l=_;rw [renL_map ρ l];rfl
section
variable {γ γ':Gm} {ρ:Ps→Ps}
theorem renV_fwd (h:∀ a L,γ a=some L→γ' (ρ a)=some L) {x:AV} {y:Value} (hx:VR γ x y):VR γ' (renV ρ x) y:=
  VR.rec (γ:=γ) (motive_1:=fun x y _=>VR γ' (renV ρ x) y) (motive_2:=fun l l' _=>LR γ' (renL ρ l) l')
    (fun k n=>.int k n) (fun b=>.bool b) (fun k b=>.flt k b) (fun s=>.str s) .nilp (fun o e=>.ptr o (h _ _ e)) .nils (fun o l c e=>.sl o l c (h _ _ e))
    (fun o l c z e hl hz he=>.su o l c z (h _ _ e) hl hz he) .nilm (fun e=>.mp (h _ _ e)) (fun f _ _ h hc=>.fn f h hc) (fun e=>.yl (h _ _ e)) .nilf
    (fun t _ h=>.ifc t h) .nili (fun _ h=>.agg h) (fun _ h=>.tup h) (fun e' l c z e hl hz he=>.sa e' l c z (h _ _ e) hl hz he) (fun i z k e=>.pte i z k (h _ _ e)) (fun v=>.any v) .nil (fun _ _ h t=>.cons h t) hx
theorem renL_fwd (h:∀ a L,γ a=some L→γ' (ρ a)=some L) {x:List AV} {y:List Value} (hx:LR γ x y):LR γ' (renL ρ x) y:=by
  induction x generalizing y with
  | nil=>cases hx;exact .nil
  | cons x l ih=>cases hx with|cons h1 t=>exact .cons (renV_fwd h h1) (ih t)
theorem renV_back (x:AV):∀ {y:Value},VR γ (renV ρ x) y→VR (γ.via ρ) x y:=
  AV.rec (motive_1:=fun x=>∀ {y:Value},VR γ (renV ρ x) y→VR (γ.via ρ) x y) (motive_2:=fun l=>∀ {y:List Value},LR γ (renL ρ l) y→LR (γ.via ρ) l y)
    (fun k n y h=>by have h':VR γ (.int k n) y:=h;cases h';exact .int k n)
    (fun b y h=>by have h':VR γ (.bool b) y:=h;cases h';exact .bool b)
    (fun k b y h=>by have h':VR γ (.flt k b) y:=h;cases h';exact .flt k b)
    (fun s y h=>by have h':VR γ (.str s) y:=h;cases h';exact .str _)
    (fun {y} h=>by have h':VR γ .nilp y:=h;cases h';exact .nilp)
    (fun b o y h=>by have h':VR γ (.ptr (ρ b) o) y:=h;cases h' with|ptr _ e=>exact .ptr o e)
    (fun {y} h=>by have h':VR γ .nils y:=h;cases h';exact .nils)
    (fun b o l c y h=>by have h':VR γ (.sl (ρ b) o l c) y:=h;cases h' with|sl _ _ _ e=>exact .sl o l c e)
    (fun b o l z y h=>by have h':VR γ (.su (ρ b) o l z) y:=h;cases h' with|su _ _ c _ e hl hz he=>exact .su o l c z e hl hz he)
    (fun {y} h=>by have h':VR γ .nilm y:=h;cases h';exact .nilm)
    (fun b y h=>by have h':VR γ (.mp (ρ b)) y:=h;cases h' with|mp e=>exact .mp e)
    (fun f a b iha ihb y h=>by have h':VR γ (.fn f (renL ρ a) (renL ρ b)) y:=h;cases h' with|fn _ h1 h2=>exact .fn f (iha h1) (ihb h2))
    (fun b y h=>by have h':VR γ (.yl (ρ b)) y:=h;cases h' with|yl e=>exact .yl e)
    (fun {y} h=>by have h':VR γ .nilf y:=h;cases h';exact .nilf)
    (fun t v ih y h=>by have h':VR γ (.ifc t (renV ρ v)) y:=h;cases h' with|ifc _ e=>exact .ifc t (ih e))
    (fun {y} h=>by have h':VR γ .nili y:=h;cases h';exact .nili)
    (fun l ih y h=>by have h':VR γ (.agg (renL ρ l)) y:=h;cases h' with|agg e=>exact .agg (ih e))
    (fun l ih y h=>by have h':VR γ (.tup (renL ρ l)) y:=h;cases h' with|tup e=>exact .tup (ih e))
    (fun b o l z y h=>by have h':VR γ (.sa (ρ b) o l z) y:=h;cases h' with|sa _ _ c _ e hl hz he=>exact .sa o l c z e hl hz he)
    (fun b i z k y h=>by have h':VR γ (.pte (ρ b) i z k) y:=h;cases h' with|pte _ _ _ e=>exact .pte i z k e)
    (fun {y} h=>.any y)
    (fun {y} h=>by have h':LR γ [] y:=h;cases h';exact .nil)
    (fun x l ihx ihl y h=>by have h':LR γ (renV ρ x::renL ρ l) y:=h;cases h' with|cons e t=>exact .cons (ihx e) (ihl t)) x
theorem renL_back (x:List AV) {y:List Value} (hx:LR γ (renL ρ x) y):LR (γ.via ρ) x y:=by
  induction x generalizing y with
  | nil=>have h':LR γ [] y:=hx;cases h';exact .nil
  | cons x l ih=>have h':LR γ (renV ρ x::renL ρ l) y:=hx;cases h' with|cons h1 t=>exact .cons (renV_back x h1) (ih t)
end
noncomputable def mapQ {α:Type} (g:α→α) (q:Q α):Q α:=⟨g q.a,g q.b,g q.c,g q.d⟩
noncomputable def mapT {α:Type} (g:α→α) (t:T α):T α:=T.rec .e (fun _ v _ l r=>.n l (Option.rec none (fun x=>some (g x)) v) r) t
theorem mapT_get {α:Type} (g:α→α) (p:Ps):∀ t:T α,T.get p (mapT g t)=Option.rec none (fun x=>some (g x)) (T.get p t):=by
  induction p with
  | h=>intro t;cases t <;> rfl
  | o p ih=>intro t;cases t with
    | e=>rfl
    | n l v r=>show T.get p (mapT g l)=_;rw [ih];rfl
  | i p ih=>intro t;cases t with
    | e=>rfl
    | n l v r=>show T.get p (mapT g r)=_;rw [ih];rfl
theorem accL_map {D:Type} {sub:Nat→Acc D} {G:D→D} {g:AV→AV} (h:∀ i t,(sub i).g (G t)=g ((sub i).g t)) (i:Nat) (t:Q D):(accL sub i).g (mapQ G t)=g ((accL sub i).g t):=by
  rcases accL_cases sub i with ⟨_,e⟩|⟨_,e⟩|⟨_,e⟩|⟨_,e⟩ <;> rw [e] <;> exact h _ _
noncomputable def renT (ρ:Ps→Ps) (t:Tm):Tm:=⟨mapQ (mapQ (mapQ (mapQ (mapQ (renV ρ))))) t.m,mapT (renV ρ) t.x⟩
theorem renT_get (ρ:Ps→Ps) (t:Tm) (i:Nat):tget (renT ρ t) i=renV ρ (tget t i):=by
  unfold tget
  rcases accT_cases i with ⟨_,e⟩|⟨_,e⟩ <;> rw [e]
  · exact accL_map (sub:=accL (accL (accL (accL acc0)))) (g:=renV ρ) (accL_map (sub:=accL (accL (accL acc0))) (accL_map (sub:=accL (accL acc0)) (accL_map (sub:=accL acc0) (accL_map (sub:=acc0) (G:=renV ρ) (fun _ _=>rfl))))) i t.m
  · show (Option.rec (.tup []) (fun v=>v) (T.get (Ps.of i) (mapT (renV ρ) t.x)):AV)=renV ρ (Option.rec (.tup []) (fun v=>v) (T.get (Ps.of i) t.x))
    rw [mapT_get]
    cases T.get (Ps.of i) t.x <;> rfl
noncomputable def renI (ρ:Ps→Ps) (x:AI):AI:=match x with|.inRF l=>.inRF (ρ l)|.endRF l=>.endRF (ρ l)|x=>x
noncomputable def renD (ρ:Ps→Ps) (x:AD):AD:=match x with|.mark b=>.mark (ρ b)|.call f a c=>.call f (renL ρ a) (renL ρ c)
noncomputable def renM (ρ:Ps→Ps) (x:AMd):AMd:=match x with|.pan v r=>.pan (renV ρ v) r|x=>x
noncomputable def renF (ρ:Ps→Ps) (f:AF):AF:=⟨f.fn,f.nt,renT ρ f.tm,f.todo.map (renI ρ),f.dfs.map (renD ρ),renM ρ f.md,f.lost,f.dk,f.rd.map ρ⟩
noncomputable def renE (ρ:Ps→Ps) (l:List (AV × AV × Nat)):List (AV × AV × Nat):=l.map fun x=>(renV ρ x.1,renV ρ x.2.1,x.2.2)
noncomputable def renO (ρ:Ps→Ps) (o:AO):AO:=match o with
  | .cells c el ex sty lo hi=>.cells (renL ρ c) el ex sty lo hi
  | .map es clock=>.map (renE ρ es) clock
  | .loop st pend fn nt tm ps assign body dfr=>.loop st pend fn nt (renT ρ tm) ps assign body (ρ dfr)
  | .arr n z f ov el ex sty=>.arr n z (fun i=>renL ρ (f i)) (Option.rec none (fun p=>some (p.1,renL ρ p.2)) ov) el ex sty
  | o=>o
theorem renL_app (ρ:Ps→Ps) (a b:List AV):renL ρ (a++b)=renL ρ a++renL ρ b:=by rw [renL_map,renL_map,renL_map,List.map_append]
theorem flat_ren (ρ:Ps→Ps) {f g:Nat→List AV} (h:∀ i,g i=renL ρ (f i)):∀ n,flat g n=renL ρ (flat f n)
  | 0=>rfl
  | n+1=>by show flat g n++g n=renL ρ (flat f n++f n);rw [renL_app,flat_ren ρ h n,h n]
theorem arrF_ren (ρ:Ps→Ps) (f:Nat→List AV) (ov:Option (Nat × List AV)) (i:Nat):arrF (fun i=>renL ρ (f i)) (Option.rec none (fun p=>some (p.1,renL ρ p.2)) ov) i=renL ρ (arrF f ov i):=by
  cases ov with
  | none=>rfl
  | some p =>
    obtain ⟨j,l⟩:=p
    show upd (fun i=>renL ρ (f i)) j (renL ρ l) i=renL ρ (upd f j l i)
    unfold upd
    by_cases e:i=j
    · rw [if_pos e,if_pos e]
    · rw [if_neg e,if_neg e]
theorem renL_length (ρ:Ps→Ps) (l:List AV):(renL ρ l).length=l.length:=by rw [renL_map,List.length_map]
section
variable {γ γ':Gm} {ρ:Ps→Ps}
theorem renT_fwd (h:∀ a L,γ a=some L→γ' (ρ a)=some L) {tm:Tm} {tmps:Array Value} (ht:TR γ tm tmps):TR γ' (renT ρ tm) tmps:=fun i=>by rw [renT_get];exact renV_fwd h (ht i)
theorem renT_back {tm:Tm} {tmps:Array Value} (ht:TR γ (renT ρ tm) tmps):TR (γ.via ρ) tm tmps:=fun i=>by have:=ht i;rw [renT_get] at this;exact renV_back _ this
theorem renO_fwd (h:∀ a L,γ a=some L→γ' (ρ a)=some L) {L:Loc} {o:AO} {ob:Obj} (ho:OR γ L o ob):OR γ' L (renO ρ o) ob:=by
  cases o with
  | cells c el ex sty lo hi =>
    obtain ⟨pre,cs,post,fz,h1,h2,h3,h4,h5,h6,h7⟩:=ho
    exact ⟨pre,cs,post,fz,h1,h2,h3,renL_fwd h h4,h5,by rw [renL_length];exact h6,h7⟩
  | map es clock =>
    obtain ⟨es',h1,h2⟩:=ho
    refine ⟨es',h1,?_⟩
    clear h1
    induction h2 with
    | nil=>exact .nil
    | cons n hk hv _ ih=>exact .cons n (renV_fwd h hk) (renV_fwd h hv) ih
  | siter s pos=>exact ho
  | loop st pend fn nt tm ps assign body dfr =>
    obtain ⟨tmps,D,h1,h2,h3,h4⟩:=ho
    exact ⟨tmps,D,h1,renT_fwd h h2,h _ _ h3,h4⟩
  | dfr tk=>exact ho
  | arr n z f ov el ex sty =>
    obtain ⟨⟨pre,cs,post,fz,h1,h2,h3,h4,h5,h6,h7⟩,h8,h9⟩:=ho
    refine ⟨⟨pre,cs,post,fz,h1,h2,h3,?_,h5,Nat.zero_le _,h7⟩,h8,fun i hi=>?_⟩
    · rw [flat_ren ρ (arrF_ren ρ f ov)];exact renL_fwd h h4
    · rw [arrF_ren,renL_map,List.length_map];exact h9 i hi
theorem renO_back {L:Loc} {o:AO} {ob:Obj} (ho:OR γ L (renO ρ o) ob):OR (γ.via ρ) L o ob:=by
  cases o with
  | cells c el ex sty lo hi =>
    obtain ⟨pre,cs,post,fz,h1,h2,h3,h4,h5,h6,h7⟩:=ho
    exact ⟨pre,cs,post,fz,h1,h2,h3,renL_back c h4,h5,by rw [renL_length] at h6;exact h6,h7⟩
  | map es clock =>
    obtain ⟨es',h1,h2⟩:=ho
    refine ⟨es',h1,?_⟩
    clear h1
    induction es generalizing es' with
    | nil=>have h2':ER γ [] es':=h2;cases h2';exact .nil
    | cons x es ih =>
      obtain ⟨k,v,n⟩:=x
      have h2':ER γ ((renV ρ k,renV ρ v,n)::renE ρ es) es':=h2
      cases h2' with
      | cons n hk hv t=>exact .cons n (renV_back k hk) (renV_back v hv) (ih _ t)
  | siter s pos=>exact ho
  | loop st pend fn nt tm ps assign body dfr =>
    obtain ⟨tmps,D,h1,h2,h3,h4⟩:=ho
    exact ⟨tmps,D,h1,renT_back h2,h3,h4⟩
  | dfr tk=>exact ho
  | arr n z f ov el ex sty =>
    obtain ⟨⟨pre,cs,post,fz,h1,h2,h3,h4,h5,h6,h7⟩,h8,h9⟩:=ho
    refine ⟨⟨pre,cs,post,fz,h1,h2,h3,?_,h5,Nat.zero_le _,h7⟩,h8,fun i hi=>?_⟩
    · rw [flat_ren ρ (arrF_ren ρ f ov)] at h4;exact renL_back _ h4
    · have:=h9 i hi
      rw [arrF_ren,renL_map,List.length_map] at this;exact this
theorem renIs_back {l:List AI}:∀ {l':List Item},IsR γ (l.map (renI ρ)) l'→IsR (γ.via ρ) l l':=by
  induction l with
  | nil=>intro l' h;have h':IsR γ [] l':=h;cases h';exact .nil
  | cons x l ih =>
    intro l' h
    have h':IsR γ (renI ρ x::l.map (renI ρ)) l':=h
    cases h' with
    | cons q t =>
      refine .cons ?_ (ih t)
      cases x with
      | inRF k=>have h1:IR γ (.inRF (ρ k)) _:=q;cases h1 with|inRF e=>exact .inRF e
      | endRF k=>have h1:IR γ (.endRF (ρ k)) _:=q;cases h1 with|endRF e=>exact .endRF e
      | code c=>have h1:IR γ (.code c) _:=q;cases h1;exact .code c
      | blk c=>have h1:IR γ (.blk c) _:=q;cases h1;exact .blk c
      | lop c=>have h1:IR γ (.lop c) _:=q;cases h1;exact .lop c
      | scp c=>have h1:IR γ (.scp c) _:=q;cases h1;exact .scp c
      | reg ops i rest=>have h1:IR γ (.reg ops i rest) _:=q;cases h1 with|reg e=>exact .reg e
      | beg=>have h1:IR γ .beg _:=q;cases h1;exact .beg
theorem renDs_back {l:List AD}:∀ {l':List Deferred},DsR γ (l.map (renD ρ)) l'→DsR (γ.via ρ) l l':=by
  induction l with
  | nil=>intro l' h;have h':DsR γ [] l':=h;cases h';exact .nil
  | cons x l ih =>
    intro l' h
    have h':DsR γ (renD ρ x::l.map (renD ρ)) l':=h
    cases h' with
    | cons q t =>
      refine .cons ?_ (ih t)
      cases x with
      | mark b=>have h1:DR γ (.mark (ρ b)) _:=q;cases h1 with|mark e=>exact .mark e
      | call f a c=>have h1:DR γ (.call f (renL ρ a) (renL ρ c)) _:=q;cases h1 with|call f e1 e2=>exact .call f (renL_back a e1) (renL_back c e2)
theorem renM_back {m:AMd} {m':FrameMode} (h:MR γ (renM ρ m) m'):MR (γ.via ρ) m m':=by
  cases m with
  | run=>have h1:MR γ .run m':=h;cases h1;exact .run
  | ret=>have h1:MR γ .ret m':=h;cases h1;exact .ret
  | pan v r=>have h1:MR γ (.pan (renV ρ v) r) m':=h;cases h1 with|pan r e=>exact .pan r (renV_back v e)
theorem renRd_back {m:Option Ps} {m':Option Nat} (h:RdR γ (m.map ρ) m'):RdR (γ.via ρ) m m':=by
  cases m with
  | none=>have h1:RdR γ none m':=h;cases h1;exact .none
  | some l=>have h1:RdR γ (some (ρ l)) m':=h;cases h1 with|some e=>exact .some e
theorem renF_back {E:Env} {f:AF} {fr:Frame} (h:FR γ E (renF ρ f) fr):FR (γ.via ρ) E f fr:=by
  refine ⟨h.fn,h.nt,?_,fun e=>renIs_back (h.todo (by show renM ρ f.md=.run;rw [e];rfl)),renDs_back h.dfs,renM_back h.md,h.kind,renRd_back h.rd,h.fi⟩
  have:=h.tm
  have this':TmQ γ E f.fn f.lost (renT ρ f.tm) fr.tmps:=this
  unfold TmQ at this' ⊢
  cases hl:f.lost with
  | false=>rw [hl] at this';exact renT_back this'
  | true =>
    rw [hl] at this'
    intro a ha
    have h1:=this' a ha
    rw [renT_get] at h1
    exact renV_back _ h1
theorem renCs_back {E:Env} {l:List AF}:∀ {l':List Frame},CsR γ E (l.map (renF ρ)) l'→CsR (γ.via ρ) E l l':=by
  induction l with
  | nil=>intro l' h;have h':CsR γ E [] l':=h;cases h';exact .nil
  | cons x l ih =>
    intro l' h
    have h':CsR γ E (renF ρ x::l.map (renF ρ)) l':=h
    cases h' with
    | cons q t=>exact .cons (renF_back q) (ih t)
end
structure Kd (S:Hp) (γ:Gm) (w:World) (S':Hp) (γ':Gm) (w':World):Prop where
  kp:Kp S γ w γ' w'
  desc:∀ a o L,S'.hp.get a=some o→S.fl≤a.idx→γ' a=some L→w.heap.size≤L.blk∨∃ a₀ o₀ L₀,S.hp.get a₀=some o₀∧S.fl≤a₀.idx∧γ a₀=some L₀∧L₀.blk=L.blk
  fl:S'.fl=S.fl
  nx:S.nx.idx≤S'.nx.idx
theorem Pres.kd {S S':Hp} {γ γ':Gm} {w w':World} (h:Pres S γ w S' γ' w'):Kd S γ w S' γ' w':=⟨h.kp,fun a o L h1 h2 h3=>h.desc a o L h1 (by rw [h.fl];exact h2) h3,h.fl,h.nx⟩
theorem Kd.sub {S S1 S2:Hp} {γ γ1:Gm} {w w1:World} (h:Kd S γ w S1 γ1 w1) (hs:∀ a o,S2.hp.get a=some o→S1.hp.get a=some o) (hn:S2.nx=S1.nx) (hf:S2.fl=S1.fl):Kd S γ w S2 γ1 w1:=
  ⟨h.kp,fun a o L h1 h2 h3=>h.desc a o L (hs a o h1) h2 h3,by rw [hf];exact h.fl,by rw [hn];exact h.nx⟩
structure Kn (n:Nat) (S:Hp) (γ:Gm) (w:World) (S':Hp) (γ':Gm) (w':World):Prop where
  same:∀ a L,a.idx < n→(γ a=some L↔γ' a=some L)
  size:w.heap.size≤w'.heap.size
  keep:∀ r,r < w.heap.size→(∀ a o L,S.hp.get a=some o→S.fl≤a.idx→γ a=some L→L.blk≠r)→w'.heap[r]? = w.heap[r]?
  os:(w'.os,w'.tape)=(w.os,w.tape)
  out:w'.output=w.output
  desc:∀ a o L,S'.hp.get a=some o→S.fl≤a.idx→γ' a=some L→w.heap.size≤L.blk∨∃ a₀ o₀ L₀,S.hp.get a₀=some o₀∧S.fl≤a₀.idx∧γ a₀=some L₀∧L₀.blk=L.blk
  fl:S'.fl=S.fl
theorem Kd.kn {n:Nat} {S S':Hp} {γ γ':Gm} {w w':World} (h:Kd S γ w S' γ' w') (hn:n≤S.nx.idx):Kn n S γ w S' γ' w':=
  ⟨fun a L ha=>⟨fun e=>h.kp.ext a L e,fun e=>h.kp.new a L e (by omega)⟩,h.kp.size,h.kp.keep,h.kp.os,h.kp.out,h.desc,h.fl⟩
theorem Kd.kn_trans {n:Nat} {S S1 S2:Hp} {γ γ1 γ2:Gm} {w w1 w2:World} (h:Kd S γ w S1 γ1 w1) (hn:n≤S.nx.idx) (k:Kn n S1 γ1 w1 S2 γ2 w2):Kn n S γ w S2 γ2 w2 where
  same:=fun a L ha=>⟨fun e=>(k.same a L ha).1 (h.kp.ext a L e),fun e=>h.kp.new a L ((k.same a L ha).2 e) (by omega)⟩
  size:=Nat.le_trans h.kp.size k.size
  keep:=fun r hr hno=>by
    rw [k.keep r (Nat.lt_of_lt_of_le hr h.kp.size) ?_,h.kp.keep r hr hno]
    intro a o L h1 h2 h3 e
    rcases h.desc a o L h1 (by rw [← h.fl];exact h2) h3 with h4|⟨a₀,o₀,L₀,g1,g2,g3,g4⟩
    · omega
    · exact hno a₀ o₀ L₀ g1 g2 g3 (g4.trans e)
  os:=k.os.trans h.kp.os
  out:=k.out.trans h.kp.out
  desc:=fun a o L h1 h2 h3=>by
    rcases k.desc a o L h1 (by rw [h.fl];exact h2) h3 with h4|⟨a₀,o₀,L₀,g1,g2,g3,g4⟩
    · exact .inl (Nat.le_trans h.kp.size h4)
    · rcases h.desc a₀ o₀ L₀ g1 (by rw [← h.fl];exact g2) g3 with h5|⟨a1,o1,L1,k1,k2,k3,k4⟩
      · exact .inl (by rw [← g4];exact h5)
      · exact .inr ⟨a1,o1,L1,k1,k2,k3,k4.trans g4⟩
  fl:=k.fl.trans h.fl
def EndsAt (E:Env) (n:Nat) (f:AF) (cs:List AF) (S:Hp) (v:AV) (S':Hp):Prop:=
  ∀ (γ:Gm) (fr:Frame) (frs:List Frame) (w:World),FR γ E f fr→CsR γ E cs frs→HR γ E.ng S w →
    ((lastF fr frs).2=none→∀ bot,∃ γ' v' fr' w' fn,Steps E.P (lone fr (frs++bot) w) (lone fr' bot w')∧fr'.mode=.returning∧fr'.defers = []∧fr'.kind=.normal∧fr'.fn=(lastF fr frs).1 ∧
      E.P.funcs[fr'.fn]? = some fn∧(results fn fr'.tmps).run E.P w'=.ok v' w'∧VR γ' v v'∧HR γ' E.ng S' w'∧Kn n S γ w S' γ' w') ∧
    (∀ c bot,∃ γ' v' w',Steps E.P (lone fr (frs++c::bot) w) (lone (c.finish v') bot w')∧VR γ' v v'∧HR γ' E.ng S' w'∧Kn n S γ w S' γ' w')
def EndsN (E:Env) (n:Nat) (f:AF) (cs:List AF) (S:Hp) (Q:AV→Hp→Prop):Prop:=∃ v S',Q v S'∧EndsAt E n f cs S v S'
section
variable {E:Env} {n:Nat}
theorem EndsN.mono {f:AF} {cs:List AF} {S:Hp} {Q Q':AV→Hp→Prop} (h:EndsN E n f cs S Q) (hq:∀ v S',Q v S'→Q' v S'):EndsN E n f cs S Q':=by
  obtain ⟨v,S',h1,h2⟩:=h
  exact ⟨v,S',hq _ _ h1,h2⟩
theorem EndsAt.goes {f f':AF} {cs cs':List AF} {S S1 S':Hp} {v:AV} {S2:Hp} (hn:n≤S.nx.idx) (hs:∀ a o,S'.hp.get a=some o→S1.hp.get a=some o) (hfl:S'.fl=S1.fl) (hnx:S'.nx=S1.nx)
    (hg:∀ γ fr frs w,FR γ E f fr→CsR γ E cs frs→HR γ E.ng S w→Goes E γ S fr frs w f' cs' S1) (h:EndsAt E n f' cs' S' v S2):EndsAt E n f cs S v S2:=by
  intro γ fr frs w hf hc hH
  have hgo:=hg γ fr frs w hf hc hH
  refine ⟨fun hr bot=>?_,fun c bot=>?_⟩
  · obtain ⟨γ1,fr1,frs1,w1,g1,g2,g3,g4,g5,g6⟩:=hgo bot
    obtain ⟨γ',v',fr',w',fn,k1,k2,k3,k4,k5,k6,k7,k8,k9,k10⟩:=(h γ1 fr1 frs1 w1 g2 g3 (g4.sub hs hnx hfl)).1 (by rw [g6];exact hr) bot
    exact ⟨γ',v',fr',w',fn,Steps.trans g1 k1,k2,k3,k4,by rw [k5,g6],k6,k7,k8,k9,(g5.kd.sub hs hnx hfl).kn_trans hn k10⟩
  · obtain ⟨γ1,fr1,frs1,w1,g1,g2,g3,g4,g5,g6⟩:=hgo (c::bot)
    obtain ⟨γ',v',w',k1,k2,k3,k4⟩:=(h γ1 fr1 frs1 w1 g2 g3 (g4.sub hs hnx hfl)).2 c bot
    exact ⟨γ',v',w',Steps.trans g1 k1,k2,k3,(g5.kd.sub hs hnx hfl).kn_trans hn k4⟩
theorem EndsN.goes {f f':AF} {cs cs':List AF} {S S1 S':Hp} {Q:AV→Hp→Prop} (hn:n≤S.nx.idx) (hs:∀ a o,S'.hp.get a=some o→S1.hp.get a=some o) (hfl:S'.fl=S1.fl) (hnx:S'.nx=S1.nx)
    (hg:∀ γ fr frs w,FR γ E f fr→CsR γ E cs frs→HR γ E.ng S w→Goes E γ S fr frs w f' cs' S1) (h:EndsN E n f' cs' S' Q):EndsN E n f cs S Q:=by
  obtain ⟨v,S2,k0,h⟩:=h
  exact ⟨v,S2,k0,h.goes hn hs hfl hnx hg⟩
end
structure Emb (E:Env) (ρ:Ps→Ps) (H S:Hp):Prop where
  lo:∀ a,a.idx < E.ng→ρ a=a
  hi:∀ a,H.fl≤a.idx→S.fl≤(ρ a).idx
  new:∀ a,H.nx.idx≤a.idx→(ρ a).idx=S.nx.idx+(a.idx - H.nx.idx)
  inj:∀ a b o o',H.hp.get a=some o→H.hp.get b=some o'→ρ a=ρ b→a=b
  obj:∀ a o,H.hp.get a=some o→S.hp.get (ρ a)=some (renO ρ o)
  ngH:E.ng≤H.nx.idx
  ngS:E.ng≤S.nx.idx
structure Mg (E:Env) (ρ:Ps→Ps) (S H H' S2:Hp):Prop where
  get:∀ a o,S2.hp.get a=some o→(∃ k o',H.fl≤k.idx∧a=ρ k∧H'.hp.get k=some o'∧o=renO ρ o')∨(S.hp.get a=some o∧∀ k o',H.hp.get k=some o'→H.fl≤k.idx→ρ k≠a)
  nx:S2.nx.idx=S.nx.idx+(H'.nx.idx - H.nx.idx)
  fl:S2.fl=S.fl
noncomputable def Gm.put (γ γ':Gm) (n m:Nat):Gm:=fun a=>if a.idx < n then γ a else γ' (Ps.of (a.idx - n+m))
section
variable {E:Env} {ρ:Ps→Ps} {H S:Hp} {γ:Gm} {w:World}
theorem Emb.small (h:Emb E ρ H S) (hH:HR γ E.ng S w):HR (γ.via ρ) E.ng H w where
  obj:=fun a o ho=>by
    obtain ⟨L,ob,h1,h2,h3⟩:=hH.obj _ _ (h.obj a o ho)
    exact ⟨L,ob,h1,h2,renO_back h3⟩
  inj := fun a a' o o' L L' ho ho' hL hL' e=>(hH.inj _ _ _ _ L L' (h.obj a o ho) (h.obj a' o' ho') hL hL' e).imp (h.inj a a' o o' ho ho') (fun ⟨k1,k2⟩=>by
    constructor
    · rcases Nat.lt_or_ge a.idx H.fl with hx|hx
      · exact hx
      · have:=h.hi a hx;omega
    · rcases Nat.lt_or_ge a'.idx H.fl with hx|hx
      · exact hx
      · have:=h.hi a' hx;omega)
  fresh:=fun a L hL=>by
    have h1:=hH.fresh (ρ a) L hL
    by_cases e:a.idx < H.nx.idx
    · exact e
    · have:=h.new a (by omega)
      omega
  glob:=fun g hg=>by
    obtain ⟨s,hs⟩:=hH.glob g hg
    exact ⟨s,by show γ (ρ (Ps.of g))=_;rw [h.lo _ (by rw [Ps.idx_of];exact hg)];exact hs⟩
theorem Emb.fwd (h:Emb E ρ H S) (hH:HR γ E.ng S w) {γ':Gm} (hn:∀ a L,γ' a=some L→a.idx < H.nx.idx→γ.via ρ a=some L):∀ a L,γ' a=some L→Gm.put γ γ' S.nx.idx H.nx.idx (ρ a)=some L:=fun a L hL=>by
  unfold Gm.put
  by_cases e:a.idx < H.nx.idx
  · have h1:γ (ρ a)=some L:=hn a L hL e
    rw [if_pos (hH.fresh _ _ h1)];exact h1
  · have h1:=h.new a (by omega)
    rw [if_neg (by omega)]
    have:Ps.of ((ρ a).idx - S.nx.idx+H.nx.idx)=a:=Ps.idx_inj (by rw [Ps.idx_of];omega)
    rw [this];exact hL
theorem put_le (hH:HR γ E.ng S w) (γ':Gm) (m:Nat):Gm.le γ (Gm.put γ γ' S.nx.idx m):=fun a L hL=>by
  unfold Gm.put
  rw [if_pos (hH.fresh a L hL)];exact hL
theorem Emb.back (h:Emb E ρ H S) (hH:HR γ E.ng S w) {γ':Gm} {H' S2:Hp} {w':World} (k:Kn H.nx.idx H (γ.via ρ) w H' γ' w') (hH':HR γ' E.ng H' w') (hm:Mg E ρ S H H' S2) :
    HR (Gm.put γ γ' S.nx.idx H.nx.idx) E.ng S2 w'∧Kd S γ w S2 (Gm.put γ γ' S.nx.idx H.nx.idx) w':=by
  have hle:=put_le hH γ' H.nx.idx
  have hf:=h.fwd hH (fun a L e ha=>(k.same a L ha).2 e)
  have hsame:∀ a o L,S.hp.get a=some o→γ a=some L→(∀ k o',H.hp.get k=some o'→H.fl≤k.idx→ρ k≠a)→w'.heap[L.blk]? = w.heap[L.blk]?:=fun a o L ho hL hno=>by
    obtain ⟨L1,ob,h1,h2,h3⟩:=hH.obj a o ho
    rw [hL] at h1;cases h1
    refine k.keep _ (Array.getElem?_eq_some_iff.1 h2).1 (fun b o' L' hb hbf hL' e=>?_)
    exact hno b o' hb hbf ((hH.inj _ _ _ _ L' L (h.obj b o' hb) ho hL' hL e).resolve_right (fun hx=>by have:=h.hi b hbf;omega))
  have hmix:∀ b o' Lb a o L,H.fl≤b.idx→H'.hp.get b=some o'→γ' b=some Lb→S.hp.get a=some o→γ a=some L→(∀ k o',H.hp.get k=some o'→H.fl≤k.idx→ρ k≠a)→Lb.blk≠L.blk:=fun b o' Lb a o L hb1 hb2 hb3 ho hL hno e=>by
    obtain ⟨L1,ob,h1,h2,h3⟩:=hH.obj a o ho
    rw [hL] at h1;cases h1
    have hlt:=(Array.getElem?_eq_some_iff.1 h2).1
    rcases k.desc b o' Lb hb2 hb1 hb3 with h4|⟨a₀,o₀,L₀,g1,g2,g3,g4⟩
    · omega
    · exact hno a₀ o₀ g1 g2 ((hH.inj _ _ _ _ L₀ L (h.obj a₀ o₀ g1) ho g3 hL (g4.trans e)).resolve_right (fun hx=>by have:=h.hi a₀ g2;omega))
  refine ⟨⟨fun a o ho=>?_,fun a a' o o' L L' ho ho' hL hL' e=>?_,fun a L hL=>?_,fun g hg=>?_⟩,⟨⟨hle,k.size,fun r hr hno=>?_,fun a L hL hlt=>?_,k.os,k.out⟩,fun a o L ho hfl hL=>?_,?_,?_⟩⟩
  · rcases hm.get a o ho with ⟨b,o',hb,rfl,hg,rfl⟩|⟨hg,hno⟩
    · obtain ⟨L,ob,h1,h2,h3⟩:=hH'.obj b o' hg
      exact ⟨L,ob,hf b L h1,h2,renO_fwd hf h3⟩
    · obtain ⟨L,ob,h1,h2,h3⟩:=hH.obj a o hg
      exact ⟨L,ob,hle a L h1,by rw [hsame a o L hg h1 hno];exact h2,h3.mono hle⟩
  · rcases hm.get a o ho with ⟨b,p,hb,rfl,hg,rfl⟩|⟨hg,hno⟩ <;> rcases hm.get a' o' ho' with ⟨b',p',hb',rfl,hg',rfl⟩|⟨hg',hno'⟩
    · obtain ⟨L1,ob,h1,_,_⟩:=hH'.obj b p hg
      obtain ⟨L2,ob2,h2,_,_⟩:=hH'.obj b' p' hg'
      have e1:=hf b L1 h1;rw [hL] at e1;cases e1
      have e2:=hf b' L2 h2;rw [hL'] at e2;cases e2
      refine (hH'.inj b b' p p' L L' hg hg' h1 h2 e).imp (fun e=>by rw [e]) (fun hx=>?_)
      have e0:H'.fl=H.fl:=k.fl
      omega
    · obtain ⟨L1,ob,h1,_,_⟩:=hH'.obj b p hg
      obtain ⟨L2,ob2,h2,_,_⟩:=hH.obj a' o' hg'
      have e1:=hf b L1 h1;rw [hL] at e1;cases e1
      have e2:=hle a' L2 h2;rw [hL'] at e2;cases e2
      exact absurd e (hmix b p L a' o' L' hb hg h1 hg' h2 hno')
    · obtain ⟨L1,ob,h1,_,_⟩:=hH.obj a o hg
      obtain ⟨L2,ob2,h2,_,_⟩:=hH'.obj b' p' hg'
      have e1:=hle a L1 h1;rw [hL] at e1;cases e1
      have e2:=hf b' L2 h2;rw [hL'] at e2;cases e2
      exact absurd e.symm (hmix b' p' L' a o L hb' hg' h2 hg h1 hno)
    · obtain ⟨L1,ob,h1,_,_⟩:=hH.obj a o hg
      obtain ⟨L2,ob2,h2,_,_⟩:=hH.obj a' o' hg'
      have e1:=hle a L1 h1;rw [hL] at e1;cases e1
      have e2:=hle a' L2 h2;rw [hL'] at e2;cases e2
      rw [hm.fl];exact hH.inj a a' o o' L L' hg hg' h1 h2 e
  · unfold Gm.put at hL
    rw [hm.nx]
    by_cases e:a.idx < S.nx.idx
    · omega
    · rw [if_neg e] at hL
      have:=hH'.fresh _ L hL
      rw [Ps.idx_of] at this
      omega
  · obtain ⟨s,hs⟩:=hH.glob g hg
    exact ⟨s,hle _ _ hs⟩
  · refine k.keep r hr (fun a o L ho hfl hL=>?_)
    exact hno (ρ a) (renO ρ o) L (h.obj a o ho) (h.hi a hfl) hL
  · unfold Gm.put at hL
    rw [if_pos hlt] at hL;exact hL
  · rcases hm.get a o ho with ⟨b,o',hb,rfl,hg,rfl⟩|⟨hg,hno⟩
    · obtain ⟨L1,ob,h1,_,_⟩:=hH'.obj b o' hg
      have e1:=hf b L1 h1;rw [hL] at e1;cases e1
      rcases k.desc b o' L hg hb h1 with h4|⟨a₀,o₀,L₀,g1,g2,g3,g4⟩
      · exact .inl h4
      · exact .inr ⟨ρ a₀,renO ρ o₀,L₀,h.obj a₀ o₀ g1,h.hi a₀ g2,g3,g4⟩
    · obtain ⟨L1,ob,h1,_,_⟩:=hH.obj a o hg
      have e1:=hle a L1 h1;rw [hL] at e1;cases e1
      exact .inr ⟨a,o,L,hg,hfl,h1,rfl⟩
  · exact hm.fl
  · rw [hm.nx];omega
theorem EndsN.canon {n:Nat} (h:Emb E ρ H S) (hfe:H.fl=S.fl) (hn:∀ a,a.idx < n→ρ a=a) {f f':AF} {cs cs':List AF} {Q:AV→Hp→Prop} (ef:f'=renF ρ f) (ec:cs'=cs.map (renF ρ)) (hr:EndsN E n f cs H Q):EndsN E n f' cs' S Q:=by
  subst ef ec
  have hk:∀ {γ:Gm} {w:World} {γ':Gm} {H':Hp} {w':World},Kn n H (γ.via ρ) w H' γ' w'→Kn n S γ w H' γ' w':=fun {γ w γ' H' w'} k =>
    ⟨fun a L ha=>by rw [← k.same a L ha];show _↔γ (ρ a)=some L;rw [hn a ha],k.size,
      fun r hr hno=>k.keep r hr (fun a o L ho hfl hL=>hno (ρ a) (renO ρ o) L (h.obj a o ho) (h.hi a hfl) hL),k.os,k.out,
      fun a o L h1 h2 h3=>by
        rcases k.desc a o L h1 (by rw [hfe];exact h2) h3 with h4|⟨a₀,o₀,L₀,g1,g2,g3,g4⟩
        · exact .inl h4
        · exact .inr ⟨ρ a₀,renO ρ o₀,L₀,h.obj a₀ o₀ g1,h.hi a₀ g2,g3,g4⟩,
      by rw [k.fl,hfe]⟩
  obtain ⟨v,H',k0,hr⟩:=hr
  refine ⟨v,H',k0,fun γ fr frs w hf hc hH=>?_⟩
  obtain ⟨h1,h2⟩:=hr (γ.via ρ) fr frs w (renF_back hf) (renCs_back hc) (h.small hH)
  refine ⟨fun hl bot=>?_,fun c bot=>?_⟩
  · obtain ⟨γ',v',fr',w',fn,k1,k2,k3,k4,k5,k6,k7,k8,k9,k10⟩:=h1 hl bot
    exact ⟨γ',v',fr',w',fn,k1,k2,k3,k4,k5,k6,k7,k8,k9,hk k10⟩
  · obtain ⟨γ',v',w',k1,k2,k3,k4⟩:=h2 c bot
    exact ⟨γ',v',w',k1,k2,k3,hk k4⟩
theorem EndsN.call {n:Nat} (h:Emb E ρ H S) (hn:n≤S.nx.idx) {f f' c:AF} {cs:List AF} {Q1 Q:AV→Hp→Prop} (ef:f'=renF ρ f) (hr:EndsN E H.nx.idx f [] H Q1) (hm:c.md=.run) (hl:c.lost=false)
    (hq:∀ v H',Q1 v H'→∃ S2 c',Mg E ρ S H H' S2∧finishA c (renV ρ v)=some c'∧EndsN E n c' cs S2 Q):EndsN E n f' (c::cs) S Q:=by
  subst ef
  obtain ⟨v,H',k0,hr⟩:=hr
  obtain ⟨S2,c',m1,m2,x,S3,q0,m3⟩:=hq v H' k0
  refine ⟨x,S3,q0,fun γ fr frs w hf hc hH=>?_⟩
  cases hc with
  | @cons _ y _ ys hy hys =>
    obtain ⟨_,h2⟩:=hr (γ.via ρ) fr [] w (renF_back hf) .nil (h.small hH)
    have key:∀ bot,∃ γ1 w1 v',Steps E.P (lone fr ((y::ys)++bot) w) (lone (y.finish v') (ys++bot) w1)∧FR γ1 E c' (y.finish v')∧CsR γ1 E cs ys∧HR γ1 E.ng S2 w1∧Kd S γ w S2 γ1 w1:=fun bot=>by
      obtain ⟨γ',v',w',k1,k2,k3,k4⟩:=h2 y (ys++bot)
      obtain ⟨n1,n2⟩:=h.back hH k4 k3 m1
      exact ⟨_,w',v',k1,finishA_ok m2 (hy.mono n2.kp.ext) hm hl (renV_fwd (h.fwd hH (fun a L e ha=>(k4.same a L ha).2 e)) k2),hys.mono n2.kp.ext,n1,n2⟩
    refine ⟨fun hlast bot=>?_,fun d bot=>?_⟩
    · obtain ⟨γ1,w1,v',s1,s2,s3,s4,s5⟩:=key bot
      have hlf:lastF (y.finish v') ys=lastF y ys:=lastF_eq (finish_keeps y v').1 (finish_keeps y v').2 ys
      obtain ⟨γ2,x',fr',w2,fn,k1,k2,k3,k4,k5,k6,k7,k8,k9,k10⟩:=(m3 γ1 _ ys w1 s2 s3 s4).1 (by rw [hlf];exact hlast) bot
      exact ⟨γ2,x',fr',w2,fn,Steps.trans s1 k1,k2,k3,k4,by rw [k5,hlf];rfl,k6,k7,k8,k9,s5.kn_trans hn k10⟩
    · obtain ⟨γ1,w1,v',s1,s2,s3,s4,s5⟩:=key (d::bot)
      obtain ⟨γ2,x',w2,k1,k2,k3,k4⟩:=(m3 γ1 _ ys w1 s2 s3 s4).2 d bot
      exact ⟨γ2,x',w2,Steps.trans s1 k1,k2,k3,s5.kn_trans hn k4⟩
end
section
variable {E:Env} (hE:E.Ok) (hmix:E.P.follows .mixedOrders=true) {N n:Nat}
include hE hmix
end
noncomputable def rho (ng n m:Nat) (l:List Ps) (a:Ps):Ps:=
  Bool.rec (Bool.rec (Ps.of (Nat.add m (Nat.sub a.idx n))) (Option.rec a (fun x=>x) (nth l (Nat.sub a.idx ng))) (Nat.blt a.idx n)) a (Nat.blt a.idx ng)
theorem rho_lo {ng n m:Nat} {l:List Ps} {a:Ps} (h:a.idx < ng):rho ng n m l a=a:=by
  unfold rho
  rw [show Nat.blt a.idx ng=true from Nat.ble_eq_true_of_le h]
theorem rho_new {ng n m:Nat} {l:List Ps} {a:Ps} (h1:ng≤a.idx) (h:n≤a.idx):rho ng n m l a=Ps.of (m+(a.idx - n)):=by
  unfold rho
  rw [show Nat.blt a.idx ng=false from by rw [nat_blt_decide];exact decide_eq_false (by omega),show Nat.blt a.idx n=false from by rw [nat_blt_decide];exact decide_eq_false (by omega)]
  rfl
theorem rho_at {ng n m:Nat} {l:List Ps} {a:Ps} (h1:ng≤a.idx) (h:a.idx < n):rho ng n m l a=(l[a.idx - ng]?).getD a:=by
  unfold rho
  rw [show Nat.blt a.idx ng=false from by rw [nat_blt_decide];exact decide_eq_false (by omega),show Nat.blt a.idx n=true from Nat.ble_eq_true_of_le h]
  show (Option.rec a (fun x=>x) (nth l (Nat.sub a.idx ng)):Ps)=_
  rw [nth_eq]
  show (Option.rec a (fun x=>x) (l[a.idx - ng]?):Ps)=_
  cases l[a.idx - ng]? <;> rfl
structure Keys (ng n m k:Nat) (l:List Ps):Prop where
  len:n=ng+l.length
  lo:∀ (i:Nat) (x:Ps),l[i]? = some x→ng≤x.idx∧x.idx < m
  inj:∀ (i j:Nat) (x:Ps),l[i]? = some x→l[j]? = some x→i=j
  fix:∀ (i:Nat) (x:Ps),l[i]? = some x→i < k→x.idx=ng+i
  far:∀ (i:Nat) (x:Ps),l[i]? = some x→k≤i→ng+k≤x.idx
  le:k≤l.length
  m:n≤m
theorem Keys.rn {E:Env} {n m k:Nat} {l:List Ps} (h:Keys E.ng n m k l):(∀ a,a.idx < E.ng+k→rho E.ng n m l a=a)∧(∀ a,E.ng+k≤a.idx→E.ng+k≤(rho E.ng n m l a).idx)∧(∀ a b,rho E.ng n m l a=rho E.ng n m l b→a=b):=by
  obtain ⟨hlen,hlo,hinj,hfix,hfar,hle,hm⟩:=h
  have at_:∀ a:Ps,E.ng≤a.idx→a.idx < n→∃ x,l[a.idx - E.ng]? = some x∧rho E.ng n m l a=x:=fun a h1 h2=>by
    have hx:a.idx - E.ng < l.length:=by omega
    exact ⟨l[a.idx - E.ng],List.getElem?_eq_getElem hx,by rw [rho_at h1 h2,List.getElem?_eq_getElem hx];rfl⟩
  refine ⟨fun a ha=>?_,fun a ha=>?_,fun a b e=>?_⟩
  · by_cases h1:a.idx < E.ng
    · exact rho_lo h1
    · obtain ⟨x,g1,g2⟩:=at_ a (by omega) (by omega)
      rw [g2]
      refine Ps.idx_inj ?_
      have:=hfix _ x g1 (by omega)
      omega
  · by_cases h2:a.idx < n
    · obtain ⟨x,g1,g2⟩:=at_ a (by omega) h2
      rw [g2];exact hfar _ x g1 (by omega)
    · rw [rho_new (by omega) (by omega),Ps.idx_of];omega
  · have cls:∀ c:Ps,(c.idx < E.ng∧rho E.ng n m l c=c)∨(E.ng≤c.idx∧c.idx < n∧∃ x,l[c.idx - E.ng]? = some x∧rho E.ng n m l c=x)∨(n≤c.idx∧(rho E.ng n m l c).idx=m+(c.idx - n)):=fun c=>by
      by_cases h1:c.idx < E.ng
      · exact .inl ⟨h1,rho_lo h1⟩
      · by_cases h2:c.idx < n
        · exact .inr (.inl ⟨by omega,h2,at_ c (by omega) h2⟩)
        · exact .inr (.inr ⟨by omega,by rw [rho_new (by omega) (by omega),Ps.idx_of]⟩)
    refine Ps.idx_inj ?_
    rcases cls a with ⟨h1,g1⟩|⟨h1,h1',x,g1,g1'⟩|⟨h1,g1⟩ <;> rcases cls b with ⟨h2,g2⟩|⟨h2,h2',y,g2,g2'⟩|⟨h2,g2⟩
    · rw [g1,g2] at e;rw [e]
    · rw [g1,g2'] at e;have:=(hlo _ y g2).1;rw [← e] at this;omega
    · have:=congrArg Ps.idx e;rw [g1,g2] at this;omega
    · rw [g1',g2] at e;have:=(hlo _ x g1).1;rw [e] at this;omega
    · rw [g1',g2'] at e;subst e;have:=hinj _ _ _ g1 g2;omega
    · have:=congrArg Ps.idx e;rw [g1',g2] at this;have:=(hlo _ x g1).2;omega
    · have:=congrArg Ps.idx e;rw [g1,g2] at this;omega
    · have:=congrArg Ps.idx e;rw [g1,g2'] at this;have:=(hlo _ y g2).2;omega
    · have:=congrArg Ps.idx e;rw [g1,g2] at this;omega
theorem Keys.at {ng n m k:Nat} {l:List Ps} (h:Keys ng n m k l) (a:Ps) (h1:ng≤a.idx) (h2:a.idx < n):∃ x,l[a.idx - ng]? = some x∧rho ng n m l a=x:=by
  have:=h.len
  have hx:a.idx - ng < l.length:=by omega
  exact ⟨l[a.idx - ng],List.getElem?_eq_getElem hx,by rw [rho_at h1 h2,List.getElem?_eq_getElem hx];rfl⟩
theorem Keys.emb {E:Env} {k:Nat} {l:List Ps} {H S:Hp} (h:Keys E.ng H.nx.idx S.nx.idx k l) (hhi:∀ (i:Nat) (x:Ps),l[i]? = some x→H.fl≤E.ng+i→S.fl≤x.idx) (hf:E.ng≤H.fl) (hf':S.fl≤S.nx.idx)
    (ho:∀ a o,H.hp.get a=some o→S.hp.get (rho E.ng H.nx.idx S.nx.idx l a)=some (renO (rho E.ng H.nx.idx S.nx.idx l) o)):Emb E (rho E.ng H.nx.idx S.nx.idx l) H S:=by
  have hr:=h.rn
  have hl:=h.len
  refine ⟨fun a ha=>rho_lo ha,fun a ha=>?_,fun a ha=>?_,fun a b _ _ _ _ e=>hr.2.2 a b e,ho,by omega,by have:=h.m;omega⟩
  · by_cases h2:a.idx < H.nx.idx
    · obtain ⟨x,g1,g2⟩:=h.at a (by omega) h2
      rw [g2]
      exact hhi _ x g1 (by omega)
    · rw [rho_new (by omega) (by omega),Ps.idx_of];omega
  · rw [rho_new (by omega) ha,Ps.idx_of]
noncomputable def allN {α:Type} (p:Nat→α→Bool) (l:List α):Nat→Bool:=List.rec (motive:=fun _=>Nat→Bool) (fun _=>true) (fun x _ ih i=>Bool.rec false (ih (Nat.succ i)) (p i x)) l
theorem allN_ok {α:Type} {p:Nat→α→Bool}:∀ {l:List α} {i:Nat},allN p l i=true→∀ (j:Nat) (x:α),l[j]? = some x→p (i+j) x=true
  | [],_,_,j,x,h=>by simp at h
  | y :: l,i,h,j,x,hx=>by
    have h':(Bool.rec false (allN p l (Nat.succ i)) (p i y):Bool)=true:=h
    cases hp:p i y with
    | false=>rw [hp] at h';cases h'
    | true =>
      rw [hp] at h'
      cases j with
      | zero=>simp at hx;subst hx;exact hp
      | succ j =>
        simp at hx
        have:=allN_ok (i:=Nat.succ i) h' j x hx
        rw [show i+(j+1)=Nat.succ i+j from by omega];exact this
noncomputable def bAnd (a b:Bool):Bool:=Bool.rec false b a
theorem bAnd_ok {a b:Bool} (h:bAnd a b=true):a=true∧b=true:=by
  cases a
  · cases h
  · exact ⟨rfl,h⟩
noncomputable def bOr (a b:Bool):Bool:=Bool.rec b true a
theorem bOr_ok {a b:Bool} (h:bOr a b=true):a=true∨b=true:=by
  cases a
  · exact .inr h
  · exact .inl rfl
theorem ble_ok {a b:Nat} (h:Nat.ble a b=true):a≤b:=Nat.le_of_ble_eq_true h
noncomputable def keysB (ng n m k fH fS:Nat) (l:List Ps):Bool:=
  bAnd (bAnd (bAnd (Nat.beq n (Nat.add ng (llen l))) (Nat.ble k (llen l))) (bAnd (Nat.ble n m) (bAnd (Nat.ble ng fH) (Nat.ble fS m))))
    (allN (fun i x=>bAnd (bAnd (bAnd (Nat.ble ng x.idx) (Nat.ble (Nat.succ x.idx) m)) (bAnd (bOr (Nat.ble k i) (Nat.beq x.idx (Nat.add ng i))) (bOr (Nat.ble (Nat.succ i) k) (Nat.ble (Nat.add ng k) x.idx))))
      (bAnd (bOr (Nat.ble (Nat.succ (Nat.add ng i)) fH) (Nat.ble fS x.idx)) (allN (fun j y=>bOr (Nat.beq i j) (bOr (Nat.ble (Nat.succ x.idx) y.idx) (Nat.ble (Nat.succ y.idx) x.idx))) l 0))) l 0)
theorem keysB_ok {ng n m k fH fS:Nat} {l:List Ps} (h:keysB ng n m k fH fS l=true):Keys ng n m k l∧ng≤fH∧fS≤m∧(∀ (i:Nat) (x:Ps),l[i]? = some x→fH≤ng+i→fS≤x.idx):=by
  unfold keysB at h
  obtain ⟨h1,h2⟩:=bAnd_ok h
  obtain ⟨h3,h4⟩:=bAnd_ok h1
  obtain ⟨h5,h6⟩:=bAnd_ok h3
  obtain ⟨h7,h8⟩:=bAnd_ok h4
  obtain ⟨h9,h10⟩:=bAnd_ok h8
  have e5:=Nat.eq_of_beq_eq_true h5
  rw [llen_eq] at e5 h6
  have each:∀ (i:Nat) (x:Ps),l[i]? = some x→(ng≤x.idx∧x.idx < m)∧(k≤i∨x.idx=ng+i)∧(i < k∨ng+k≤x.idx)∧(ng+i < fH∨fS≤x.idx)∧∀ (j:Nat) (y:Ps),l[j]? = some y→i=j∨x.idx≠y.idx:=fun i x hx=>by
    have:=allN_ok h2 i x hx
    rw [Nat.zero_add] at this
    obtain ⟨g1,g2⟩:=bAnd_ok this
    obtain ⟨g3,g4⟩:=bAnd_ok g1
    obtain ⟨g5,g6⟩:=bAnd_ok g3
    obtain ⟨g7,g8⟩:=bAnd_ok g4
    obtain ⟨g9,g10⟩:=bAnd_ok g2
    refine ⟨⟨ble_ok g5,ble_ok g6⟩,?_,?_,?_,fun j y hy=>?_⟩
    · rcases bOr_ok g7 with e|e
      · exact .inl (ble_ok e)
      · exact .inr (Nat.eq_of_beq_eq_true e)
    · rcases bOr_ok g8 with e|e
      · exact .inl (ble_ok e)
      · exact .inr (ble_ok e)
    · rcases bOr_ok g9 with e|e
      · exact .inl (ble_ok e)
      · exact .inr (ble_ok e)
    · have:=allN_ok g10 j y hy
      rw [Nat.zero_add] at this
      rcases bOr_ok this with e|e
      · exact .inl (Nat.eq_of_beq_eq_true e)
      · rcases bOr_ok e with e|e
        · have:=ble_ok e;exact .inr (by omega)
        · have:=ble_ok e;exact .inr (by omega)
  refine ⟨⟨e5,fun i x hx=>(each i x hx).1,fun i j x hx hy=>?_,fun i x hx hi=>?_,fun i x hx hi=>?_,ble_ok h6,ble_ok h7⟩,ble_ok h9,ble_ok h10,fun i x hx hi=>?_⟩
  · rcases (each i x hx).2.2.2.2 j x hy with e|e
    · exact e
    · exact absurd rfl e
  · rcases (each i x hx).2.1 with e|e
    · omega
    · exact e
  · rcases (each i x hx).2.2.1 with e|e
    · omega
    · exact e
  · rcases (each i x hx).2.2.2.1 with e|e
    · omega
    · exact e
section
variable {E:Env} (hE:E.Ok)
include hE
theorem EndsN.calls {n F:Nat} {args:List AV} {f0:AF} {S:Hp} {Q:AV→Hp→Prop} (hen:enterA E F args false=some f0) (h:EndsN E n f0 [] S Q) {γ:Gm} {w:World} {vs:List Value} (ha:LR γ args vs) (hH:HR γ E.ng S w) :
    Calls E.P F ⟨vs⟩ w fun e w'=>∃ v v' γ' S',e=.returned v'∧Q v S'∧VR γ' v v'∧HR γ' E.ng S' w'∧Kn n S γ w S' γ' w':=by
  obtain ⟨v,S',q0,h⟩:=h
  have hf:=enterA_ok hE hen ha
  intro cs
  obtain ⟨γ',v',fr',w',fn,g1,g2,g3,g4,g5,g6,g7,g8,g9,g10⟩:=(h γ _ [] w hf .nil hH).1 rfl cs
  exact ⟨.returned v',w',fr',⟨v,v',γ',S',rfl,q0,g8,g9,g10⟩,g1,g5,g2,g3,g4,fn,g6,g7⟩
end
theorem Kn.below {n:Nat} {S S':Hp} {γ γ':Gm} {w w':World} (h:Kn n S γ w S' γ' w') (hno:∀ a o,S.hp.get a=some o→a.idx < S.fl):RowKit.Below w.heap.size w w':=by
  have h5:=h.os
  injection h5 with h6 h7
  exact ⟨h6,h7,h.out,h.size,fun r hr=>h.keep r hr (fun a o L ha hf=>by have:=hno a o ha;omega)⟩
end Go.AM
end
