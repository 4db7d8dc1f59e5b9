/- A part of the proof of GlyphCovers; no condition. -/
import Derived.Test.YtoahnefofelglaaGlyphCovers06
import Derived.Test.YtoahnefofelglaaProg
import Derived.KernelRfl
set_option linter.unusedVariables false
set_option linter.unusedSimpArgs false
set_option linter.unusedSectionVars false
noncomputable section
section
namespace Go.AM
def nF (o:Op):W6:=fun E tm S t=>Option.rec (OF o E tm S t) (fun r=>some r) (Hs o E tm S t)
theorem iL {E:i3} {o:Op} {tm:Tm} {S:Hp} {t:Nat} (h:iD o E tm S=true):H7 o E tm S t=Hs o E tm S t:=WV h
theorem Xd {E:i3} {o:Op} {tm:Tm} {S:Hp} {t:Nat} (h:iD o E tm S=true):T5 o E tm S t=nF o E tm S t:=by
 unfold T5 nF
 rw [iL h]
def Bb (CALL:x5) (E:i3) (nt:Nat) (i m:Nat) (o:Oper) (s:F6) (H:Hp):Option F6:=
 match s.pan with
 | some _=>none
 | none=>Bool.rec none (Ph CALL nt i m o s (Hs o.op E s.tm H o.type) H) (cI s.Ef m)
def RG (CALL:x5) (E:i3) (nt:Nat) (fl:Nat) (i:Nat) (o:Oper) (m:Nat) (s:F6) (H:T AO) (k:Nat):Option F6:=
 Nat.rec (OJ nt i o s (Hs o.op E s.tm ⟨.e,s.K,0⟩ o.type)) (fun k _=>Nat.rec (OK nt i m o s (Hs o.op E s.tm ⟨H,s.K,s.K.idx⟩ o.type) H)
  (fun k _=>Nat.rec (Bb CALL E nt i m o s ⟨H,s.K,fl⟩) (fun _ _=>OI nt i m o s (Hs o.op E s.tm ⟨.e,s.K,0⟩ o.type) H) k) k) k
def dO (CALL:x5) (E:i3) (nt:Nat) (ops:Array Oper) (fl:Nat) (i:Nat) (o:Oper) (m:Nat) (s:F6):Option F6:=
 match OH s.pan m with
 | true=>some s
 | false=>(match y9 nt ops s.tm o with
   | none=>none
   | some false=>Option.rec none (fun tm'=>some ⟨tm',s.B,s.A,s.Ef,s.news,s.levels,s.qs,s.K,s.pan⟩) (A7 nt o.dst (.tup []) s.tm)
   | some true=>RG CALL E nt fl i o m s (w9 (W7 m s.A) s.B s.news) (x8 o.op))
def wC (CALL:x5) (E:i3) (nt:Nat) (ops:Array Oper) (fl:Nat) (l:List Oper):List Nat→Nat→F6→Option F6:=
 List.rec (motive:=fun _=>List Nat→Nat→F6→Option F6) (fun _ _ s=>some s) (fun o _ ih ms i s=>match ms with
  | m::ms=>Option.rec none (ih ms (Nat.succ i)) (dO CALL E nt ops fl i o m s)
  | []=>none) l
def Qk (E:i3) (s:F6) (q:QE) (x:Nat × T AO):Bool:=
 Bool.rec (Bool.rec true (match Hs q.o.op E q.tm ⟨w9 (W7 q.m x.1) x.2 s.news,s.K,s.K.idx⟩ q.o.type with|some (.v _ _)=>true|_=>false) (cI (Nat.land q.m s.Ef) x.1)) true (tb x.1 q.i)
def nG (E:i3) (fl:Nat) (s:F6):Option (Sum (Tm × Hp) (AV × Hp)):=
 Bool.rec none (match s.pan with
  | none=>some (.inl (s.tm,⟨w9 (ID s.A) s.B s.news,s.K,fl⟩))
  | some (_,v,hp)=>some (.inr (v,⟨hp,s.K,fl⟩))) (fC (fun q=>fC (Qk E s q) s.levels) s.qs)
def Bc (CALL:x5) (E:i3) (nt:Nat) (ops:Array Oper) (tm:Tm) (S:Hp) (ms:List Nat):Option (Sum (Tm × Hp) (AV × Hp)):=
 Hp.rec (fun hp nx fl=>Bool.rec none (Bool.rec none (Bool.rec none (Option.rec none (nG E fl) (wC CALL E nt ops fl ops.toList ms 0 ⟨tm,hp,0,0,[],[(0,hp)],[],nx,none⟩)) (Nat.ble fl nx.idx)) (Nat.ble E.ng nx.idx)) (slots ops ms)) S
def Bd (CALL:x5) (E:i3) (nt:Nat) (ops:Array Oper) (tm:Tm) (S:Hp):Option (Sum (Tm × Hp) (AV × Hp)):=
 Option.rec none (Bc CALL E nt ops tm S) (masks ops)
abbrev GC:=RO→Hp→Bool
abbrev GD:=i3→Nat→Tm→Array Oper→Hp→Bool
def YQ (G:GC) (E:i3) (fl:Nat) (o:Oper) (s:F6) (H:T AO) (k:Nat):Bool:=
 Nat.rec (iD o.op E s.tm ⟨.e,s.K,0⟩) (fun k _=>Nat.rec (iD o.op E s.tm ⟨H,s.K,s.K.idx⟩)
  (fun k _=>Nat.rec (a6 (iD o.op E s.tm ⟨H,s.K,fl⟩) (Option.rec true (fun r=>G r ⟨H,s.K,fl⟩) (Hs o.op E s.tm ⟨H,s.K,fl⟩ o.type))) (fun _ _=>iD o.op E s.tm ⟨.e,s.K,0⟩) k) k) k
def tH (G:GC) (E:i3) (nt:Nat) (ops:Array Oper) (fl:Nat) (o:Oper) (m:Nat) (s:F6):Bool:=
 match OH s.pan m with
 | true=>true
 | false=>(match y9 nt ops s.tm o with
   | some true=>YQ G E fl o s (w9 (W7 m s.A) s.B s.news) (x8 o.op)
   | _=>true)
def Ql (CALL:x5) (G:GC) (E:i3) (nt:Nat) (ops:Array Oper) (fl:Nat) (l:List Oper):List Nat→Nat→F6→Bool:=
 List.rec (motive:=fun _=>List Nat→Nat→F6→Bool) (fun _ _ _=>true) (fun o _ ih ms i s=>match ms with
  | m::ms=>a6 (tH G E nt ops fl o m s) (Option.rec true (ih ms (Nat.succ i)) (dO CALL E nt ops fl i o m s))
  | []=>true) l
def gQ (E:i3) (s:F6) (q:QE) (x:Nat × T AO):Bool:=
 Bool.rec (Bool.rec true (a6 (iD q.o.op E q.tm ⟨w9 (W7 q.m x.1) x.2 s.news,s.K,s.K.idx⟩)
  (match Hs q.o.op E q.tm ⟨w9 (W7 q.m x.1) x.2 s.news,s.K,s.K.idx⟩ q.o.type with|some (.v y _)=>VE 4 y q.v|_=>true)) (cI (Nat.land q.m s.Ef) x.1)) true (tb x.1 q.i)
def Iq {α:Type} (p:α→Bool) (l:List α):Bool:=List.rec true (fun x _ ih=>a6 (p x) ih) l
def RH (E:i3) (s:F6):Bool:=Iq (fun q=>Iq (gQ E s q) s.levels) s.qs
def Be (CALL:x5) (G:GC) (E:i3) (nt:Nat) (tm:Tm) (ops:Array Oper) (S:Hp):Bool:=
 Option.rec true (fun ms=>Hp.rec (fun hp nx fl=>a6 (Ql CALL G E nt ops fl ops.toList ms 0 ⟨tm,hp,0,0,[],[(0,hp)],[],nx,none⟩)
  (Option.rec true (RH E) (wC CALL E nt ops fl ops.toList ms 0 ⟨tm,hp,0,0,[],[(0,hp)],[],nx,none⟩))) S) (masks ops)
section
variable {E:i3} {C C':x5} {G:GC} (hC:∀ ro H,G ro H=true→C ro H=C' ro H) {nt:Nat} {ops:Array Oper} {fl:Nat}
include hC
theorem Xe {i:Nat} {o:Oper} {m:Nat} {s:F6} (h:tH G E nt ops fl o m s=true):mV C E nt ops fl i o m s=dO C' E nt ops fl i o m s:=by
 unfold mV dO
 unfold tH at h
 cases hs:OH s.pan m with
 | true=>rfl
 | false =>
   rw [hs] at h
   simp only at h ⊢
   cases hw:y9 nt ops s.tm o with
   | none=>rfl
   | some b =>
     cases b with
     | false=>rfl
     | true =>
       rw [hw] at h
       simp only at h ⊢
       have hk:=Er o.op
       unfold YP RG
       unfold YQ at h
       generalize x8 o.op=k at h hk
       match k,hk with
       | 0,_ =>
         have h:iD o.op E s.tm ⟨.e,s.K,0⟩=true:=h
         show OJ nt i o s _=OJ nt i o s _
         rw [iL h]
       | 1,_ =>
         have h:iD o.op E s.tm ⟨w9 (W7 m s.A) s.B s.news,s.K,s.K.idx⟩=true:=h
         show OK nt i m o s _ _=OK nt i m o s _ _
         rw [iL h]
       | 2,_ =>
         obtain ⟨h1,h2⟩:=a9.1 h
         show vO C E nt i m o s _=Bb C' E nt i m o s _
         unfold vO Bb
         cases s.pan with
         | some p=>rfl
         | none =>
           simp only
           rw [iL h1]
           generalize he:Hs o.op E s.tm ⟨w9 (W7 m s.A) s.B s.news,s.K,fl⟩ o.type=r at h2
           congr 1
           cases r with
           | none=>rfl
           | some r =>
             have h2:G r ⟨w9 (W7 m s.A) s.B s.news,s.K,fl⟩=true:=h2
             cases r with
             | call f args=>unfold Ph;simp only;rw [hC _ _ h2]
             | yld l args=>unfold Ph;simp only;rw [hC _ _ h2]
             | _=>rfl
       | 3,_ =>
         have h:iD o.op E s.tm ⟨.e,s.K,0⟩=true:=h
         show OI nt i m o s _ _=OI nt i m o s _ _
         rw [iL h]
theorem Qm:∀ (l:List Oper) (ms:List Nat) (i:Nat) (s:F6),Ql C' G E nt ops fl l ms i s=true→Pi C E nt ops fl l ms i s=wC C' E nt ops fl l ms i s
 | [],_,_,_,_=>rfl
 | o::l,[],_,_,_=>rfl
 | o :: l,m::ms,i,s,h=>by
   obtain ⟨h1,h2⟩:=a9.1 (show a6 (tH G E nt ops fl o m s) (Option.rec true (Ql C' G E nt ops fl l ms (Nat.succ i)) (dO C' E nt ops fl i o m s))=true from h)
   show (Option.rec none (Pi C E nt ops fl l ms (Nat.succ i)) (mV C E nt ops fl i o m s):Option F6)=Option.rec none (wC C' E nt ops fl l ms (Nat.succ i)) (dO C' E nt ops fl i o m s)
   rw [Xe hC h1]
   cases hs:dO C' E nt ops fl i o m s with
   | none=>rfl
   | some s' =>
     rw [hs] at h2
     exact Qm l ms (Nat.succ i) s' h2
omit hC
theorem RI {s:F6} {q:QE} {x:Nat × T AO} (h:gQ E s q x=true):Wz E s q x=Qk E s q x:=by
 unfold Wz Qk
 unfold gQ at h
 cases h1:tb x.1 q.i with
 | true=>rfl
 | false =>
   rw [h1] at h
   cases h2:cI (Nat.land q.m s.Ef) x.1 with
   | false=>rfl
   | true =>
     rw [h2] at h
     obtain ⟨h3,h4⟩:=a9.1 h
     simp only
     rw [iL h3]
     cases he:Hs q.o.op E q.tm ⟨w9 (W7 q.m x.1) x.2 s.news,s.K,s.K.idx⟩ q.o.type with
     | none=>rfl
     | some r =>
       rw [he] at h4
       cases r <;> try rfl
       exact h4
theorem Ew {α:Type} {p q r:α→Bool} (hp:∀ x,p x=true→q x=r x):∀ l,Iq p l=true→fC q l=fC r l
 | [],_=>rfl
 | x::l,h=>by
   obtain ⟨h1,h2⟩:=a9.1 (show a6 (p x) (Iq p l)=true from h)
   show (Bool.rec false (fC q l) (q x):Bool)=Bool.rec false (fC r l) (r x)
   rw [hp x h1,Ew hp l h2]
theorem Qn {α:Type} {p:α→Bool}:∀ l,Iq p l=true→∀ x ∈ l,p x=true
 | [],_,x,hx=>by cases hx
 | y::l,h,x,hx=>by
   obtain ⟨h1,h2⟩:=a9.1 (show a6 (p y) (Iq p l)=true from h)
   rcases List.mem_cons.1 hx with rfl|hx
   ·exact h1
   ·exact Qn l h2 x hx
theorem nH {α:Type} {q r:α→Bool}:∀ l:List α,(∀ x ∈ l,q x=r x)→fC q l=fC r l
 | [],_=>rfl
 | x::l,h=>by
   show (Bool.rec false (fC q l) (q x):Bool)=Bool.rec false (fC r l) (r x)
   rw [h x (List.mem_cons_self ..),nH l (fun y hy=>h y (List.mem_cons_of_mem _ hy))]
theorem Xf {s:F6} (h:RH E s=true):tD E fl s=nG E fl s:=by
 unfold tD nG
 rw [nH s.qs (fun q hq=>Ew (fun x hx=>RI hx) s.levels (Qn s.qs h q hq))]
 rfl
include hC
theorem II {tm:Tm} {S:Hp} (h:Be C' G E nt tm ops S=true):mY C E nt ops tm S=Bd C' E nt ops tm S:=by
 unfold mY Bd
 unfold Be at h
 cases hm:masks ops with
 | none=>rfl
 | some ms =>
   rw [hm] at h
   obtain ⟨hp,nx,fl⟩:=S
   obtain ⟨h1,h2⟩:=a9.1 h
   show Pn C E nt ops tm ⟨hp,nx,fl⟩ ms=Bc C' E nt ops tm ⟨hp,nx,fl⟩ ms
   unfold Pn Bc
   simp only
   rw [Qm hC _ _ _ _ h1]
   cases hs:wC C' E nt ops fl ops.toList ms 0 ⟨tm,hp,0,0,[],[(0,hp)],[],nx,none⟩ with
   | none=>rfl
   | some s =>
     rw [hs] at h2
     simp only
     rw [Xf h2]
end
abbrev M8:=Nat→List AV→Hp→Option (Bool × AV × Hp)
def Bf (tb:M8) (o:Oper) (r:RO) (S:Hp):Option (Bool × AV × Hp):=Bool.rec none (match r with|.call f args=>tb (Nat.add 1000000 f) args S|_=>none) (Nat.beq (x8 o.op) 2)
def cN (f:Nat):Nat:=Bool.rec f (Nat.sub f 1000000) (Nat.ble 1000000 f)
theorem IJ (f:Nat):cN (Nat.add 1000000 f)=f:=by
 unfold cN
 have:Nat.ble 1000000 (Nat.add 1000000 f)=true:=by rw [Nat.ble_eq];show 1000000≤1000000+f;omega
 rw [this];show 1000000+f - 1000000=f;omega
theorem RJ {f:Nat} (h:Nat.ble 1000000 f=false):cN f=f:=by unfold cN;rw [h]
def q9 (tb:M8) (E:i3):Prop:=∀ f args v H S',tb f args H=some (true,v,S')→∀ (γ:Gm) (w:World) (s:Sem Next),HR γ E.ng H w→O7 E γ H w s (.call (cN f) args) →
 ∃ fr',F8 E.P s w fr'∧∀ c bot,∃ γ' v' w',Steps E.P (lone fr' (c::bot) w) (lone (c.finish v') bot w')∧VR γ' v v'∧HR γ' E.ng S' w'∧j6 H γ w S' γ' w'
def IK:M8:=fun _ _ _=>none
theorem Ex (E:i3):q9 IK E:=fun _ _ _ _ _ h=>by cases h
def nI (tb:M8) (ops:Array Oper) (i:Nat) (o:Oper) (rest:List Oper):SF:=fun E fn nt tm k dfs dk rd cs S =>
 match y9 nt ops tm o with
 | none=>.bad
 | some false=>(match A7 nt o.dst (.tup []) tm with|some tm'=>.next ⟨fn,nt,tm',.reg ops (Nat.succ i) rest::k,dfs,.run,false,dk,rd⟩ cs S|none=>.bad)
 | some true=>(match T5 o.op E tm S o.type with
   | none=>.bad
   | some (.v x S')=>(match A7 nt o.dst x tm with|some tm'=>.next ⟨fn,nt,tm',.reg ops (Nat.succ i) rest::k,dfs,.run,false,dk,rd⟩ cs S'|none=>.bad)
   | some r=>(match Bf tb o r S with
     | some (true,x,S')=>(match A7 nt o.dst x tm with|some tm'=>.next ⟨fn,nt,tm',.reg ops (Nat.succ i) rest::k,dfs,.run,false,dk,rd⟩ cs S'|none=>.bad)
     | _=>R1 ops (.stop tm S i (o::rest) r) E fn nt tm k dfs dk rd cs S))
def DK (tb:M8) (ops:Array Oper) (i:Nat) (rest:List Oper):SF:=fun E fn nt tm k dfs dk rd cs S =>
 match rest with
 | []=>.next ⟨fn,nt,tm,k,dfs,.run,false,dk,rd⟩ cs S
 | o::rest=>nI tb ops i o rest E fn nt tm k dfs dk rd cs S
def Bg (tb:M8) (D:s8) (x:AI):SF:=fun E fn nt tm k dfs dk rd cs S =>
 match x with
 | .code (.region _ ops false)=>.next ⟨fn,nt,tm,.reg ops 0 ops.toList::k,dfs,.run,false,dk,rd⟩ cs S
 | .reg ops i rest=>DK tb ops i rest E fn nt tm k dfs dk rd cs S
 | x=>qI D x E fn nt tm k dfs dk rd cs S
def dP (tb:M8) (D:s8) (E:i3) (f:AF) (cs:List AF) (S:Hp):SR:=
 match f with
 | ⟨fn,nt,tm,x::k,dfs,.run,false,dk,rd⟩=>Bg tb D x E fn nt tm k dfs dk rd cs S
 | f=>cU D E f cs S
def fK (tb:M8) (D:s8) (E:i3) (n:Nat):AF→List AF→Hp→SR:=
 Nat.rec (motive:=fun _=>AF→List AF→Hp→SR) (fun f cs S=>.next f cs S) (fun _ ih f cs S=>SR.rec ih .fin .finP .bad (dP tb D E f cs S)) n
section
variable {E:i3} (hE:E.Ok) {tb:M8} (hT:q9 tb E) {γ:Gm} {S:Hp} {fr:Frame} {frs:List Frame} {w:World}
include hE hT
theorem Ir {fn nt:Nat} {tm:Tm} {k:List AI} {dfs:List AD} {dk:Bool} {rd:Option Ps} {ops:Array Oper} {i:Nat} {o:Oper} {rest:List Oper} {cs:List AF}
 (hf:FR γ E ⟨fn,nt,tm,.reg ops i (o::rest)::k,dfs,.run,false,dk,rd⟩ fr) (hcs:M7 γ E cs frs) (hH:HR γ E.ng S w):u5 E γ S fr frs w (nI tb ops i o rest E fn nt tm k dfs dk rd cs S):=by
 have h0:=wA hE hf hcs hH
 unfold nI
 unfold Ev at h0
 cases hw:y9 nt ops tm o with
 | none=>trivial
 | some b =>
   rw [hw] at h0
   cases b with
   | false=>exact h0
   | true =>
     simp only at h0 ⊢
     cases hev:T5 o.op E tm S o.type with
     | none=>trivial
     | some r =>
       rw [hev] at h0
       cases r with
       | v x S1=>exact h0
       | call f args =>
         simp only at h0 ⊢
         split
         ·rename_i x S' ht
          obtain ⟨_,ht⟩:=d5 ht
          simp only at ht
          obtain ⟨k',hto,ho⟩:=eW hf
          have hwd:=eV hw hf.nt (hf.tr rfl)
          cases hp:A7 nt o.dst x tm with
          | none=>trivial
          | some tm' =>
            simp only
            have hop:=eR hE (hf.tr rfl) hH hev
            obtain ⟨fr',g1,g2⟩:=hT _ args x S S' ht γ w _ hH (by rw [IJ];exact hop)
            have hfin:r6 ⟨fn,nt,tm,.reg ops i (o::rest)::k,dfs,.run,false,dk,rd⟩ x=some ⟨fn,nt,tm',.reg ops (i+1) rest::k,dfs,.run,false,dk,rd⟩:=by
             simp only [H1,I2,hp]
            refine aB.here hf hcs rfl rfl (fun cs=>?_)
            obtain ⟨γ₁,v',w₁,h1,hv,hH1,hP1⟩:=g2 fr cs
            have hs:=bF (cs:=cs) (hf.mode rfl) hto ho hwd (.inr (D3 hev (fun d e=>by cases e))) g1
            exact ⟨γ₁,_,w₁,Steps.head hs h1,C1 hfin (hf.mono hP1.ext) rfl rfl hv,hH1,hP1⟩
         ·exact h0
       | _ =>
         simp only at h0 ⊢
         split
         ·rename_i ht
          obtain ⟨_,ht⟩:=d5 ht
          cases ht
         ·exact h0
variable {D:s8} (hD:bB D E)
include hD
theorem Is {f:AF} {cs:List AF} (hf:FR γ E f fr) (hcs:M7 γ E cs frs) (hH:HR γ E.ng S w):u5 E γ S fr frs w (dP tb D E f cs S):=by
 have h0:=Qd hE hD hf hcs hH
 unfold dP
 unfold Qc at h0
 split
 ·rename_i fn nt tm x k dfs dk rd
  simp only at h0
  unfold Bg
  unfold Qb at h0
  split
  ·exact h0
  ·unfold DK
   unfold IE at h0
   split
   ·exact h0
   ·exact Ir hE hT hf hcs hH
  ·have:qI D x E fn nt tm k dfs dk rd cs S=cU D E ⟨fn,nt,tm,x::k,dfs,.run,false,dk,rd⟩ cs S:=rfl
   rw [this]
   exact bC hE hD hf hcs hH
 ·exact bC hE hD hf hcs hH
theorem fL (n:Nat):∀ {f:AF} {cs:List AF} {S:Hp} {γ:Gm} {fr:Frame} {frs:List Frame} {w:World},FR γ E f fr→M7 γ E cs frs→HR γ E.ng S w→cH E γ S fr frs w (fK tb D E n f cs S):=by
 induction n with
 | zero =>
   intro f cs S γ fr frs w hf hcs hH bot
   exact ⟨γ,fr,frs,w,Steps.refl _ _,hf,hcs,hH,j6.refl _ _ _,rfl⟩
 | succ n ih =>
   intro f cs S γ fr frs w hf hcs hH
   have h1:=Is hE hT hD hf hcs hH
   have e:fK tb D E (n+1) f cs S=SR.rec (fK tb D E n) .fin .finP .bad (dP tb D E f cs S):=rfl
   rw [e]
   generalize dP tb D E f cs S=r at h1
   cases r with
   | next f' cs' S'=>exact cH.after h1 (fun a b c=>ih a b c)
   | fin v S'=>exact h1.run
   | finP v S'=>exact h1.run
   | bad=>trivial
end
def Bh (tb:M8) (ops:Array Oper) (i:Nat) (o:Oper) (rest:List Oper):SF:=fun E fn nt tm k dfs dk rd cs S =>
 match y9 nt ops tm o with
 | none=>.bad
 | some false=>(match A7 nt o.dst (.tup []) tm with|some tm'=>.next ⟨fn,nt,tm',.reg ops (Nat.succ i) rest::k,dfs,.run,false,dk,rd⟩ cs S|none=>.bad)
 | some true=>(match nF o.op E tm S o.type with
   | none=>.bad
   | some (.v x S')=>(match A7 nt o.dst x tm with|some tm'=>.next ⟨fn,nt,tm',.reg ops (Nat.succ i) rest::k,dfs,.run,false,dk,rd⟩ cs S'|none=>.bad)
   | some r=>(match Bf tb o r S with
     | some (_,x,S')=>(match A7 nt o.dst x tm with|some tm'=>.next ⟨fn,nt,tm',.reg ops (Nat.succ i) rest::k,dfs,.run,false,dk,rd⟩ cs S'|none=>.bad)
     | none=>R1 ops (.stop tm S i (o::rest) r) E fn nt tm k dfs dk rd cs S))
def RK (tb:M8) (ops:Array Oper) (i:Nat) (rest:List Oper):SF:=fun E fn nt tm k dfs dk rd cs S =>
 match rest with
 | []=>.next ⟨fn,nt,tm,k,dfs,.run,false,dk,rd⟩ cs S
 | o::rest=>Bh tb ops i o rest E fn nt tm k dfs dk rd cs S
def Qo (tb:M8) (D:s8) (x:AI):SF:=fun E fn nt tm k dfs dk rd cs S =>
 match x with
 | .code (.region _ ops false)=>.next ⟨fn,nt,tm,.reg ops 0 ops.toList::k,dfs,.run,false,dk,rd⟩ cs S
 | .reg ops i rest=>RK tb ops i rest E fn nt tm k dfs dk rd cs S
 | x=>qI D x E fn nt tm k dfs dk rd cs S
def iM (tb:M8) (D:s8) (E:i3) (f:AF) (cs:List AF) (S:Hp):SR:=
 match f with
 | ⟨fn,nt,tm,x::k,dfs,.run,false,dk,rd⟩=>Qo tb D x E fn nt tm k dfs dk rd cs S
 | f=>cU D E f cs S
def F7 (tb:M8) (D:s8) (E:i3) (n:Nat):AF→List AF→Hp→SR:=
 Nat.rec (motive:=fun _=>AF→List AF→Hp→SR) (fun f cs S=>.next f cs S) (fun _ ih f cs S=>SR.rec ih .fin .finP .bad (iM tb D E f cs S)) n
def IL (tb:M8) (o:Oper) (E:i3) (tm:Tm) (S:Hp):Bool:=
 Bool.rec true (match nF o.op E tm S o.type with|some r=>Option.rec true (fun p=>p.1) (Bf tb o r S)|none=>true) (Nat.beq (x8 o.op) 2)
def DL (tb:M8) (G:GD) (E:i3) (nt:Nat) (tm:Tm) (S:Hp) (x:AI):Bool:=
 match x with
 | .code (.region _ ops true)=>G E nt tm ops S
 | .reg ops _ (o::_)=>(match y9 nt ops tm o with|some true=>a6 (IL tb o E tm S) (iD o.op E tm S)|_=>true)
 | _=>true
def Qp (tb:M8) (G:GD) (E:i3) (f:AF) (S:Hp):Bool:=
 match f with
 | ⟨_,nt,tm,x::_,_,.run,false,_,_⟩=>DL tb G E nt tm S x
 | _=>true
def bH (tb:M8) (D:s8) (G:GD) (E:i3) (n:Nat):AF→List AF→Hp→Bool:=
 Nat.rec (motive:=fun _=>AF→List AF→Hp→Bool) (fun _ _ _=>true) (fun _ ih f cs S=>a6 (Qp tb G E f S) (SR.rec ih (fun _ _=>true) (fun _ _=>true) true (iM tb D E f cs S))) n
def DG (D D':s8) (G:GD) (E:i3):Prop:=∀ fn nt tm ops dfs dk rd S,G E nt tm ops S=true→D E fn nt tm ops dfs dk rd S=D' E fn nt tm ops dfs dk rd S
section
variable {E:i3} {tb:M8} {D D':s8} {G:GD} (hD:DG D D' G E)
theorem Xg {ops:Array Oper} {i:Nat} {o:Oper} {rest:List Oper} {fn nt:Nat} {tm:Tm} {k:List AI} {dfs:List AD} {dk:Bool} {rd:Option Ps} {cs:List AF} {S:Hp}
 (h:(match y9 nt ops tm o with|some true=>a6 (IL tb o E tm S) (iD o.op E tm S)|_=>true:Bool)=true):nI tb ops i o rest E fn nt tm k dfs dk rd cs S=Bh tb ops i o rest E fn nt tm k dfs dk rd cs S:=by
 unfold nI Bh
 cases hw:y9 nt ops tm o with
 | none=>rfl
 | some b =>
   cases b with
   | false=>rfl
   | true =>
     rw [hw] at h
     simp only at h ⊢
     obtain ⟨ht,h⟩:=a9.1 h
     rw [Xd h]
     cases he:nF o.op E tm S o.type with
     | none=>rfl
     | some r =>
       cases hk:Nat.beq (x8 o.op) 2 with
       | false =>
         have:∀ r,Bf tb o r S=none:=fun r=>by unfold Bf;rw [hk]
         cases r <;> first|rfl|simp only [this]
       | true =>
         unfold IL at ht
         rw [hk,he] at ht
         have ht:(Option.rec true (fun p=>p.1) (Bf tb o r S):Bool)=true:=ht
         cases r with
         | v x S1=>rfl
         | _ =>
           simp only
           generalize Bf tb o _ S=c at ht
           cases c with
           | none=>rfl
           | some p =>
             obtain ⟨b,x,S'⟩:=p
             obtain rfl:b=true:=ht
             rfl
include hD
theorem IM {x:AI} {fn nt:Nat} {tm:Tm} {k:List AI} {dfs:List AD} {dk:Bool} {rd:Option Ps} {cs:List AF} {S:Hp} (h:DL tb G E nt tm S x=true) :
 Bg tb D x E fn nt tm k dfs dk rd cs S=Qo tb D' x E fn nt tm k dfs dk rd cs S:=by
 cases x with
 | code c =>
   cases c with
   | region id ops dr =>
     cases dr with
     | false=>rfl
     | true =>
       show bX D id ops true E fn nt tm k dfs dk rd cs S=bX D' id ops true E fn nt tm k dfs dk rd cs S
       unfold bX
       simp only
       rw [hD fn nt tm ops dfs dk rd S h]
   | _=>rfl
 | reg ops i rest =>
   cases rest with
   | nil=>rfl
   | cons o rest=>exact Xg h
 | _=>rfl
theorem Xh {f:AF} {cs:List AF} {S:Hp} (h:Qp tb G E f S=true):dP tb D E f cs S=iM tb D' E f cs S:=by
 obtain ⟨fn,nt,tm,todo,dfs,md,lost,dk,rd⟩:=f
 cases todo with
 | nil=>cases md <;> cases lost <;> rfl
 | cons x k =>
   cases md with
   | run =>
     cases lost with
     | false=>exact IM hD h
     | true=>rfl
   | ret=>cases lost <;> rfl
   | pan v r=>cases lost <;> rfl
theorem wD (n:Nat):∀ {f:AF} {cs:List AF} {S:Hp},bH tb D' G E n f cs S=true→fK tb D E n f cs S=F7 tb D' E n f cs S:=by
 induction n with
 | zero=>intro f cs S _;rfl
 | succ n ih =>
   intro f cs S h
   obtain ⟨h1,h2⟩:=a9.1 (show a6 (Qp tb G E f S) (SR.rec (bH tb D' G E n) (fun _ _=>true) (fun _ _=>true) true (iM tb D' E f cs S))=true from h)
   show (SR.rec (fK tb D E n) .fin .finP .bad (dP tb D E f cs S):SR)=SR.rec (F7 tb D' E n) .fin .finP .bad (iM tb D' E f cs S)
   rw [Xh hD h1]
   cases hs:iM tb D' E f cs S with
   | next f' cs' S'=>rw [hs] at h2;exact ih h2
   | fin v S'=>rfl
   | finP v S'=>rfl
   | bad=>rfl
end
def It (tb:M8) (f:Nat) (args:List AV) (H:Hp):Option (Bool × AV × Hp):=Bool.rec (tb f args H) none (Nat.ble 1000000 f)
theorem Iu {tb:M8} {f:Nat} {args:List AV} {H:Hp} {r:Bool × AV × Hp} (h:It tb f args H=some r):tb f args H=some r∧cN f=f:=by
 unfold It at h
 cases hb:Nat.ble 1000000 f with
 | true=>rw [hb] at h;cases h
 | false=>rw [hb] at h;exact ⟨h,RJ hb⟩
def Ey (tb:M8) (D:s8) (E:i3) (N:Nat):x5:=fun ro H =>
 match ro with
 | .call f args=>(match It tb f args H with
   | some (true,v,S')=>.fin v S'
   | _=>(match I3 E H (.call f args) with|some f'=>fK tb D E N f' [] H|none=>.bad))
 | ro=>(match I3 E H ro with|some f'=>fK tb D E N f' [] H|none=>.bad)
def Qq (tb:M8) (D:s8) (E:i3) (N:Nat):x5:=fun ro H =>
 match ro with
 | .call f args=>(match It tb f args H with
   | some (_,v,S')=>.fin v S'
   | none=>(match I3 E H (.call f args) with|some f'=>F7 tb D E N f' [] H|none=>.bad))
 | ro=>(match I3 E H ro with|some f'=>F7 tb D E N f' [] H|none=>.bad)
def Qr (tb:M8) (D:s8) (G:GD) (E:i3) (N:Nat):GC:=fun ro H =>
 match ro with
 | .call f args=>(match It tb f args H with
   | some (g,_)=>g
   | none=>(match I3 E H (.call f args) with|some f'=>bH tb D G E N f' [] H|none=>true))
 | ro=>(match I3 E H ro with|some f'=>bH tb D G E N f' [] H|none=>true)
def DM (tb:M8) (N:Nat) (n:Nat):s8:=Nat.rec (motive:=fun _=>s8) (fun _ _ _ _ _ _ _ _ _=>none) (fun _ ih E _ nt tm ops _ _ _ S=>mY (Ey tb ih E N) E nt ops tm S) n
def p8 (tb:M8) (N:Nat) (n:Nat):s8:=Nat.rec (motive:=fun _=>s8) (fun _ _ _ _ _ _ _ _ _=>none) (fun _ ih E _ nt tm ops _ _ _ S=>Bd (Qq tb ih E N) E nt ops tm S) n
def B5 (tb:M8) (N:Nat) (n:Nat):GD:=Nat.rec (motive:=fun _=>GD) (fun _ _ _ _ _=>true) (fun n ih E nt tm ops S=>Be (Qq tb (p8 tb N n) E N) (Qr tb (p8 tb N n) ih E N) E nt tm ops S) n
theorem tI (tb:M8) (E:i3) (N n:Nat):DG (DM tb N n) (p8 tb N n) (B5 tb N n) E:=by
 induction n with
 | zero=>intro fn nt tm ops dfs dk rd S _;rfl
 | succ n ih =>
   intro fn nt tm ops dfs dk rd S h
   refine II (fun ro H hg=>?_) h
   unfold Ey Qq
   unfold Qr at hg
   cases ro with
   | call f args =>
     simp only at hg ⊢
     cases ht:It tb f args H with
     | none =>
       rw [ht] at hg
       simp only at hg ⊢
       cases hs:I3 E H (.call f args) with
       | none=>rfl
       | some f'=>rw [hs] at hg;exact wD ih N hg
     | some p =>
       obtain ⟨g,v,S'⟩:=p
       rw [ht] at hg
       simp only at hg
       subst hg
       rfl
   | yld l args =>
     simp only at hg ⊢
     cases hs:I3 E H (.yld l args) with
     | none=>rfl
     | some f'=>rw [hs] at hg;exact wD ih N hg
   | v _ _=>rfl
   | dfr _=>rfl
   | pan _=>rfl
   | rcv=>rfl
section
variable {E:i3} (hE:E.Ok) {tb:M8} (hT:q9 tb E)
include hE hT
theorem Qs {D:s8} (hD:bB D E) (N:Nat):mX (Ey tb D E N) E:=by
 intro ro H γ w s hH ho
 have plain:∀ ro,O7 E γ H w s ro→(∀ x S',(match I3 E H ro with|some f'=>fK tb D E N f' [] H|none=>.bad)=SR.fin x S'→(∀ d,ro≠.dfr d)∧∃ fr',F8 E.P s w fr'∧∀ c bot,∃ γ' v' w',Steps E.P (lone fr' (c::bot) w) (lone (c.finish v') bot w')∧VR γ' x v'∧HR γ' E.ng S' w'∧j6 H γ w S' γ' w') ∧
  (∀ x S',(match I3 E H ro with|some f'=>fK tb D E N f' [] H|none=>.bad)=SR.finP x S'→(∀ d,ro≠.dfr d)∧∃ fr',F8 E.P s w fr'∧∀ c bot,∃ γ' v' w',Steps E.P (lone fr' (c::bot) w) (lone (c.raise [{ v:=v',recovered:=false }]) bot w')∧VR γ' x v'∧HR γ' E.ng S' w'∧j6 H γ w S' γ' w'):=fun ro ho=>by
  cases hen:I3 E H ro with
  | none=>exact ⟨fun x S' e=>(by cases e),fun x S' e=>(by cases e)⟩
  | some f' =>
    obtain ⟨hnd,fr',he,hf⟩:=Q9 hE hen hH ho
    have hr:=fL hE hT hD N hf .nil hH
    simp only
    refine ⟨fun x S' e=>⟨hnd,fr',he,?_⟩,fun x S' e=>⟨hnd,fr',he,?_⟩⟩
    ·rw [e] at hr
     exact hr.2
    ·rw [e] at hr
     exact hr
 cases ro with
 | call f args =>
   unfold Ey
   simp only
   split
   ·rename_i v S1 ht
    refine ⟨fun x S' e=>?_,fun x S' e=>(by cases e)⟩
    cases e
    obtain ⟨ht,hc⟩:=Iu ht
    obtain ⟨fr',h1,h2⟩:=hT f args v H S1 ht γ w s hH (by rw [hc];exact ho)
    exact ⟨fun d e=>(by cases e),fr',h1,h2⟩
   ·exact plain _ ho
 | yld l args=>exact plain _ ho
 | v x S=>exact plain _ ho
 | dfr d=>exact plain _ ho
 | pan v=>exact plain _ ho
 | rcv=>exact plain _ ho
theorem nJ (hmix:E.P.follows .mixedOrders=true) (N:Nat) (n:Nat):bB (DM tb N n) E:=by
 induction n with
 | zero =>
   intro id ops fn nt tm t k dfs dk rd cs S γ fr frs w k' hf hcs hH hto hk
   trivial
 | succ n ih=>exact vY hE (Qs hE hT ih N) hmix
end
def nK (d:Nat) (b:Bool) (f:AF):Option (Bool × AF):=
 Option.rec none (fun T=>Bool.rec (some (T,⟨f.fn,f.nt,V1 d (.bool b) f.tm,f.todo,f.dfs,f.md,f.lost,f.dk,f.rd⟩)) none f.lost) (X3 (n8 f.tm d))
theorem Iv {x:AV} {T:Bool} (h:X3 x=some T):x=.bool T:=by cases x <;> first|(cases h;rfl)|cases h
theorem Bi {d:Nat} {b T:Bool} {f f':AF} (h:nK d b f=some (T,f')) (hT:T=b) {γ:Gm} {E:i3} {fr:Frame} (hf:FR γ E f fr):FR γ E f' fr:=by
 subst hT
 obtain ⟨T2,h1,h2⟩:=m9 (o:=X3 (n8 f.tm d)) h
 have h3:=Iv h1
 cases hl:f.lost with
 | true=>rw [hl] at h2;cases h2
 | false =>
   rw [hl] at h2
   cases h2
   have ht:=hf.tr hl
   refine ⟨hf.fn,hf.nt,?_,hf.todo,hf.dfs,hf.md,hf.kind,hf.rd,hf.fi⟩
   show Pa γ E f.fn false (V1 d (.bool T) f.tm) fr.tmps
   unfold Pa
   intro i
   by_cases e:d=i
   ·subst e
    rw [L5,← h3];exact ht d
   ·rw [X4 e];exact ht i
def YR (T b:Bool):Bool:=Bool.rec (Bool.not T) T b
theorem IN {T b:Bool} (h:YR T b=true):T=b:=by cases T <;> cases b <;> first|rfl|cases h
def nL (tb:M8) (D:s8) (E:i3) (l:List (Nat × Nat × Bool)):Nat→AF→List AF→Hp→SR:=
 List.rec (motive:=fun _=>Nat→AF→List AF→Hp→SR) (fun K f cs S=>F7 tb D E K f cs S) (fun p _ ih K f cs S=>SR.rec (fun f1 jZ S1=>Option.rec .bad (fun q=>ih K q.2 jZ S1) (nK p.2.1 p.2.2 f1)) (fun _ _=>.bad) (fun _ _=>.bad) .bad (F7 tb D E p.1 f cs S)) l
def wE (tb:M8) (D:s8) (G:GD) (E:i3) (l:List (Nat × Nat × Bool)):Nat→AF→List AF→Hp→Bool:=
 List.rec (motive:=fun _=>Nat→AF→List AF→Hp→Bool) (fun K f cs S=>bH tb D G E K f cs S) (fun p _ ih K f cs S=>a6 (bH tb D G E p.1 f cs S)
  (SR.rec (fun f1 jZ S1=>Option.rec true (fun q=>a6 (YR q.1 p.2.2) (ih K q.2 jZ S1)) (nK p.2.1 p.2.2 f1)) (fun _ _=>true) (fun _ _=>true) true (F7 tb D E p.1 f cs S))) l
section
variable {E:i3} (hE:E.Ok) (hmix:E.P.follows .mixedOrders=true) {tb:M8} (hT:q9 tb E)
include hE hmix hT
theorem nM (N n:Nat):∀ (l:List (Nat × Nat × Bool)) {K:Nat} {f:AF} {cs:List AF} {S:Hp} {γ:Gm} {fr:Frame} {frs:List Frame} {w:World},wE tb (p8 tb N n) (B5 tb N n) E l K f cs S=true→FR γ E f fr→M7 γ E cs frs→HR γ E.ng S w→cH E γ S fr frs w (nL tb (p8 tb N n) E l K f cs S)
 | [],K,f,cs,S,γ,fr,frs,w,h,hf,hc,hH=>by
   have:=fL hE hT (nJ hE hT hmix N n) K hf hc hH
   rw [wD (tI tb E N n) K h] at this
   exact this
 | p :: l,K,f,cs,S,γ,fr,frs,w,h,hf,hc,hH=>by
   obtain ⟨h1,h2⟩:=a9.1 (show a6 (bH tb (p8 tb N n) (B5 tb N n) E p.1 f cs S) _=true from h)
   have h3:=fL hE hT (nJ hE hT hmix N n) p.1 hf hc hH
   rw [wD (tI tb E N n) p.1 h1] at h3
   show cH E γ S fr frs w (SR.rec (fun f1 jZ S1=>Option.rec .bad (fun q=>nL tb (p8 tb N n) E l K q.2 jZ S1) (nK p.2.1 p.2.2 f1)) (fun _ _=>.bad) (fun _ _=>.bad) .bad (F7 tb (p8 tb N n) E p.1 f cs S))
   cases hr:F7 tb (p8 tb N n) E p.1 f cs S with
   | fin v S1=>trivial
   | finP v S1=>trivial
   | bad=>trivial
   | next f1 jZ S1 =>
     rw [hr] at h2 h3
     simp only at h2 ⊢
     cases hd:nK p.2.1 p.2.2 f1 with
     | none=>trivial
     | some q =>
       obtain ⟨T,f2⟩:=q
       rw [hd] at h2
       obtain ⟨h4,h5⟩:=a9.1 h2
       exact cH.after h3 (fun {γ1 fr1 frs1 w1} a b c=>nM N n l h5 (Bi hd (IN h4) a) b c)
end
section
variable {E:i3} (hE:E.Ok) (hmix:E.P.follows .mixedOrders=true) {tb:M8} (hT:q9 tb E) {N n:Nat} {l:List (Nat × Nat × Bool)}
include hE hmix hT
theorem i6.finS {f:AF} {cs:List AF} {S:Hp} {Q:AV→Hp→Prop} {K m:Nat} {v v0:AV} {S' H0:Hp} {ρ:Ps→Ps} (hn:m≤S.nx.idx) (hr:nL tb (p8 tb N n) E l K f cs S=.fin v S') (hg:wE tb (p8 tb N n) (B5 tb N n) E l K f cs S=true)
 (h:Ip E ρ H0 S') (hfe:H0.fl=S'.fl) (hm:∀ a,a.idx < m→ρ a=a) (hv:v=F1 ρ v0) (hq:Q v0 H0):i6 E m f cs S Q:=by
 subst hv
 refine ⟨v0,H0,hq,fun γ fr frs w hf hc hH=>?_⟩
 have h1:=nM hE hmix hT N n l hg hf hc hH
 rw [hr] at h1
 have hk:∀ {γ':Gm} {w':World},j6 S γ w S' γ' w'→Kn m S γ w H0 (γ'.via ρ) w':=fun {γ' w'} k=>by
  have k':=k.kd.kn hn
  exact ⟨fun a L ha=>by rw [k'.same a L ha];show _↔γ' (ρ a)=some L;rw [hm a ha],k'.size,k'.keep,k'.os,k'.out,
   fun a o L h1 h2 h3=>by
    have h4:=h.hi a (by rw [hfe,k'.fl];exact h2)
    exact k'.desc (ρ a) (w8 ρ o) L (h.obj a o h1) (by rw [← k'.fl];exact h4) h3,
   by rw [hfe];exact k'.fl⟩
 refine ⟨fun hl bot=>?_,fun c bot=>?_⟩
 ·obtain ⟨γ',v',fr',w',fn,g1,g2,g3,g4,g5,g6,g7,g8,g9,g10⟩:=h1.1 hl bot
  exact ⟨γ'.via ρ,v',fr',w',fn,g1,g2,g3,g4,g5,g6,g7,H5 _ g8,h.small g9,hk g10⟩
 ·obtain ⟨γ',v',w',g1,g2,g3,g4⟩:=h1.2 c bot
  exact ⟨γ'.via ρ,v',w',g1,H5 _ g2,h.small g3,hk g4⟩
end
def a1:Q AV:=⟨.any,.any,.any,.any⟩
def a2:Q (Q AV):=⟨a1,a1,a1,a1⟩
def a3:Q (Q (Q AV)):=⟨a2,a2,a2,a2⟩
def a4:Q (Q (Q (Q AV))):=⟨a3,a3,a3,a3⟩
def a5:D5:=⟨a4,a4,a4,a4⟩
def oO:Tm:=⟨a5,.e⟩
theorem bI {D:Type} {sub:Nat→Ul D} {z:D} (h:∀ i,(sub i).g z=.any) (i:Nat):(P7 sub i).g ⟨z,z,z,z⟩=.any:=by
 rcases L3 sub i with ⟨_,e⟩|⟨_,e⟩|⟨_,e⟩|⟨_,e⟩ <;> rw [e] <;> exact h _
theorem Qt (i:Nat):(i < 1024∧n8 oO i=.any)∨(¬ i < 1024∧n8 oO i=.tup []):=by
 unfold n8
 rcases L4 i with ⟨h,e⟩|⟨h,e⟩ <;> rw [e]
 ·exact .inl ⟨h,bI (bI (bI (bI (bI (fun _=>rfl))))) i⟩
 ·right
  refine ⟨h,?_⟩
  show (Option.rec (.tup []) (fun v=>v) (T.get (Ps.of i) (.e:T AV)):AV)=_
  rw [T.get_e]
def wF (ls:List Nat) (tm:Tm):Tm:=List.rec oO (fun i _ ih=>V1 i (n8 tm i) ih) ls
theorem nN {γ:Gm} {tm:Tm} {tmps:Array Value} (h:TR γ tm tmps) (hs:tmps.size≤1024):∀ ls,TR γ (wF ls tm) tmps
 | []=>fun i=>by
   show VR γ (n8 oO i) _
   rcases Qt i with ⟨_,e⟩|⟨hi,e⟩ <;> rw [e]
   ·exact .any _
   ·have:tmps.getD i Go.undef=Go.undef:=by simp [Array.getD];omega
    rw [this];exact .undef
 | d::ls=>fun i=>by
   show VR γ (n8 (V1 d (n8 tm d) (wF ls tm)) i) _
   by_cases e:d=i
   ·subst e;rw [L5];exact h d
   ·rw [X4 e];exact nN h hs ls i
def jG (ls:List Nat) (f:AF):AF:=⟨f.fn,f.nt,wF ls f.tm,f.todo,f.dfs,f.md,f.lost,f.dk,f.rd⟩
def OM (f:AF):Bool:=a6 (Nat.ble f.nt 1024) (Bool.not f.lost)
theorem FR.keep {γ:Gm} {E:i3} {f:AF} {fr:Frame} (h:FR γ E f fr) (ho:OM f=true) (ls:List Nat):FR γ E (jG ls f) fr:=by
 obtain ⟨h1,h2⟩:=a9.1 ho
 have hl:f.lost=false:=uZ h2
 have ht:=h.tr hl
 refine ⟨h.fn,h.nt,?_,h.todo,h.dfs,h.md,h.kind,h.rd,h.fi⟩
 have hs:fr.tmps.size≤1024:=by rw [h.nt];exact Nat.le_of_ble_eq_true h1
 show Pa γ E f.fn f.lost (wF ls f.tm) fr.tmps
 unfold Pa
 rw [hl]
 exact nN ht hs ls
def R4 (lss:List (List Nat)):List AF→List AF:=List.rec (motive:=fun _=>List AF→List AF) (fun cs=>cs) (fun ls _ ih cs=>List.rec [] (fun c cs _=>jG ls c::ih cs) cs) lss
def Qu (cs:List AF):Bool:=List.rec true (fun c _ ih=>a6 (OM c) ih) cs
theorem M7.keep {γ:Gm} {E:i3}:∀ (lss:List (List Nat)) {cs:List AF} {frs:List Frame},M7 γ E cs frs→Qu cs=true→M7 γ E (R4 lss cs) frs
 | [],_,_,h,_=>h
 | ls::lss,[],_,h,_=>by cases h;exact .nil
 | ls::lss,c::cs,_,h,ho=>by
   cases h with
   | cons h1 h2 =>
     obtain ⟨o1,o2⟩:=a9.1 (show a6 (OM c) (Qu cs)=true from ho)
     exact .cons (h1.keep o1 ls) (M7.keep lss h2 o2)
theorem i6.keep {E:i3} {m:Nat} {f:AF} {cs:List AF} {S:Hp} {Q:AV→Hp→Prop} (ls:List Nat) (lss:List (List Nat)) (ho:a6 (OM f) (Qu cs)=true) (h:i6 E m (jG ls f) (R4 lss cs) S Q):i6 E m f cs S Q:=by
 obtain ⟨o1,o2⟩:=a9.1 ho
 obtain ⟨v,S',q,h⟩:=h
 exact ⟨v,S',q,fun γ fr frs w hf hc hH=>h γ fr frs w (hf.keep o1 ls) (hc.keep lss o2) hH⟩
def Qv (ks:List IntKind) (y:Nat→Int):Nat→List AV:=List.rec (motive:=fun _=>Nat→List AV) (fun _=>[]) (fun k _ ih i=>.int k (y i)::ih (Nat.succ i)) ks
def a8 (ks:List IntKind) (Y:Nat→Nat→Int) (j:Nat):List AV:=Qv ks (Y j) 0
def bJ (ks:List IntKind) (l:List Int):List AV:=List.rec (motive:=fun _=>List Int→List AV) (fun _=>[]) (fun k _ ih l=>List.rec [] (fun x l _=>.int k x::ih l) l) ks l
def i2 (Y:Nat→Nat→Int) (i:Nat) (l:List Int):Nat→Nat→Int:=fun j k=>if j=i then l.getD k 0 else Y j k
theorem tJ:∀ (ks:List IntKind) (l:List Int) (y:Nat→Int) (p:Nat),l.length=ks.length→(∀ q,y (p+q)=l.getD q 0)→Qv ks y p=bJ ks l
 | [],[],_,_,_,_=>rfl
 | k::ks,x::l,y,p,hl,h=>by
   show AV.int k (y p)::Qv ks y (p+1)=.int k x::bJ ks l
   rw [show y p=x from h 0,tJ ks l y (p+1) (by simpa using hl) (fun q=>by rw [show p+1+q=p+(q+1) from by omega,h];rfl)]
 | [],_::_,_,_,hl,_=>by cases hl
 | _::_,[],_,_,hl,_=>by cases hl
theorem wG (ks:List IntKind) (Y:Nat→Nat→Int) (i:Nat) (l:List Int) (hl:l.length=ks.length):E8 (a8 ks Y) (some (i,bJ ks l))=a8 ks (i2 Y i l):=by
 funext j
 show upd (a8 ks Y) i (bJ ks l) j=a8 ks (i2 Y i l) j
 unfold upd
 by_cases e:j=i
 ·subst e
  rw [if_pos rfl]
  exact (tJ ks l _ 0 hl (fun q=>by unfold i2;rw [if_pos rfl,Nat.zero_add])).symm
 ·rw [if_neg e]
  unfold a8
  congr 1
  funext k
  unfold i2
  rw [if_neg e]
theorem Qw {n z el i:Nat} {ks:List IntKind} {Y:Nat→Nat→Int} {l:List Int} {r:List AV} {ex sty:Bool} (hr:r=bJ ks l) (hl:l.length=ks.length):∀ γ L ob,OR γ L (.arr n z (a8 ks Y) (some (i,r)) el ex sty) ob→OR γ L (.arr n z (a8 ks (i2 Y i l)) none el ex sty) ob:=by
 subst hr
 intro γ L ob h
 have e:=wG ks Y i l hl
 refine OR.arr_of ?_ h.2.1 (fun j hj=>?_)
 ·show OR γ L (.cells (i7 (a8 ks (i2 Y i l)) n) el ex sty 0 0) ob
  rw [← e];exact h.cells_of
 ·show (a8 ks (i2 Y i l) j).length=z
  rw [← e];exact h.2.2 j hj
theorem Qx {n z el:Nat} {f g:Nat→List AV} {ov:Option (Nat × List AV)} {ex sty:Bool} (h:∀ j,j < n→E8 f ov j=g j):∀ γ L ob,OR γ L (.arr n z f ov el ex sty) ob→OR γ L (.arr n z g none el ex sty) ob:=by
 intro γ L ob ho
 refine OR.arr_of ?_ ho.2.1 (fun j hj=>?_)
 ·show OR γ L (.cells (i7 g n) el ex sty 0 0) ob
  rw [← X8 h];exact ho.cells_of
 ·show (g j).length=z
  rw [← h j hj];exact ho.2.2 j hj
def nO (l:List (Ps × AO)):T AO:=List.rec .e (fun p _ ih=>T.set p.1 p.2 ih) l
theorem P9:∀ {l:List (Ps × AO)} {a:Ps} {o:AO},T.get a (nO l)=some o→(a,o) ∈ l
 | [],a,o,h=>by
   have:T.get a (.e:T AO)=some o:=h
   rw [T.get_e] at this;cases this
 | p :: l,a,o,h=>by
   have h':T.get a (T.set p.1 p.2 (nO l))=some o:=h
   by_cases e:p.1=a
   ·subst e
    rw [T.get_set_same] at h';cases h';exact List.mem_cons_self ..
   ·rw [T.get_set_ne e] at h'
    exact List.mem_cons_of_mem _ (P9 h')
def G5 {α:Type} (P:α→Prop):List α→Prop
 | []=>True
 | x::l=>P x∧G5 P l
theorem G5.get {α:Type} {P:α→Prop}:∀ {l:List α},G5 P l→∀ x ∈ l,P x
 | [],_,x,hx=>by cases hx
 | y::l,h,x,hx=>by
   rcases List.mem_cons.1 hx with rfl|hx
   ·exact h.1
   ·exact G5.get h.2 x hx
def Qy (f0:AF) (r:SR):AF:=SR.rec (fun f _ _=>f) (fun _ _=>f0) (fun _ _=>f0) f0 r
def nP (r:SR):List AF:=SR.rec (fun _ cs _=>cs) (fun _ _=>[]) (fun _ _=>[]) [] r
def D7 (r:SR):Hp:=SR.rec (fun _ _ S=>S) (fun _ S=>S) (fun _ S=>S) ⟨.e,.h,0⟩ r
def Qz (r:SR):AV:=SR.rec (fun _ _ _=>.any) (fun v _=>v) (fun v _=>v) .any r
def IOq (r:SR):Bool:=SR.rec (fun _ _ _=>true) (fun _ _=>false) (fun _ _=>false) false r
def IP (r:SR):Bool:=SR.rec (fun _ _ _=>false) (fun _ _=>true) (fun _ _=>false) false r
theorem Xi (f0:AF) {r:SR} (h:IOq r=true):r=.next (Qy f0 r) (nP r) (D7 r):=by cases r <;> first|rfl|cases h
theorem Xj {r:SR} (h:IP r=true):r=.fin (Qz r) (D7 r):=by cases r <;> first|rfl|cases h
section
variable {E:i3} (hE:E.Ok) (hmix:E.P.follows .mixedOrders=true) {tb:M8} (hT:q9 tb E) {N n:Nat} {l:List (Nat × Nat × Bool)}
include hE hmix hT
theorem i6.segR {f:AF} {cs:List AF} {S:Hp} {Q:AV→Hp→Prop} {K m:Nat} {R:SR} (hR:R=nL tb (p8 tb N n) E l K f cs S) (hn:Nat.ble m S.nx.idx=true) (hr:IOq R=true) (hg:wE tb (p8 tb N n) (B5 tb N n) E l K f cs S=true)
 (h:i6 E m (Qy f R) (nP R) (D7 R) Q):i6 E m f cs S Q:=by
 subst hR
 refine i6.goes (Nat.le_of_ble_eq_true hn) (S1:=D7 (nL tb (p8 tb N n) E l K f cs S)) (fun _ _ e=>e) rfl rfl (fun γ fr frs w hf hc hH=>?_) h
 have:=nM hE hmix hT N n l hg hf hc hH
 rw [Xi f hr] at this
 exact this
omit hE hmix hT
theorem tK {k:Nat} {t:List Ps} {H S:Hp} {os:List (Ps × AO)} (hk:H6 E.ng H.nx.idx S.nx.idx k H.fl S.fl t=true) (hH:H.hp=nO os)
 (ho:G5 (fun p=>T.get (r7 E.ng H.nx.idx S.nx.idx t p.1) S.hp=some (w8 (r7 E.ng H.nx.idx S.nx.idx t) p.2)) os):Ip E (r7 E.ng H.nx.idx S.nx.idx t) H S:=by
 obtain ⟨h1,h2,h3,h4⟩:=fJ hk
 exact h1.emb h4 h2 h3 (fun a o ha=>ho.get (a,o) (P9 (by rw [← hH];exact ha)))
include hE hmix hT
theorem i6.end {k m:Nat} {t:List Ps} {f:AF} {cs:List AF} {S H:Hp} {Q:AV→Hp→Prop} {K:Nat} {v:AV} {R:SR} {os:List (Ps × AO)} (hR:R=nL tb (p8 tb N n) E l K f cs S) (hn:Nat.ble m S.nx.idx=true) (hr:IP R=true) (hg:wE tb (p8 tb N n) (B5 tb N n) E l K f cs S=true)
 (hm:m=E.ng+k) (hk:H6 E.ng H.nx.idx (D7 R).nx.idx k H.fl (D7 R).fl t=true) (hH:H.hp=nO os) (hf:H.fl=(D7 R).fl)
 (ho:G5 (fun p=>T.get (r7 E.ng H.nx.idx (D7 R).nx.idx t p.1) (D7 R).hp=some (w8 (r7 E.ng H.nx.idx (D7 R).nx.idx t) p.2)) os) (hv:Qz R=F1 (r7 E.ng H.nx.idx (D7 R).nx.idx t) v) (hq:Q v H):i6 E m f cs S Q:=by
 subst hR
 obtain ⟨h1,_,_,_⟩:=fJ hk
 exact i6.finS hE hmix hT (Nat.le_of_ble_eq_true hn) (Xj hr) hg (tK hk hH ho) hf (fun a ha=>h1.rn.1 a (by omega)) hv hq
end
def c8 (n d:Int):Int:=n / d
theorem cW.of_endsN {E:i3} {f0:AF} {v:AV} (hp:Qa E f0) (hv:vN E.ng v=true) (h:i6 E E.ng f0 [] (H0 E) (fun v' _=>v'=v)):cW E f0 v:=by
 obtain ⟨v1,S',e,h⟩:=h
 subst e
 intro γ S fr w hf hH c bot
 obtain ⟨γ',v',w',g1,g2,g3,g4⟩:=(h _ _ _ w (hf.cut hp) .nil hH.h0).2 c bot
 have hold:∀ r,r < w.heap.size→w'.heap[r]? = w.heap[r]?:=fun r hr=>g4.keep r hr (fun a o L e=>by rw [tE] at e;cases e)
 have hle:Gm.le (γ'.cut E.ng) γ:=fun a L e=>by
  obtain ⟨e1,e2⟩:=Gm.cut_some.1 e
  exact (Gm.cut_some.1 ((g4.same a L e1).2 e2)).2
 refine ⟨v',w',g1,(mW g2 hv).mono hle,⟨fun a o ho=>?_,hH.inj,hH.fresh,hH.glob⟩,?_⟩
 ·obtain ⟨L,ob,k1,k2,k3⟩:=hH.obj a o ho
  exact ⟨L,ob,k1,by rw [hold _ (Array.getElem?_eq_some_iff.1 k2).1];exact k2,k3⟩
 ·exact ⟨Gm.le_refl _,g4.size,fun r hr _=>hold r hr,fun a o L k1 k2 k3=>.inr ⟨a,o,L,k1,k2,k3,rfl⟩,fun a o k _=>k,rfl,Nat.le_refl _,fun a L k _=>k,g4.os,g4.out,fun a o k _ _=>k⟩
theorem dQ {E:i3} (hE:E.Ok) {f:Nat} {args:List AV} {v:AV} {f0:AF} (hen:d9 E f args false=some f0) (h:cW E f0 v) (H:Hp) (γ:Gm) (w:World) (s:Sem Next) (hH:HR γ E.ng H w) (ho:O7 E γ H w s (.call f args)) :
 ∃ fr',F8 E.P s w fr'∧∀ c bot,∃ γ' v' w',Steps E.P (lone fr' (c::bot) w) (lone (c.finish v') bot w')∧VR γ' v v'∧HR γ' E.ng H w'∧j6 H γ w H γ' w':=by
 obtain ⟨_,fr',he,hf⟩:=Q9 hE (H:=H) (ro:=.call f args) hen hH ho
 exact ⟨fr',he,fun c bot=>⟨γ,h γ H fr' w hf hH c bot⟩⟩
def dR (ks:List IntKind) (V:Nat→Bool) (Y:Nat→Nat→Int) (j:Nat):List AV:=.bool (V j)::Qv ks (Y j) 1
def G6 (V:Nat→Bool) (i:Nat) (b:Bool):Nat→Bool:=fun j=>if j=i then b else V j
theorem Ra (ks:List IntKind) (V:Nat→Bool) (Y:Nat→Nat→Int) (i:Nat) (b:Bool) (l:List Int) (hl:l.length=ks.length):E8 (dR ks V Y) (some (i,.bool b::bJ ks l))=dR ks (G6 V i b) (i2 Y i (0::l)):=by
 funext j
 show upd (dR ks V Y) i (.bool b::bJ ks l) j=dR ks (G6 V i b) (i2 Y i (0::l)) j
 unfold upd dR G6
 by_cases e:j=i
 ·subst e
  rw [if_pos rfl,if_pos rfl]
  congr 1
  exact (tJ ks l _ 1 hl (fun q=>by unfold i2;rw [if_pos rfl,Nat.add_comm];rfl)).symm
 ·rw [if_neg e,if_neg e]
  congr 2
  funext k
  unfold i2
  rw [if_neg e]
theorem Iw {n z el i:Nat} {ks:List IntKind} {V:Nat→Bool} {Y:Nat→Nat→Int} {b:Bool} {l:List Int} {r:List AV} {ex sty:Bool} (hr:r=.bool b::bJ ks l) (hl:l.length=ks.length):∀ γ L ob,OR γ L (.arr n z (dR ks V Y) (some (i,r)) el ex sty) ob→OR γ L (.arr n z (dR ks (G6 V i b) (i2 Y i (0::l))) none el ex sty) ob:=by
 subst hr
 intro γ L ob h
 have e:=Ra ks V Y i b l hl
 refine OR.arr_of ?_ h.2.1 (fun j hj=>?_)
 ·show OR γ L (.cells (i7 (dR ks (G6 V i b) (i2 Y i (0::l))) n) el ex sty 0 0) ob
  rw [← e];exact h.cells_of
 ·show (dR ks (G6 V i b) (i2 Y i (0::l)) j).length=z
  rw [← e];exact h.2.2 j hj
def Ix (H:Hp) (os:List (Ps × AO)):Bool:=List.rec true (fun p _ ih=>H2 (Nat.ble (Nat.succ p.1.idx) H.fl) ih) os
theorem Ez {H:Hp} {os:List (Ps × AO)} (hH:H.hp=nO os) (h:Ix H os=true):∀ k o,H.hp.get k=some o→k.idx < H.fl:=by
 have:∀ (os:List (Ps × AO)),Ix H os=true→∀ p ∈ os,p.1.idx < H.fl:=by
  intro os
  induction os with
  | nil=>intro _ p hp;cases hp
  | cons x l ih =>
    intro hx p hp
    obtain ⟨h1,h2⟩:=p9 (show H2 (Nat.ble (Nat.succ x.1.idx) H.fl) (Ix H l)=true from hx)
    rcases List.mem_cons.1 hp with rfl|hp
    ·exact Nat.le_of_ble_eq_true h1
    ·exact ih h2 p hp
 intro k o hk
 exact this os h (k,o) (P9 (by rw [← hH];exact hk))
theorem i6.keepC {E:i3} {m:Nat} {f:AF} {cs:List AF} {S:Hp} {Q:AV→Hp→Prop} (lss:List (List Nat)) (ho:a6 (OM f) (Qu cs)=true) (h:i6 E m f (R4 lss cs) S Q):i6 E m f cs S Q:=by
 obtain ⟨_,o2⟩:=a9.1 ho
 obtain ⟨v,S',q,h⟩:=h
 exact ⟨v,S',q,fun γ fr frs w hf hc hH=>h γ fr frs w hf (hc.keep lss o2) hH⟩
section
variable {E:i3} {n:Nat}
theorem i6.callL {t:List Ps} {f f' c:AF} {cs:List AF} {H S:Hp} {os:List (Ps × AO)} {Q1 Q:AV→Hp→Prop} (hn:Nat.ble n S.nx.idx=true) (hk:H6 E.ng H.nx.idx S.nx.idx 0 H.fl S.fl t=true) (hH:H.hp=nO os)
 (ho:G5 (fun p=>T.get (r7 E.ng H.nx.idx S.nx.idx t p.1) S.hp=some (w8 (r7 E.ng H.nx.idx S.nx.idx t) p.2)) os)
 (hm:c.md=.run) (hl:c.lost=false) (hlow:Ix H os=true)
 (ef:f'=G4 (r7 E.ng H.nx.idx S.nx.idx t) f) (hr:i6 E H.nx.idx f [] H Q1)
 (hq:∀ v H',Q1 v H'→∃ S2 os2 c',S2.hp=nO os2∧S2.nx.idx=S.nx.idx+(H'.nx.idx - H.nx.idx)∧S2.fl=S.fl ∧
  G5 (fun p=>(∃ k o',H.fl≤k.idx∧p.1=r7 E.ng H.nx.idx S.nx.idx t k∧H'.hp.get k=some o'∧p.2=w8 (r7 E.ng H.nx.idx S.nx.idx t) o')∨T.get p.1 S.hp=some p.2) os2 ∧
  r6 c (F1 (r7 E.ng H.nx.idx S.nx.idx t) v)=some c'∧i6 E n c' cs S2 Q):i6 E n f' (c::cs) S Q:=by
 refine i6.call (tK hk hH ho) (Nat.le_of_ble_eq_true hn) ef hr hm hl (fun v H' q=>?_)
 obtain ⟨S2,os2,c',h1,h2,h3,h4,h5,h6⟩:=hq v H' q
 refine ⟨S2,c',⟨fun a o hao=>?_,h2,h3⟩,h5,h6⟩
 rcases h4.get (a,o) (P9 (by rw [← h1];exact hao)) with ⟨k,o',g1,g2,g3,g4⟩|g
 ·exact .inl ⟨k,o',g1,g2,g3,g4⟩
 ·exact .inr ⟨g,fun k o' e1 e2=>absurd (Ez hH hlow k o' e1) (by omega)⟩
end
def Bj (f:AF):Option Nat:=
 match f.todo with
 | .code (.cond (.tmp d) _ _)::_=>(match f.md with|.run=>some d|_=>none)
 | _=>none
def XM:AV→Bool
 | .int .i64 _=>true
 | _=>false
def XN:AV→Int
 | .int _ z=>z
 | _=>0
def RL (T:Bool) (a b:Bool × Int):Bool × Int:=⟨aL T a.1 b.1,d7 T a.2 b.2⟩
def cX (ih:AF→List AF→Hp→Bool × Int) (g:Bool) (r:SR):Bool × Int:=
 ⟨a6 g (SR.rec (fun f cs S=>(ih f cs S).1) (fun v _=>XM v) (fun _ _=>false) false r),SR.rec (fun f cs S=>(ih f cs S).2) (fun v _=>XN v) (fun _ _=>0) 0 r⟩
def iN (tb:M8) (D:s8) (G:GD) (E:i3) (n:Nat):AF→List AF→Hp→Bool × Int:=
 Nat.rec (motive:=fun _=>AF→List AF→Hp→Bool × Int) (fun _ _ _=>⟨false,0⟩)
  (fun _ ih f cs S=>Option.rec (cX ih (bH tb D G E 1 f cs S) (F7 tb D E 1 f cs S))
   (fun d=>Option.rec ⟨false,0⟩ (fun p=>Option.rec ⟨false,0⟩ (fun q=>RL p.1 (cX ih (bH tb D G E 1 p.2 cs S) (F7 tb D E 1 p.2 cs S)) (cX ih (bH tb D G E 1 q.2 cs S) (F7 tb D E 1 q.2 cs S))) (nK d false f)) (nK d true f)) (Bj f)) n
theorem IQ {v:AV} (h:XM v=true):v=.int .i64 (XN v):=by
 unfold XM at h
 split at h
 ·rfl
 ·cases h
section
variable {E:i3} (hE:E.Ok) (hmix:E.P.follows .mixedOrders=true) {tb:M8} (hT:q9 tb E) {N n:Nat}
include hE hmix hT
theorem Xk (K:Nat):∀ {f:AF} {cs:List AF} {S:Hp},(iN tb (p8 tb N n) (B5 tb N n) E K f cs S).1=true →
 ∃ S',∀ γ fr frs w,FR γ E f fr→M7 γ E cs frs→HR γ E.ng S w→cH E γ S fr frs w (.fin (.int .i64 (iN tb (p8 tb N n) (B5 tb N n) E K f cs S).2) S'):=by
 induction K with
 | zero=>intro f cs S h;cases h
 | succ K ih =>
   have cont:∀ {f:AF} {cs:List AF} {S:Hp},(cX (iN tb (p8 tb N n) (B5 tb N n) E K) (bH tb (p8 tb N n) (B5 tb N n) E 1 f cs S) (F7 tb (p8 tb N n) E 1 f cs S)).1=true →
    ∃ S',∀ γ fr frs w,FR γ E f fr→M7 γ E cs frs→HR γ E.ng S w→cH E γ S fr frs w (.fin (.int .i64 (cX (iN tb (p8 tb N n) (B5 tb N n) E K) (bH tb (p8 tb N n) (B5 tb N n) E 1 f cs S) (F7 tb (p8 tb N n) E 1 f cs S)).2) S'):=by
    intro f cs S h
    obtain ⟨h1,h2⟩:=a9.1 h
    have hrun:∀ {γ:Gm} {fr:Frame} {frs:List Frame} {w:World},FR γ E f fr→M7 γ E cs frs→HR γ E.ng S w→cH E γ S fr frs w (F7 tb (p8 tb N n) E 1 f cs S):=fun hf hc hH=>by
     have:=fL hE hT (nJ hE hT hmix N n) 1 hf hc hH
     rw [wD (tI tb E N n) 1 h1] at this
     exact this
    show ∃ S',∀ γ fr frs w,FR γ E f fr→M7 γ E cs frs→HR γ E.ng S w→cH E γ S fr frs w (.fin (.int .i64 (SR.rec (fun f cs S=>(iN tb (p8 tb N n) (B5 tb N n) E K f cs S).2) (fun v _=>XN v) (fun _ _=>0) 0 (F7 tb (p8 tb N n) E 1 f cs S))) S')
    generalize hr:F7 tb (p8 tb N n) E 1 f cs S=r at h2 hrun ⊢
    cases r with
    | next f1 jZ S1 =>
      obtain ⟨S',h3⟩:=ih h2
      exact ⟨S',fun γ fr frs w hf hc hH=>cH.after (hrun hf hc hH) (fun a b c=>h3 _ _ _ _ a b c)⟩
    | fin v S1 =>
      refine ⟨S1,fun γ fr frs w hf hc hH=>?_⟩
      have:=hrun hf hc hH
      rw [IQ h2] at this
      exact this
    | finP v S1=>cases h2
    | bad=>cases h2
   intro f cs S h
   have e:iN tb (p8 tb N n) (B5 tb N n) E (K+1) f cs S=Option.rec (cX (iN tb (p8 tb N n) (B5 tb N n) E K) (bH tb (p8 tb N n) (B5 tb N n) E 1 f cs S) (F7 tb (p8 tb N n) E 1 f cs S))
    (fun d=>Option.rec ⟨false,0⟩ (fun p=>Option.rec ⟨false,0⟩ (fun q=>RL p.1 (cX (iN tb (p8 tb N n) (B5 tb N n) E K) (bH tb (p8 tb N n) (B5 tb N n) E 1 p.2 cs S) (F7 tb (p8 tb N n) E 1 p.2 cs S)) (cX (iN tb (p8 tb N n) (B5 tb N n) E K) (bH tb (p8 tb N n) (B5 tb N n) E 1 q.2 cs S) (F7 tb (p8 tb N n) E 1 q.2 cs S))) (nK d false f)) (nK d true f)) (Bj f):=rfl
   rw [e] at h ⊢
   clear e
   cases hc:Bj f with
   | none=>rw [hc] at h;exact cont h
   | some d =>
     rw [hc] at h
     dsimp only at h ⊢
     cases hp:nK d true f with
     | none=>rw [hp] at h;cases h
     | some p =>
       rw [hp] at h
       dsimp only at h ⊢
       cases hq:nK d false f with
       | none=>rw [hq] at h;cases h
       | some q =>
         rw [hq] at h
         dsimp only at h ⊢
         obtain ⟨T,fp⟩:=p
         obtain ⟨T2,fq⟩:=q
         have hTT:T2=T:=by
          obtain ⟨x1,a1,b1⟩:=m9 (o:=X3 (n8 f.tm d)) hp
          obtain ⟨x2,a2,b2⟩:=m9 (o:=X3 (n8 f.tm d)) hq
          rw [a1] at a2;cases a2
          cases hl:f.lost with
          | true=>rw [hl] at b1;cases b1
          | false=>rw [hl] at b1 b2;cases b1;cases b2;rfl
         cases T with
         | true =>
           obtain ⟨S',h3⟩:=cont (show (cX (iN tb (p8 tb N n) (B5 tb N n) E K) (bH tb (p8 tb N n) (B5 tb N n) E 1 fp cs S) (F7 tb (p8 tb N n) E 1 fp cs S)).1=true from h)
           exact ⟨S',fun γ fr frs w hf hc hH=>h3 γ fr frs w (Bi hp rfl hf) hc hH⟩
         | false =>
           subst hTT
           obtain ⟨S',h3⟩:=cont (show (cX (iN tb (p8 tb N n) (B5 tb N n) E K) (bH tb (p8 tb N n) (B5 tb N n) E 1 fq cs S) (F7 tb (p8 tb N n) E 1 fq cs S)).1=true from h)
           exact ⟨S',fun γ fr frs w hf hc hH=>h3 γ fr frs w (Bi hq rfl hf) hc hH⟩
def IS (tb:M8) (N n K:Nat) (E:i3) (f:Nat) (args:List AV) (H:Hp):Option (Bool × AV × Hp):=
 Option.rec none (fun f0=>some ((iN tb (p8 tb N n) (B5 tb N n) E K f0 [] ⟨H.hp,H.nx,H.nx.idx⟩).1,.int .i64 (iN tb (p8 tb N n) (B5 tb N n) E K f0 [] ⟨H.hp,H.nx,H.nx.idx⟩).2,H)) (d9 E f args false)
theorem Xl {K f:Nat} {args:List AV} {v:AV} {H S1:Hp} (h:IS tb N n K E f args H=some (true,v,S1)) (γ:Gm) (w:World) (s:Sem Next) (hH:HR γ E.ng H w) (ho:O7 E γ H w s (.call f args)) :
 ∃ fr',F8 E.P s w fr'∧∀ c bot,∃ γ' v' w',Steps E.P (lone fr' (c::bot) w) (lone (c.finish v') bot w')∧VR γ' v v'∧HR γ' E.ng S1 w'∧j6 H γ w S1 γ' w':=by
 unfold IS at h
 cases hen:d9 E f args false with
 | none=>rw [hen] at h;cases h
 | some f0 =>
   rw [hen] at h
   obtain ⟨_,fr',he,hf⟩:=Q9 hE (H:=H) (ro:=.call f args) hen hH ho
   injection h with h
   injection h with h1 h2
   injection h2 with h2 h3
   subst h2 h3
   obtain ⟨S',hr⟩:=Xk hE hmix hT K h1
   refine ⟨fr',he,fun c bot=>?_⟩
   have hH':HR γ E.ng ⟨H.hp,H.nx,H.nx.idx⟩ w:=⟨hH.obj,fun a a' o o' L L' h1 h2 h3 h4 e=>(hH.inj a a' o o' L L' h1 h2 h3 h4 e).imp id (fun _=>⟨hH.lt h1,hH.lt h2⟩),hH.fresh,hH.glob⟩
   obtain ⟨γ',v',w',g1,g2,g3,g4⟩:=(hr γ fr' [] w hf .nil hH').2 c bot
   have hold:∀ r,r < w.heap.size→w'.heap[r]? = w.heap[r]?:=fun r hr=>g4.keep r hr (fun a o L e hfl hL=>by
    have:=hH.fresh a L hL
    have hfl':H.nx.idx≤a.idx:=hfl
    omega)
   refine ⟨γ,v',w',g1,?_,⟨fun a o ho=>?_,hH.inj,hH.fresh,hH.glob⟩,?_⟩
   ·cases g2;exact .int ..
   ·obtain ⟨L,ob,k1,k2,k3⟩:=hH.obj a o ho
    exact ⟨L,ob,k1,by rw [hold _ (Array.getElem?_eq_some_iff.1 k2).1];exact k2,k3⟩
   ·exact ⟨Gm.le_refl _,g4.size,fun r hr _=>hold r hr,fun a o L k1 k2 k3=>.inr ⟨a,o,L,k1,k2,k3,rfl⟩,fun a o k _=>k,rfl,Nat.le_refl _,fun a L k _=>k,g4.os,g4.out,fun a o k _ _=>k⟩
end
structure St where
 f:AF
 cs:List AF
 os:List (Ps × AO)
 nx:Ps
 fl:Nat
def St.S (x:St):Hp:=⟨nO x.os,x.nx,x.fl⟩
def a7 (E:i3) (m:Nat) (x:St) (Q:AV→Hp→Prop):Prop:=i6 E m x.f x.cs x.S Q
def OE (a:Option AO) (b:AO):Prop:=a=some b∨∃ o,a=some o∧∀ γ L ob,OR γ L o ob→OR γ L b ob
def wH (ρ:Ps→Ps) (os:List (Ps × AO)) (S:Hp):Hp:=List.rec S (fun p _ ih=>ih.put (ρ p.1) (w8 ρ p.2)) os
theorem Fa (ρ:Ps→Ps):∀ (os:List (Ps × AO)) (S:Hp),(wH ρ os S).nx=S.nx∧(wH ρ os S).fl=S.fl
 | [],_=>⟨rfl,rfl⟩
 | _::l,S=>Fa ρ l S
theorem wI {ρ:Ps→Ps}:∀ {os:List (Ps × AO)} {S:Hp} {a:Ps} {o:AO},T.get a (wH ρ os S).hp=some o→(∃ p ∈ os,a=ρ p.1∧o=w8 ρ p.2)∨T.get a S.hp=some o
 | [],_,_,_,h=>.inr h
 | p :: l,S,a,o,h=>by
   rcases G8 (show T.get a ((wH ρ l S).put (ρ p.1) (w8 ρ p.2)).hp=some o from h) with ⟨e1,e2⟩|⟨_,h2⟩
   ·exact .inl ⟨p,List.mem_cons_self ..,e1,e2⟩
   ·rcases wI h2 with ⟨q,hq,h3⟩|h3
    ·exact .inl ⟨q,List.mem_cons_of_mem _ hq,h3⟩
    ·exact .inr h3
theorem wJ {ρ:Ps→Ps} (hi:∀ a b,ρ a=ρ b→a=b):∀ {os:List (Ps × AO)} {S:Hp} {a:Ps} {o:AO},T.get a (nO os)=some o→T.get (ρ a) (wH ρ os S).hp=some (w8 ρ o)
 | [],_,a,o,h=>by
   have:T.get a (.e:T AO)=some o:=h
   rw [T.get_e] at this;cases this
 | p :: l,S,a,o,h=>by
   have h':T.get a (T.set p.1 p.2 (nO l))=some o:=h
   show T.get (ρ a) (T.set (ρ p.1) (w8 ρ p.2) (wH ρ l S).hp)=some (w8 ρ o)
   by_cases e:p.1=a
   ·subst e
    rw [T.get_set_same] at h';cases h'
    rw [T.get_set_same]
   ·rw [T.get_set_ne e] at h'
    rw [T.get_set_ne (fun e'=>e (hi _ _ e'))]
    exact wJ hi h'
theorem i6.dressS {E:i3} {m:Nat} {f:AF} {cs:List AF} {S S1:Hp} {Q:AV→Hp→Prop} (hs:∀ a x,T.get a S1.hp=some x→∃ y,T.get a S.hp=some y∧∀ γ L ob,OR γ L y ob→OR γ L x ob) (hn:S1.nx=S.nx) (hf:S1.fl=S.fl)
 (h:i6 E m f cs S1 Q):i6 E m f cs S Q:=by
 obtain ⟨v,S',q,h⟩:=h
 have kn : ∀ {γ:Gm} {w:World} {γ':Gm} {w':World},Kn m S1 γ w S' γ' w'→Kn m S γ w S' γ' w':=fun {γ w γ' w'} k =>
  ⟨k.same,k.size,fun r hr hno=>k.keep r hr (fun a x L hx hfl hL=>by obtain ⟨y,hy,_⟩:=hs a x hx;exact hno a y L hy (by rw [← hf];exact hfl) hL),k.os,k.out,
   fun a x L h1 h2 h3=>by
    rcases k.desc a x L h1 (by rw [hf];exact h2) h3 with h4|⟨a₀,o₀,L₀,g1,g2,g3,g4⟩
    ·exact .inl h4
    ·obtain ⟨y,hy,_⟩:=hs a₀ o₀ g1
     exact .inr ⟨a₀,y,L₀,hy,by rw [← hf];exact g2,g3,g4⟩,by rw [k.fl,hf]⟩
 refine ⟨v,S',q,fun γ fr frs w hf' hc hH=>?_⟩
 have hH1:HR γ E.ng S1 w:=by
  refine ⟨fun a o ho=>?_,fun a a' o o' L L' ho ho'=>?_,fun a L e=>by rw [hn];exact hH.fresh a L e,hH.glob⟩
  ·obtain ⟨y,hy,hOR⟩:=hs a o ho
   obtain ⟨L,ob,k1,k2,k3⟩:=hH.obj a y hy
   exact ⟨L,ob,k1,k2,hOR γ L ob k3⟩
  ·obtain ⟨y,hy,_⟩:=hs a o ho
   obtain ⟨y',hy',_⟩:=hs a' o' ho'
   rw [hf];exact hH.inj a a' y y' L L' hy hy'
 obtain ⟨h1,h2⟩:=h γ fr frs w hf' hc hH1
 refine ⟨fun hl bot=>?_,fun c bot=>?_⟩
 ·obtain ⟨γ',v',fr',w',fn,k1,k2,k3,k4,k5,k6,k7,k8,k9,k10⟩:=h1 hl bot
  exact ⟨γ',v',fr',w',fn,k1,k2,k3,k4,k5,k6,k7,k8,k9,kn k10⟩
 ·obtain ⟨γ',v',w',k1,k2,k3,k4⟩:=h2 c bot
  exact ⟨γ',v',w',k1,k2,k3,kn k4⟩
theorem i6.atO {E:i3} {k m:Nat} {t:List Ps} {f f0:AF} {cs yG:List AF} {H S:Hp} {Q:AV→Hp→Prop} {os:List (Ps × AO)} (hm:m=E.ng+k) (hk:H6 E.ng H.nx.idx S.nx.idx k H.fl S.fl t=true) (hH:H.hp=nO os) (hf:H.fl=S.fl)
 (ho:G5 (fun p=>OE (T.get (r7 E.ng H.nx.idx S.nx.idx t p.1) S.hp) (w8 (r7 E.ng H.nx.idx S.nx.idx t) p.2)) os) (ef:f=G4 (r7 E.ng H.nx.idx S.nx.idx t) f0) (ec:cs=yG.map (G4 (r7 E.ng H.nx.idx S.nx.idx t)))
 (h:i6 E m f0 yG H Q):i6 E m f cs S Q:=by
 obtain ⟨h1,h2,h3,h4⟩:=fJ hk
 have hp:=Fa (r7 E.ng H.nx.idx S.nx.idx t) os S
 refine i6.dressS (S1:=wH (r7 E.ng H.nx.idx S.nx.idx t) os S) (fun a x hx=>?_) hp.1 hp.2 ?_
 ·rcases wI hx with ⟨p,hp,rfl,rfl⟩|h5
  ·rcases ho.get p hp with e|⟨o,e1,e2⟩
   ·exact ⟨_,e,fun _ _ _ z=>z⟩
   ·exact ⟨o,e1,e2⟩
  ·exact ⟨x,h5,fun _ _ _ z=>z⟩
 ·generalize hS:wH (r7 E.ng H.nx.idx S.nx.idx t) os S=S1 at hp
  obtain ⟨e1,e2⟩:=hp
  have hget:∀ a o,H.hp.get a=some o→T.get (r7 E.ng H.nx.idx S.nx.idx t a) S1.hp=some (w8 (r7 E.ng H.nx.idx S.nx.idx t) o):=fun a o ha=>by
   rw [← hS];exact wJ h1.rn.2.2 (by rw [← hH];exact ha)
  have hem:Ip E (r7 E.ng H.nx.idx S.nx.idx t) H S1:=by
   have h1':=h1;have hget':=hget
   rw [← e1] at h1' hget' ⊢
   exact h1'.emb (fun i x a b=>by rw [e2];exact h4 i x a b) h2 (by rw [e1,e2];exact h3) hget'
  exact i6.canon hem (by rw [e2];exact hf) (fun a ha=>h1.rn.1 a (by omega)) ef ec h
theorem f7 {ρ:Ps→Ps} {a:Option AO} {n z el i:Nat} {ks:List IntKind} {Y:Nat→Nat→Int} {l:List Int} {ex sty:Bool} (h:a=some (.arr n z (a8 ks Y) (some (i,bJ ks l)) el ex sty)) (hl:l.length=ks.length)
 (hr:w8 ρ (.arr n z (a8 ks (i2 Y i l)) none el ex sty)=.arr n z (a8 ks (i2 Y i l)) none el ex sty):OE a (w8 ρ (.arr n z (a8 ks (i2 Y i l)) none el ex sty)):=by
 rw [hr]
 exact .inr ⟨_,h,Qw rfl hl⟩
theorem C2 {ρ:Ps→Ps} {a:Option AO} {n z el i:Nat} {ks:List IntKind} {V:Nat→Bool} {Y:Nat→Nat→Int} {b:Bool} {l:List Int} {ex sty:Bool} (h:a=some (.arr n z (dR ks V Y) (some (i,.bool b::bJ ks l)) el ex sty)) (hl:l.length=ks.length)
 (hr:w8 ρ (.arr n z (dR ks (G6 V i b) (i2 Y i (0::l))) none el ex sty)=.arr n z (dR ks (G6 V i b) (i2 Y i (0::l))) none el ex sty):OE a (w8 ρ (.arr n z (dR ks (G6 V i b) (i2 Y i (0::l))) none el ex sty)):=by
 rw [hr]
 exact .inr ⟨_,h,Iw rfl hl⟩
theorem Xm {ρ:Ps→Ps} {a:Option AO} {n z el i0 i:Nat} {ks:List IntKind} {Y:Nat→Nat→Int} {l0 l:List Int} {ex sty:Bool} (h:a=some (.arr n z (P1 (a8 ks Y) (some (i0,bJ ks l0))) (some (i,bJ ks l)) el ex sty)) (hl0:l0.length=ks.length) (hl:l.length=ks.length)
 (hr:w8 ρ (.arr n z (a8 ks (i2 (i2 Y i0 l0) i l)) none el ex sty)=.arr n z (a8 ks (i2 (i2 Y i0 l0) i l)) none el ex sty):OE a (w8 ρ (.arr n z (a8 ks (i2 (i2 Y i0 l0) i l)) none el ex sty)):=
 f7 (by rw [aW,wG ks Y i0 l0 hl0] at h;exact h) hl hr
def Rb (os:List (Ps × AO)):Bool:=List.rec true (fun p l ih=>H2 (List.rec true (fun q _ ih=>H2 (Bool.not (Nat.beq p.1.idx q.1.idx)) ih) l) ih) os
theorem wK:∀ {os:List (Ps × AO)},Rb os=true→∀ p ∈ os,T.get p.1 (nO os)=some p.2
 | [],_,p,hp=>by cases hp
 | x :: l,h,p,hp=>by
   obtain ⟨h1,h2⟩:=p9 (show H2 (List.rec true (fun q _ ih=>H2 (Bool.not (Nat.beq x.1.idx q.1.idx)) ih) l) (Rb l)=true from h)
   have hne:∀ (l:List (Ps × AO)),(List.rec true (fun q _ ih=>H2 (Bool.not (Nat.beq x.1.idx q.1.idx)) ih) l:Bool)=true→∀ q ∈ l,x.1≠q.1:=by
    intro l
    induction l with
    | nil=>intro _ q hq;cases hq
    | cons y l ih =>
      intro hh q hq
      obtain ⟨g1,g2⟩:=p9 (show H2 (Bool.not (Nat.beq x.1.idx y.1.idx)) (List.rec true (fun q _ ih=>H2 (Bool.not (Nat.beq x.1.idx q.1.idx)) ih) l)=true from hh)
      rcases List.mem_cons.1 hq with rfl|hq
      ·intro e
       rw [e] at g1
       have:Nat.beq q.1.idx q.1.idx=true:=Nat.beq_refl _
       rw [this] at g1;cases g1
      ·exact ih g2 q hq
   show T.get p.1 (T.set x.1 x.2 (nO l))=some p.2
   rcases List.mem_cons.1 hp with rfl|hp
   ·rw [T.get_set_same]
   ·rw [T.get_set_ne (hne l h1 p hp)]
    exact wK h2 p hp
def YS:AF:=⟨0,0,te,[],[],.run,false,false,none⟩
def XO (cs:List AF):AF:=List.rec YS (fun c _ _=>c) cs
def ZJ (cs:List AF):List AF:=List.rec [] (fun _ l _=>l) cs
def IT (o:Option AF):Bool:=Option.rec false (fun _=>true) o
def o4 (o:Option AF):AF:=Option.rec YS (fun f=>f) o
def XP (y:St) (v:AV) (news:List (Ps × AO)) (nx:Ps):St:=⟨o4 (r6 (XO y.cs) v),ZJ y.cs,lapp y.os news,nx,y.fl⟩
theorem G5.app {α:Type} {P:α→Prop}:∀ {a b:List α},(∀ x ∈ a,P x)→G5 P b→G5 P (lapp a b)
 | [],_,_,h=>h
 | x::a,_,h1,h2=>⟨h1 x (List.mem_cons_self ..),G5.app (a:=a) (fun y hy=>h1 y (List.mem_cons_of_mem _ hy)) h2⟩
def Rc (m:Hw):Bool:=match m with|.run=>true|_=>false
def ZK (cs:List AF):Bool:=List.rec false (fun c _ _=>a6 (Rc c.md) (Bool.not c.lost)) cs
section
variable {E:i3} (hE:E.Ok) (hmix:E.P.follows .mixedOrders=true) {tb:M8} (hT:q9 tb E)
def St.run (x:St) (tb:M8) (E:i3) (l:List (Nat × Nat × Bool)) (K:Nat):SR:=nL tb (p8 tb 1000000 30) E l K x.f x.cs x.S
def St.gd (x:St) (tb:M8) (E:i3) (l:List (Nat × Nat × Bool)) (K:Nat):Bool:=wE tb (p8 tb 1000000 30) (B5 tb 1000000 30) E l K x.f x.cs x.S
def wL (E:i3) (m k:Nat) (x y:St) (R:SR) (t:List Ps):Bool:=
 H2 (Nat.ble m x.nx.idx) (H2 (IOq R) (H2 (a6 (OM (Qy x.f R)) (Qu (nP R))) (H2 (H6 E.ng y.nx.idx (D7 R).nx.idx k y.fl (D7 R).fl t) (Nat.beq y.fl (D7 R).fl))))
include hE hmix hT
theorem a7.arrive {m k K:Nat} {x y:St} {G:Bool} {l:List (Nat × Nat × Bool)} {t:List Ps} {ls:List Nat} {lss:List (List Nat)} {Q:AV→Hp→Prop} (hm:m=E.ng+k)
 (hb:wL E m k x y (x.run tb E l K) t=true) (hg:x.gd tb E l K=G) (hG:G=true)
 (he:(jG ls (Qy x.f (x.run tb E l K)),R4 lss (nP (x.run tb E l K)))=(G4 (r7 E.ng y.nx.idx (D7 (x.run tb E l K)).nx.idx t) y.f,y.cs.map (G4 (r7 E.ng y.nx.idx (D7 (x.run tb E l K)).nx.idx t))))
 (ha:G5 (fun p=>OE (T.get (r7 E.ng y.nx.idx (D7 (x.run tb E l K)).nx.idx t p.1) (D7 (x.run tb E l K)).hp) (w8 (r7 E.ng y.nx.idx (D7 (x.run tb E l K)).nx.idx t) p.2)) y.os)
 (h:a7 E m y Q):a7 E m x Q:=by
 obtain ⟨b1,b2⟩:=p9 hb
 obtain ⟨b3,b4⟩:=p9 b2
 obtain ⟨b5,b6⟩:=p9 b4
 obtain ⟨b7,b8⟩:=p9 b6
 injection he with e1 e2
 refine i6.segR hE hmix hT (R:=x.run tb E l K) rfl b1 b3 (hg.trans hG) ?_
 refine i6.keep ls lss b5 ?_
 exact i6.atO (k:=k) (H:=y.S) hm b7 rfl (Nat.eq_of_beq_eq_true b8) ha e1 e2 h
theorem a7.arriveC {m k K:Nat} {x y:St} {G:Bool} {l:List (Nat × Nat × Bool)} {t:List Ps} {lss:List (List Nat)} {Q:AV→Hp→Prop} (hm:m=E.ng+k)
 (hb:wL E m k x y (x.run tb E l K) t=true) (hg:x.gd tb E l K=G) (hG:G=true)
 (he:(Qy x.f (x.run tb E l K),R4 lss (nP (x.run tb E l K)))=(G4 (r7 E.ng y.nx.idx (D7 (x.run tb E l K)).nx.idx t) y.f,y.cs.map (G4 (r7 E.ng y.nx.idx (D7 (x.run tb E l K)).nx.idx t))))
 (ha:G5 (fun p=>OE (T.get (r7 E.ng y.nx.idx (D7 (x.run tb E l K)).nx.idx t p.1) (D7 (x.run tb E l K)).hp) (w8 (r7 E.ng y.nx.idx (D7 (x.run tb E l K)).nx.idx t) p.2)) y.os)
 (h:a7 E m y Q):a7 E m x Q:=by
 obtain ⟨b1,b2⟩:=p9 hb
 obtain ⟨b3,b4⟩:=p9 b2
 obtain ⟨b5,b6⟩:=p9 b4
 obtain ⟨b7,b8⟩:=p9 b6
 injection he with e1 e2
 refine i6.segR hE hmix hT (R:=x.run tb E l K) rfl b1 b3 (hg.trans hG) ?_
 refine i6.keepC lss b5 ?_
 exact i6.atO (k:=k) (H:=y.S) hm b7 rfl (Nat.eq_of_beq_eq_true b8) ha e1 e2 h
def IU (E:i3) (m k:Nat) (x:St) (R:SR) (nx:Ps) (t:List Ps):Bool:=
 H2 (Nat.ble m x.nx.idx) (H2 (IP R) (H2 (H6 E.ng nx.idx (D7 R).nx.idx k x.fl (D7 R).fl t) (Nat.beq x.fl (D7 R).fl)))
theorem a7.fin {m k K:Nat} {x:St} {G:Bool} {l:List (Nat × Nat × Bool)} {t:List Ps} {v:AV} {os:List (Ps × AO)} {nx:Ps} {Q:AV→Hp→Prop} (hm:m=E.ng+k)
 (hb:IU E m k x (x.run tb E l K) nx t=true) (hg:x.gd tb E l K=G) (hG:G=true)
 (hv:Qz (x.run tb E l K)=F1 (r7 E.ng nx.idx (D7 (x.run tb E l K)).nx.idx t) v)
 (ha:G5 (fun p=>T.get (r7 E.ng nx.idx (D7 (x.run tb E l K)).nx.idx t p.1) (D7 (x.run tb E l K)).hp=some (w8 (r7 E.ng nx.idx (D7 (x.run tb E l K)).nx.idx t) p.2)) os)
 (hq:Q v ⟨nO os,nx,x.fl⟩):a7 E m x Q:=by
 obtain ⟨b1,b2⟩:=p9 hb
 obtain ⟨b3,b4⟩:=p9 b2
 obtain ⟨b7,b8⟩:=p9 b4
 exact i6.end hE hmix hT (R:=x.run tb E l K) (H:=⟨nO os,nx,x.fl⟩) rfl b1 b3 (hg.trans hG) hm b7 rfl (Nat.eq_of_beq_eq_true b8) ha hv hq
omit hE hmix hT
def DN (E:i3) (m:Nat) (y z:St) (t:List Ps):Bool:=
 H2 (Nat.ble m y.nx.idx) (H2 (H6 E.ng z.nx.idx y.nx.idx 0 z.fl y.fl t) (H2 (Ix z.S z.os) (H2 (Rb y.os) (ZK y.cs))))
theorem a7.call {m:Nat} {y z:St} {t:List Ps} {Q1 Q:AV→Hp→Prop} (hr:a7 E z.nx.idx z Q1) (hz:z.cs = []) (hb:DN E m y z t=true)
 (ef:y.f=G4 (r7 E.ng z.nx.idx y.nx.idx t) z.f)
 (ho:G5 (fun p=>T.get (r7 E.ng z.nx.idx y.nx.idx t p.1) (nO y.os)=some (w8 (r7 E.ng z.nx.idx y.nx.idx t) p.2)) z.os)
 (hq:∀ v H',Q1 v H'→∃ v' news nx,v'=F1 (r7 E.ng z.nx.idx y.nx.idx t) v∧nx.idx=y.nx.idx+(H'.nx.idx - z.nx.idx) ∧
  G5 (fun p=>∃ k o',z.fl≤k.idx∧p.1=r7 E.ng z.nx.idx y.nx.idx t k∧H'.hp.get k=some o'∧p.2=w8 (r7 E.ng z.nx.idx y.nx.idx t) o') news ∧
  IT (r6 (XO y.cs) v')=true∧a7 E m (XP y v' news nx) Q):a7 E m y Q:=by
 obtain ⟨b1,b2⟩:=p9 hb
 obtain ⟨b3,b4⟩:=p9 b2
 obtain ⟨b5,b6⟩:=p9 b4
 obtain ⟨b7,b8⟩:=p9 b6
 obtain ⟨yf,ycs,yos,ynx,yfl⟩:=y
 obtain ⟨zf,zcs,zos,znx,zfl⟩:=z
 dsimp only at *
 subst hz
 cases ycs with
 | nil=>cases b8
 | cons c cs =>
   obtain ⟨c1,c2⟩:=a9.1 (show a6 (Rc c.md) (Bool.not c.lost)=true from b8)
   have hmd:c.md=.run:=by
    cases h:c.md <;> rw [h] at c1 <;> first|rfl|cases c1
   refine i6.callL (H:=(⟨zf,[],zos,znx,zfl⟩:St).S) (S:=(⟨yf,c::cs,yos,ynx,yfl⟩:St).S) b1 b3 rfl ho hmd (uZ c2) b5 ef hr (fun v H' q=>?_)
   obtain ⟨v',news,nx,h1,h2,h3,h4,h5⟩:=hq v H' q
   have h4':IT (r6 c v')=true:=h4
   cases hf:r6 c v' with
   | none=>rw [hf] at h4';cases h4'
   | some c' =>
     have e:XP ⟨yf,c::cs,yos,ynx,yfl⟩ v' news nx=⟨c',cs,lapp yos news,nx,yfl⟩:=by
      show (⟨o4 (r6 c v'),cs,lapp yos news,nx,yfl⟩:St)=_
      rw [hf];rfl
     rw [e] at h5
     refine ⟨⟨nO (lapp yos news),nx,yfl⟩,lapp yos news,c',rfl,h2,rfl,G5.app (fun p hp=>.inr (wK b7 p hp)) ?_,by rw [h1] at hf;exact hf,h5⟩
     have:∀ {l:List (Ps × AO)},G5 (fun p=>∃ k o',zfl≤k.idx∧p.1=r7 E.ng znx.idx ynx.idx t k∧H'.hp.get k=some o'∧p.2=w8 (r7 E.ng znx.idx ynx.idx t) o') l →
      G5 (fun p=>(∃ k o',zfl≤k.idx∧p.1=r7 E.ng znx.idx ynx.idx t k∧H'.hp.get k=some o'∧p.2=w8 (r7 E.ng znx.idx ynx.idx t) o')∨T.get p.1 (nO yos)=some p.2) l:=by
      intro l
      induction l with
      | nil=>intro _;trivial
      | cons x l ih=>intro h;exact ⟨.inl h.1,ih h.2⟩
     exact this h3
end
theorem i6.alone {E:i3} {ρ:Ps→Ps} {H S:Hp} (h:Ip E ρ H S) {f f':AF} {Q1:AV→Hp→Prop} (ef:f'=G4 ρ f) (hr:i6 E H.nx.idx f [] H Q1) :
 ∃ v H',Q1 v H'∧∀ S2,Mg E ρ S H H' S2→∀ (γ:Gm) (fr:Frame) (w:World),FR γ E f' fr→HR γ E.ng S w→∀ c bot,∃ γ1 v' w1,Steps E.P (lone fr (c::bot) w) (lone (c.finish v') bot w1)∧VR γ1 (F1 ρ v) v'∧HR γ1 E.ng S2 w1∧Kd S γ w S2 γ1 w1:=by
 subst ef
 obtain ⟨v,H',k0,hr⟩:=hr
 refine ⟨v,H',k0,fun S2 m1 γ fr w hf hH c bot=>?_⟩
 obtain ⟨_,h2⟩:=hr (γ.via ρ) fr [] w (cB hf) .nil (h.small hH)
 obtain ⟨γ',v',w',k1,k2,k3,k4⟩:=h2 c bot
 obtain ⟨n1,n2⟩:=h.back hH k4 k3 m1
 exact ⟨_,v',w',k1,V6 (h.fwd hH (fun a L e ha=>(k4.same a L ha).2 e)) k2,n1,n2⟩
theorem Kd.pres {S S2:Hp} {γ γ1:Gm} {w w1:World} (k:Kd S γ w S2 γ1 w1) (h1:∀ a o,S.hp.get a=some o→a.idx < S.fl→S2.hp.get a=some o) (h2:∀ a o,S2.hp.get a=some o→a.idx < S.fl→a.idx < S.nx.idx→S.hp.get a=some o):j6 S γ w S2 γ1 w1:=
 ⟨k.kp.ext,k.kp.size,k.kp.keep,fun a o L g1 g2 g3=>k.desc a o L g1 (by rw [← k.fl];exact g2) g3,h1,k.fl,k.nx,k.kp.new,k.kp.os,k.kp.out,h2⟩
theorem bK {E:i3} (hE:E.Ok) {f:Nat} {args:List AV} {v:AV} {f' f0:AF} {H S:Hp} {t:List Ps} {os:List (Ps × AO)} {Q1:AV→Hp→Prop} (hen:d9 E f args false=some f')
 (hk:H6 E.ng H.nx.idx S.nx.idx 0 H.fl S.fl t=true) (hH:H.hp=nO os) (ho:G5 (fun p=>T.get (r7 E.ng H.nx.idx S.nx.idx t p.1) S.hp=some (w8 (r7 E.ng H.nx.idx S.nx.idx t) p.2)) os) (hlow:Ix H os=true)
 (ef:f'=G4 (r7 E.ng H.nx.idx S.nx.idx t) f0) (hr:i6 E H.nx.idx f0 [] H Q1) (hq:∀ v1 H',Q1 v1 H'→H'.nx=H.nx∧F1 (r7 E.ng H.nx.idx S.nx.idx t) v1=v)
 (γ:Gm) (w:World) (s:Sem Next) (hS:HR γ E.ng S w) (hop:O7 E γ S w s (.call f args)) :
 ∃ fr',F8 E.P s w fr'∧∀ c bot,∃ γ' v' w',Steps E.P (lone fr' (c::bot) w) (lone (c.finish v') bot w')∧VR γ' v v'∧HR γ' E.ng S w'∧j6 S γ w S γ' w':=by
 obtain ⟨_,fr',he,hf⟩:=Q9 hE (H:=S) (ro:=.call f args) hen hS hop
 obtain ⟨v1,H',k1,k2⟩:=i6.alone (tK hk hH ho) ef hr
 obtain ⟨e1,e2⟩:=hq v1 H' k1
 rw [e2] at k2
 refine ⟨fr',he,fun c bot=>?_⟩
 obtain ⟨γ1,v',w1,q1,q2,q3,q4⟩:=k2 S ⟨fun a o hao=>.inr ⟨hao,fun k o' g1 g2=>absurd (Ez hH hlow k o' g1) (by omega)⟩,by rw [e1];omega,rfl⟩ γ fr' w hf hS c bot
 exact ⟨γ1,v',w1,q1,q2,q3,q4.pres (fun _ _ h _=>h) (fun _ _ h _ _=>h)⟩
def DO (ls:List Nat) (a:Option AO):Option AO:=
 match a with
 | some (.loop st pe fn nt tm ps x b d)=>Bool.rec none (some (.loop st pe fn nt (wF ls tm) ps x b d)) (Nat.ble nt 1024)
 | _=>none
theorem R5 {a:Option AO} {b:AO} (ls:List Nat) (h:DO ls a=some b):OE a b:=by
 unfold DO at h
 split at h
 ·rename_i st pe fn nt tm ps x bd d
  obtain ⟨h1,h2⟩:=d5 h
  cases h2
  refine .inr ⟨_,rfl,fun γ L ob k=>?_⟩
  obtain ⟨tmps,D,g1,g2,g3,g4⟩:=k
  exact ⟨tmps,D,g1,nN g2 (by rw [g4];exact Nat.le_of_ble_eq_true h1) ls,g3,g4⟩
 ·cases h
end Go.AM
end
section
namespace Go.Proofs.Ytoahnefofelglaa.gm
open Go Go.AM
def ZL (t:Nat):Bool:=List.rec false (fun x _ ih=>Bool.rec ih true (Nat.beq x t)) [63,72,159,3,5]
def En:i3:=Au ZL Try.prog
theorem cY:En.Ok:=qO _ Try.prog
def tb:M8:=fun f args H=>Bool.rec (Bool.rec (Bool.rec none (IS IK 1000000 30 200 En 66 args H) (Nat.beq f 66))
    (match args with|[.int .i64 x,.int .i64 y]=>some (true,.int .i64 (d7 (i4 x y) (-1) (d7 (i4 y x) 1 0)),H)|_=>none) (Nat.beq f 67))
    (match args with|[.int .i64 n,.int .i64 d]=>some (a6 (f9 2 d) (Uq n),.int .i64 (c8 n d),H)|_=>none) (Nat.beq f 20)
def tz:M8:=IK
theorem N5:q9 tz En:=Ex En
theorem I4:En.P.follows .mixedOrders=true:=by kernel_rfl
theorem m5 (a b:Int):i4 a b=true↔a < b:=by rw [aM];exact decide_eq_true_iff
theorem n4 (a b:Int):f9 a b=true↔a≤b:=by rw [X5];exact decide_eq_true_iff
theorem E2 (a b:Int):c9 a b=true↔a=b:=by rw [X6];exact beq_iff_eq
theorem Xn (a:Int):c9 a a=true:=(E2 a a).2 rfl
theorem tL {x:Bool} {p:Prop} (h:x=true↔p) (e:x=true):p:=h.1 e
theorem tM {x:Bool} {p:Prop} (h:x=true↔p) (e:x=false):¬ p:=fun q=>by rw [h.2 q] at e;cases e
theorem RM {b:Bool} {p:Prop} (h:b=true↔p):Bool.not b=true↔¬ p:=by cases b with
 | true=>exact ⟨fun e=>(by cases e),fun e=>absurd (h.1 rfl) e⟩
 | false=>exact ⟨fun _ q=>(by have:=h.2 q;cases this),fun _=>rfl⟩
theorem N6 (a b:Bool):P6 a b=true↔a=b:=by cases a <;> cases b <;> decide
theorem Rd (b:Bool):(Bool.not b=true)↔¬ (b=true):=by cases b <;> decide
theorem IV (x y:Int):d7 true x y=x:=rfl
theorem IW (x y:Int):d7 false x y=y:=rfl
theorem IX (x y:Bool):aL true x y=x:=rfl
theorem IY (x y:Bool):aL false x y=y:=rfl
theorem IZ (T x:Bool):aL T x x=x:=by cases T <;> rfl
theorem JA (x:Bool):a6 true x=x:=rfl
theorem Xo (x:Bool):a6 x true=x:=by cases x <;> rfl
theorem XQ:Bool.not true=false:=rfl
theorem XR:Bool.not false=true:=rfl
theorem RN (x:Bool):Bool.and true x=x:=rfl
theorem RP (x:Bool):Bool.and false x=false:=rfl
theorem JB (x:Bool):Bool.and x true=x:=by cases x <;> rfl
theorem JC (x:Bool):Bool.and x false=false:=by cases x <;> rfl
theorem R6 (x y:Bool):(Bool.and x y=true)↔(x=true∧y=true):=by cases x <;> cases y <;> decide
theorem YT (a:Int) (k:Nat):Int.fdiv a (OfNat.ofNat k)=a / (OfNat.ofNat k):=Int.fdiv_eq_ediv_of_nonneg a (Int.natCast_nonneg k)
theorem X9 (a:Int):Int.fdiv a 16=a / 16:=Int.fdiv_eq_ediv_of_nonneg a (by decide)
theorem Q0 (a:Int):Int.fdiv a 65536=a / 65536:=Int.fdiv_eq_ediv_of_nonneg a (by decide)
theorem o8 (x:Int) {k:Int} (h:0 < k) : -k < Int.tmod x k∧Int.tmod x k < k:=by
 have h1:=Int.natAbs_tmod x k
 have h2:x.natAbs % k.natAbs < k.natAbs:=Nat.mod_lt _ (by omega)
 rw [← h1] at h2
 omega
theorem m6 (x:Int) {k:Int} (h:0 < k):x - k * Int.tdiv x k < k∧k * Int.tdiv x k - x < k:=by
 have h1:=o8 x h
 have h2:=Int.mul_tdiv_add_tmod x k
 generalize k * Int.tdiv x k=p at *
 omega
theorem V7 {u s:Int} (A:Int) (hs:1≤s∧s≤16777216) (hu : -A≤u∧u≤A) : -(A * 16777216)≤Int.mul u s∧Int.mul u s≤A * 16777216:=by
 show -(A * 16777216)≤u * s∧u * s≤A * 16777216
 have hA:0≤A:=by omega
 have h1:u * s≤A * s:=Int.mul_le_mul_of_nonneg_right hu.2 (by omega)
 have h2:A * s≤A * 16777216:=Int.mul_le_mul_of_nonneg_left hs.2 hA
 have h3:(-A) * s≤u * s:=Int.mul_le_mul_of_nonneg_right hu.1 (by omega)
 have h4:(-A) * s = -(A * s):=Int.neg_mul A s
 omega
theorem q8 (T:Bool) (x y:Int):d7 T x y=if T=true then x else y:=by cases T <;> rfl
theorem Km (b:Bool):b=false∨b=true:=by cases b <;> simp
theorem XS {x:Bool} (h:x=true):Bool.not x=false:=by rw [h];rfl
theorem VI {T a b:Bool} (ha:a=true) (hb:b=true):aL T a b=true:=by subst ha hb;cases T <;> rfl
theorem XT {x:Bool} (h:x=false):Bool.not x=true:=by rw [h];rfl
theorem n9 (a b x y:Int):d7 (i4 a b) x y=if a < b then x else y:=by
 unfold d7
 rw [aM]
 by_cases h:a < b
 ·rw [decide_eq_true h,if_pos h]
 ·rw [decide_eq_false h,if_neg h]
theorem Iy:En.ng=0:=by kernel_rfl
theorem wM (k:Nat):k=En.ng+k:=by rw [Iy];omega
theorem j8 (a b:Int):Int.add a b=a+b:=rfl
theorem j7 (a b:Int):Int.sub a b=a - b:=rfl
theorem m8 (a b:Int):Int.mul a b=a * b:=rfl
theorem H3 (a:Int):Int.neg a = -a:=rfl
theorem Re (a b:Nat):Nat.add a b=a+b:=rfl
theorem XU (a b:Nat):Nat.mul a b=a * b:=rfl
theorem DP (a:Nat):Nat.succ a=a+1:=rfl
theorem Bk (a:Nat):Int.ofNat a=(a:Int):=rfl
def f8 (x:Int):Bool:=a6 (f9 (-9223372036854775808) x) (f9 x (9223372036854775807))
theorem Xp (x:Int):f8 x=true↔-9223372036854775808≤x∧x≤9223372036854775807:=by
 unfold f8;rw [a9,n4,n4]
theorem gS:(∀ x y,d7 true x y=x)∧(∀ x y,d7 false x y=y)∧(∀ x y,aL true x y=x)∧(∀ x y,aL false x y=y)∧(∀ T x,aL T x x=x)∧(∀ x,a6 true x=x)∧(∀ x,a6 x true=x)∧(Bool.not true=false)∧(Bool.not false=true) ∧
 (∀ x,Bool.and true x=x)∧(∀ x,Bool.and false x=false)∧(∀ x,Bool.and x true=x)∧(∀ x,Bool.and x false=false)∧(∀ a,c9 a a=true)∧(∀ a,P6 a a=true):=
 ⟨IV,IW,IX,IY,IZ,JA,Xo,XQ,XR,RN,RP,JB,JC,Xn,uF⟩
theorem gT:(∀ a b,a6 a b=true↔a=true∧b=true)∧(∀ x y,Bool.and x y=true↔x=true∧y=true)∧(∀ b,Bool.not b=true↔¬ b=true)∧(∀ a b,i4 a b=true↔a < b)∧(∀ a b,f9 a b=true↔a≤b)∧(∀ a b,c9 a b=true↔a=b) ∧
 (∀ a b,Nat.ble a b=true↔a≤b)∧(∀ a b,Nat.beq a b=true↔a=b)∧(∀ a b,Int.add a b=a+b)∧(∀ a b,Int.sub a b=a - b)∧(∀ a b,Int.mul a b=a * b)∧(∀ a,Int.neg a = -a)∧(∀ a b,Nat.add a b=a+b)∧(∀ a,Nat.succ a=a+1) ∧
 (∀ a b,Nat.mul a b=a * b)∧(∀ a:Nat,Int.ofNat a=(a:Int))∧(∀ T x y,d7 T x y=if T=true then x else y)∧(∀ a,Int.fdiv a 16=a / 16)∧(∀ a,Int.fdiv a 65536=a / 65536)∧(∀ x,f8 x=true↔-9223372036854775808≤x∧x≤9223372036854775807) ∧
 (∀ a:Int,(a=a)=True)∧(∀ a:Nat,(a=a)=True)∧(∀ p:Prop,(p∧True)=p)∧(∀ p:Prop,(True∧p)=p)∧((¬ True)=False)∧((¬ False)=True):=
 ⟨fun _ _=>a9,R6,Rd,m5,n4,E2,kH,Dy,j8,j7,m8,H3,Re,DP,XU,Bk,q8,X9,Q0,Xp,fun a=>eq_self a,fun a=>eq_self a,and_true,true_and,not_true_eq_false,not_false_eq_true⟩
theorem V8 {α β:Type} {f g:α→β}:∀ {os:List α},os.map f=os.map g→G5 (fun p=>f p=g p) os
 | [],_=>trivial
 | _::_,h=>⟨(List.cons.inj h).1,V8 (List.cons.inj h).2⟩
theorem kL {α:Type} {P Q:α→Prop} (h:∀ a,P a→Q a):∀ {os:List α},G5 P os→G5 Q os
 | [],_=>trivial
 | _::_,⟨a,b⟩=>⟨h _ a,kL h b⟩
theorem Fb {α:Type} {P:α→Prop}:∀ (n:Nat) {os:List α},G5 P (os.take n)→G5 P (os.drop n)→G5 P os
 | 0,_,_,h=>h
 | _+1,[],_,_=>trivial
 | n+1,_::_,⟨a,b⟩,h=>⟨a,Fb n b h⟩
section
variable {tb:M8} {k:Nat} {x:St} {Q:AV→Hp→Prop}
end
section
variable {x:St} {Q:AV→Hp→Prop}
section
variable {tb:M8} (hT:q9 tb En)
include hT
theorem Z1 (k:Nat) (l:List (Nat × Nat × Bool)) (K:Nat) (G:Bool) (y:St) (t:List Ps) (ls:List Nat) (lss:List (List Nat)) (hG:G=true) (hy:a7 En k y Q) (h:(wL En k k x y (x.run tb En l K) t,x.gd tb En l K,jG ls (Qy x.f (x.run tb En l K)),R4 lss (nP (x.run tb En l K)),y.os.map fun p=>AM.T.get (r7 En.ng y.nx.idx (D7 (x.run tb En l K)).nx.idx t p.1) (D7 (x.run tb En l K)).hp) =
 (true,G,G4 (r7 En.ng y.nx.idx (D7 (x.run tb En l K)).nx.idx t) y.f,y.cs.map (G4 (r7 En.ng y.nx.idx (D7 (x.run tb En l K)).nx.idx t)),y.os.map fun p=>some (w8 (r7 En.ng y.nx.idx (D7 (x.run tb En l K)).nx.idx t) p.2)):=by kernel_rfl):a7 En k x Q:=by
 injection h with h1 h
 injection h with h2 h
 injection h with h3 h
 injection h with h4 h5
 exact a7.arrive cY I4 hT (wM k) h1 h2 hG (by rw [h3,h4]) (kL (fun _=>.inl) (V8 h5)) hy
theorem I9 (n:Nat) (k:Nat) (l:List (Nat × Nat × Bool)) (K:Nat) (G:Bool) (y:St) (t:List Ps) (ls:List Nat) (lss:List (List Nat)) (hr:G5 (fun p=>OE (AM.T.get (r7 En.ng y.nx.idx (D7 (x.run tb En l K)).nx.idx t p.1) (D7 (x.run tb En l K)).hp) (w8 (r7 En.ng y.nx.idx (D7 (x.run tb En l K)).nx.idx t) p.2)) (y.os.drop n)) (hG:G=true) (hy:a7 En k y Q) (h:(wL En k k x y (x.run tb En l K) t,x.gd tb En l K,jG ls (Qy x.f (x.run tb En l K)),R4 lss (nP (x.run tb En l K)),(y.os.take n).map fun p=>AM.T.get (r7 En.ng y.nx.idx (D7 (x.run tb En l K)).nx.idx t p.1) (D7 (x.run tb En l K)).hp) =
 (true,G,G4 (r7 En.ng y.nx.idx (D7 (x.run tb En l K)).nx.idx t) y.f,y.cs.map (G4 (r7 En.ng y.nx.idx (D7 (x.run tb En l K)).nx.idx t)),(y.os.take n).map fun p=>some (w8 (r7 En.ng y.nx.idx (D7 (x.run tb En l K)).nx.idx t) p.2)):=by kernel_rfl):a7 En k x Q:=by
 injection h with h1 h
 injection h with h2 h
 injection h with h3 h
 injection h with h4 h5
 exact a7.arrive cY I4 hT (wM k) h1 h2 hG (by rw [h3,h4]) (Fb n (kL (fun _=>.inl) (V8 h5)) hr) hy
theorem J0 (k:Nat) (l:List (Nat × Nat × Bool)) (K:Nat) (G:Bool) (y:St) (t:List Ps) (lss:List (List Nat)) (hG:G=true) (hy:a7 En k y Q) (h:(wL En k k x y (x.run tb En l K) t,x.gd tb En l K,Qy x.f (x.run tb En l K),R4 lss (nP (x.run tb En l K)),y.os.map fun p=>AM.T.get (r7 En.ng y.nx.idx (D7 (x.run tb En l K)).nx.idx t p.1) (D7 (x.run tb En l K)).hp) =
 (true,G,G4 (r7 En.ng y.nx.idx (D7 (x.run tb En l K)).nx.idx t) y.f,y.cs.map (G4 (r7 En.ng y.nx.idx (D7 (x.run tb En l K)).nx.idx t)),y.os.map fun p=>some (w8 (r7 En.ng y.nx.idx (D7 (x.run tb En l K)).nx.idx t) p.2)):=by kernel_rfl):a7 En k x Q:=by
 injection h with h1 h
 injection h with h2 h
 injection h with h3 h
 injection h with h4 h5
 exact a7.arriveC cY I4 hT (wM k) h1 h2 hG (by rw [h3,h4]) (kL (fun _=>.inl) (V8 h5)) hy
theorem A5 (k:Nat) (l:List (Nat × Nat × Bool)) (K:Nat) (G:Bool) (t:List Ps) (v:AV) (os:List (Ps × AO)) (nx:Ps) (hG:G=true) (hq:Q v ⟨nO os,nx,x.fl⟩) (h:(IU En k k x (x.run tb En l K) nx t,x.gd tb En l K,Qz (x.run tb En l K),os.map fun p=>AM.T.get (r7 En.ng nx.idx (D7 (x.run tb En l K)).nx.idx t p.1) (D7 (x.run tb En l K)).hp) =
 (true,G,F1 (r7 En.ng nx.idx (D7 (x.run tb En l K)).nx.idx t) v,os.map fun p=>some (w8 (r7 En.ng nx.idx (D7 (x.run tb En l K)).nx.idx t) p.2)):=by kernel_rfl):a7 En k x Q:=by
 injection h with h1 h
 injection h with h2 h
 injection h with h3 h4
 exact a7.fin cY I4 hT (wM k) h1 h2 hG h3 (V8 h4) hq
end
theorem ca {m:Nat} {y:St} {Q1:AV→Hp→Prop} (z:St) (t:List Ps) (hz:a7 En z.nx.idx z Q1)
 (hf:∀ v H',Q1 v H'→∃ v' news nx,v'=F1 (r7 En.ng z.nx.idx y.nx.idx t) v∧nx.idx=y.nx.idx+(H'.nx.idx - z.nx.idx)∧G5 (fun p=>∃ k o',z.fl≤k.idx∧p.1=r7 En.ng z.nx.idx y.nx.idx t k∧AM.T.get k H'.hp=some o'∧p.2=w8 (r7 En.ng z.nx.idx y.nx.idx t) o') news ∧
  IT (r6 (XO y.cs) v')=true∧a7 En m (XP y v' news nx) Q)
 (h:(z.cs,DN En m y z t,y.f,z.os.map fun p=>AM.T.get (r7 En.ng z.nx.idx y.nx.idx t p.1) (nO y.os))=([],true,G4 (r7 En.ng z.nx.idx y.nx.idx t) z.f,z.os.map fun p=>some (w8 (r7 En.ng z.nx.idx y.nx.idx t) p.2)):=by kernel_rfl):a7 En m y Q:=by
 injection h with h1 h
 injection h with h2 h
 injection h with h3 h4
 exact a7.call hz h1 h2 h3 (V8 h4) hf
end
def zi (x:Int):AV:=.int .i64 x
def ZM (k:Nat):Nat→List Nat→List Nat:=Nat.rec (fun _ a=>a) (fun _ ih n a=>Bool.rec (ih (Nat.div n 2) (Nat.mod n 2::a)) a (Nat.beq n 1)) k
def pb (n:Nat):List Nat:=ZM 64 n []
def R7:List IntKind:=[.i64,.i64,.i64,.i64,.i64,.i64,.i64]
def RD:List IntKind:=[.u8,.i16,.i16,.i16,.i16,.i16,.i16]
def o7 (n:Nat) (Y:Nat→Nat→Int) (ex sty:Bool):AO:=.arr n 7 (a8 R7 Y) none 63 ex sty
def o3 (m:Nat) (V:Nat→Bool) (S:Nat→Nat→Int) (ex sty:Bool):AO:=.arr m 3 (dR [.i64,.i64] V S) none 72 ex sty
def fr (f n:Nat) (tm:Tm) (todo:List AI):AF:=⟨f,n,tm,todo,[],.run,false,false,none⟩
def cf (z:St) (nx:Ps) (t:List Ps):AF:=G4 (r7 En.ng z.nx.idx nx.idx t) z.f
def zs (l:List AO):List (Ps × AO):=List.rec (motive:=fun _=>Ps→List (Ps × AO)) (fun _=>[]) (fun o _ ih k=>(k,o)::ih (Ps.succ k)) l .h
def J1:Ps:=.o .h
def J2:Ps:=.i .h
def J3:Ps:=.o (.o .h)
def J4:Ps:=.i (.o .h)
def J5:Ps:=.o (.i .h)
def J6:Ps:=.i (.i .h)
def J7:Ps:=.o (.o (.o .h))
def J8:Ps:=.i (.o (.o .h))
def J9:Ps:=.o (.i (.o .h))
def nQ:Ps:=.i (.i (.o .h))
def Ko:Ps:=.o (.o (.i .h))
def ON:Ps:=.i (.o (.i .h))
def VJ:Ps:=.o (.i (.i .h))
def YU:Ps:=.i (.i (.i .h))
def ZN:Ps:=.o (.o (.o (.o .h)))
def ZV:Ps:=.i (.o (.o (.o .h)))
def ZW:Ps:=.o (.i (.o (.o .h)))
def ZX:Ps:=.i (.i (.o (.o .h)))
def ZY:Ps:=.o (.o (.i (.o .h)))
def ZZ:Ps:=.i (.o (.i (.o .h)))
def aa:Ps:=.o (.i (.i (.o .h)))
def ab:Ps:=.i (.i (.i (.o .h)))
def ad:Ps:=.o (.o (.o (.i .h)))
def ae:Ps:=.i (.o (.o (.i .h)))
def af:Ps:=.o (.i (.o (.i .h)))
def ag:Ps:=.i (.i (.o (.i .h)))
def ah:Ps:=.o (.o (.i (.i .h)))
def ai:Ps:=.i (.o (.i (.i .h)))
def aj:Ps:=.o (.i (.i (.i .h)))
def ak:Ps:=.i (.i (.i (.i .h)))
def zl (l:List Int):List AV:=List.rec [] (fun x _ ih=>zi x::ih) l
def az (l:List Int):AV:=.agg (zl l)
def ce (t:Nat) (l:List AV):AO:=.cells l t true false 0 0
def zc (t:Nat) (l:List Int):AO:=.cells (zl l) t true false 0 0
def zn (n:Nat):AV:=.int .i64 (.ofNat n)
def ts (l:List Nat):List AV→Tm:=List.rec (motive:=fun _=>List AV→Tm) (fun _=>oO) (fun n _ ih vs=>List.rec oO (fun v vs _=>V1 n v (ih vs)) vs) l
theorem n7 {P:Nat→Prop} (h:∀ k,P k):P 0∧P 1∧P 2∧P 3∧P 4∧P 5∧P 6:=⟨h 0,h 1,h 2,h 3,h 4,h 5,h 6⟩
theorem RQ {x:Bool} {p:Prop} (h:x=true↔p):(x=false∧¬ p)∨(x=true∧p):=by
 cases e:x
 ·exact .inl ⟨rfl,tM h e⟩
 ·exact .inr ⟨rfl,tL h e⟩
theorem ci (a b:Int):(c9 a b=false∧¬ a=b)∨(c9 a b=true∧a=b):=RQ (E2 a b)
theorem cl (a b:Int):(f9 a b=false∧¬ a≤b)∨(f9 a b=true∧a≤b):=RQ (n4 a b)
theorem ct (a b:Int):(i4 a b=false∧¬ a < b)∨(i4 a b=true∧a < b):=RQ (m5 a b)
theorem cb (a b:Nat):(Nat.beq a b=false∧¬ a=b)∨(Nat.beq a b=true∧a=b):=RQ (Dy a b)
theorem T6 (a b:Nat):(Nat.ble a b=false∧¬ a≤b)∨(Nat.ble a b=true∧a≤b):=RQ (kH a b)
end Go.Proofs.Ytoahnefofelglaa.gm
end
