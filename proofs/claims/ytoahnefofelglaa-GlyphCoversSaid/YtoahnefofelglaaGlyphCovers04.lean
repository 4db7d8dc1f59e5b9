/- A part of the proof of GlyphCovers; no condition. -/
import Derived.Test.YtoahnefofelglaaGlyphCovers03
set_option linter.unusedVariables false
set_option linter.unusedSimpArgs false
set_option linter.unusedSectionVars false
noncomputable section
section
namespace Go.AM
def VC (E:i3) (op:BinOp) (t:Nat) (x y:Operand) (a b:AV):Option AV:=
 match a,b with
 | .sa k e n z,.nils=>CQ E op t x y (.su k (e * z) n z) .nils
 | .nils,.sa k e n z=>CQ E op t x y .nils (.su k (e * z) n z)
 | _,_=>none
def QQ (E:i3) (S:Hp) (t:Nat) (x:AV):Option AV:=match x with|.sa k e n z=>Vd E S t (.su k (e * z) n z)|_=>none
def QS (n:Nat) (f:Nat→List AV):Bool:=Option.rec false (fun _=>true) (pS (i7 f n))
def CZ (n:Nat) (f:Nat→List AV):List Nat:=Option.rec [] (fun l=>l) (pS (i7 f n))
def DA (n m:Nat) (f:Nat→List AV):Bool:=a6 (Nat.beq n m) (a6 (Nat.ble 1 n) (a6 (Nat.ble n 4611686018427387904) (QS n f)))
def iC (opt:Bool) (x:AV):Option AV:=match x with|.sa b e len z=>sM opt (Nat.blt 0 len) (some (.pte b e z 0))|_=>none
def Nz (x:AV):Bool:=match x with|.sa _ _ len _=>Nat.blt 0 len|_=>true
def qB (opt:Bool) (E:i3) (S:Hp) (t:Nat) (p n:AV):Option (AV × Hp):=
 match p,n with
 | .pte b i z k,.int .i64 (Int.ofNat m)=>(match A4 E t,T.get b S.hp with
   | some (.pointer e),some (.arr n' z' f none el ex false) =>
     Bool.rec none (sM opt (DA n' m f) (some (.str (CZ n' f),S.put b (.cells (i7 f n') el ex false 0 (Nat.add 0 n')))))
      (a6 (Nat.beq i 0) (a6 (Nat.beq k 0) (a6 (Nat.beq z 1) (a6 (Nat.beq z' 1) (a6 (Nat.ble S.fl b.idx) (a6 (Nat.beq el e) (Nat.beq (E.P.cellsOf e) 1)))))))
   | _,_=>none)
 | _,_=>none
def Oa (S:Hp) (p n:AV):Bool:=match p,n with
 | .pte b _ _ _,.int .i64 (Int.ofNat m)=>(match T.get b S.hp with|some (.arr n' _ f none _ _ false)=>DA n' m f|_=>true)
 | _,_=>true
theorem Vw {x:AV} (h:Nz x=true):iC false x=iC true x:=by
 unfold iC
 cases x <;> try rfl
 simp only [O9 (show Nat.blt 0 _=true from h)]
theorem HM {E:i3} {S:Hp} {t:Nat} {p n:AV} (h:Oa S p n=true):qB false E S t p n=qB true E S t p n:=by
 unfold qB
 split
 ·rename_i b i z k m
  unfold Oa at h
  simp only at h
  split
  ·rename_i e n' z' f el ex hu hb
   rw [hb] at h
   simp only at h
   simp only [O9 h]
  ·rfl
 ·rfl
section
variable {E:i3} (hE:E.Ok) {γ:Gm}
theorem Hr {P:Program} {x r:AV} (h:iC false x=some r) {x':Value} (hx:VR γ x x') (ts:Array TypeId) (ty:TypeId):u0 P γ (Builtin.unsafeSliceData_ ts ty #[x']) r:=by
 unfold iC at h
 split at h
 ·rename_i b e len z
  obtain ⟨h1,h2⟩:=O8 h
  cases h2
  rw [f6] at h1
  have h1:=of_decide_eq_true h1
  obtain ⟨len,rfl⟩:∃ l,len=l+1:=⟨len - 1,by omega⟩
  exact (pU (P:=P) (x:=.su b (e * z) (len+1) z) rfl hx.sa_su ts ty).to (fun v hv=>.ptr_pte (by rw [Nat.add_zero];exact hv))
 ·cases h
include hE in
theorem Ob {S S':Hp} {t it:Nat} {p n r:AV} (h:qB false E S t p n=some (r,S')) {p' n':Value} (hp:VR γ p p') (hn:VR γ n n') (ty:TypeId):yA E.P γ E.ng S (Builtin.unsafeString_ #[t,it] ty #[p',n']) r S':=by
 unfold qB at h
 split at h
 ·rename_i b i z k m
  split at h
  ·rename_i e n1 z' f el ex hu hb
   obtain ⟨hc,h⟩:=d5 h
   obtain ⟨ht,h⟩:=O8 h
   cases h
   obtain ⟨c1,hc⟩:=a9.1 hc
   obtain ⟨c2,hc⟩:=a9.1 hc
   obtain ⟨c3,hc⟩:=a9.1 hc
   obtain ⟨c4,hc⟩:=a9.1 hc
   obtain ⟨c5,hc⟩:=a9.1 hc
   obtain ⟨c6,c7⟩:=a9.1 hc
   obtain ⟨t1,ht⟩:=a9.1 ht
   obtain ⟨t2,ht⟩:=a9.1 ht
   obtain ⟨t3,t4⟩:=a9.1 ht
   have e1:=Nat.eq_of_beq_eq_true c1
   have e2:=Nat.eq_of_beq_eq_true c2
   have e3:=Nat.eq_of_beq_eq_true c3
   have e4:=Nat.eq_of_beq_eq_true c4
   have e5:=Nat.eq_of_beq_eq_true t1
   subst e1 e2 e3 e4 e5
   have t2:=Nat.le_of_ble_eq_true t2
   obtain ⟨q,rfl⟩:∃ q,n1=q+1:=⟨n1 - 1,by omega⟩
   intro w hH
   obtain ⟨h1,h2,h3⟩:=Q7 hH hb
   have hlen:(i7 f (q+1)).length=q+1:=by have:=o5 (f:=f) (n:=q+1) (z:=1) h3;omega
   obtain ⟨bs,hbs⟩:∃ bs,pS (i7 f (q+1))=some bs:=by
    unfold QS at t4
    cases hq:pS (i7 f (q+1)) with
    | none=>rw [hq] at t4;cases t4
    | some bs=>exact ⟨bs,rfl⟩
   have hp0:VR γ (.ptr b 0) p':=by have:=hp.pte_ptr;simpa using this
   obtain ⟨γ',v,w',hrun,hv,g1,g2⟩:=uV hE (t:=t) (it:=it) (S:=S.put b (.cells (i7 f (q+1)) el ex false 0 0)) (p:=.ptr b 0) (n:=.int .i64 (Int.ofNat (q+1)))
    (r:=.str bs) (S':=(S.put b (.cells (i7 f (q+1)) el ex false 0 0)).put b (.cells (i7 f (q+1)) el ex false 0 (Nat.add 0 (q+1)))) (by
     unfold Dr
     simp only [hu,I1]
     have hl:t9 (q+1) (w7 0 (i7 f (q+1)))=some (i7 f (q+1)):=by
      rw [E6,List.drop_zero]
      have:=pH (i7 f (q+1));rw [hlen] at this;exact this
     have DU:Bool.and (Nat.ble (S.put b (.cells (i7 f (q+1)) el ex false 0 0)).fl b.idx) (Bool.and (Nat.beq el e) (Bool.and (Nat.beq (E.P.cellsOf e) 1) (Nat.ble (q+1) 4611686018427387904)))=true:=by
      rw [show (S.put b (.cells (i7 f (q+1)) el ex false 0 0)).fl=S.fl from rfl,c5,c6,c7,t3];rfl
     rw [DU,hl]
     simp only [hbs]
     rfl) hp0 hn ty w h1
   have hst:(AV.str bs)=.str (CZ (q+1) f):=by unfold CZ;rw [hbs]
   rw [hst] at hv
   refine ⟨γ',v,w',hrun,hv,g1.same (fun a x hx=>?_) rfl,g2.dress (fun a o ho=>?_) (fun a o ho=>?_) rfl rfl rfl rfl (fun a o ho hlt=>?_) (fun a o ho hlt _=>?_)⟩
   ·rcases G8 hx with ⟨rfl,rfl⟩|⟨hne,hx2⟩
    ·exact ⟨_,I1,fun L ob ho=>ho⟩
    ·exact ⟨x,by rw [n5 hne,n5 hne];exact hx2,fun _ _ h=>h⟩
   ·rcases G8 ho with ⟨rfl,rfl⟩|⟨_,h5⟩
    ·exact ⟨_,hb⟩
    ·exact ⟨_,h5⟩
   ·rcases G8 ho with ⟨rfl,rfl⟩|⟨hne,h5⟩
    ·exact ⟨_,I1⟩
    ·exact ⟨_,by rw [n5 hne,n5 hne];exact h5⟩
   ·have:=Nat.le_of_ble_eq_true c5
    rw [n5 (fun e=>by subst e;omega)];exact ho
   ·have:=Nat.le_of_ble_eq_true c5
    rcases G8 ho with ⟨rfl,rfl⟩|⟨_,h5⟩
    ·omega
    ·exact h5
  ·cases h
 ·cases h
end
def dI (opt:Bool) (E:i3) (S:Hp) (b:Builtin) (ts:List Nat) (args:List AV):Option RO:=
 match b with
 | .len=>(match ts,args with|t::_,x::_=>vS S (QQ E S t x)|_,_=>none)
 | .append=>(match ts,args with|s::t::_,x::y::_=>vP (Hq opt E S s t x y)|_,_=>none)
 | .unsafeSliceData=>(match args with|[x]=>vS S (iC opt x)|_=>none)
 | .unsafeString=>(match ts,args with|[t,_],[p,n]=>vP (qB opt E S t p n)|_,_=>none)
 | _=>none
def lW (E:i3) (S:Hp) (b:Builtin) (ts:List Nat) (args:List AV):Bool:=
 match b with
 | .append=>(match ts,args with|s::_::_,x::y::_=>HI E S s x y|_,_=>true)
 | .unsafeSliceData=>(match args with|[x]=>Nz x|_=>true)
 | .unsafeString=>(match args with|[p,n]=>Oa S p n|_=>true)
 | _=>true
def zU (o:Option AV) (f:AV→Bool):Bool:=Option.rec true f o
def jS (s:List Nat) (k:Nat):Nat:=Option.rec 0 (fun b=>b) (nth s k)
def YL (s:List Nat) (m:Int):Bool:=a6 (f9 0 m) (Nat.blt (Int.toNat m) (y8 s))
def qC (opt:Bool) (E:i3) (t:Nat) (x i:AV):Option AV:=match A4 E t,x,i with
 | some .string,.str s,.int _ m=>sM opt (YL s m) (some (.int .u8 (Int.ofNat (jS s (Int.toNat m)))))
 | _,_,_=>none
def zV (E:i3) (t:Nat) (x i:AV):Bool:=match A4 E t,x,i with
 | some .string,.str s,.int _ m=>YL s m
 | _,_,_=>true
theorem Vx {E:i3} {t:Nat} {x i:AV} (h:zV E t x i=true):qC false E t x i=qC true E t x i:=by
 unfold qC
 unfold zV at h
 split
 ·rename_i s k m hu
  rw [hu] at h
  simp only at h
  simp only [O9 h]
 ·rfl
theorem Od {E:i3} (hE:E.Ok) {γ:Gm} {t:Nat} {x i r:AV} (h:qC false E t x i=some r) {x' i':Value} (hx:VR γ x x') (hi:VR γ i i'):u0 E.P γ (Instr.index t x' i') r:=by
 unfold qC at h
 split at h
 ·rename_i s k m hu
  obtain ⟨h1,h2⟩:=O8 h
  cases h2
  obtain ⟨g1,g2⟩:=zN (m:=m) (len:=y8 s) h1
  rw [x4] at g2
  refine pK hE (t:=t) (x:=.str s) (i:=.int k m) (r:=.int .u8 (Int.ofNat (jS s m.toNat))) ?_ hx hi
  unfold rT
  rw [hu,g1]
  simp only
  have:nth s m.toNat=some (jS s m.toNat):=by
   unfold jS
   rw [H8,List.getElem?_eq_getElem g2]
  rw [this]
  rfl
 ·cases h
def VD (l c:Operand):Bool:=match l,c with|.const _,.tmp _=>true|_,_=>false
def Eb (opt:Bool) (o:Op):i3→Tm→Hp→Option RO:=fun E tm S =>
 match o with
 | .indexAddr t x i=>b1 (n6 E.ng tm x) fun a=>b1 (n6 E.ng tm i) fun i=>vS S (hU opt E t a i)
 | .fieldAddr t x f=>b1 (n6 E.ng tm x) fun a=>vS S (zP E t a f)
 | .load t a=>b1 (n6 E.ng tm a) fun a=>vS S (pX opt E S t a)
 | .store t a x=>b1 (n6 E.ng tm a) fun a=>b1 (n6 E.ng tm x) fun v=>vU (iA opt E S t a v)
 | .slice t x lo hi mx=>b1 (n6 E.ng tm x) fun a=>(match kD E.ng tm lo,kD E.ng tm hi,kD E.ng tm mx with
  | some lo,some hi,some mx=>vS S (iB opt E S t a lo hi mx)
  | _,_,_=>none)
 | .makeSlice t l c=>b1 (n6 E.ng tm l) fun lv=>b1 (n6 E.ng tm c) fun cv=>vP (Bool.rec (jB opt E S t lv cv) (aV opt E S t lv cv) (VD l c))
 | .index t x i=>b1 (n6 E.ng tm x) fun a=>b1 (n6 E.ng tm i) fun i=>vS S (qC opt E t a i)
 | .binOp op t x y _=>b1 (n6 E.ng tm x) fun a=>b1 (n6 E.ng tm y) fun b=>vS S (VC E op t x y a b)
 | .call c=>Option.rec none (fun args=>match c.callee with|.builtin b=>dI opt E S b c.argTypes.toList args|_=>none) (F4 E.ng tm c.args.toList)
 | _=>none
def YM (o:Op):i3→Tm→Hp→Bool:=fun E tm S =>
 match o with
 | .indexAddr t x i=>zU (n6 E.ng tm x) fun a=>zU (n6 E.ng tm i) fun i=>zO E t a i
 | .index t x i=>zU (n6 E.ng tm x) fun a=>zU (n6 E.ng tm i) fun i=>zV E t a i
 | .load _ a=>zU (n6 E.ng tm a) fun a=>pY S a
 | .store _ a _=>zU (n6 E.ng tm a) fun a=>pY S a
 | .slice _ x lo hi _=>zU (n6 E.ng tm x) fun a=>(match kD E.ng tm lo,kD E.ng tm hi with|some lo,some hi=>zQ a lo hi|_,_=>true)
 | .makeSlice t l c=>zU (n6 E.ng tm l) fun lv=>zU (n6 E.ng tm c) fun cv=>Bool.rec (Nq E t lv cv) (zR E t lv cv) (VD l c)
 | .call c=>Option.rec true (fun args=>match c.callee with|.builtin b=>lW E S b c.argTypes.toList args|_=>true) (F4 E.ng tm c.args.toList)
 | _=>true
theorem sO {α:Type} {o:Option AV} {f g:AV→Option α} {k:AV→Bool} (h:zU o k=true) (hk:∀ x,k x=true→f x=g x):b1 o f=b1 o g:=by
 cases o with
 | none=>rfl
 | some x=>exact hk x h
theorem QT {o:Op} {E:i3} {tm:Tm} {S:Hp} (h:YM o E tm S=true):Eb false o E tm S=Eb true o E tm S:=by
 cases o <;> try rfl
 case indexAddr t x i =>
  refine sO (o:=n6 E.ng tm x) h (fun a ha=>sO (o:=n6 E.ng tm i) ha (fun i hi=>?_))
  rw [Vn hi]
 case index t x i =>
  refine sO (o:=n6 E.ng tm x) h (fun a ha=>sO (o:=n6 E.ng tm i) ha (fun i hi=>?_))
  rw [Vx hi]
 case load t a=>exact sO (o:=n6 E.ng tm a) h (fun a ha=>by rw [HD ha])
 case store t a x =>
  refine sO (o:=n6 E.ng tm a) h (fun a ha=>?_)
  congr 1;funext v
  rw [Vo ha]
 case slice t x lo hi mx =>
  refine sO (o:=n6 E.ng tm x) h (fun a ha=>?_)
  split
  ·rename_i l h m h1 h2 h3
   rw [h1,h2] at ha
   rw [Vq ha]
  ·rfl
 case makeSlice t l c =>
  refine sO (o:=n6 E.ng tm l) h (fun a ha=>sO (o:=n6 E.ng tm c) ha (fun i hi=>?_))
  revert hi
  cases VD l c with
  | false=>intro hi;show vP (jB _ _ _ _ _ _)=vP (jB _ _ _ _ _ _);rw [HH hi]
  | true=>intro hi;show vP (aV _ _ _ _ _ _)=vP (aV _ _ _ _ _ _);rw [Vt hi]
 case call c =>
  show (Option.rec none _ (F4 E.ng tm c.args.toList):Option RO)=Option.rec none _ (F4 E.ng tm c.args.toList)
  have h':(Option.rec true (fun args=>match c.callee with|.builtin b=>lW E S b c.argTypes.toList args|_=>true) (F4 E.ng tm c.args.toList):Bool)=true:=h
  cases hx:F4 E.ng tm c.args.toList with
  | none=>rfl
  | some args =>
    rw [hx] at h'
    simp only at h' ⊢
    cases hc:c.callee with
    | builtin b =>
      rw [hc] at h'
      simp only at h' ⊢
      cases b <;> try rfl
      case unsafeSliceData =>
       unfold dI
       unfold lW at h'
       simp only at h' ⊢
       split
       ·simp only at h'
        rw [Vw h']
       ·rfl
      case unsafeString =>
       unfold dI
       unfold lW at h'
       simp only at h' ⊢
       split
       ·simp only at h'
        rw [HM h']
       ·rfl
      unfold dI
      simp only
      unfold lW at h'
      simp only at h'
      split
      ·rename_i s t tl x y xl e1
       rw [e1] at h'
       simp only at h'
       rw [QO h']
      ·rfl
    | value f=>rfl
    | invoke r m=>rfl
def Uq (z:Int):Bool:=a6 (f9 (Int.negSucc 9223372036854775807) z) (f9 z (Int.ofNat 9223372036854775807))
theorem lX {z:Int} (h:Uq z=true):wr .i64 z=z:=by
 obtain ⟨h1,h2⟩:=a9.1 h
 rw [X5] at h1 h2
 have h1:=of_decide_eq_true h1
 have h2:=of_decide_eq_true h2
 rw [iV]
 refine G2 _ _ ?_ ?_
 ·rw [show IntKind.i64.min=Int.negSucc 9223372036854775807 from by decide];exact h1
 ·rw [show IntKind.i64.max=Int.ofNat 9223372036854775807 from by decide];exact h2
def cG (k:IntKind):Bool:=Nat.beq (kZ k) 3
theorem bW {k:IntKind} (h:cG k=true):k=.i64:=by cases k <;> first|rfl|exact absurd h (by decide)
def HN (op:BinOp) (l:IntKind) (m n:Int):Option Int:=
 match op with
 | .add=>Bool.rec none (some (Int.add m n)) (cG l)
 | .sub=>Bool.rec none (some (Int.sub m n)) (cG l)
 | .mul=>Bool.rec none (some (Int.mul m n)) (cG l)
 | .quo=>Bool.rec none (some (Int.tdiv m n)) (cG l)
 | .rem=>Bool.rec none (some (Int.tmod m n)) (cG l)
 | .shl=>some (Int.mul m (yK n .i64))
 | _=>none
def QU (op:BinOp) (m n:Int):Bool:=
 match op with
 | .add=>Uq (Int.add m n)
 | .sub=>Uq (Int.sub m n)
 | .mul=>Uq (Int.mul m n)
 | .quo=>a6 (Bool.not (c9 n 0)) (Uq (Int.tdiv m n))
 | .rem=>Bool.not (c9 n 0)
 | .shl=>a6 (Bool.not (i4 n 0)) (Uq (Int.mul m (yK n .i64)))
 | _=>true
def Vy (op:BinOp) (a b:AV):Option AV:=
 match a with
 | .int k m=>(match b with|.int l n=>Bool.rec none (Option.rec none (fun z=>some (.int .i64 z)) (HN op l m n)) (cG k)|_=>none)
 | _=>none
def QV (op:BinOp) (a b:AV):Bool:=
 match a with
 | .int k m=>(match b with|.int _ n=>Bool.rec true (QU op m n) (cG k)|_=>true)
 | _=>true
theorem uZ {b:Bool} (h:Bool.not b=true):b=false:=by cases b <;> first|rfl|cases h
theorem Vz {op:BinOp} {l:IntKind} {m n z:Int} (h:HN op l m n=some z) (hg:QU op m n=true):rP op .i64 m l n=some (.int .i64 z):=by
 cases op <;> simp only [HN] at h <;> first
  | (cases h;done)
  | (obtain ⟨hl,h⟩:=d5 h
     have:=bW hl
     subst this
     cases h
     first
     | (show H4 .i64 .i64 (.int .i64 (wr .i64 _))=_
        rw [lX hg];rfl)
     | (obtain ⟨h1,h2⟩:=a9.1 hg
        show (Bool.rec (H4 .i64 .i64 (.int .i64 (wr .i64 _))) none (c9 n 0):Option AV)=_
        rw [uZ h1,lX h2];rfl)
     | (show (Bool.rec (H4 .i64 .i64 (.int .i64 _)) none (c9 n 0):Option AV)=_
        rw [uZ hg];rfl))
  | (cases h
     obtain ⟨h1,h2⟩:=a9.1 hg
     show (Bool.rec (some (.int .i64 (wr .i64 (Int.mul m (yK n .i64))))) none (i4 n 0):Option AV)=_
     rw [uZ h1,lX h2])
theorem Wa {E:i3} {op:BinOp} {t:Nat} {x y:Operand} {a b r:AV} (h:Vy op a b=some r) (hg:QV op a b=true):CQ E op t x y a b=some r:=by
 unfold Vy at h
 cases a <;> try (cases h;done)
 cases b <;> try (cases h;done)
 rename_i k m l n
 obtain ⟨h1,h2⟩:=d5 (b:=cG k) h
 have:=bW h1
 subst this
 obtain ⟨z,h3,h4⟩:=m9 h2
 cases h4
 rw [Ll]
 exact Vz h3 hg
def QW (op:UnOp) (a:AV):Option AV:=match op with|.neg=>(match a with|.int k n=>Bool.rec none (some (.int .i64 (Int.sub 0 n))) (cG k)|_=>none)|_=>none
def QX (op:UnOp) (a:AV):Bool:=match op with|.neg=>(match a with|.int k n=>Bool.rec true (Uq (Int.sub 0 n)) (cG k)|_=>true)|_=>true
theorem Wb {op:UnOp} {a r:AV} (h:QW op a=some r) (hg:QX op a=true):un op a=some r:=by
 cases op <;> try (cases h;done)
 cases a <;> try (cases h;done)
 rename_i k n
 obtain ⟨h1,h2⟩:=d5 (b:=cG k) h
 have:=bW h1
 subst this
 cases h2
 show some (AV.int .i64 (wr .i64 (Int.sub 0 n)))=_
 rw [lX hg]
def WT (d:Option TypeDesc):Bool:=match d with|some (.int k)=>cG k|_=>false
def Wc (d:Option TypeDesc):Bool:=match d with|some (.int _)=>true|_=>false
def DB (E:i3) (s d:Nat) (a:AV):Option AV:=match a with|.int _ n=>Bool.rec none (Bool.rec none (some (.int .i64 n)) (WT (A4 E d))) (Wc (A4 E s))|_=>none
def DC (E:i3) (s d:Nat) (a:AV):Bool:=match a with|.int _ n=>Bool.rec true (Bool.rec true (Uq n) (WT (A4 E d))) (Wc (A4 E s))|_=>true
theorem Oe {E:i3} {S:Hp} {s d:Nat} {a r:AV} (h:DB E s d a=some r) (hg:DC E s d a=true):pT E S s d a=some r:=by
 cases a <;> try (cases h;done)
 rename_i k n
 obtain ⟨h1,h2⟩:=d5 (b:=Wc (A4 E s)) h
 obtain ⟨h3,h4⟩:=d5 h2
 cases h4
 have hg':(Bool.rec true (Bool.rec true (Uq n) (WT (A4 E d))) (Wc (A4 E s)):Bool)=true:=hg
 rw [h1,h3] at hg'
 cases hs:A4 E s with
 | none=>rw [hs] at h1;cases h1
 | some S' =>
   cases S' <;> rw [hs] at h1 <;> try (cases h1;done)
   cases hd:A4 E d with
   | none=>rw [hd] at h3;cases h3
   | some D =>
     cases D <;> rw [hd] at h3 <;> try (cases h3;done)
     rename_i k2 k3
     have:=bW h3
     subst this
     simp only [pT,Dq,Dk,Ln,hs,hd,lX hg']
     rfl
def Of (kd:TypeDesc) (k:AV) (z:Int) (es:List (AV × AV × Nat)):Option (Int × Bool):=
 List.rec (some (z,false)) (fun e _ ih=>match eO kd k e.1 with
  | some b=>(match e.2.1 with
    | .int l v=>(match ih with|some p=>Bool.rec none (some (d7 b v p.1,aL b true p.2)) (cG l)|none=>none)
    | _=>none)
  | none=>none) es
def Og (E:i3) (S:Hp) (t:Nat) (x k:AV) (ok:Bool):Option AV:=
 match A4 E t with
 | some (.map kt et)=>(match A4 E kt,eQ S x,G3 E et with
  | some kd,some es,some (.int l z)=>Bool.rec none (Bool.rec none (match Of kd k z es with|some p=>some (Bool.rec (.int .i64 p.1) (.tup [.int .i64 p.1,.bool p.2]) ok)|none=>none) (cG l)) (kC kd)
  | _,_,_=>none)
 | _=>none
theorem vA {kd:TypeDesc} {k:AV} {z:Int}:∀ {es:List (AV × AV × Nat)} {V:Int} {B:Bool} (i:Nat),Of kd k z es=some (V,B)→(eP kd k es i=some none∧V=z∧B=false)∨∃ j n,eP kd k es i=some (some (j,.int .i64 V,n))∧B=true
 | [],V,B,i,h=>by cases h;exact .inl ⟨rfl,rfl,rfl⟩
 | e :: es,V,B,i,h=>by
   have h':(match eO kd k e.1 with
    | some b=>(match e.2.1 with
      | .int l v=>(match Of kd k z es with|some p=>Bool.rec none (some (d7 b v p.1,aL b true p.2)) (cG l)|none=>none)
      | _=>none)
    | none=>none:Option (Int × Bool))=some (V,B):=h
   have hf:eP kd k (e::es) i=(match eO kd k e.1 with|some true=>some (some (i,e.2.1,e.2.2))|some false=>eP kd k es (Nat.succ i)|none=>none):=rfl
   rw [hf]
   cases hs:eO kd k e.1 with
   | none=>rw [hs] at h';cases h'
   | some b =>
     rw [hs] at h'
     simp only at h'
     split at h'
     ·rename_i l v hv
      split at h'
      ·rename_i p hp
       obtain ⟨h1,h2⟩:=d5 h'
       have:=bW h1
       subst this
       cases h2
       cases b with
       | true=>rw [hv];exact .inr ⟨_,_,rfl,rfl⟩
       | false=>exact vA (Nat.succ i) hp
      ·cases h'
     ·cases h'
theorem Oh {E:i3} {S:Hp} {t:Nat} {x k r:AV} {ok:Bool} (h:Og E S t x k ok=some r):bV E S t x k ok=some r:=by
 unfold Og at h
 split at h
 ·rename_i kt et hu
  split at h
  ·rename_i kd es l z h1 h2 h3
   obtain ⟨g1,g2⟩:=d5 h
   obtain ⟨g3,g4⟩:=d5 g2
   have:=bW g3
   subst this
   split at g4
   ·rename_i p hp
    obtain ⟨V,B⟩:=p
    cases g4
    unfold bV
    rw [hu]
    simp only [h1,h2,g1]
    rcases vA 0 hp with ⟨e1,rfl,rfl⟩|⟨j,n,e1,rfl⟩
    ·rw [e1];simp only [h3]
    ·rw [e1]
   ·cases g4
  ·cases h
 ·cases h
def DD (c a b:AV):Option AV:=
 match c with
 | .bool T=>(match a with
   | .int k x=>(match b with|.int l y=>Bool.rec none (some (.int k (d7 T x y))) (Nat.beq (kZ k) (kZ l))|_=>none)
   | .bool x=>(match b with|.bool y=>some (.bool (aL T x y))|_=>none)
   | _=>none)
 | _=>none
def WU (o:Op):i3→Tm→Hp→Option RO:=fun E tm S =>
 match o with
 | .binOp op _ x y _=>b1 (n6 E.ng tm x) fun a=>b1 (n6 E.ng tm y) fun b=>vS S (Vy op a b)
 | .unOp op _ x=>b1 (n6 E.ng tm x) fun a=>vS S (QW op a)
 | .convert s d x=>b1 (n6 E.ng tm x) fun a=>vS S (DB E s d a)
 | .pick c a b=>b1 (n6 E.ng tm c) fun c=>b1 (n6 E.ng tm a) fun a=>b1 (n6 E.ng tm b) fun b=>vS S (DD c a b)
 | .lookup t x k ok=>b1 (n6 E.ng tm x) fun x=>b1 (n6 E.ng tm k) fun k=>vS S (Og E S t x k ok)
 | _=>none
def YN (o:Op):i3→Tm→Bool:=fun E tm =>
 match o with
 | .binOp op _ x y _=>zU (n6 E.ng tm x) fun a=>zU (n6 E.ng tm y) fun b=>QV op a b
 | .unOp op _ x=>zU (n6 E.ng tm x) fun a=>QX op a
 | .convert s d x=>zU (n6 E.ng tm x) fun a=>DC E s d a
 | _=>true
theorem sP {o:Option AV} {f:AV→Bool} {x:AV} (h:zU o f=true) (hx:o=some x):f x=true:=by subst hx;exact h
theorem QY {o:Op} {E:i3} {tm:Tm} {S:Hp} {ty:Nat} {r:RO} (h:WU o E tm S=some r) (hg:YN o E tm=true):O6 o E tm S ty=some r∧∀ opt,Eb opt o E tm S=none:=by
 cases o <;> try (cases h;done)
 case binOp op t x y yt =>
  obtain ⟨a,h1,h2⟩:=j4 (o:=n6 E.ng tm x) h
  obtain ⟨b,h3,h4⟩:=j4 h2
  obtain ⟨v,h5,rfl⟩:=l9 h4
  have hg1:=sP (sP (o:=n6 E.ng tm x) hg h1) h3
  refine ⟨?_,fun opt=>?_⟩
  ·show b1 (n6 E.ng tm x) _=_
   rw [h1]
   show b1 (n6 E.ng tm y) _=_
   rw [h3]
   show vS S (CQ E op t x y a b)=_
   rw [Wa h5 hg1];rfl
  ·show b1 (n6 E.ng tm x) _=_
   rw [h1]
   show b1 (n6 E.ng tm y) _=_
   rw [h3]
   show vS S (VC E op t x y a b)=_
   have:VC E op t x y a b=none:=by
    unfold Vy at h5
    cases a <;> first|rfl|(cases h5;done)
   rw [this];rfl
 case unOp op t x =>
  obtain ⟨a,h1,h2⟩:=j4 (o:=n6 E.ng tm x) h
  obtain ⟨v,h5,rfl⟩:=l9 h2
  have hg1:=sP (o:=n6 E.ng tm x) hg h1
  refine ⟨?_,fun opt=>rfl⟩
  show b1 (n6 E.ng tm x) _=_
  rw [h1]
  show vS S (un op a)=_
  rw [Wb h5 hg1];rfl
 case convert s d x =>
  obtain ⟨a,h1,h2⟩:=j4 (o:=n6 E.ng tm x) h
  obtain ⟨v,h5,rfl⟩:=l9 h2
  have hg1:=sP (o:=n6 E.ng tm x) hg h1
  refine ⟨?_,fun opt=>rfl⟩
  show b1 (n6 E.ng tm x) _=_
  rw [h1]
  show vS S (pT E S s d a)=_
  rw [Oe h5 hg1];rfl
 case lookup t x k ok =>
  obtain ⟨a,h1,h2⟩:=j4 (o:=n6 E.ng tm x) h
  obtain ⟨b,h3,h4⟩:=j4 h2
  obtain ⟨v,h5,rfl⟩:=l9 h4
  refine ⟨?_,fun opt=>rfl⟩
  show b1 (n6 E.ng tm x) _=_
  rw [h1]
  show b1 (n6 E.ng tm k) _=_
  rw [h3]
  show vS S (bV E S t a b ok)=_
  rw [Oh h5];rfl
 case pick c a b =>
  obtain ⟨cv,h1,h2⟩:=j4 (o:=n6 E.ng tm c) h
  obtain ⟨av,h3,h4⟩:=j4 h2
  obtain ⟨bv,h5,h6⟩:=j4 h4
  obtain ⟨v,h7,rfl⟩:=l9 h6
  refine ⟨?_,fun opt=>rfl⟩
  show b1 (n6 E.ng tm c) _=_
  rw [h1]
  unfold DD at h7
  cases cv <;> try (cases h7;done)
  rename_i T
  simp only at h7
  have key:v=Bool.rec bv av T:=by
   cases av <;> try (cases h7;done)
   ·cases bv <;> try (cases h7;done)
    rename_i k m l n
    obtain ⟨g1,g2⟩:=d5 (b:=Nat.beq (kZ k) (kZ l)) h7
    cases g2
    have:=eE g1
    subst this
    cases T <;> rfl
   ·cases bv <;> try (cases h7;done)
    cases h7
    cases T <;> rfl
  subst key
  cases T with
  | true=>show vS S (n6 E.ng tm a)=_;rw [h3];rfl
  | false=>show vS S (n6 E.ng tm b)=_;rw [h5];rfl
def DE (opt:Bool) (o:Op):W6:=fun E tm S t=>Option.rec (O6 o E tm S t) (fun r=>some r) (Eb opt o E tm S)
def Hs (o:Op):W6:=fun E tm S t=>Option.rec (DE true o E tm S t) (fun r=>some r) (WU o E tm S)
def iD (o:Op):i3→Tm→Hp→Bool:=fun E tm S=>a6 (YM o E tm S) (YN o E tm)
theorem WV {o:Op} {E:i3} {tm:Tm} {S:Hp} {t:Nat} (h:iD o E tm S=true):DE false o E tm S t=Hs o E tm S t:=by
 obtain ⟨h1,h2⟩:=a9.1 h
 unfold Hs
 cases hi:WU o E tm S with
 | none=>unfold DE;rw [QT h1]
 | some r =>
   obtain ⟨h3,h4⟩:=QY (ty:=t) hi h2
   unfold DE
   rw [h4 false,h3]
def H7 (o:Op):W6:=DE false o
def T5 (o:Op):W6:=fun E tm S t=>Option.rec (OF o E tm S t) (fun r=>some r) (H7 o E tm S t)
section
variable {E:i3} (hE:E.Ok) {γ:Gm} {tm:Tm} {S:Hp} {fr:Frame} {w:World} (hT:TR γ tm fr.tmps) (hH:HR γ E.ng S w)
include hE hH in
theorem Ht {b:Builtin} {ts:Array TypeId} {ty:TypeId} {consts:Array Bool} {args:List AV} {r:RO} (h:dI false E S b ts.toList args=some r) {args':List Value} (ha:LR γ args args') :
 O7 E γ S w (builtin b ts ty consts ⟨args'⟩) r:=by
 have hts:∀ {t:Nat} {l:List Nat},ts.toList=t::l→ts[0]? = some t:=by
  intro t l e;rw [← Array.getElem?_toList,e];rfl
 have hts1:∀ {t u:Nat} {l:List Nat},ts.toList=t::u::l→ts[1]? = some u:=by
  intro t u l e;rw [← Array.getElem?_toList,e];rfl
 unfold dI at h
 split at h
 ·split at h
  ·rename_i t tl x xl e1
   obtain ⟨y,h1,rfl⟩:=l9 h
   cases ha with
   | cons hx _ =>
     unfold QQ at h1
     split at h1
     ·exact O7.here hH (Dn hE h1 hx.sa_su hH (hts e1) rfl)
     ·cases h1
  ·cases h
 ·split at h
  ·rename_i t u tl x y xl e1
   obtain ⟨z,S',h1,rfl⟩:=cT h
   cases ha with
   | cons hx hl=>cases hl with
     | cons hy _=>exact (Vv hE h1 hx hy (hts e1) (hts1 e1) ty rfl rfl).opr hH
  ·cases h
 ·split at h
  ·obtain ⟨z,h1,rfl⟩:=l9 h
   cases ha with
   | cons hx hl =>
     cases hl
     exact (Hr h1 hx ts ty).opr hH
  ·cases h
 ·split at h
  ·rename_i t it p n e1
   obtain ⟨z,S',h1,rfl⟩:=cT h
   cases ha with
   | cons hx hl=>cases hl with
     | cons hy hn =>
       cases hn
       have e2:ts = #[t,it]:=by rw [← Array.toArray_toList (xs:=ts),e1]
       subst e2
       exact (Ob hE h1 hx hy ty).opr hH
  ·cases h
 ·cases h
include hE hT hH in
theorem HO {o:Oper} {r:RO} (h:Eb false o.op E tm S=some r):O7 E γ S w (execOp fr.eval o) r:=by
 obtain ⟨dst,op,type,pos,after,guard⟩:=o
 have ev:=fun {x v} h=>uW (E:=E) hT hH (x:=x) (v:=v) h
 cases op <;> try (cases h;done)
 case index t x i =>
  obtain ⟨a,h1,h2⟩:=j4 (o:=n6 E.ng tm x) h
  obtain ⟨b,h3,h4⟩:=j4 h2
  obtain ⟨v,h5,rfl⟩:=l9 h4
  exact O7.here hH (Od hE h5 (ev h1) (ev h3) w)
 case indexAddr t x i =>
  obtain ⟨a,h1,h2⟩:=j4 (o:=n6 E.ng tm x) h
  obtain ⟨b,h3,h4⟩:=j4 h2
  obtain ⟨v,h5,rfl⟩:=l9 h4
  exact (Hi hE h5 (ev h1) (ev h3)).opr hH
 case fieldAddr t x f =>
  obtain ⟨a,h1,h2⟩:=j4 (o:=n6 E.ng tm x) h
  obtain ⟨v,h5,rfl⟩:=l9 h2
  exact (Hj hE h5 (ev h1)).opr hH
 case load t a =>
  obtain ⟨a',h1,h2⟩:=j4 (o:=n6 E.ng tm a) h
  obtain ⟨v,h3,rfl⟩:=l9 h2
  exact O7.here hH (Np hE hH h3 (ev h1))
 case store t a x =>
  obtain ⟨a',h1,h2⟩:=j4 (o:=n6 E.ng tm a) h
  obtain ⟨x',h3,h4⟩:=j4 h2
  obtain ⟨S',h5,rfl⟩:=Du h4
  exact (Hk hE h5 (ev h1) (ev h3)).opr hH
 case slice t x lo hi mx =>
  obtain ⟨a,h1,h2⟩:=j4 (o:=n6 E.ng tm x) h
  split at h2
  ·rename_i lo' hi' mx' g1 g2 g3
   obtain ⟨v,h5,rfl⟩:=l9 h2
   exact O7.here hH (Hl hE hH h5 (ev h1) (gX hT hH g1) (gX hT hH g2) (gX hT hH g3))
  ·cases h2
 case makeSlice t l c =>
  obtain ⟨a,h1,h2⟩:=j4 (o:=n6 E.ng tm l) h
  obtain ⟨b,h3,h4⟩:=j4 h2
  obtain ⟨v,S',h5,rfl⟩:=cT h4
  revert h5
  cases VD l c with
  | false=>intro h5;exact (Nr hE h5 (ev h1) (ev h3)).opr hH
  | true=>intro h5;exact (Hn hE h5 (ev h1) (ev h3)).opr hH
 case binOp op t x y yt =>
  obtain ⟨a,h1,h2⟩:=j4 (o:=n6 E.ng tm x) h
  obtain ⟨b,h3,h4⟩:=j4 h2
  obtain ⟨v,h5,rfl⟩:=l9 h4
  unfold VC at h5
  split at h5
  ·exact (yL hE h5 (ev h1).sa_su (ev h3)).opr hH
  ·exact (yL hE h5 (ev h1) (ev h3).sa_su).opr hH
  ·cases h5
 case call c =>
  obtain ⟨args,h1,h2⟩:=m9 (o:=F4 E.ng tm c.args.toList) h
  have ha:=lS hT hH h1
  have e1:c.args.map fr.eval=⟨c.args.toList.map fr.eval⟩:=zD _ _
  obtain ⟨callee,cargs,ats⟩:=c
  cases callee with
  | value f=>cases h2
  | invoke a n=>cases h2
  | builtin b =>
    show O7 E γ S w (do let d ← resolve fr.eval _ type;invoke d.target d.args) r
    simp only [resolve]
    rw [e1]
    simp only [pure_bind,invoke]
    exact Ht hE hH h2 ha
include hE hT hH in
theorem Ec {o:Oper} {r:RO} (h:H7 o.op E tm S o.type=some r):O7 E γ S w (execOp fr.eval o) r:=by
 have h':(Option.rec (O6 o.op E tm S o.type) (fun r=>some r) (Eb false o.op E tm S):Option RO)=some r:=h
 cases he:Eb false o.op E tm S with
 | none=>rw [he] at h';exact Nk hE hT hH h'
 | some r'=>rw [he] at h';cases h';exact HO hE hT hH he
include hE hT hH in
theorem eR {o:Oper} {r:RO} (h:T5 o.op E tm S o.type=some r):O7 E γ S w (execOp fr.eval o) r:=by
 have h':(Option.rec (OF o.op E tm S o.type) (fun r=>some r) (H7 o.op E tm S o.type):Option RO)=some r:=h
 cases he:H7 o.op E tm S o.type with
 | none=>rw [he] at h';exact HA hE hT hH h'
 | some r'=>rw [he] at h';cases h';exact Ec hE hT hH he
end
section
variable {P:Program} {fr:Frame} {cs:List Frame} {w w':World} {k:List Item}
theorem zW {ops:Array Oper} {i:Nat} {rest:List Nat} {o:Oper} (hm:fr.mode=.run) (ht:fr.todo=.inRegion ops (i::rest)::k) (ho:ops[i]? = some o) (hw:Region.wanted o (yielded ops fr.tmps)=true)
 (hd:fr.roundOf=none∨∀ c,o.op≠.defer c) :
 stepG P true { frame:=fr,callers:=cs,status:=.running,dying:=none } w=stepG.apply P true fr cs none (execOp fr.eval o) w:=by
 obtain ⟨fn,tmps,todo,defers,mode,kind,roundOf⟩:=fr
 simp only at hm ht hw hd
 subst hm ht
 simp only [stepG,stepG.exec,ho,Option.map_some,Option.getD_some,hw,if_true,stepG.oper,Frame.oper?]
 rcases hd with rfl|hd
 ·rfl
 ·cases roundOf with
  | none=>rfl
  | some l =>
    obtain ⟨dst,op,type,pos,after,guard⟩:=o
    cases op <;> first|rfl|exact absurd rfl (hd _)
theorem V3 {ops:Array Oper} {i:Nat} {rest:List Nat} {o:Oper} {v:Value} (hm:fr.mode=.run) (ht:fr.todo=.inRegion ops (i::rest)::k) (ho:ops[i]? = some o) (hw:Region.wanted o (yielded ops fr.tmps)=true)
 (hd:fr.roundOf=none∨∀ c,o.op≠.defer c) (hr:(execOp fr.eval o).run P w=.ok (.value v) w'∨((execOp fr.eval o).run P w=.ok .skip w'∧v=undef)) :
 step P (lone fr cs w)=.next (lone (fr.finish v) cs w'):=by
 refine step_lone_go ?_
 rw [zW hm ht ho hw hd]
 rcases hr with hr|⟨hr,rfl⟩
 ·simp [stepG.apply,Sem.runT_eq,hr]
 ·simp [stepG.apply,Sem.runT_eq,hr]
theorem U2 {ops:Array Oper} {i:Nat} {rest:List Nat} {o:Oper} (hm:fr.mode=.run) (ht:fr.todo=.inRegion ops (i::rest)::k) (ho:ops[i]? = some o) (hw:Region.wanted o (yielded ops fr.tmps)=false) :
 step P (lone fr cs w)=.next (lone (fr.finish undef) cs w):=by
 refine step_lone_go ?_
 obtain ⟨fn,tmps,todo,defers,mode,kind,roundOf⟩:=fr
 simp only at hm ht hw
 subst hm ht
 simp [stepG,stepG.exec,ho,hw]
theorem lY {ops:Array Oper} {i:Nat} {rest:List Nat} {o:Oper} {f:FuncId} {args:Array Value} (hm:fr.mode=.run) (ht:fr.todo=.inRegion ops (i::rest)::k) (ho:ops[i]? = some o) (hw:Region.wanted o (yielded ops fr.tmps)=true)
 (hd:fr.roundOf=none∨∀ c,o.op≠.defer c) (hr:(execOp fr.eval o).run P w=.ok (.enter f args) w') :
 step P (lone fr cs w)=.next (lone (Frame.enter P f args .normal) (fr::cs) w'):=by
 refine step_lone_go ?_
 rw [zW hm ht ho hw hd]
 simp [stepG.apply,Sem.runT_eq,hr,ht]
theorem lZ {ops:Array Oper} {i:Nat} {rest:List Nat} {o:Oper} {l:Nat} {f:FuncId} {tmps:Array Value} {a b:Code} (hm:fr.mode=.run) (ht:fr.todo=.inRegion ops (i::rest)::k) (ho:ops[i]? = some o) (hw:Region.wanted o (yielded ops fr.tmps)=true)
 (hd:fr.roundOf=none∨∀ c,o.op≠.defer c) (hr:(execOp fr.eval o).run P w=.ok (.round l f tmps a b) w') :
 step P (lone fr cs w)=.next (lone (Frame.round l f tmps a b .normal) (fr::cs) w'):=by
 refine step_lone_go ?_
 rw [zW hm ht ho hw hd]
 simp [stepG.apply,Sem.runT_eq,hr]
theorem zX {ops:Array Oper} {i:Nat} {rest:List Nat} {o:Oper} {d:Deferred} (hm:fr.mode=.run) (ht:fr.todo=.inRegion ops (i::rest)::k) (ho:ops[i]? = some o) (hw:Region.wanted o (yielded ops fr.tmps)=true)
 (hd:fr.roundOf=none) (hr:(execOp fr.eval o).run P w=.ok (.defer d) w') :
 step P (lone fr cs w)=.next (lone (({ fr with defers:=d::fr.defers }:Frame).finish undef) cs w'):=by
 refine step_lone_go ?_
 rw [zW hm ht ho hw (.inl hd)]
 simp [stepG.apply,Sem.runT_eq,hr]
theorem mG {ops:Array Oper} {i:Nat} {rest:List Nat} {o:Oper} {v:Value} (hm:fr.mode=.run) (ht:fr.todo=.inRegion ops (i::rest)::k) (ho:ops[i]? = some o) (hw:Region.wanted o (yielded ops fr.tmps)=true)
 (hd:fr.roundOf=none∨∀ c,o.op≠.defer c) (hr:(execOp fr.eval o).run P w=.halt (.panic v) w') :
 step P (lone fr cs w)=.next (lone (fr.raise [{ v,recovered:=false }]) cs w'):=by
 refine step_lone_go ?_
 rw [zW hm ht ho hw hd]
 simp [stepG.apply,Sem.runT_eq,hr]
theorem sQ {ops:Array Oper} {i:Nat} {rest:List Nat} {o:Oper} (hm:fr.mode=.run) (ht:fr.todo=.inRegion ops (i::rest)::k) (ho:ops[i]? = some o) (hw:Region.wanted o (yielded ops fr.tmps)=true)
 (hd:fr.roundOf=none) (hr:(execOp fr.eval o).run P w=.ok .recover w') :
 step P (lone fr cs w)=.next (match tryRecover fr cs with|some (v,cs')=>lone (fr.finish v) cs' w'|none=>lone (fr.finish .nilIface) cs w'):=by
 cases ht2:tryRecover fr cs with
 | none =>
   refine step_lone_go ?_
   rw [zW hm ht ho hw (.inl hd)]
   simp [stepG.apply,Sem.runT_eq,hr,hd,ht2]
 | some q =>
   obtain ⟨v,cs'⟩:=q
   refine step_lone_go ?_
   rw [zW hm ht ho hw (.inl hd)]
   simp [stepG.apply,Sem.runT_eq,hr,hd,ht2]
theorem G9 {t t':List Item} (hm:fr.mode=.run) (ht:fr.todo=t) (h:∀ fn tmps defers kind roundOf,stepG.exec P true true { fn,tmps,todo:=t,defers,mode:=.run,kind,roundOf } cs none w =
 .go { frame:={ fn,tmps,todo:=t',defers,mode:=.run,kind,roundOf },callers:=cs,status:=.running,dying:=none } w) :
 step P (lone fr cs w)=.next (lone { fr with todo:=t' } cs w):=by
 obtain ⟨fn,tmps,todo,defers,mode,kind,roundOf⟩:=fr
 simp only at hm ht
 subst hm ht
 refine step_lone_go ?_
 simp [stepG,h]
theorem Wd (hm:fr.mode=.run) (ht:fr.todo=.code .skip::k):step P (lone fr cs w)=.next (lone { fr with todo:=k } cs w):=G9 hm ht (fun _ _ _ _ _=>by simp [stepG.exec])
theorem Oi {l:Nat} (hm:fr.mode=.run) (ht:fr.todo=.code (.label l)::k):step P (lone fr cs w)=.next (lone { fr with todo:=k } cs w):=G9 hm ht (fun _ _ _ _ _=>by simp [stepG.exec])
theorem zY {l:Nat} (hm:fr.mode=.run) (ht:fr.todo=.inBlock l::k):step P (lone fr cs w)=.next (lone { fr with todo:=k } cs w):=G9 hm ht (fun _ _ _ _ _=>by simp [stepG.exec])
theorem zZ {c:Code} (hm:fr.mode=.run) (ht:fr.todo=.inScope c::k):step P (lone fr cs w)=.next (lone { fr with todo:=k } cs w):=G9 hm ht (fun _ _ _ _ _=>by simp [stepG.exec])
theorem HP {a b:Code} (hm:fr.mode=.run) (ht:fr.todo=.code (.seq a b)::k):step P (lone fr cs w)=.next (lone { fr with todo:=.code a::.code b::k } cs w):=G9 hm ht (fun _ _ _ _ _=>by simp [stepG.exec])
theorem Oj {id:Nat} {b:Code} (hm:fr.mode=.run) (ht:fr.todo=.code (.block id b)::k):step P (lone fr cs w)=.next (lone { fr with todo:=.code b::.inBlock id::k } cs w):=G9 hm ht (fun _ _ _ _ _=>by simp [stepG.exec])
theorem We {b:Code} (hm:fr.mode=.run) (ht:fr.todo=.code (.loop b)::k):step P (lone fr cs w)=.next (lone { fr with todo:=.code b::.inLoop b::k } cs w):=G9 hm ht (fun _ _ _ _ _=>by simp [stepG.exec])
theorem Hu {b:Code} (hm:fr.mode=.run) (ht:fr.todo=.inLoop b::k):step P (lone fr cs w)=.next (lone { fr with todo:=.code b::.inLoop b::k } cs w):=G9 hm ht (fun _ _ _ _ _=>by simp [stepG.exec])
theorem Ol {b:Code} (hm:fr.mode=.run) (ht:fr.todo=.code (.scope b)::k):step P (lone fr cs w)=.next (lone { fr with todo:=.code b::.inScope b::k } cs w):=G9 hm ht (fun _ _ _ _ _=>by simp [stepG.exec])
theorem Wf {id:Nat} {k':List Item} (hm:fr.mode=.run) (ht:fr.todo=.code (.exit id)::k) (h:exitTo id k=some k'):step P (lone fr cs w)=.next (lone { fr with todo:=k' } cs w):=G9 hm ht (fun _ _ _ _ _=>by simp [stepG.exec,h])
theorem qD {id:Nat} {ops:Array Oper} (hm:fr.mode=.run) (ht:fr.todo=.code (.region id ops false)::k):step P (lone fr cs w)=.next (lone { fr with todo:=.inRegion ops (List.range ops.size)::k } cs w):=G9 hm ht (fun _ _ _ _ _=>by simp [stepG.exec])
theorem eS {ops:Array Oper} (hm:fr.mode=.run) (ht:fr.todo=.inRegion ops []::k):step P (lone fr cs w)=.next (lone { fr with todo:=k } cs w):=G9 hm ht (fun _ _ _ _ _=>by simp [stepG.exec])
theorem Wg {c:Operand} {a b:Code} {t:Bool} (hm:fr.mode=.run) (ht:fr.todo=.code (.cond c a b)::k) (hc:fr.eval c=.bool t):step P (lone fr cs w)=.next (lone { fr with todo:=.code (if t then a else b)::k } cs w):=by
 obtain ⟨fn,tmps,todo,defers,mode,kind,roundOf⟩:=fr
 simp only at hm ht
 subst hm ht
 refine step_lone_go ?_
 simp [stepG,stepG.exec,hc]
theorem Wh {id:Nat} {ops:Array Oper} (hm:fr.mode=.run) (ht:fr.todo=.code (.region id ops true)::k) :
 step P (lone fr cs w)=.next (lone { fr with todo:=.inRegion ops (Region.schedule (P.follows .mixedOrders) ops (w.tape w.drawn (.order fr.fn id)))::k } cs { w with drawn:=w.drawn+1 }):=by
 obtain ⟨fn,tmps,todo,defers,mode,kind,roundOf⟩:=fr
 simp only at hm ht
 subst hm ht
 refine step_lone_go ?_
 simp [stepG,stepG.exec,choose,Sem.run,Question.forced,Question.cut]
theorem HQ (hm:fr.mode=.run) (ht:fr.todo = []∨fr.todo=.code .ret::k) (hr:fr.roundOf=none):step P (lone fr cs w)=.next (lone { fr with mode:=.returning } cs w):=by
 obtain ⟨fn,tmps,todo,defers,mode,kind,roundOf⟩:=fr
 simp only at hm ht hr
 subst hm hr
 refine step_lone_go ?_
 rcases ht with rfl|rfl <;> simp [stepG,stepG.exec]
theorem Wi {b:Nat} {ds:List Deferred} (hm:fr.mode=.returning∨∃ c,fr.mode=.panicking c) (hd:fr.defers={ target:=.collected b,args:=#[] }::ds) (hb:w.heap[b]? = some (.deferred (some []))) :
 step P (lone fr cs w)=.next (lone { fr with defers:=ds } cs { w with heap:=w.heap.setIfInBounds b (.deferred none) }):=by
 obtain ⟨fn,tmps,todo,defers,mode,kind,roundOf⟩:=fr
 simp only at hm hd
 subst hd
 refine step_lone_go ?_
 have h1:(Instr.takeDeferred b).run P w=.ok [] { w with heap:=w.heap.setIfInBounds b (.deferred none) }:=by
  simp only [Instr.takeDeferred,Sem.run_bind,A6 hb (fun _ _ _ e=>by cases e),Result.andThen_ok]
  simp only [Go.setObj,Sem.run,hb,Result.andThen_ok,Sem.run_pure]
 rcases hm with rfl|⟨c,rfl⟩
 ·simp [stepG,unwind,Sem.runT_eq,h1]
 ·simp [stepG,unwind,Sem.runT_eq,h1]
theorem vB {f:FuncId} {cap args:Array Value} {ds:List Deferred} (hm:fr.mode=.returning∨∃ c,fr.mode=.panicking c) (hd:fr.defers={ target:=.fn (.func f) cap,args:=args }::ds)
 (hr:∀ w,(callFunc f (args++cap)).run P w=.ok (.enter f (args++cap)) w) :
 step P (lone fr cs w)=.next (lone (Frame.enter P f (args++cap) .deferred) ({ fr with defers:=ds }::cs) w):=by
 obtain ⟨fn,tmps,todo,defers,mode,kind,roundOf⟩:=fr
 simp only at hm hd
 subst hd
 refine step_lone_go ?_
 rcases hm with rfl|⟨c,rfl⟩
 ·simp [stepG,unwind,callDeferred,invoke,Sem.runT_eq,hr]
 ·simp [stepG,unwind,callDeferred,invoke,Sem.runT_eq,hr]
theorem Hv {c:Frame} {fn:Func} {v:Value} (hm:fr.mode=.returning) (hd:fr.defers = []) (hf:P.funcs[fr.fn]? = some fn) (hk:fr.kind=.normal) (hr:(results fn fr.tmps).run P w=.ok v w) :
 step P (lone fr (c::cs) w)=.next (lone (c.finish v) cs w):=by
 refine step_lone_go ?_
 obtain ⟨fn',tmps,todo,defers,mode,kind,roundOf⟩:=fr
 simp only at hm hd hf hk hr
 subst hm hd hk
 simp [stepG,unwind,doReturn,hf,Sem.runT_eq,hr]
theorem Aa {c:Frame} {fn:Func} {v:Value} (hm:fr.mode=.returning) (hd:fr.defers = []) (hf:P.funcs[fr.fn]? = some fn) (hk:fr.kind=.deferred) (hr:(results fn fr.tmps).run P w=.ok v w) :
 step P (lone fr (c::cs) w)=.next (lone (match c.mode with
  | .panicking ({ recovered:=true,.. }::older)=>(match older.dropWhile (!·.goexit) with
    | []=>{ c with mode:=.returning }
    | rest=>{ c with mode:=.panicking rest })
  | _=>c) cs w):=by
 refine step_lone_go ?_
 obtain ⟨fn',tmps,todo,defers,mode,kind,roundOf⟩:=fr
 simp only at hm hd hf hk hr
 subst hm hd hk
 simp [stepG,unwind,doReturn,hf,Sem.runT_eq,hr]
 rfl
theorem vC {c:Frame} {ch:List PanicEntry} {fn:Func} (hm:fr.mode=.panicking ch) (hd:fr.defers = []) (hf:P.funcs[fr.fn]? = some fn):step P (lone fr (c::cs) w)=.next (lone (c.raise ch) cs w):=by
 refine step_lone_go ?_
 obtain ⟨fn',tmps,todo,defers,mode,kind,roundOf⟩:=fr
 simp only at hm hd hf
 subst hm hd
 simp [stepG,unwind,Frame.catches,hf]
theorem eT {f:Operand} {ps:Array Tmp} {a b:Code} {l:Nat} {mark:List Deferred} {w1:World} {g:FuncId} {args:Array Value} (hm:fr.mode=.run) (ht:fr.todo=.code (.rangeFunc f ps a b)::k)
 (he:(Instr.enterLoop fr.fn fr.tmps ps a b fr.roundOf).run P w=.ok (l,mark) w1)
 (hr:(do let d ← Deferred.ofValue (fr.eval f) #[.func (.yield l) #[] #[]];invoke d.target d.args:Sem Next).run P w1=.ok (.enter g args) w') :
 step P (lone fr cs w)=.next (lone (Frame.enter P g args .normal) ({ fr with todo:=.inRangeFunc l::k,defers:=mark++fr.defers }::cs) w'):=by
 refine step_lone_go ?_
 obtain ⟨fn,tmps,todo,defers,mode,kind,roundOf⟩:=fr
 simp only at hm ht he hr
 subst hm ht
 have h2:∀ (x:Operand),Frame.eval { fn,tmps,todo:=.inRangeFunc l::k,defers:=mark++defers,mode:=.run,kind,roundOf } x=Frame.eval { fn,tmps,todo:=.code (.rangeFunc f ps a b)::k,defers,mode:=.run,kind,roundOf } x:=by
  intro x;cases x <;> rfl
 have h3:(do let d ← resolve (Frame.eval { fn,tmps,todo:=.inRangeFunc l::k,defers:=mark++defers,mode:=.run,kind,roundOf }) { callee:=.value f,args:=#[.const (.func (.yield l) #[] #[])],argTypes:=#[] } 0;invoke d.target d.args:Sem Next).run P w1=.ok (.enter g args) w':=by
  rw [← hr]
  simp only [resolve,h2,List.map_toArray,List.map_cons,List.map_nil]
  rfl
 simp [stepG,stepG.exec,Sem.runT_eq,he,stepG.apply,h3]
theorem Om {l:Nat} {r:Loop} (hm:fr.mode=.run) (ht:fr.todo=.beginRound::k) (hl:fr.roundOf=some l) (hb:w.heap[l]? = some (.loop r)) (hs:r.state=.ready) :
 step P (lone fr cs w)=.next (lone { fr with todo:=k } cs { w with heap:=w.heap.setIfInBounds l (.loop { r with state:=.busy }) }):=by
 refine step_lone_go ?_
 obtain ⟨fn,tmps,todo,defers,mode,kind,roundOf⟩:=fr
 simp only at hm ht hl
 subst hm ht hl
 have h1:(Instr.beginRound l).run P w=.ok () { w with heap:=w.heap.setIfInBounds l (.loop { r with state:=.busy }) }:=by
  simp only [Instr.beginRound,Instr.getLoop,Sem.run_bind,A6 hb (fun _ _ _ e=>by cases e),Result.andThen_ok,Sem.run_pure]
  simp only [Go.setObj,Sem.run,hb,Result.andThen_ok,hs,Sem.run_pure]
 simp [stepG,stepG.exec,stepG.apply,Sem.runT_eq,h1,Frame.finish]
theorem sR {l:Nat} {r:Loop} {jump:Option Code} (hb:w.heap[l]? = some (.loop r)) :
 (Instr.endRound l jump).run P w=.ok (.bool jump.isNone) { w with heap:=w.heap.setIfInBounds l (.loop { r with state:=if jump.isNone then .ready else .done,pending:=jump }) }:=by
 simp only [Instr.endRound,Instr.getLoop,Sem.run_bind,A6 hb (fun _ _ _ e=>by cases e),Result.andThen_ok,Sem.run_pure]
 simp only [Go.setObj,Sem.run,hb,Result.andThen_ok]
theorem vD {c:Frame} {l:Nat} {r:Loop} {jump:Option Code} (hm:fr.mode=.run) (ht:(fr.todo = []∧jump=none)∨(fr.todo=.code .ret::k∧jump=some .ret)∨(∃ id,fr.todo=.code (.exit id)::k∧exitTo id k=none∧jump=some (.exit id)))
 (hl:fr.roundOf=some l) (hk:fr.kind=.normal) (hb:w.heap[l]? = some (.loop r)) :
 step P (lone fr (c::cs) w)=.next (lone (c.finish (.bool jump.isNone)) cs { w with heap:=w.heap.setIfInBounds l (.loop { r with state:=if jump.isNone then .ready else .done,pending:=jump }) }):=by
 refine step_lone_go ?_
 have h1:=sR (P:=P) (jump:=jump) hb
 obtain ⟨fn,tmps,todo,defers,mode,kind,roundOf⟩:=fr
 simp only at hm ht hl hk
 subst hm hl hk
 rcases ht with ⟨rfl,rfl⟩|⟨rfl,rfl⟩|⟨id,rfl,h2,rfl⟩
 ·simp [stepG,stepG.exec,Sem.runT_eq,h1,doReturn]
 ·simp [stepG,stepG.exec,Sem.runT_eq,h1,doReturn]
 ·simp [stepG,stepG.exec,Sem.runT_eq,h1,doReturn,h2]
theorem Ab {l:Nat} {r:Loop} (hm:fr.mode=.run) (ht:fr.todo=.endRangeFunc l::k) (hb:w.heap[l]? = some (.loop r)) (hs:r.state≠.busy) :
 step P (lone fr cs w)=.next (lone { fr with todo:=(r.pending.map Item.code).toList++k } cs { w with heap:=w.heap.setIfInBounds l (.loop { r with state:=.exhausted }) }):=by
 refine step_lone_go ?_
 obtain ⟨fn,tmps,todo,defers,mode,kind,roundOf⟩:=fr
 simp only at hm ht
 subst hm ht
 have h1:(Instr.endLoop l).run P w=.ok r.pending { w with heap:=w.heap.setIfInBounds l (.loop { r with state:=.exhausted }) }:=by
  have h2:(r.state == LoopState.busy)=false:=by
   cases h:r.state <;> first|rfl|exact absurd h hs
  simp only [Instr.endLoop,Instr.getLoop,Sem.run_bind,A6 hb (fun _ _ _ e=>by cases e),Result.andThen_ok,Sem.run_pure,h2,Bool.false_eq_true,if_false]
  simp only [Go.setObj,Sem.run,hb,Result.andThen_ok]
 simp [stepG,stepG.exec,Sem.runT_eq,h1]
end
inductive AI where
 | code (c:Code)
 | blk (id:Nat)
 | lop (c:Code)
 | scp (c:Code)
 | reg (ops:Array Oper) (i:Nat) (rest:List Oper)
 | inRF (l:Ps)
 | endRF (l:Ps)
 | beg
inductive Hw where
 | run
 | ret
 | pan (v:AV) (rec:Bool)
structure AF where
 fn:Nat
 nt:Nat
 tm:Tm
 todo:List AI
 dfs:List AD
 md:Hw
 lost:Bool
 dk:Bool
 rd:Option Ps
inductive SR where
 | next (f:AF) (cs:List AF) (S:Hp)
 | fin (v:AV) (S:Hp)
 | finP (v:AV) (S:Hp)
 | bad
def qE (id:Nat) (l:List AI):Option (List AI):=
 List.rec none (fun x k ih=>match x with|.blk j=>Bool.rec ih (some k) (Nat.beq j id)|_=>ih) l
def A7 (nt:Nat) (d:Option Nat) (v:AV) (tm:Tm):Option (Tm):=
 Option.rec (some tm) (fun d=>Bool.rec none (some (V1 d v tm)) (Nat.blt d nt)) d
abbrev FF:=Nat→Nat→Tm→List AD→Hw→Bool→Bool→Option Ps→AV→Option AF
def YO:FF:=fun _ _ _ _ _ _ _ _ _=>none
def Hx:List AI→FF:=fun _=>YO
def WW (ops:Array Oper) (i:Nat) (rest:List Oper):List AI→FF:=fun k fn nt tm dfs md lost dk rd v =>
 List.rec none (fun o rest' _=>Option.rec none (fun tm'=>some ⟨fn,nt,tm',.reg ops (Nat.succ i) rest'::k,dfs,md,lost,dk,rd⟩) (A7 nt o.dst v tm)) rest
def QZ (l:Ps):List AI→FF:=fun k fn nt tm dfs md lost dk rd _=>some ⟨fn,nt,tm,.endRF l::k,dfs,md,lost,dk,rd⟩
def r6 (f:AF) (v:AV):Option AF:=
 AF.rec (motive:=fun _=>AV→Option AF) (fun fn nt tm todo dfs md lost dk rd v =>
  List.rec (motive:=fun _=>FF) YO (fun x k _=>AI.rec (motive:=fun _=>List AI→FF) (fun _=>Hx) (fun _=>Hx) (fun _=>Hx) (fun _=>Hx) WW QZ (fun _=>Hx) Hx x k) todo fn nt tm dfs md lost dk rd v) f v
def I2 (f:AF) (v:AV):Option AF:=
 match f with
 | ⟨fn,nt,tm,todo,dfs,md,lost,dk,rd⟩=>match todo with
   | .reg ops i (o::rest)::k=>(match A7 nt o.dst v tm with|some tm'=>some ⟨fn,nt,tm',.reg ops (Nat.succ i) rest::k,dfs,md,lost,dk,rd⟩|none=>none)
   | .inRF l::k=>some ⟨fn,nt,tm,.endRF l::k,dfs,md,lost,dk,rd⟩
   | _=>none
theorem H1 (f:AF) (v:AV):r6 f v=I2 f v:=by
 obtain ⟨fn,nt,tm,todo,dfs,md,lost,dk,rd⟩:=f
 unfold I2
 cases todo with
 | nil=>rfl
 | cons x k =>
   cases x with
   | reg ops i rest =>
     cases rest with
     | nil=>rfl
     | cons o rest =>
       show (Option.rec none (fun tm'=>some ⟨fn,nt,tm',.reg ops (Nat.succ i) rest::k,dfs,md,lost,dk,rd⟩) (A7 nt o.dst v tm):Option AF)=_
       simp only
       cases A7 nt o.dst v tm <;> rfl
   | _=>rfl
def On (m:Hw):Bool:=match m with|.run=>true|_=>false
def vE (v:AV) (cs:List AF) (S:Hp):SR:=
 List.rec (.fin v S) (fun c cs _=>Bool.rec .bad (Bool.rec (Option.rec .bad (fun c'=>.next c' cs S) (r6 c v)) .bad c.lost) (On c.md)) cs
def Ac (v:AV) (cs:List AF) (S:Hp):SR:=
 match cs with
 | []=>.fin v S
 | c::cs=>(match On c.md,c.lost,r6 c v with|true,false,some c'=>.next c' cs S|_,_,_=>.bad)
theorem Oo (v:AV) (cs:List AF) (S:Hp):vE v cs S=Ac v cs S:=by
 cases cs with
 | nil=>rfl
 | cons c cs =>
   unfold vE Ac
   simp only
   cases On c.md <;> cases c.lost <;> cases r6 c v <;> rfl
def Oq (nt:Nat) (ops:Array Oper) (tm:Tm) (g:Nat × Bool):Option Bool:=
 Prod.rec (fun j want=>Option.rec none (fun oj=>Option.rec none (fun d=>Bool.rec none (Option.rec (Bool.rec none (some false) (D6 (n8 tm d))) (fun b=>some (b == want)) (X3 (n8 tm d))) (Nat.blt d nt)) oj.dst) (nth ops.toList j)) g
def y9 (nt:Nat) (ops:Array Oper) (tm:Tm) (o:Oper):Option Bool:=Option.rec (some true) (fun g=>Oq nt ops tm g) o.guard
def sS (nt:Nat) (ops:Array Oper) (tm:Tm) (o:Oper):Option Bool:=
 match o.guard with
 | none=>some true
 | some (j,want)=>(match nth ops.toList j with
   | some oj=>(match oj.dst with
     | some d=>Bool.rec none (match n8 tm d with|.bool b=>some (b == want)|.any=>none|_=>some false) (Nat.blt d nt)
     | none=>none)
   | none=>none)
theorem mH (nt:Nat) (ops:Array Oper) (tm:Tm) (o:Oper):y9 nt ops tm o=sS nt ops tm o:=by
 unfold y9 sS
 cases o.guard with
 | none=>rfl
 | some g =>
   obtain ⟨j,want⟩:=g
   show Oq nt ops tm (j,want)=_
   unfold Oq
   simp only
   cases nth ops.toList j with
   | none=>rfl
   | some oj =>
     simp only
     cases oj.dst with
     | none=>rfl
     | some d =>
       simp only
       cases Nat.blt d nt with
       | false=>rfl
       | true=>simp only;cases n8 tm d <;> rfl
inductive RS where
 | done (tm:Tm) (S:Hp)
 | stop (tm:Tm) (S:Hp) (i:Nat) (rest:List Oper) (r:RO)
 | bad
def ZH (r:RO):Option (AV × Hp):=RO.rec (fun x S=>some (x,S)) (fun _ _=>none) (fun _ _=>none) (fun _=>none) (fun _=>none) none r
def Wj (nt:Nat) (d:Option Nat) (i:Nat) (tm:Tm) (go:Nat→Tm→Hp→RS) (x:AV) (S:Hp):RS:=Option.rec .bad (fun tm'=>go (Nat.succ i) tm' S) (A7 nt d x tm)
def RA (nt:Nat) (o:Oper) (rest:List Oper) (i:Nat) (tm:Tm) (S:Hp) (go:Nat→Tm→Hp→RS) (r:RO):RS:=
 Option.rec (.stop tm S i (o::rest) r) (fun p=>Prod.rec (fun x S'=>Wj nt o.dst i tm go x S') p) (ZH r)
def Ed (E:i3) (nt:Nat) (ops:Array Oper) (o:Oper) (rest:List Oper) (i:Nat) (tm:Tm) (S:Hp) (go:Nat→Tm→Hp→RS):RS:=
 Option.rec .bad (fun w=>Bool.rec (Wj nt o.dst i tm go (.tup []) S) (Option.rec .bad (fun r=>RA nt o rest i tm S go r) (T5 o.op E tm S o.type)) w) (y9 nt ops tm o)
def Ad (E:i3) (nt:Nat) (ops:Array Oper) (o:Oper) (rest:List Oper) (i:Nat) (tm:Tm) (S:Hp) (go:Nat→Tm→Hp→RS):RS:=
 match y9 nt ops tm o with
 | none=>.bad
 | some false=>(match A7 nt o.dst (.tup []) tm with|some tm'=>go (Nat.succ i) tm' S|none=>.bad)
 | some true=>(match T5 o.op E tm S o.type with
   | none=>.bad
   | some (.v x S')=>(match A7 nt o.dst x tm with|some tm'=>go (Nat.succ i) tm' S'|none=>.bad)
   | some r=>.stop tm S i (o::rest) r)
theorem Ee (nt:Nat) (d:Option Nat) (i:Nat) (tm:Tm) (go:Nat→Tm→Hp→RS) (x:AV) (S:Hp):Wj nt d i tm go x S=(match A7 nt d x tm with|some tm'=>go (Nat.succ i) tm' S|none=>.bad):=by
 unfold Wj;cases A7 nt d x tm <;> rfl
theorem Or (E:i3) (nt:Nat) (ops:Array Oper) (o:Oper) (rest:List Oper) (i:Nat) (tm:Tm) (S:Hp) (go:Nat→Tm→Hp→RS):Ed E nt ops o rest i tm S go=Ad E nt ops o rest i tm S go:=by
 unfold Ed Ad
 cases y9 nt ops tm o with
 | none=>rfl
 | some b =>
   cases b with
   | false=>exact Ee ..
   | true =>
     simp only
     cases T5 o.op E tm S o.type with
     | none=>rfl
     | some r =>
       cases r with
       | v x S'=>exact Ee ..
       | _=>rfl
def dJ (E:i3) (nt:Nat) (ops:Array Oper) (l:List Oper):Nat→Tm→Hp→RS:=
 List.rec (motive:=fun _=>Nat→Tm→Hp→RS) (fun _ tm S=>.done tm S) (fun o rest ih i tm S=>Ed E nt ops o rest i tm S ih) l
def Hy (l:List AV):Nat→Tm→Tm:=
 List.rec (motive:=fun _=>Nat→Tm→Tm) (fun _ t=>t) (fun v _ ih i t=>ih (Nat.succ i) (V1 i v t)) l
def d9 (E:i3) (f:Nat) (args:List AV) (dk:Bool):Option AF:=
 match T.get (Ps.of f) E.funcs with
 | some (some i)=>Bool.rec none (some ⟨f,i.nt,Hy args 0 te,[.code i.code],[],.run,false,dk,none⟩) (Nat.ble (y8 args) i.nt)
 | _=>none
def RB (nt:Nat) (ps:List Nat):List AV→Tm→Option (Tm):=
 List.rec (motive:=fun _=>List AV→Tm→Option (Tm)) (fun l t=>match l with|[]=>some t|_=>none)
  (fun p _ ih l t=>match l with|v::l=>Bool.rec none (ih l (V1 p v t)) (Nat.blt p nt)|[]=>none) ps
def dK (E:i3) (S:Hp) (l:Ps) (args:List AV):Option AF:=
 match T.get l S.hp with
 | some (.loop _ _ fn nt tm ps a b _)=>(match RB nt ps args tm,T.get (Ps.of fn) E.funcs with|some tm',some (some _)=>some ⟨fn,nt,tm',[.code a,.beg,.code b],[],.run,false,false,some l⟩|_,_=>none)
 | _=>none
def eU (f:Option AF) (c:AF) (cs:List AF) (S:Hp):SR:=Option.rec .bad (fun f=>.next f (c::cs) S) f
def Ot (dk:Bool) (cs:List AF):Option (AV × List AF):=
 match dk with
 | false=>some (.nili,cs)
 | true=>(match cs with
   | []=>none
   | ⟨fn,nt,tm,todo,dfs,md,lost,dk,rd⟩::cs=>(match md with
     | .pan v false=>some (v,⟨fn,nt,tm,todo,dfs,.pan v true,lost,dk,rd⟩::cs)
     | _=>some (.nili,⟨fn,nt,tm,todo,dfs,md,lost,dk,rd⟩::cs)))
def vF (f:Option AF) (cs:List AF) (S:Hp):SR:=Option.rec .bad (fun f=>.next f cs S) f
abbrev SF:=i3→Nat→Nat→Tm→List AI→List AD→Bool→Option Ps→List AF→Hp→SR
abbrev SG:=Array Oper→i3→Nat→Nat→Tm→Hp→Nat→List Oper→List AI→List AD→Bool→Option Ps→List AF→SR
def RC (f:Nat) (args:List AV):SG:=fun ops E fn nt tm S i rest k dfs dk rd cs=>eU (d9 E f args false) ⟨fn,nt,tm,.reg ops i rest::k,dfs,.run,false,dk,rd⟩ cs S
def WX (l:Ps) (args:List AV):SG:=fun ops E fn nt tm S i rest k dfs dk rd cs=>eU (dK E S l args) ⟨fn,nt,tm,.reg ops i rest::k,dfs,.run,false,dk,rd⟩ cs S
def WY (d:AD):SG:=fun ops _ fn nt tm S i rest k dfs dk rd cs=>Option.rec (vF (r6 ⟨fn,nt,tm,.reg ops i rest::k,d::dfs,.run,false,dk,rd⟩ (.tup [])) cs S) (fun _=>.bad) rd
def WZ (v:AV):SG:=fun _ _ fn nt tm S _ _ _ dfs dk rd cs=>.next ⟨fn,nt,tm,[],dfs,.pan v false,false,dk,rd⟩ cs S
def XA:SG:=fun ops _ fn nt tm S i rest k dfs dk rd cs =>
 (match rd,Ot dk cs with|none,some (v,cs')=>vF (r6 ⟨fn,nt,tm,.reg ops i rest::k,dfs,.run,false,dk,rd⟩ v) cs' S|_,_=>.bad)
def gV (_:AV) (_:Hp):SG:=fun _ _ _ _ _ _ _ _ _ _ _ _ _=>.bad
def R1 (ops:Array Oper) (r:RS):SF:=fun E fn nt _ k dfs dk rd cs _ =>
 RS.rec (fun tm S=>.next ⟨fn,nt,tm,k,dfs,.run,false,dk,rd⟩ cs S)
  (fun tm S i rest ro=>RO.rec (motive:=fun _=>SG) gV RC WX WY WZ XA ro ops E fn nt tm S i rest k dfs dk rd cs) .bad r
def qF (ops:Array Oper) (r:RS):SF:=fun E fn nt _ k dfs dk rd cs _ =>
 match r with
 | .done tm S=>.next ⟨fn,nt,tm,k,dfs,.run,false,dk,rd⟩ cs S
 | .bad=>.bad
 | .stop tm S i rest ro=>(match ro with
   | .call f args=>eU (d9 E f args false) ⟨fn,nt,tm,.reg ops i rest::k,dfs,.run,false,dk,rd⟩ cs S
   | .yld l args=>eU (dK E S l args) ⟨fn,nt,tm,.reg ops i rest::k,dfs,.run,false,dk,rd⟩ cs S
   | .dfr d=>(match rd with|none=>vF (r6 ⟨fn,nt,tm,.reg ops i rest::k,d::dfs,.run,false,dk,rd⟩ (.tup [])) cs S|some _=>.bad)
   | .pan v=>.next ⟨fn,nt,tm,[],dfs,.pan v false,false,dk,rd⟩ cs S
   | .rcv=>(match rd,Ot dk cs with|none,some (v,cs')=>vF (r6 ⟨fn,nt,tm,.reg ops i rest::k,dfs,.run,false,dk,rd⟩ v) cs' S|_,_=>.bad)
   | .v _ _=>.bad)
theorem vG (ops:Array Oper) (r:RS):R1 ops r=qF ops r:=by
 funext E fn nt tm0 k dfs dk rd cs S0
 cases r with
 | done tm S=>rfl
 | bad=>rfl
 | stop tm S i rest ro =>
   cases ro with
   | dfr d=>cases rd <;> rfl
   | _=>rfl
def Wk (ops:Array Oper) (i:Nat) (rest:List Oper):SF:=fun E fn nt tm k dfs dk rd cs S=>R1 ops (dJ E nt ops rest i tm S) E fn nt tm k dfs dk rd cs S
def mI (j:Option Code):LoopState:=match j with|none=>.ready|some _=>.done
def mJ (j:Option Code):SF:=fun _ fn nt tm _ dfs dk rd cs S =>
 match rd with
 | none=>(match j with
   | none=>.next ⟨fn,nt,tm,[],dfs,.ret,false,dk,none⟩ cs S
   | some .ret=>.next ⟨fn,nt,tm,[],dfs,.ret,false,dk,none⟩ cs S
   | _=>.bad)
 | some l=>(match T.get l S.hp,Nat.ble S.fl l.idx,dk,dfs with
   | some (.loop _ _ lf ln lt ps a b d),true,false,[]=>vE (.bool j.isNone) cs (S.put l (.loop (mI j) j lf ln lt ps a b d))
   | _,_,_,_=>.bad)
def XB:SF:=mJ (some .ret)
def Eg:SF:=fun _ fn nt tm k dfs dk rd cs S=>.next ⟨fn,nt,tm,k,dfs,.run,false,dk,rd⟩ cs S
def XC (a b:Code):SF:=fun _ fn nt tm k dfs dk rd cs S=>.next ⟨fn,nt,tm,.code a::.code b::k,dfs,.run,false,dk,rd⟩ cs S
def Eh (c:Operand) (a b:Code):SF:=fun E fn nt tm k dfs dk rd cs S =>
 Option.rec .bad (fun v=>Option.rec .bad (fun t=>.next ⟨fn,nt,tm,.code (Bool.rec b a t)::k,dfs,.run,false,dk,rd⟩ cs S) (X3 v)) (n6 E.ng tm c)
theorem Ou (c:Operand) (a b:Code) (E:i3) (fn nt:Nat) (tm:Tm) (k:List AI) (dfs:List AD) (dk:Bool) (rd:Option Ps) (cs:List AF) (S:Hp):Eh c a b E fn nt tm k dfs dk rd cs S=(match n6 E.ng tm c with
 | some (.bool t)=>.next ⟨fn,nt,tm,.code (Bool.rec b a t)::k,dfs,.run,false,dk,rd⟩ cs S
 | _=>.bad):=by
 unfold Eh
 cases n6 E.ng tm c with
 | none=>rfl
 | some v=>cases v <;> rfl
def HS (id:Nat) (b:Code):SF:=fun _ fn nt tm k dfs dk rd cs S=>.next ⟨fn,nt,tm,.code b::.blk id::k,dfs,.run,false,dk,rd⟩ cs S
def DF (b:Code):SF:=fun _ fn nt tm k dfs dk rd cs S=>.next ⟨fn,nt,tm,.code b::.lop b::k,dfs,.run,false,dk,rd⟩ cs S
def HT (b:Code):SF:=fun _ fn nt tm k dfs dk rd cs S=>.next ⟨fn,nt,tm,.code b::.scp b::k,dfs,.run,false,dk,rd⟩ cs S
def Ov (id:Nat):SF:=fun E fn nt tm k dfs dk rd cs S=>Option.rec (mJ (some (.exit id)) E fn nt tm k dfs dk rd cs S) (fun k'=>.next ⟨fn,nt,tm,k',dfs,.run,false,dk,rd⟩ cs S) (qE id k)
def qG (S:Hp) (fn nt:Nat) (tm:Tm) (ps:List Nat) (a b:Code) (d:Ps):Hp:=S.alloc (.loop .ready none fn nt tm ps a b d)
def XD (f:Operand) (ps:Array Tmp) (a b:Code):SF:=fun E fn nt tm k dfs dk rd cs S =>
 match n6 E.ng tm f with
 | some (.fn g first cap)=>(match rd with
   | none=>eU (d9 E g (lapp (lapp first [.yl (S.alloc (.dfr false)).nx]) cap) false) ⟨fn,nt,tm,.inRF (S.alloc (.dfr false)).nx::k,.mark S.nx::dfs,.run,false,dk,rd⟩ cs
    (qG (S.alloc (.dfr false)) fn nt tm ps.toList a b S.nx)
   | some l=>(match T.get l S.hp with
     | some (.loop _ _ _ _ _ _ _ _ d)=>eU (d9 E g (lapp (lapp first [.yl S.nx]) cap) false) ⟨fn,nt,tm,.inRF S.nx::k,dfs,.run,false,dk,rd⟩ cs (qG S fn nt tm ps.toList a b d)
     | _=>.bad))
 | _=>.bad
abbrev s8:=i3→Nat→Nat→Tm→Array Oper→List AD→Bool→Option Ps→Hp→Option (Sum (Tm × Hp) (AV × Hp))
def sU (l:List ResultVar):List Nat:=List.rec [] (fun r _ ih=>match r with|.cell a _=>a::ih|.tmp _=>ih) l
def R2 (E:i3) (fn:Nat):List Nat:=match T.get (Ps.of fn) E.funcs with|some (some i)=>sU i.res|_=>[]
def qH (l:List Oper) (a:Nat):Bool:=List.rec true (fun o _ ih=>Bool.rec ih false (Option.rec false (fun e=>Nat.beq e a) o.dst)) l
def kI (E:i3) (fn:Nat) (ops:Array Oper):Bool:=List.rec true (fun a _ ih=>Bool.rec false ih (qH ops.toList a)) (R2 E fn)
def mK (l:List ResultVar):Bool:=List.rec false (fun r _ ih=>match r with|.cell _ _=>ih|.tmp _=>true) l
def bX (D:s8) (_:Nat) (ops:Array Oper) (draw:Bool):SF:=fun E fn nt tm k dfs dk rd cs S =>
 match draw with
 | false=>Wk ops 0 ops.toList E fn nt tm k dfs dk rd cs S
 | true=>(match D E fn nt tm ops dfs dk rd S with
   | some (.inl (tm',S'))=>.next ⟨fn,nt,tm',k,dfs,.run,false,dk,rd⟩ cs S'
   | some (.inr (v,S'))=>Bool.rec .bad (.next ⟨fn,nt,tm,[],dfs,.pan v false,true,dk,rd⟩ cs S') (kI E fn ops)
   | none=>.bad)
def HU:SF:=fun _ _ _ _ _ _ _ _ _ _=>.bad
def DH (D:s8) (c:Code):SF:=
 Code.rec (motive:=fun _=>SF) Eg (bX D) (fun a b _ _=>XC a b) (fun c a b _ _=>Eh c a b) (fun id b _=>HS id b) (fun b _=>DF b) (fun f ps a b _ _=>XD f ps a b) Ov (fun b _=>HT b) (fun _=>Eg) (fun _=>HU) XB (fun _=>HU) c
def Ae (l:Ps):SF:=fun _ fn nt tm k dfs dk rd cs S =>
 match T.get l S.hp,Nat.ble S.fl l.idx with
 | some (.loop st pend lf ln lt ps a b d),true=>(match st with
   | .busy=>.bad
   | _=>.next ⟨fn,nt,tm,(match pend with|none=>k|some c=>.code c::k),dfs,.run,false,dk,rd⟩ cs (S.put l (.loop .exhausted pend lf ln lt ps a b d)))
 | _,_=>.bad
def HV:SF:=fun _ fn nt tm k dfs dk rd cs S =>
 match rd with
 | none=>.bad
 | some l=>(match T.get l S.hp,Nat.ble S.fl l.idx with
   | some (.loop .ready pend lf ln lt ps a b d),true=>.next ⟨fn,nt,tm,k,dfs,.run,false,dk,rd⟩ cs (S.put l (.loop .busy pend lf ln lt ps a b d))
   | _,_=>.bad)
def qI (D:s8) (x:AI):SF:=
 AI.rec (motive:=fun _=>SF) (DH D) (fun _=>Eg) DF (fun _=>Eg) Wk (fun _=>HU) Ae HV x
def HW (D:s8) (todo:List AI) (E:i3) (fn nt:Nat) (tm:Tm) (dfs:List AD) (dk:Bool) (rd:Option Ps) (cs:List AF) (S:Hp):SR:=
 List.rec (motive:=fun _=>s8→SF) (fun _ E fn nt tm _ dfs dk rd cs S=>mJ none E fn nt tm [] dfs dk rd cs S) (fun x k _ D E fn nt tm _ dfs dk rd cs S=>qI D x E fn nt tm k dfs dk rd cs S) todo D E fn nt tm [] dfs dk rd cs S
def Wl (E:i3) (S:Hp) (tm:Tm) (r:ResultVar):Option AV:=
 match r with
 | .tmp t=>some (n8 tm t)
 | .cell a t=>(match n8 tm a with|.ptr b o=>uN E S t (.ptr b o)|_=>none)
def HX (E:i3) (S:Hp) (tm:Tm) (l:List ResultVar):Option (List AV):=
 List.rec (some []) (fun r _ ih=>Option.rec none (fun x=>Option.rec none (fun t=>some (x::t)) ih) (Wl E S tm r)) l
def Wm (E:i3) (S:Hp) (tm:Tm) (l:List ResultVar):Option AV:=
 match HX E S tm l with
 | some [x]=>some x
 | some l=>some (.tup l)
 | none=>none
def kJ (E:i3) (fn:Nat) (tm:Tm) (lost dk:Bool) (cs:List AF) (S:Hp):SR:=
 match T.get (Ps.of fn) E.funcs with
 | some (some i)=>(match Bool.and lost (mK i.res) with
   | true=>.bad
   | false=>(match Wm E S tm i.res with
     | none=>.bad
     | some v=>(match dk with
       | false=>vE v cs S
       | true=>(match cs with
         | ⟨fn,nt,tm,todo,dfs,.pan _ true,lost,dk,rd⟩::cs=>.next ⟨fn,nt,tm,todo,dfs,.ret,lost,dk,rd⟩ cs S
         | c::cs=>.next c cs S
         | []=>.bad))))
 | _=>.bad
def bY (E:i3) (fn nt:Nat) (tm:Tm) (todo:List AI) (dfs:List AD) (md:Hw) (lost dk:Bool) (rd:Option Ps) (cs:List AF) (S:Hp) (last:SR):SR:=
 match dfs with
 | []=>last
 | .mark b::ds=>(match T.get b S.hp,Nat.ble S.fl b.idx with
   | some (.dfr false),true=>.next ⟨fn,nt,tm,todo,ds,md,lost,dk,rd⟩ cs (S.put b (.dfr true))
   | _,_=>.bad)
 | .call f args cap::ds=>eU (d9 E f (lapp args cap) true) ⟨fn,nt,tm,todo,ds,md,lost,dk,rd⟩ cs S
def sV (v:AV) (cs:List AF) (S:Hp):SR:=
 match cs with
 | []=>.finP v S
 | ⟨fn,nt,tm,todo,dfs,.run,lost,dk,rd⟩::cs=>.next ⟨fn,nt,tm,todo,dfs,.pan v false,lost,dk,rd⟩ cs S
 | _=>.bad
abbrev SM:=s8→i3→Nat→Nat→Tm→List AI→List AD→Bool→Bool→Option Ps→List AF→Hp→SR
def XE:SM:=fun D E fn nt tm todo dfs lost dk rd cs S=>Bool.rec (HW D todo E fn nt tm dfs dk rd cs S) .bad lost
def XF:SM:=fun _ E fn nt tm todo dfs lost dk rd cs S=>bY E fn nt tm todo dfs .ret lost dk rd cs S (kJ E fn tm lost dk cs S)
def XG (v:AV) (r:Bool):SM:=fun _ E fn nt tm todo dfs lost dk rd cs S=>bY E fn nt tm todo dfs (.pan v r) lost dk rd cs S (match r with|false=>sV v cs S|true=>.bad)
def cU (D:s8) (E:i3) (f:AF) (cs:List AF) (S:Hp):SR:=
 AF.rec (motive:=fun _=>s8→i3→List AF→Hp→SR) (fun fn nt tm todo dfs md lost dk rd D E cs S=>Hw.rec (motive:=fun _=>SM) XE XF XG md D E fn nt tm todo dfs lost dk rd cs S) f D E cs S
def Ox (D:s8) (E:i3) (f:AF) (cs:List AF) (S:Hp):SR:=
 match f with
 | ⟨fn,nt,tm,todo,dfs,md,lost,dk,rd⟩=>match md with
   | .run=>(match lost with|false=>HW D todo E fn nt tm dfs dk rd cs S|true=>.bad)
   | .ret=>bY E fn nt tm todo dfs .ret lost dk rd cs S (kJ E fn tm lost dk cs S)
   | .pan v r=>bY E fn nt tm todo dfs (.pan v r) lost dk rd cs S (match r with|false=>sV v cs S|true=>.bad)
theorem Oy (D:s8) (E:i3) (f:AF) (cs:List AF) (S:Hp):cU D E f cs S=Ox D E f cs S:=by
 obtain ⟨fn,nt,tm,todo,dfs,md,lost,dk,rd⟩:=f
 cases md with
 | run=>cases lost <;> rfl
 | ret=>rfl
 | pan v r=>rfl
def Af (D:s8) (E:i3) (n:Nat):AF→List AF→Hp→SR:=
 Nat.rec (motive:=fun _=>AF→List AF→Hp→SR) (fun f cs S=>.next f cs S) (fun _ ih f cs S=>SR.rec ih .fin .finP .bad (cU D E f cs S)) n
end Go.AM
end
section
namespace Go.AM
inductive IR (γ:Gm):AI→Item→Prop where
 | code (c:Code):IR γ (.code c) (.code c)
 | blk (id:Nat):IR γ (.blk id) (.inBlock id)
 | lop (c:Code):IR γ (.lop c) (.inLoop c)
 | scp (c:Code):IR γ (.scp c) (.inScope c)
 | reg {ops:Array Oper} {i:Nat} {rest:List Oper} (h:ops.toList.drop i=rest):IR γ (.reg ops i rest) (.inRegion ops (List.range' i rest.length))
 | inRF {l:Ps} {L:Loc} (h:γ l=some L):IR γ (.inRF l) (.inRangeFunc L.blk)
 | endRF {l:Ps} {L:Loc} (h:γ l=some L):IR γ (.endRF l) (.endRangeFunc L.blk)
 | beg:IR γ .beg .beginRound
inductive jC (γ:Gm):List AI→List Item→Prop where
 | nil:jC γ [] []
 | cons {x:AI} {y:Item} {l:List AI} {l':List Item} (h:IR γ x y) (t:jC γ l l'):jC γ (x::l) (y::l')
inductive Oz (γ:Gm):List AD→List Deferred→Prop where
 | nil:Oz γ [] []
 | cons {x:AD} {y:Deferred} {l:List AD} {l':List Deferred} (h:DR γ x y) (t:Oz γ l l'):Oz γ (x::l) (y::l')
inductive MR (γ:Gm):Hw→FrameMode→Prop where
 | run:MR γ .run .run
 | ret:MR γ .ret .returning
 | pan {v:AV} {v':Value} (r:Bool) (h:VR γ v v'):MR γ (.pan v r) (.panicking [{ v:=v',recovered:=r }])
inductive yB (γ:Gm):Option Ps→Option Nat→Prop where
 | none:yB γ none none
 | some {l:Ps} {L:Loc} (h:γ l=some L):yB γ (some l) (some L.blk)
def Pa (γ:Gm) (E:i3) (fn:Nat) (lost:Bool) (tm:Tm) (tmps:Array Value):Prop:=
 match lost with
 | false=>TR γ tm tmps
 | true=>∀ a,a ∈ R2 E fn→VR γ (n8 tm a) (tmps.getD a undef)
theorem Pa.mono {γ γ':Gm} (hg:Gm.le γ γ') {E:i3} {fn:Nat} {lost:Bool} {tm:Tm} {tmps:Array Value} (h:Pa γ E fn lost tm tmps):Pa γ' E fn lost tm tmps:=by
 cases lost with
 | false=>exact TR.mono hg h
 | true=>exact fun a ha=>(h a ha).mono hg
structure FR (γ:Gm) (E:i3) (f:AF) (fr:Frame):Prop where
 fn:fr.fn=f.fn
 nt:fr.tmps.size=f.nt
 tm:Pa γ E f.fn f.lost f.tm fr.tmps
 todo:f.md=.run→jC γ f.todo fr.todo
 dfs:Oz γ f.dfs fr.defers
 md:MR γ f.md fr.mode
 kind:fr.kind=if f.dk then .deferred else .normal
 rd:yB γ f.rd fr.roundOf
 fi:∃ i,T.get (Ps.of f.fn) E.funcs=some (some i)
inductive M7 (γ:Gm) (E:i3):List AF→List Frame→Prop where
 | nil:M7 γ E [] []
 | cons {x:AF} {y:Frame} {l:List AF} {l':List Frame} (h:FR γ E x y) (t:M7 γ E l l'):M7 γ E (x::l) (y::l')
section mono
variable {γ γ':Gm} (hg:Gm.le γ γ')
include hg
theorem IR.mono {x:AI} {y:Item} (h:IR γ x y):IR γ' x y:=by
 cases h with
 | code c=>exact .code c
 | blk id=>exact .blk id
 | lop c=>exact .lop c
 | scp c=>exact .scp c
 | reg h=>exact .reg h
 | inRF h=>exact .inRF (hg _ _ h)
 | endRF h=>exact .endRF (hg _ _ h)
 | beg=>exact .beg
theorem jC.mono {x:List AI} {y:List Item} (h:jC γ x y):jC γ' x y:=by
 induction h with
 | nil=>exact .nil
 | cons h _ ih=>exact .cons (h.mono hg) ih
theorem Oz.mono {x:List AD} {y:List Deferred} (h:Oz γ x y):Oz γ' x y:=by
 induction h with
 | nil=>exact .nil
 | cons h _ ih=>exact .cons (h.mono hg) ih
theorem MR.mono {x:Hw} {y:FrameMode} (h:MR γ x y):MR γ' x y:=by
 cases h with
 | run=>exact .run
 | ret=>exact .ret
 | pan r h=>exact .pan r (h.mono hg)
theorem yB.mono {x:Option Ps} {y:Option Nat} (h:yB γ x y):yB γ' x y:=by
 cases h with
 | none=>exact .none
 | some h=>exact .some (hg _ _ h)
theorem FR.mono {E:i3} {f:AF} {fr:Frame} (h:FR γ E f fr):FR γ' E f fr:=
 ⟨h.fn,h.nt,h.tm.mono hg,fun e=>(h.todo e).mono hg,h.dfs.mono hg,h.md.mono hg,h.kind,h.rd.mono hg,h.fi⟩
theorem M7.mono {E:i3} {x:List AF} {y:List Frame} (h:M7 γ E x y):M7 γ' E x y:=by
 induction h with
 | nil=>exact .nil
 | cons h _ ih=>exact .cons (h.mono hg) ih
end mono
def E1:Frame→List Frame→Nat × Option Nat
 | fr,[]=>(fr.fn,fr.roundOf)
 | _,c::cs=>E1 c cs
def aB (E:i3) (γ:Gm) (S:Hp) (fr:Frame) (frs:List Frame) (w:World) (f':AF) (cs':List AF) (S':Hp):Prop:=
 ∀ bot,∃ γ' fr' frs' w',Steps E.P (lone fr (frs++bot) w) (lone fr' (frs'++bot) w')∧FR γ' E f' fr'∧M7 γ' E cs' frs'∧HR γ' E.ng S' w'∧j6 S γ w S' γ' w'∧E1 fr' frs'=E1 fr frs
section
variable {E:i3} {γ:Gm} {S:Hp} {fr:Frame} {frs:List Frame} {w:World}
theorem E9 {fr fr':Frame} (h1:fr'.fn=fr.fn) (h2:fr'.roundOf=fr.roundOf) (frs:List Frame):E1 fr' frs=E1 fr frs:=by
 cases frs with
 | nil=>simp [E1,h1,h2]
 | cons c cs=>rfl
theorem yB.eq {γ γ':Gm} (hg:Gm.le γ γ') {r:Option Ps} {a b:Option Nat} (h:yB γ r a) (k:yB γ' r b):b=a:=by
 cases h with
 | none=>cases k;rfl
 | some h=>cases k with|some k=>rw [hg _ _ h] at k;cases k;rfl
theorem aB.here {f f':AF} {cs:List AF} {S':Hp} (hf:FR γ E f fr) (hc:M7 γ E cs frs) (hfn:f'.fn=f.fn) (hrd:f'.rd=f.rd)
 (h:∀ cs,∃ γ' fr' w',Steps E.P (lone fr cs w) (lone fr' cs w')∧FR γ' E f' fr'∧HR γ' E.ng S' w'∧j6 S γ w S' γ' w'):aB E γ S fr frs w f' cs S':=by
 intro bot
 obtain ⟨γ',fr',w',h1,h2,h3,h4⟩:=h (frs++bot)
 refine ⟨γ',fr',frs,w',h1,h2,hc.mono h4.ext,h3,h4,E9 ?_ ?_ frs⟩
 ·rw [h2.fn,hf.fn,hfn]
 ·have:=h2.rd
  rw [hrd] at this
  exact yB.eq h4.ext hf.rd this
theorem FR.to {f:AF} (h:FR γ E f fr) {t:List AI} {t':List Item} (ht:jC γ t t'):FR γ E { f with todo:=t } { fr with todo:=t' }:=
 ⟨h.fn,h.nt,h.tm,fun _=>ht,h.dfs,h.md,h.kind,h.rd,h.fi⟩
theorem FR.tr {f:AF} (h:FR γ E f fr) (hl:f.lost=false):TR γ f.tm fr.tmps:=by
 have:=h.tm
 rw [hl] at this
 exact this
theorem FR.mode {f:AF} (h:FR γ E f fr) (hm:f.md=.run):fr.mode=.run:=by
 have:=h.md
 rw [hm] at this
 generalize fr.mode=m at this
 cases this;rfl
theorem vH {id:Nat} {l:List AI} {l':List Item} (h:jC γ l l'):(∀ k,qE id l=some k→∃ k',exitTo id l'=some k'∧jC γ k k')∧(qE id l=none→exitTo id l'=none):=by
 induction h with
 | nil=>exact ⟨fun k e=>(by cases e),fun _=>rfl⟩
 | @cons x y l l' hx t ih =>
   cases hx with
   | blk j =>
     have e:qE id (.blk j::l)=Bool.rec (qE id l) (some l) (Nat.beq j id):=rfl
     rw [e]
     have e2:exitTo id (.inBlock j::l')=if j == id then some l' else exitTo id l':=rfl
     rw [e2]
     rw [i9]
     by_cases hj:j=id
     ·simp only [hj,decide_true,beq_self_eq_true,if_true]
      exact ⟨fun k e=>(by cases e;exact ⟨l',rfl,t⟩),fun e=>(by cases e)⟩
     ·have:(j == id)=false:=by simpa using hj
      simp only [hj,decide_false,this,Bool.false_eq_true,if_false]
      exact ih
   | code c=>exact ih
   | lop c=>exact ih
   | scp c=>exact ih
   | reg h=>exact ih
   | inRF h=>exact ih
   | endRF h=>exact ih
   | beg=>exact ih
def mL (d:Option Nat) (v:Value) (t:Array Value):Array Value:=match d with|some d=>t.setIfInBounds d v|none=>t
theorem Wn {nt:Nat} {d:Option Nat} {v:AV} {tm tm':Tm} (h:A7 nt d v tm=some tm') {tmps:Array Value} (hs:tmps.size=nt) (ht:TR γ tm tmps) {v':Value} (hv:VR γ v v') :
 TR γ tm' (mL d v' tmps):=by
 cases d with
 | none=>cases h;exact ht
 | some d =>
   obtain ⟨h1,h2⟩:=d5 (b:=Nat.blt d nt) h
   cases h2
   rw [f6] at h1
   exact ht.set (by rw [hs];exact of_decide_eq_true h1) hv
theorem jD (i:Nat) (o:Oper) (rest:List Oper):List.range' i (o::rest).length=i::List.range' (i+1) rest.length:=by
 rw [List.length_cons,List.range'_succ]
theorem qJ {ops:Array Oper} {i:Nat} {o:Oper} {rest:List Oper} (h:ops.toList.drop i=o::rest):ops[i]? = some o∧ops.toList.drop (i+1)=rest:=by
 constructor
 ·have:(ops.toList.drop i)[0]? = some o:=by rw [h];rfl
  rw [List.getElem?_drop] at this
  simpa using this
 ·have:(ops.toList.drop i).drop 1=rest:=by rw [h];rfl
  rw [List.drop_drop] at this
  exact this
theorem C1 {f f':AF} {v:AV} (h:r6 f v=some f') (hf:FR γ E f fr) (hm:f.md=.run) (hl:f.lost=false) {v':Value} (hv:VR γ v v'):FR γ E f' (fr.finish v'):=by
 obtain ⟨fn,nt,tm,todo,dfs,md,lost,dk,rd⟩:=f
 simp only at hm hl
 subst hm hl
 rw [H1] at h;unfold I2 at h
 simp only at h
 have hto:=hf.todo rfl
 simp only at hto
 split at h
 ·rename_i ops i o rest k
  split at h
  ·rename_i tm' hp
   cases h
   generalize hft:fr.todo=ft at hto
   cases hto with
   | cons hx ht =>
     cases hx with
     | reg hd =>
       obtain ⟨ho,hd2⟩:=qJ hd
       rw [jD] at hft
       have h2:=Wn hp hf.nt (hf.tr rfl) hv
       refine ⟨?_,?_,?_,fun _=>?_,?_,?_,?_,?_,hf.fi⟩
       ·simp only [Frame.finish,hft];exact hf.fn
       ·simp only [Frame.finish,hft,ho,Option.bind_some]
        have:=hf.nt
        cases o.dst <;> simp [this]
       ·show TR γ tm' _
        simp only [Frame.finish,hft,ho,Option.bind_some]
        show TR γ tm' (mL o.dst v' fr.tmps)
        exact h2
       ·simp only [Frame.finish,hft];exact .cons (.reg hd2) ht
       ·simp only [Frame.finish,hft];exact hf.dfs
       ·simp only [Frame.finish,hft];exact hf.md
       ·simp only [Frame.finish,hft];exact hf.kind
       ·simp only [Frame.finish,hft];exact hf.rd
  ·cases h
 ·rename_i l k
  cases h
  generalize hft:fr.todo=ft at hto
  cases hto with
  | cons hx ht =>
    cases hx with
    | inRF hL =>
      refine ⟨?_,?_,?_,fun _=>?_,?_,?_,?_,?_,hf.fi⟩
      ·simp only [Frame.finish,hft];exact hf.fn
      ·simp only [Frame.finish,hft];exact hf.nt
      ·show TR γ tm _
       simp only [Frame.finish,hft];exact hf.tr rfl
      ·simp only [Frame.finish,hft];exact .cons (.endRF hL) ht
      ·simp only [Frame.finish,hft];exact hf.dfs
      ·simp only [Frame.finish,hft];exact hf.md
      ·simp only [Frame.finish,hft];exact hf.kind
      ·simp only [Frame.finish,hft];exact hf.rd
 ·cases h
end
end Go.AM
end
section
namespace Go.AM
def In (E:i3) (fr:Frame) (w:World) (Q:Gm→Frame→World→Prop):Prop:=
 ∃ γ' fr' w',(∀ cs,Steps E.P (lone fr cs w) (lone fr' cs w'))∧Q γ' fr' w'
section
variable {E:i3} (hE:E.Ok) {γ:Gm} {S:Hp} {fr:Frame} {w:World}
theorem eV {nt:Nat} {ops:Array Oper} {tm:Tm} {o:Oper} {b:Bool} (h:y9 nt ops tm o=some b) {tmps:Array Value} (hs:tmps.size=nt) (ht:TR γ tm tmps):Region.wanted o (yielded ops tmps)=b:=by
 rw [mH] at h;unfold sS at h
 unfold Region.wanted
 split at h
 ·rename_i hg;rw [hg];cases h;rfl
 ·rename_i j want hg
  rw [hg]
  simp only
  split at h
  ·rename_i oj hj
   rw [H8,Array.getElem?_toList] at hj
   split at h
   ·rename_i d hd
    obtain ⟨h1,h2⟩:=d5 h
    rw [f6] at h1
    have hlt:d < tmps.size:=by rw [hs];exact of_decide_eq_true h1
    have hv:=ht d
    have hy:yielded ops tmps j=(match tmps[d] with|.bool b=>some b|_=>none):=by
     unfold yielded
     simp only [hj,hd,Option.bind_some,Array.getElem?_eq_getElem hlt]
     cases tmps[d] <;> rfl
    have hget:tmps.getD d Go.undef=tmps[d]:=by simp [Array.getD,hlt]
    rw [hget] at hv
    rw [hy]
    split at h2
    ·rename_i c hc
     rw [hc] at hv
     cases h2
     generalize tmps[d]=u at hv
     cases hv
     cases c <;> cases want <;> rfl
    ·cases h2
    ·rename_i hnb hna
     cases h2
     generalize tmps[d]=u at hv
     generalize n8 tm d=t at hv hnb hna
     cases hv <;> first|exact absurd rfl (hnb _)|exact absurd rfl hna|rfl
   ·cases h
  ·cases h
theorem eW {γ:Gm} {E:i3} {fn nt:Nat} {tm:Tm} {ops:Array Oper} {i:Nat} {o:Oper} {rest:List Oper} {k:List AI} {dfs:List AD} {lost dk:Bool} {rd:Option Ps} {fr:Frame}
 (h:FR γ E ⟨fn,nt,tm,.reg ops i (o::rest)::k,dfs,.run,lost,dk,rd⟩ fr):∃ k',fr.todo=.inRegion ops (i::List.range' (i+1) rest.length)::k'∧ops[i]? = some o:=by
 have:=h.todo rfl
 simp only at this
 generalize fr.todo=ft at this
 cases this with
 | cons hx ht =>
   cases hx with
   | reg hd =>
     obtain ⟨ho,_⟩:=qJ hd
     exact ⟨_,by rw [jD],ho⟩
theorem Ei {γ:Gm} {E:i3} {f:AF} {fr:Frame} (h:FR γ E f fr) (hr:f.rd=none):fr.roundOf=none:=by
 have:=h.rd
 rw [hr] at this
 generalize fr.roundOf=r at this
 cases this;rfl
theorem z8 {o:Oper} {E:i3} {tm:Tm} {S:Hp} {r:RO} (h:H7 o.op E tm S o.type=some r) (hr:∀ d,r≠.dfr d):∀ c,o.op≠.defer c:=by
 intro c e
 rw [e] at h
 have h:O6 (.defer c) E tm S o.type=some r:=h
 obtain ⟨args,h1,h2⟩:=m9 (o:=F4 E.ng tm c.args.toList) h
 cases hc:c.callee with
 | value f =>
   rw [hc] at h2
   obtain ⟨fv,h3,h4⟩:=j4 h2
   split at h4
   ·cases h4;exact hr _ rfl
   ·cases h4
 | invoke a b=>rw [hc] at h2;cases h2
 | builtin b=>rw [hc] at h2;cases h2
theorem D3 {o:Oper} {E:i3} {tm:Tm} {S:Hp} {r:RO} (h:T5 o.op E tm S o.type=some r) (hr:∀ d,r≠.dfr d):∀ c,o.op≠.defer c:=by
 have h':(Option.rec (OF o.op E tm S o.type) (fun r=>some r) (H7 o.op E tm S o.type):Option RO)=some r:=h
 cases he:H7 o.op E tm S o.type with
 | none=>rw [he] at h';exact uX h'
 | some r'=>rw [he] at h';cases h';exact z8 he hr
inductive Hz (E:i3) (S:Hp) (γ:Gm) (w:World) (fn nt:Nat) (k:List AI) (dfs:List AD) (dk:Bool) (rd:Option Ps) (ops:Array Oper):RS→Gm→Frame→World→Prop where
 | done {tm:Tm} {S':Hp} {i:Nat} {γ':Gm} {fr':Frame} {w':World} (hf:FR γ' E ⟨fn,nt,tm,.reg ops i []::k,dfs,.run,false,dk,rd⟩ fr') (hH:HR γ' E.ng S' w') (hP:j6 S γ w S' γ' w') :
  Hz E S γ w fn nt k dfs dk rd ops (.done tm S') γ' fr' w'
 | stop {tm:Tm} {S':Hp} {i:Nat} {o:Oper} {rest:List Oper} {r:RO} {γ':Gm} {fr':Frame} {w':World} (hf:FR γ' E ⟨fn,nt,tm,.reg ops i (o::rest)::k,dfs,.run,false,dk,rd⟩ fr') (hH:HR γ' E.ng S' w')
  (hP:j6 S γ w S' γ' w') (hw:Region.wanted o (yielded ops fr'.tmps)=true) (he:T5 o.op E tm S' o.type=some r) (hr:∀ x S,r≠.v x S):Hz E S γ w fn nt k dfs dk rd ops (.stop tm S' i (o::rest) r) γ' fr' w'
include hE in
theorem iE {fn nt:Nat} {k:List AI} {dfs:List AD} {dk:Bool} {rd:Option Ps} {ops:Array Oper}:∀ (rest:List Oper) (i:Nat) (tm:Tm) (S:Hp) (γ:Gm) (fr:Frame) (w:World),
 FR γ E ⟨fn,nt,tm,.reg ops i rest::k,dfs,.run,false,dk,rd⟩ fr→HR γ E.ng S w→(dJ E nt ops rest i tm S=.bad)∨In E fr w (Hz E S γ w fn nt k dfs dk rd ops (dJ E nt ops rest i tm S))
 | [],i,tm,S,γ,fr,w,hf,hH=>.inr ⟨γ,fr,w,fun cs=>Steps.refl _ _,.done hf hH (j6.refl _ _ _)⟩
 | o :: rest,i,tm,S,γ,fr,w,hf,hH=>by
   have e:dJ E nt ops (o::rest) i tm S=Ed E nt ops o rest i tm S (fun i tm S=>dJ E nt ops rest i tm S):=rfl
   rw [e]
   obtain ⟨k',ht,ho⟩:=eW hf
   have hm:=hf.mode rfl
   have hT:=hf.tr rfl
   rw [Or];unfold Ad
   cases hw:y9 nt ops tm o with
   | none=>exact .inl rfl
   | some b =>
     have hwd:=eV hw hf.nt hT
     cases b with
     | false =>
       simp only
       cases hp:A7 nt o.dst (.tup []) tm with
       | none=>exact .inl rfl
       | some tm' =>
         simp only
         have hfin:r6 ⟨fn,nt,tm,.reg ops i (o::rest)::k,dfs,.run,false,dk,rd⟩ (.tup [])=some ⟨fn,nt,tm',.reg ops (i+1) rest::k,dfs,.run,false,dk,rd⟩:=by
          simp only [H1,I2,hp]
         have hf2:=C1 hfin hf rfl rfl .undef
         rcases iE rest (i+1) tm' S γ _ w hf2 hH with h|⟨γ',fr',w',h1,h2⟩
         ·exact .inl h
         ·exact .inr ⟨γ',fr',w',fun cs=>Steps.head (U2 hm ht ho hwd) (h1 cs),h2⟩
     | true =>
       simp only
       cases hev:T5 o.op E tm S o.type with
       | none=>exact .inl rfl
       | some r =>
         have hop:=eR hE hT hH hev
         cases r with
         | v x S' =>
           simp only
           cases hp:A7 nt o.dst x tm with
           | none=>exact .inl rfl
           | some tm' =>
             simp only
             obtain ⟨γ₁,v,w₁,hr,hv,hH1,hP1⟩:=hop
             have hfin:r6 ⟨fn,nt,tm,.reg ops i (o::rest)::k,dfs,.run,false,dk,rd⟩ x=some ⟨fn,nt,tm',.reg ops (i+1) rest::k,dfs,.run,false,dk,rd⟩:=by
              simp only [H1,I2,hp]
             have hf2:=C1 hfin (hf.mono hP1.ext) rfl rfl hv
             rcases iE rest (i+1) tm' S' γ₁ _ w₁ hf2 hH1 with h|⟨γ',fr',w',h1,h2⟩
             ·exact .inl h
             ·refine .inr ⟨γ',fr',w',fun cs=>Steps.head (V3 hm ht ho hwd (.inr (D3 hev (fun d e=>by cases e))) hr) (h1 cs),?_⟩
              generalize dJ E nt ops rest (i+1) tm' S'=rs at h2
              cases h2 with
              | done a b c=>exact .done a b (hP1.trans c)
              | stop a b c d e f=>exact .stop a b (hP1.trans c) d e f
         | call f args=>exact .inr ⟨γ,fr,w,fun cs=>Steps.refl _ _,.stop hf hH (j6.refl _ _ _) hwd hev (fun _ _ e=>by cases e)⟩
         | yld l args=>exact .inr ⟨γ,fr,w,fun cs=>Steps.refl _ _,.stop hf hH (j6.refl _ _ _) hwd hev (fun _ _ e=>by cases e)⟩
         | dfr d=>exact .inr ⟨γ,fr,w,fun cs=>Steps.refl _ _,.stop hf hH (j6.refl _ _ _) hwd hev (fun _ _ e=>by cases e)⟩
         | pan v=>exact .inr ⟨γ,fr,w,fun cs=>Steps.refl _ _,.stop hf hH (j6.refl _ _ _) hwd hev (fun _ _ e=>by cases e)⟩
         | rcv=>exact .inr ⟨γ,fr,w,fun cs=>Steps.refl _ _,.stop hf hH (j6.refl _ _ _) hwd hev (fun _ _ e=>by cases e)⟩
end
section
variable {E:i3} (hE:E.Ok) {γ:Gm} {S:Hp} {fr:Frame} {frs:List Frame} {w:World}
def ZI (E:i3) (γ:Gm) (S:Hp) (fr:Frame) (w:World) (v:AV) (S':Hp):Prop:=
 (fr.roundOf=none→∀ bot,∃ γ' v' fr' w' fn,Steps E.P (lone fr bot w) (lone fr' bot w')∧fr'.mode=.returning∧fr'.defers = []∧fr'.kind=.normal∧fr'.fn=fr.fn∧E.P.funcs[fr'.fn]? = some fn ∧
  (results fn fr'.tmps).run E.P w'=.ok v' w'∧VR γ' v v'∧HR γ' E.ng S' w'∧j6 S γ w S' γ' w') ∧
 (∀ c bot,∃ γ' v' w',Steps E.P (lone fr (c::bot) w) (lone (c.finish v') bot w')∧VR γ' v v'∧HR γ' E.ng S' w'∧j6 S γ w S' γ' w')
def XH (E:i3) (γ:Gm) (S:Hp) (fr:Frame) (w:World) (v:AV) (S':Hp):Prop:=
 ∀ c bot,∃ γ' v' w',Steps E.P (lone fr (c::bot) w) (lone (c.raise [{ v:=v',recovered:=false }]) bot w')∧VR γ' v v'∧HR γ' E.ng S' w'∧j6 S γ w S' γ' w'
def u5 (E:i3) (γ:Gm) (S:Hp) (fr:Frame) (frs:List Frame) (w:World):SR→Prop
 | .next f cs S'=>aB E γ S fr frs w f cs S'
 | .fin v S'=>frs = []∧ZI E γ S fr w v S'
 | .finP v S'=>frs = []∧XH E γ S fr w v S'
 | .bad=>True
theorem u5.ahead {γ₁:Gm} {S₁:Hp} {fr₁:Frame} {w₁:World} {r:SR} (hs:∀ cs,Steps E.P (lone fr cs w) (lone fr₁ cs w₁)) (hP:j6 S γ w S₁ γ₁ w₁) (hfn:fr₁.fn=fr.fn) (hrd:fr₁.roundOf=fr.roundOf)
 (h:u5 E γ₁ S₁ fr₁ frs w₁ r):u5 E γ S fr frs w r:=by
 cases r with
 | next f cs S' =>
   intro bot
   obtain ⟨γ',fr',frs',w',h1,h2,h3,h4,h5,h6⟩:=h bot
   exact ⟨γ',fr',frs',w',Steps.trans (hs _) h1,h2,h3,h4,hP.trans h5,h6.trans (E9 hfn hrd frs)⟩
 | fin v S' =>
   obtain ⟨h0,h1,h2⟩:=h
   refine ⟨h0,fun hr bot=>?_,fun c bot=>?_⟩
   ·obtain ⟨γ',v',fr',w',fn,g1,g2,g3,g4,g5,g6,g7,g8,g9,g10⟩:=h1 (by rw [hrd];exact hr) bot
    exact ⟨γ',v',fr',w',fn,Steps.trans (hs _) g1,g2,g3,g4,g5.trans hfn,g6,g7,g8,g9,hP.trans g10⟩
   ·obtain ⟨γ',v',w',g1,g2,g3,g4⟩:=h2 c bot
    exact ⟨γ',v',w',Steps.trans (hs _) g1,g2,g3,hP.trans g4⟩
 | finP v S' =>
   obtain ⟨h0,h2⟩:=h
   refine ⟨h0,fun c bot=>?_⟩
   obtain ⟨γ',v',w',g1,g2,g3,g4⟩:=h2 c bot
   exact ⟨γ',v',w',Steps.trans (hs _) g1,g2,g3,hP.trans g4⟩
 | bad=>trivial
theorem Ia (l:List AV):∀ (j:Nat) (t:Tm) (i:Nat),n8 (Hy l j t) i=if j≤i∧i < j+l.length then (l[i - j]?).getD (.tup []) else n8 t i:=by
 induction l with
 | nil =>
   intro j t i
   show n8 t i=_
   rw [if_neg (fun h=>by simp only [List.length_nil] at h;omega)]
 | cons v l ih =>
   intro j t i
   show n8 (Hy l (j+1) (V1 j v t)) i=_
   rw [ih (j+1)]
   by_cases e:i=j
   ·subst e
    rw [if_neg (by omega),if_pos (by simp)]
    rw [L5];simp
   ·by_cases h:j+1≤i∧i < j+1+l.length
    ·rw [if_pos h,if_pos (by simp;omega)]
     rw [show i - j=(i - (j+1))+1 from by omega];simp
    ·rw [if_neg h,if_neg (by simp;omega)]
     rw [X4 (fun e'=>e e'.symm)]
theorem Wo {l:List AV} {l':List Value} (h:LR γ l l') (n:Nat):TR γ (Hy l 0 te) ((⟨l'⟩:Array Value)++Array.replicate n undef):=by
 intro i
 rw [Ia]
 have hl:=h.length
 by_cases e:i < l.length
 ·rw [if_pos ⟨Nat.zero_le _,by omega⟩,Nat.sub_zero]
  have hx:l[i]? = some l[i]:=List.getElem?_eq_getElem e
  obtain ⟨y,hy,hv⟩:=h.nth i hx
  rw [hx]
  have:((⟨l'⟩:Array Value)++Array.replicate n undef).getD i Go.undef=y:=by
   rw [Array.getD_eq_getD_getElem?,Array.getElem?_append_left (by simp;omega),List.getElem?_toArray,hy];rfl
  rw [this];exact hv
 ·rw [if_neg (by omega)]
  have h1:n8 te i=.tup []:=rK i
  have h2:((⟨l'⟩:Array Value)++Array.replicate n undef).getD i Go.undef=Go.undef:=by
   rw [Array.getD_eq_getD_getElem?,Array.getElem?_append_right (by simp;omega)]
   rw [Array.getElem?_replicate]
   split <;> rfl
  rw [h1,h2];exact .undef
include hE in
theorem iF {f:Nat} {args:List AV} {dk:Bool} {f':AF} (h:d9 E f args dk=some f') {args':List Value} (ha:LR γ args args'):FR γ E f' (Frame.enter E.P f ⟨args'⟩ (if dk then .deferred else .normal)):=by
 unfold d9 at h
 split at h
 ·rename_i i hi
  obtain ⟨h1,h2⟩:=d5 h
  cases h2
  rw [x4] at h1
  have hle:=Nat.le_of_ble_eq_true h1
  obtain ⟨fn,g1,g2,g3,g4,g5⟩:=hE.funcs f i hi
  have hl:=ha.length
  refine ⟨rfl,?_,?_,fun _=>?_,.nil,.run,rfl,.none,i,hi⟩
  ·simp only [Frame.enter,g1,Option.map_some,Option.getD_some,g3]
   simp;omega
  ·show TR γ _ _
   exact Wo ha _
  ·simp only [Frame.enter,g1,Option.bind_some,g2,Option.getD_some]
   exact .cons (.code _) .nil
 ·cases h
include hE in
theorem eX {f':Option AF} {c:AF} {cs:List AF} {S':Hp} {g:Nat} {args:List AV} {dk:Bool} (hf':f'=d9 E g args dk) {γ':Gm} {c':Frame} {w':World} {args':List Value} (ha:LR γ' args args')
 (hc:FR γ' E c c') (hcs:M7 γ E cs frs) (hH:HR γ' E.ng S' w') (hP:j6 S γ w S' γ' w')
 (hs:∀ cs,Steps E.P (lone fr cs w) (lone (Frame.enter E.P g ⟨args'⟩ (if dk then .deferred else .normal)) (c'::cs) w')) (hfn:c'.fn=fr.fn) (hrd:c'.roundOf=fr.roundOf) :
 u5 E γ S fr frs w (eU f' c cs S'):=by
 subst hf'
 cases h:d9 E g args dk with
 | none=>trivial
 | some f' =>
   intro bot
   exact ⟨γ',_,c'::frs,w',hs _,iF hE h ha,.cons hc (hcs.mono hP.ext),hH,hP,E9 hfn hrd frs⟩
theorem Wp {nt:Nat} {ps:List Nat}:∀ {args:List AV} {tm tm':Tm} {args':List Value} {tmps:Array Value},RB nt ps args tm=some tm'→LR γ args args'→TR γ tm tmps→tmps.size=nt →
 args'.length=ps.length∧TR γ tm' ((ps.zip args').foldl (fun (a:Array Value) (p:Nat × Value)=>a.setIfInBounds p.1 p.2) tmps)∧((ps.zip args').foldl (fun (a:Array Value) (p:Nat × Value)=>a.setIfInBounds p.1 p.2) tmps).size=nt:=by
 induction ps with
 | nil =>
   intro args tm tm' args' tmps h ha ht hs
   cases ha with
   | nil=>cases h;exact ⟨rfl,ht,hs⟩
   | cons _ _=>cases h
 | cons p ps ih =>
   intro args tm tm' args' tmps h ha ht hs
   cases ha with
   | nil=>cases h
   | @cons x y l l' hv htl =>
     obtain ⟨h1,h2⟩:=d5 (b:=Nat.blt p nt) h
     rw [f6] at h1
     have hlt:p < tmps.size:=by rw [hs];exact of_decide_eq_true h1
     obtain ⟨g1,g2,g3⟩:=ih (tmps:=tmps.setIfInBounds p y) h2 htl (ht.set hlt hv) (by simpa using hs)
     exact ⟨by simp [g1],g2,g3⟩
theorem HR.loop {ng:Nat} (h:HR γ ng S w) {l:Ps} {st:LoopState} {pend:Option Code} {fn nt:Nat} {tm:Tm} {ps:List Nat} {a b:Code} {d:Ps} {L:Loc} (hl:T.get l S.hp=some (.loop st pend fn nt tm ps a b d)) (hL:γ l=some L) :
 ∃ tmps D,w.heap[L.blk]? = some (.loop { state:=st,pending:=pend,fn:=fn,tmps:=tmps,params:=⟨ps⟩,assign:=a,body:=b,defers:=D.blk })∧TR γ tm tmps∧γ d=some D∧tmps.size=nt:=by
 obtain ⟨M,ob,h1,h2,tmps,D,rfl,h3,h4,h5⟩:=h.obj l _ hl
 rw [hL] at h1;cases h1
 exact ⟨tmps,D,h2,h3,h4,h5⟩
theorem qK {l:Ps} {args:List AV} {f':AF} (h:dK E S l args=some f') (hH:HR γ E.ng S w) {args':List Value} (ha:LR γ args args') {L:Loc} (hL:γ l=some L) :
 ∃ fn tmps a b,(Instr.yield L.blk ⟨args'⟩).run E.P w=.ok (.round L.blk fn tmps a b) w∧FR γ E f' (Frame.round L.blk fn tmps a b .normal):=by
 unfold dK at h
 split at h
 ·rename_i st pend fn nt tm ps a b d hl
  split at h
  ·rename_i tm' i hp hi
   cases h
   obtain ⟨tmps,D,h1,h2,h3,h4⟩:=hH.loop hl hL
   obtain ⟨g1,g2,g3⟩:=Wp hp ha h2 h4
   refine ⟨fn,_,a,b,?_,⟨rfl,g3,(show TR γ _ _ from g2),fun _=>.cons (.code a) (.cons .beg (.cons (.code b) .nil)),.nil,.run,rfl,.some hL,i,hi⟩⟩
   simp only [Instr.yield,Instr.getLoop,Sem.run_bind,A6 h1 (fun _ _ _ e=>by cases e),Result.andThen_ok,Sem.run_pure]
   rw [if_neg (by simp [g1])]
   simp only [Sem.run_pure]
   congr 2
   rw [← Array.foldl_toList,Array.toList_zip]
  ·cases h
 ·cases h
end
section
variable {E:i3} (hE:E.Ok) {γ:Gm} {S:Hp} {fr:Frame} {frs:List Frame} {w:World}
theorem Wq {dk:Bool} {cs cs':List AF} {v:AV} (h:Ot dk cs=some (v,cs')) (hcs:M7 γ E cs frs) (hk:fr.kind=if dk then .deferred else .normal) (bot:List Frame) :
 ∃ v' frs',VR γ v v'∧M7 γ E cs' frs'∧(∀ g,E1 g frs'=E1 g frs)∧(tryRecover fr (frs++bot)=some (v',frs'++bot)∨(tryRecover fr (frs++bot)=none∧v'=.nilIface∧frs'=frs)):=by
 cases dk with
 | false =>
   cases h
   refine ⟨.nilIface,frs,.nili,hcs,fun _=>rfl,.inr ⟨?_,rfl,rfl⟩⟩
   obtain ⟨fn,tmps,todo,defers,mode,kind,roundOf⟩:=fr
   simp at hk
   subst hk
   simp [tryRecover]
 | true =>
   obtain ⟨fn,tmps,todo,defers,mode,kind,roundOf⟩:=fr
   simp at hk
   subst hk
   cases hcs with
   | nil=>cases h
   | @cons x y l l' hx ht =>
     obtain ⟨xfn,xnt,xtm,xtodo,xdfs,xmd,xlost,xdk,xrd⟩:=x
     have hmd:=hx.md
     simp only at hmd
     have other:(∀ u,y.mode≠.panicking [{ v:=u,recovered:=false }])→(∀ e o,y.mode=.panicking (e::o)→o = []∧e.goexit=false)→Ot true (⟨xfn,xnt,xtm,xtodo,xdfs,xmd,xlost,xdk,xrd⟩::l)=some (.nili,⟨xfn,xnt,xtm,xtodo,xdfs,xmd,xlost,xdk,xrd⟩::l) →
      ∃ v' frs',VR γ v v'∧M7 γ E cs' frs'∧(∀ g,E1 g frs'=E1 g (y::l'))∧(tryRecover { fn,tmps,todo,defers,mode,kind:=.deferred,roundOf } (y::l'++bot)=some (v',frs'++bot)∨(tryRecover { fn,tmps,todo,defers,mode,kind:=.deferred,roundOf } (y::l'++bot)=none∧v'=.nilIface∧frs'=y::l')):=by
      intro h1 h2 h3
      rw [h3] at h
      cases h
      refine ⟨.nilIface,y::l',.nili,.cons hx ht,fun _=>rfl,.inr ⟨?_,rfl,rfl⟩⟩
      simp only [tryRecover,List.cons_append]
      split
      ·rename_i u o hm
       have:=h2 _ _ hm
       obtain ⟨rfl,_⟩:=this
       exact absurd hm (h1 u)
      ·rfl
     cases hmd2:y.mode with
     | run =>
       rw [hmd2] at hmd
       cases hmd
       exact other (fun u e=>by rw [hmd2] at e;cases e) (fun e o e'=>by rw [hmd2] at e';cases e') rfl
     | returning =>
       rw [hmd2] at hmd
       cases hmd
       exact other (fun u e=>by rw [hmd2] at e;cases e) (fun e o e'=>by rw [hmd2] at e';cases e') rfl
     | panicking ch =>
       rw [hmd2] at hmd
       cases hmd with
       | @pan u u' r hu =>
         cases r with
         | true =>
           exact other (fun u e=>by rw [hmd2] at e;simp at e) (fun e o e'=>by rw [hmd2] at e';simp at e';obtain ⟨rfl,rfl⟩:=e';exact ⟨rfl,rfl⟩) rfl
         | false =>
           cases h
           refine ⟨u',{ y with mode:=.panicking [{ v:=u',recovered:=true }] }::l',hu,.cons ⟨hx.fn,hx.nt,hx.tm,fun e=>(by cases e),hx.dfs,.pan true hu,hx.kind,hx.rd,hx.fi⟩ ht,?_,.inl ?_⟩
           ·intro g
            show E1 { y with mode:=.panicking [{ v:=u',recovered:=true }] } l'=E1 y l'
            exact E9 (fr:=y) (fr':={ y with mode:=.panicking [{ v:=u',recovered:=true }] }) rfl rfl l'
           ·simp only [tryRecover,List.cons_append,hmd2]
include hE in
theorem aZ {fn nt:Nat} {k:List AI} {dfs:List AD} {dk:Bool} {rd:Option Ps} {ops:Array Oper} {tm0:Tm} {S0:Hp} {γ₀:Gm} {w₀:World} {cs:List AF} {rs:RS} (hq:Hz E S0 γ₀ w₀ fn nt k dfs dk rd ops rs γ fr w)
 (hcs:M7 γ E cs frs):∃ S₁,j6 S0 γ₀ w₀ S₁ γ w∧u5 E γ S₁ fr frs w (R1 ops rs E fn nt tm0 k dfs dk rd cs S0):=by
 cases hq with
 | @done tm S' i _ _ _ hf hH hP =>
   refine ⟨S',hP,?_⟩
   have hto:=hf.todo rfl
   simp only at hto
   generalize hft:fr.todo=ft at hto
   cases hto with
   | @cons _ y _ k' hx ht =>
     cases hx with
     | reg hd =>
       refine aB.here hf hcs rfl rfl (fun cs=>⟨γ,{ fr with todo:=k' },w,Steps.one (eS (ops:=ops) (hf.mode rfl) hft),?_,hH,j6.refl _ _ _⟩)
       exact hf.to ht
 | @stop tm S' i o rest r _ _ _ hf hH hP hw he hr =>
   refine ⟨S',hP,?_⟩
   obtain ⟨k',ht,ho⟩:=eW hf
   have hm:=hf.mode rfl
   have hT:=hf.tr rfl
   have hop:=eR hE hT hH he
   cases r with
   | v x S2=>exact absurd rfl (hr _ _)
   | call f args =>
     obtain ⟨vs,h1,h2,_⟩:=hop
     exact eX hE (dk:=false) rfl h2 hf hcs hH (j6.refl _ _ _) (fun cs=>Steps.one (lY hm ht ho hw (.inr (D3 he (fun d e=>by cases e))) h1)) rfl rfl
   | yld l args =>
     obtain ⟨L,vs,hL,h2,h3⟩:=hop
     show u5 E γ S' fr frs w (eU (dK E S' l args) ⟨fn,nt,tm,.reg ops i (o::rest)::k,dfs,.run,false,dk,rd⟩ cs S')
     cases hra:dK E S' l args with
     | none=>trivial
     | some f' =>
       obtain ⟨lf,tmps,a,b,g1,g2⟩:=qK hra hH h2 hL
       intro bot
       exact ⟨γ,_,fr::frs,w,Steps.one (lZ hm ht ho hw (.inr (D3 he (fun d e=>by cases e))) ((h3 w).trans g1)),g2,.cons hf hcs,hH,j6.refl _ _ _,rfl⟩
   | dfr d =>
     obtain ⟨d',h1,h2⟩:=hop
     cases rd with
     | some l=>trivial
     | none =>
       show u5 E γ S' fr frs w (vF (r6 ⟨fn,nt,tm,.reg ops i (o::rest)::k,d::dfs,.run,false,dk,none⟩ (.tup [])) cs S')
       cases hfi:r6 ⟨fn,nt,tm,.reg ops i (o::rest)::k,d::dfs,.run,false,dk,none⟩ (.tup []) with
       | none=>trivial
       | some f' =>
         have hf2:FR γ E ⟨fn,nt,tm,.reg ops i (o::rest)::k,d::dfs,.run,false,dk,none⟩ { fr with defers:=d'::fr.defers }:=⟨hf.fn,hf.nt,hf.tm,hf.todo,.cons h2 hf.dfs,hf.md,hf.kind,hf.rd,hf.fi⟩
         have hf3:=C1 hfi hf2 rfl rfl .undef
         have e1:f'.fn=fn∧f'.rd=none:=by
          simp only [H1,I2] at hfi
          split at hfi
          ·cases hfi;exact ⟨rfl,rfl⟩
          ·cases hfi
         exact aB.here hf hcs e1.1 e1.2 (fun cs=>⟨γ,_,w,Steps.one (zX hm ht ho hw (Ei hf rfl) h1),hf3,hH,j6.refl _ _ _⟩)
   | pan v =>
     obtain ⟨v',h1,h2⟩:=hop
     refine aB.here hf hcs rfl rfl (fun cs=>⟨γ,_,w,Steps.one (mG hm ht ho hw (.inr (D3 he (fun d e=>by cases e))) h1),?_,hH,j6.refl _ _ _⟩)
     have hr:fr.raise [{ v:=v',recovered:=false }]={ fr with mode:=.panicking [{ v:=v',recovered:=false }] }:=by simp [Frame.raise,hm]
     rw [hr]
     exact ⟨hf.fn,hf.nt,hf.tm,fun e=>(by cases e),hf.dfs,.pan false h2,hf.kind,hf.rd,hf.fi⟩
   | rcv =>
     cases rd with
     | some l=>trivial
     | none =>
       simp only [vG,qF]
       cases hrec:Ot dk cs with
       | none=>trivial
       | some q =>
         obtain ⟨v,cs'⟩:=q
         simp only
         cases hfi:r6 ⟨fn,nt,tm,.reg ops i (o::rest)::k,dfs,.run,false,dk,none⟩ v with
         | none=>trivial
         | some f' =>
           intro bot
           obtain ⟨v',frs',g1,g2,g3,g4⟩:=Wq hrec hcs hf.kind bot
           have hf3:=C1 hfi hf rfl rfl g1
           have hst:=sQ (cs:=frs++bot) hm ht ho hw (Ei hf rfl) hop
           refine ⟨γ,fr.finish v',frs',w,Steps.one ?_,hf3,g2,hH,j6.refl _ _ _,?_⟩
           ·rw [hst]
            rcases g4 with g4|⟨g4,rfl,rfl⟩
            ·rw [g4]
            ·rw [g4]
           ·rw [g3]
            refine E9 ?_ ?_ frs
            ·unfold Frame.finish;rw [ht]
            ·unfold Frame.finish;rw [ht]
end
section
variable {E:i3} (hE:E.Ok) {γ:Gm} {S:Hp} {fr:Frame} {frs:List Frame} {w:World}
theorem qL (fr:Frame) (v:Value):(fr.finish v).fn=fr.fn∧(fr.finish v).roundOf=fr.roundOf:=by
 unfold Frame.finish;split <;> exact ⟨rfl,rfl⟩
theorem vI {v:AV} {v':Value} {S':Hp} {γ':Gm} {w':World} {cs:List AF} (hcs:M7 γ E cs frs) (hv:VR γ' v v') (hH:HR γ' E.ng S' w') (hP:j6 S γ w S' γ' w')
 (hs:∀ c cs,Steps E.P (lone fr (c::cs) w) (lone (c.finish v') cs w'))
 (h1:fr.roundOf=none→∀ bot,∃ fr' fn,Steps E.P (lone fr bot w) (lone fr' bot w')∧fr'.mode=.returning∧fr'.defers = []∧fr'.kind=.normal∧fr'.fn=fr.fn∧E.P.funcs[fr'.fn]? = some fn ∧
  (results fn fr'.tmps).run E.P w'=.ok v' w'):u5 E γ S fr frs w (vE v cs S'):=by
 cases hcs with
 | nil =>
   refine ⟨rfl,fun hr bot=>?_,fun c bot=>⟨γ',v',w',hs c bot,hv,hH,hP⟩⟩
   obtain ⟨fr',fn,g1,g2,g3,g4,g5,g6,g7⟩:=h1 hr bot
   exact ⟨γ',v',fr',w',fn,g1,g2,g3,g4,g5,g6,g7,hv,hH,hP⟩
 | @cons x y l l' hx ht =>
   rw [Oo];unfold Ac
   simp only
   split
   ·rename_i c' e1 e2 e3
    have hmd:x.md=.run:=by
     cases h:x.md <;> rw [h] at e1 <;> first|rfl|cases e1
    have hf:=C1 e3 (hx.mono hP.ext) hmd e2 hv
    intro bot
    refine ⟨γ',y.finish v',l',w',hs y (l'++bot),hf,ht.mono hP.ext,hH,hP,?_⟩
    show E1 (y.finish v') l'=E1 y l'
    exact E9 (qL y v').1 (qL y v').2 l'
   ·trivial
theorem mM {l:Ps} {L:Loc} {st st':LoopState} {pend pend':Option Code} {fn nt:Nat} {tm:Tm} {ps:List Nat} {a b:Code} {d:Ps} (hH:HR γ E.ng S w) (hl:T.get l S.hp=some (.loop st pend fn nt tm ps a b d)) (hL:γ l=some L)
 (hf:Nat.ble S.fl l.idx=true) {tmps:Array Value} {D:Loc} (h2:w.heap[L.blk]? = some (.loop { state:=st,pending:=pend,fn:=fn,tmps:=tmps,params:=⟨ps⟩,assign:=a,body:=b,defers:=D.blk })) (h3:TR γ tm tmps) (h4:γ d=some D) (h5:tmps.size=nt) :
 HR γ E.ng (S.put l (.loop st' pend' fn nt tm ps a b d)) { w with heap:=w.heap.setIfInBounds L.blk (.loop { state:=st',pending:=pend',fn:=fn,tmps:=tmps,params:=⟨ps⟩,assign:=a,body:=b,defers:=D.blk }) } ∧
 j6 S γ w (S.put l (.loop st' pend' fn nt tm ps a b d)) γ { w with heap:=w.heap.setIfInBounds L.blk (.loop { state:=st',pending:=pend',fn:=fn,tmps:=tmps,params:=⟨ps⟩,assign:=a,body:=b,defers:=D.blk }) }:=by
 have hlt:L.blk < w.heap.size:=(Array.getElem?_eq_some_iff.1 h2).1
 refine hH.put hl hL (Nat.le_of_ble_eq_true hf) (by simp) (fun r hr=>?_) ?_ ⟨tmps,D,rfl,h3,h4,h5⟩ rfl rfl
 ·show (w.heap.setIfInBounds L.blk _)[r]? = _
  rw [Array.getElem?_setIfInBounds_ne (fun e=>hr e.symm)]
 ·show (w.heap.setIfInBounds L.blk _)[L.blk]? = _
  rw [Array.getElem?_setIfInBounds_self_of_lt hlt]
theorem iG {j:Option Code} {fn nt:Nat} {tm:Tm} {t k:List AI} {dfs:List AD} {dk:Bool} {rd:Option Ps} {cs:List AF} {k':List Item}
 (hf:FR γ E ⟨fn,nt,tm,t,dfs,.run,false,dk,rd⟩ fr) (hcs:M7 γ E cs frs) (hH:HR γ E.ng S w)
 (ht:(fr.todo = []∧j=none)∨(fr.todo=.code .ret::k'∧j=some .ret)∨(∃ id,fr.todo=.code (.exit id)::k'∧exitTo id k'=none∧j=some (.exit id))) :
 u5 E γ S fr frs w (mJ j E fn nt tm k dfs dk rd cs S):=by
 have hm:=hf.mode rfl
 cases rd with
 | none =>
   have key:∀ (k':List Item),(fr.todo = []∨fr.todo=.code .ret::k')→u5 E γ S fr frs w (.next ⟨fn,nt,tm,[],dfs,.ret,false,dk,none⟩ cs S):=fun k' ht=>by
    refine aB.here hf hcs rfl rfl (fun cs=>⟨γ,{ fr with mode:=.returning },w,Steps.one (HQ hm ht (Ei hf rfl)),?_,hH,j6.refl _ _ _⟩)
    exact ⟨hf.fn,hf.nt,hf.tm,fun e=>(by cases e),hf.dfs,.ret,hf.kind,hf.rd,hf.fi⟩
   rcases ht with ⟨h1,rfl⟩|⟨h1,rfl⟩|⟨id,h1,h2,rfl⟩
   ·exact key [] (.inl h1)
   ·exact key k' (.inr h1)
   ·trivial
 | some l =>
   have hrd:∃ L,fr.roundOf=some L.blk∧γ l=some L:=by
    have:=hf.rd
    simp only at this
    generalize fr.roundOf=q at this
    cases this with
    | some h=>exact ⟨_,rfl,h⟩
   obtain ⟨L,hr,hL⟩:=hrd
   unfold mJ
   simp only
   split
   ·rename_i st pend lf ln lt ps a b d h1 h2
    obtain ⟨tmps,D,g1,g2,g3,g4⟩:=hH.loop h1 hL
    obtain ⟨p1,p2⟩:=mM (st':=mI j) (pend':=j) hH h1 hL h2 g1 g2 g3 g4
    have e:(if j.isNone then LoopState.ready else .done)=mI j:=by cases j <;> rfl
    have hk:fr.kind=.normal:=hf.kind
    refine vI hcs (.bool j.isNone) p1 p2 (fun c cs=>Steps.one ?_) (fun e=>by rw [hr] at e;cases e)
    have:=vD (P:=E.P) (c:=c) (cs:=cs) (jump:=j) hm ht hr hk g1
    rw [e] at this
    exact this
   ·trivial
theorem jC.code {γ:Gm} {c:Code} {k:List AI} {l:List Item} (h:jC γ (.code c::k) l):∃ k',l=.code c::k'∧jC γ k k':=by
 cases h with
 | cons hx ht=>cases hx with|code=>exact ⟨_,rfl,ht⟩
theorem Z0 {fn nt:Nat} {tm:Tm} {t k:List AI} {dfs:List AD} {dk:Bool} {rd:Option Ps} {cs:List AF} {k':List Item}
 (hf:FR γ E ⟨fn,nt,tm,t,dfs,.run,false,dk,rd⟩ fr) (hcs:M7 γ E cs frs) (hH:HR γ E.ng S w) (hk:jC γ k k') (hs:∀ cs,step E.P (lone fr cs w)=.next (lone { fr with todo:=k' } cs w)) :
 u5 E γ S fr frs w (.next ⟨fn,nt,tm,k,dfs,.run,false,dk,rd⟩ cs S):=
 aB.here hf hcs rfl rfl (fun cs=>⟨γ,{ fr with todo:=k' },w,Steps.one (hs cs),hf.to hk,hH,j6.refl _ _ _⟩)
def bA (r:ResultVar):Nat:=match r with|.tmp t=>t|.cell a _=>a
theorem Wr (hH:HR γ E.ng S w) {tm:Tm} {tmps:Array Value} {r:ResultVar} (ht:VR γ (n8 tm (bA r)) (tmps.getD (bA r) undef)) {x:AV} (hE:E.Ok) (h:Wl E S tm r=some x) :
 ∃ v,((match r with|.tmp t=>pure (tmps.getD t undef)|.cell a t=>do loadVar t (← asAddr (tmps.getD a undef)):Sem Value)).run E.P w=.ok v w∧VR γ x v:=by
 cases r with
 | tmp t=>cases h;exact ⟨_,rfl,ht⟩
 | cell a t =>
   have ha:VR γ (n8 tm a) (tmps.getD a undef):=ht
   unfold Wl at h
   simp only at h ⊢
   generalize tmps.getD a undef=u at ha
   split at h
   ·rename_i b o e
    rw [e] at ha
    obtain ⟨v,h1,h2⟩:=eI hE hH h ha
    cases ha with
    | ptr o hL =>
      refine ⟨v,?_,h2⟩
      simp only [Instr.loadAt,Instr.sureAddr,Sem.run_bind,Sem.run_pure,Result.andThen_ok] at h1
      simp only [asAddr,Sem.run_bind,Sem.run_pure,Result.andThen_ok]
      exact h1
   ·cases h
theorem sW (hH:HR γ E.ng S w) {tm:Tm} {tmps:Array Value} (hE:E.Ok):∀ {l:List ResultVar} {xs:List AV},(∀ r,r ∈ l→VR γ (n8 tm (bA r)) (tmps.getD (bA r) undef))→HX E S tm l=some xs →
 ∃ vs,(l.mapM (fun r=>match r with|.tmp t=>pure (tmps.getD t undef)|.cell a t=>do loadVar t (← asAddr (tmps.getD a undef)):ResultVar→Sem Value)).run E.P w=.ok vs w∧LR γ xs vs
 | [],xs,_,h=>by cases h;exact ⟨[],rfl,.nil⟩
 | r::l,xs,ht,h=>by
   have h':(Option.rec none (fun x=>Option.rec none (fun t=>some (x::t)) (HX E S tm l)) (Wl E S tm r):Option (List AV))=some xs:=h
   obtain ⟨x,h1,h2⟩:=m9 h'
   obtain ⟨t,h3,h4⟩:=m9 h2
   cases h4
   obtain ⟨v,g1,g2⟩:=Wr hH (ht r (List.mem_cons_self ..)) hE h1
   obtain ⟨vs,g3,g4⟩:=sW hH hE (fun r hr=>ht r (List.mem_cons_of_mem _ hr)) h3
   refine ⟨v::vs,?_,.cons g2 g4⟩
   rw [List.mapM_cons]
   simp only [Sem.run_bind,g1,g3,Result.andThen_ok,Sem.run_pure]
theorem Ws (hH:HR γ E.ng S w) {tm:Tm} {tmps:Array Value} (hE:E.Ok) {fn:Func} (ht:∀ r,r ∈ fn.results.toList→VR γ (n8 tm (bA r)) (tmps.getD (bA r) undef)) {x:AV} (h:Wm E S tm fn.results.toList=some x) :
 ∃ v,(results fn tmps).run E.P w=.ok v w∧VR γ x v:=by
 unfold Wm at h
 have hrun:∀ {vs:List Value},(fn.results.toList.mapM (fun r=>match r with|.tmp t=>pure (tmps.getD t undef)|.cell a t=>do loadVar t (← asAddr (tmps.getD a undef)):ResultVar→Sem Value)).run E.P w=.ok vs w →
  (results fn tmps).run E.P w=.ok (if h:vs.length=1 then vs[0] else .tuple ⟨vs⟩) w:=by
  intro vs hv
  have hm:(fn.results.mapM (fun r=>match r with|.tmp t=>pure (tmps.getD t undef)|.cell a t=>do loadVar t (← asAddr (tmps.getD a undef)):ResultVar→Sem Value)).run E.P w=.ok ⟨vs⟩ w:=by
   rw [← Array.toArray_toList (xs:=fn.results),List.mapM_toArray,Sem.run_map,hv];rfl
  unfold results
  rw [Sem.run_bind]
  refine (congrArg (fun r=>Result.andThen r _) hm).trans ?_
  simp only [Result.andThen_ok,Sem.run_pure]
  rfl
 split at h
 ·rename_i x' e
  cases h
  obtain ⟨vs,h1,h2⟩:=sW hH hE ht e
  cases h2 with
  | cons hx hn=>cases hn with
    | nil=>exact ⟨_,hrun h1,hx⟩
 ·rename_i l hn e
  cases h
  obtain ⟨vs,h1,h2⟩:=sW hH hE ht e
  refine ⟨_,hrun h1,?_⟩
  have:vs.length≠1:=fun e1=>by
   have hl:=h2.length
   rw [e1] at hl
   cases l with
   | nil=>cases hl
   | cons a l=>cases l with
     | nil=>exact hn a rfl
     | cons b l=>simp at hl
  rw [dif_neg this]
  exact .tup h2
 ·cases h
end
section
variable {E:i3} (hE:E.Ok) {γ:Gm} {S:Hp} {fr:Frame} {frs:List Frame} {w:World}
theorem iH {f:Nat} {args:List AV} {dk:Bool} {f':AF} (h:d9 E f args dk=some f'):∃ i,T.get (Ps.of f) E.funcs=some (some i):=by
 unfold d9 at h
 split at h
 ·rename_i i hi;exact ⟨i,hi⟩
 ·cases h
include hE in
theorem mN {g:Nat} {i:FI} (hi:T.get (Ps.of g) E.funcs=some (some i)) {first cap args:Array Value} (w:World) :
 (do let d ← Deferred.ofValue (.func (.func g) first cap) args;invoke d.target d.args:Sem Next).run E.P w=.ok (.enter g (first++args++cap)) w:=by
 obtain ⟨fn,g1,g2,g3,g4,g5⟩:=hE.funcs g i hi
 simp only [Deferred.ofValue,Sem.run_bind,Sem.run_pure,Result.andThen_ok,invoke,callFunc,Go.program,Sem.run,g1]
 simp [g5,g2]
include hE in
theorem sX {g:Nat} {i:FI} (hi:T.get (Ps.of g) E.funcs=some (some i)) (args:Array Value) (w:World):(callFunc g args).run E.P w=.ok (.enter g args) w:=by
 obtain ⟨fn,g1,g2,g3,g4,g5⟩:=hE.funcs g i hi
 simp only [Sem.run_bind,Result.andThen_ok,callFunc,Go.program,Sem.run,g1]
 simp [g5,g2]
include hE in
theorem HY {f:Operand} {ps:Array Tmp} {a b:Code} {fn nt:Nat} {tm:Tm} {t k:List AI} {dfs:List AD} {dk:Bool} {rd:Option Ps} {cs:List AF} {k':List Item}
 (hf:FR γ E ⟨fn,nt,tm,t,dfs,.run,false,dk,rd⟩ fr) (hcs:M7 γ E cs frs) (hH:HR γ E.ng S w) (ht:fr.todo=.code (.rangeFunc f ps a b)::k') (hk:jC γ k k') :
 u5 E γ S fr frs w (XD f ps a b E fn nt tm k dfs dk rd cs S):=by
 have hm:=hf.mode rfl
 have hT:=hf.tr rfl
 unfold XD
 split
 ·rename_i g first cap hev
  have hv:=rN (fr:=fr) hT hH.glob hev
  generalize hfe:fr.eval f=fv at hv
  cases hv with
  | @fn _ _ first' cap' _ hfi hca =>
    cases rd with
    | none =>
      simp only
      cases hen:d9 E g (lapp (lapp first [.yl (S.alloc (.dfr false)).nx]) cap) false with
      | none=>trivial
      | some f' =>
        obtain ⟨i,hi⟩:=iH hen
        obtain ⟨hH1,hP1⟩:=hH.alloc (w':={ w with heap:=w.heap.push (.deferred (some [])) }) (o:=.dfr false) (ob:=.deferred (some [])) (siz:=0) rfl rfl rfl rfl
        obtain ⟨hH2,hP2⟩:=hH1.alloc (w':={ w with heap:=(w.heap.push (.deferred (some []))).push (.loop { state:=.ready,pending:=none,fn:=fr.fn,tmps:=fr.tmps,params:=ps,assign:=a,body:=b,defers:=w.heap.size }) })
         (o:=.loop .ready none fn nt tm ps.toList a b S.nx) (ob:=.loop { state:=.ready,pending:=none,fn:=fr.fn,tmps:=fr.tmps,params:=ps,assign:=a,body:=b,defers:=w.heap.size }) (siz:=0) rfl rfl rfl
         ⟨fr.tmps,⟨w.heap.size,0,0⟩,by rw [hf.fn],(hT.mono (hP1.ext)).mono (Gm.le_with hH1.nx_none),by
          rw [Gm.with_ne _ _ (fun e=>by have:=congrArg Ps.idx e;rw [show (S.alloc (.dfr false)).nx=Ps.succ S.nx from rfl,Ps.idx_succ] at this;omega)];exact Gm.with_same _ _ _,hf.nt⟩
        have hP:=hP1.trans hP2
        rw [← hen]
        refine eX hE (dk:=false) (c':={ fr with todo:=.inRangeFunc (w.heap.size+1)::k',defers:={ target:=.collected w.heap.size,args:=#[] }::fr.defers }) rfl
         (args':=first'++[.func (.yield (w.heap.size+1)) #[] #[]]++cap') (((hfi.mono hP.ext).lapp (.cons (.yl (L:=⟨w.heap.size+1,0,0⟩) ?_) .nil)).lapp (hca.mono hP.ext)) ?_ hcs hH2 hP (fun cs=>Steps.one ?_) rfl rfl
        ·rw [Gm.with_same];simp
        ·refine ⟨hf.fn,hf.nt,(show TR _ _ _ from hT.mono hP.ext),fun _=>.cons (.inRF (L:=⟨w.heap.size+1,0,0⟩) ?_) (hk.mono hP.ext),.cons (.mark (L:=⟨w.heap.size,0,0⟩) ?_) (hf.dfs.mono hP.ext),hf.md.mono hP.ext,hf.kind,?_,hf.fi⟩
         ·rw [Gm.with_same];simp
         ·exact hP2.ext _ _ (Gm.with_same _ _ _)
         ·exact hf.rd.mono hP.ext
        ·have hr:=Ei hf rfl
         refine eT (mark:=[{ target:=.collected w.heap.size,args:=#[] }]) (w1:={ w with heap:=(w.heap.push (.deferred (some []))).push (.loop { state:=.ready,pending:=none,fn:=fr.fn,tmps:=fr.tmps,params:=ps,assign:=a,body:=b,defers:=w.heap.size }) }) hm ht ?_ ?_
         ·rw [hr]
          simp only [Instr.enterLoop,Sem.run_bind,run_newObj,Result.andThen_ok,Sem.run_pure]
          simp
         ·rw [hfe,mN hE hi]
          simp
    | some l =>
      simp only
      split
      ·rename_i st pend lf ln lt lps la lb d hl
       cases hen:d9 E g (lapp (lapp first [.yl S.nx]) cap) false with
       | none=>trivial
       | some f' =>
         obtain ⟨i,hi⟩:=iH hen
         have hrd:∃ L,fr.roundOf=some L.blk∧γ l=some L:=by
          have:=hf.rd
          simp only at this
          generalize fr.roundOf=q at this
          cases this with
          | some h=>exact ⟨_,rfl,h⟩
         obtain ⟨L,hr,hL⟩:=hrd
         obtain ⟨tmps,D,g1,g2,g3,g4⟩:=hH.loop hl hL
         obtain ⟨hH2,hP⟩:=hH.alloc (w':={ w with heap:=w.heap.push (.loop { state:=.ready,pending:=none,fn:=fr.fn,tmps:=fr.tmps,params:=ps,assign:=a,body:=b,defers:=D.blk }) })
          (o:=.loop .ready none fn nt tm ps.toList a b d) (ob:=.loop { state:=.ready,pending:=none,fn:=fr.fn,tmps:=fr.tmps,params:=ps,assign:=a,body:=b,defers:=D.blk }) (siz:=0) rfl rfl rfl
          ⟨fr.tmps,D,by rw [hf.fn],hT.mono (Gm.le_with hH.nx_none),Gm.le_with hH.nx_none _ _ g3,hf.nt⟩
         rw [← hen]
         refine eX hE (dk:=false) (c':={ fr with todo:=.inRangeFunc w.heap.size::k' }) rfl
          (args':=first'++[.func (.yield w.heap.size) #[] #[]]++cap') (((hfi.mono hP.ext).lapp (.cons (.yl (L:=⟨w.heap.size,0,0⟩) (Gm.with_same _ _ _)) .nil)).lapp (hca.mono hP.ext)) ?_ hcs hH2 hP (fun cs=>Steps.one ?_) rfl rfl
         ·exact ⟨hf.fn,hf.nt,(show TR _ _ _ from hT.mono hP.ext),fun _=>.cons (.inRF (L:=⟨w.heap.size,0,0⟩) (Gm.with_same _ _ _)) (hk.mono hP.ext),hf.dfs.mono hP.ext,hf.md.mono hP.ext,hf.kind,hf.rd.mono hP.ext,hf.fi⟩
         ·refine eT (mark:=[]) (w1:={ w with heap:=w.heap.push (.loop { state:=.ready,pending:=none,fn:=fr.fn,tmps:=fr.tmps,params:=ps,assign:=a,body:=b,defers:=D.blk }) }) hm ht ?_ ?_
          ·rw [hr]
           simp only [Instr.enterLoop,Instr.getLoop,Sem.run_bind,A6 g1 (fun _ _ _ e=>by cases e),run_newObj,Result.andThen_ok,Sem.run_pure]
          ·rw [hfe,mN hE hi]
           simp
      ·trivial
 ·trivial
theorem Ib {l:Ps} {fn nt:Nat} {tm:Tm} {t k:List AI} {dfs:List AD} {dk:Bool} {rd:Option Ps} {cs:List AF} {k':List Item} {L:Loc}
 (hf:FR γ E ⟨fn,nt,tm,t,dfs,.run,false,dk,rd⟩ fr) (hcs:M7 γ E cs frs) (hH:HR γ E.ng S w) (ht:fr.todo=.endRangeFunc L.blk::k') (hL:γ l=some L) (hk:jC γ k k') :
 u5 E γ S fr frs w (Ae l E fn nt tm k dfs dk rd cs S):=by
 have hm:=hf.mode rfl
 unfold Ae
 split
 ·rename_i st pend lf ln lt ps a b d h1 h2
  obtain ⟨tmps,D,g1,g2,g3,g4⟩:=hH.loop h1 hL
  obtain ⟨p1,p2⟩:=mM (st':=.exhausted) (pend':=pend) hH h1 hL h2 g1 g2 g3 g4
  split
  ·trivial
  ·rename_i hb
   refine aB.here hf hcs rfl rfl (fun cs=>⟨γ,{ fr with todo:=(pend.map Item.code).toList++k' },_,Steps.one (Ab hm ht g1 hb),?_,p1,p2⟩)
   refine hf.to ?_
   cases pend with
   | none=>exact hk
   | some c=>exact .cons (.code c) hk
 ·trivial
theorem Wt {fn nt:Nat} {tm:Tm} {t k:List AI} {dfs:List AD} {dk:Bool} {rd:Option Ps} {cs:List AF} {k':List Item}
 (hf:FR γ E ⟨fn,nt,tm,t,dfs,.run,false,dk,rd⟩ fr) (hcs:M7 γ E cs frs) (hH:HR γ E.ng S w) (ht:fr.todo=.beginRound::k') (hk:jC γ k k') :
 u5 E γ S fr frs w (HV E fn nt tm k dfs dk rd cs S):=by
 have hm:=hf.mode rfl
 unfold HV
 cases rd with
 | none=>trivial
 | some l =>
   have hrd:∃ L,fr.roundOf=some L.blk∧γ l=some L:=by
    have:=hf.rd
    simp only at this
    generalize fr.roundOf=q at this
    cases this with
    | some h=>exact ⟨_,rfl,h⟩
   obtain ⟨L,hr,hL⟩:=hrd
   simp only
   split
   ·rename_i pend lf ln lt ps a b d h1 h2
    obtain ⟨tmps,D,g1,g2,g3,g4⟩:=hH.loop h1 hL
    obtain ⟨p1,p2⟩:=mM (st':=.busy) (pend':=pend) hH h1 hL h2 g1 g2 g3 g4
    exact aB.here hf hcs rfl rfl (fun cs=>⟨γ,{ fr with todo:=k' },_,Steps.one (Om hm ht hr g1 rfl),hf.to hk,p1,p2⟩)
   ·trivial
end
end Go.AM
end
